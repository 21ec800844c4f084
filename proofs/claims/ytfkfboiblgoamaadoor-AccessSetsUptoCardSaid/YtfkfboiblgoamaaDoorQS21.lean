/- Laid together for one claim: VtFindR, VtPValid. -/
import Derived.Test.YtfkfboiblgoamaaDoorQS19
import Derived.Test.YtfkfboiblgoamaaDoorQS18
import Derived.Test.YtfkfboiblgoamaaDoorQS01
import Derived.Lib.Hide
/- Paths: what a step leads to, the reference (datakitref09.Find, Part). -/
namespace Go.Proofs.YtfkfboiblgoamaaDoor
open Go.RowKit

theorem find_k7 {T : Vt} {s : Stp} (hx : s.ix = false) (h : T.h.k ≠ 7) : T.find s = (0, 6) := by unfold Vt.find; rw [if_neg (by simp [hx]), if_pos h]
theorem find_key {T : Vt} {s : Stp} (hx : s.ix = false) (h : T.h.k = 7) (hf : fidx T.K s.key T.h.fn < T.h.fn) : T.find s = (((fidx T.K s.key T.h.fn : Nat) : Int), 0) := by unfold Vt.find; rw [if_neg (by simp [hx]), if_neg (by simp [h]), if_pos hf]
theorem find_nokey {T : Vt} {s : Stp} (hx : s.ix = false) (h : T.h.k = 7) (hf : ¬ fidx T.K s.key T.h.fn < T.h.fn) : T.find s = (0, 7) := by unfold Vt.find; rw [if_neg (by simp [hx]), if_neg (by simp [h]), if_neg hf]
theorem find_k6 {T : Vt} {s : Stp} (hx : s.ix = true) (h : T.h.k ≠ 6) : T.find s = (0, 6) := by unfold Vt.find; rw [if_pos hx, if_pos h]
theorem find_out {T : Vt} {s : Stp} (hx : s.ix = true) (h : T.h.k = 6) (hn : s.n < 0 ∨ (T.h.ln : Int) ≤ s.n) : T.find s = (0, 7) := by unfold Vt.find; rw [if_pos hx, if_neg (by simp [h]), if_pos hn]
theorem find_at {T : Vt} {s : Stp} (hx : s.ix = true) (h : T.h.k = 6) (hn : ¬ (s.n < 0 ∨ (T.h.ln : Int) ≤ s.n)) : T.find s = (s.n, 0) := by unfold Vt.find; rw [if_pos hx, if_neg (by simp [h]), if_neg hn]
set_option maxHeartbeats 8000000 in
set_option maxRecDepth 100000 in
theorem rfind_any {T : Vt} {s : Stp} {top : Nat} {w : World} (hT : T.In w top) (ht : top ≤ w.heap.size) (hs : w64 s.n) :
    Calls Tryd.prog 39 #[.agg T.h.cells, .agg s.cells] w fun r w' => r = .returned (.tuple #[.int .i64 (T.find s).1, .int .i64 (T.find s).2]) ∧ Below w.heap.size w w' := by
  cases T with
  | nil => exact hT.elim
  | mk h Y L K F =>
  have hb0 := ((Below.refl w.heap.size w).alloc (Nat.le_refl _) (.cells h.cells 30)).alloc (by simp) (.cells s.cells 50)
  have P := (Whole.new w 30 h.cells).alloc (.cells s.cells 50)
  have Q := Whole.new (w.alloc (.cells h.cells 30)) 50 s.cells
  rw [World.size_alloc] at Q
  have hok := hT.1
  have HFa : Hid (0 < h.fn → h.fa = some ⟨h.fb, h.fo, none⟩ ∧ h.fb < w.heap.size) := Lib.hid fun hp => ⟨(hT.2.2.2.2.2.1 hp).1, Nat.lt_of_lt_of_le (hT.2.2.2.2.2.1 hp).2 ht⟩
  have HT := Lib.hid hT.2.2.2.2.2.2
  obtain ⟨R, hR⟩ : ∃ R, (Vt.mk h Y L K F).find s = R := ⟨_, rfl⟩
  rw [hR]
  have HR := Lib.hid hR
  dsimp only [Vt.h]
  have hk := hok.k
  have hln := hok.ln
  have hfn := hok.fn
  clear hR hok hT
  obtain ⟨R1, R2⟩ := R
  obtain ⟨k, b, n', dd, e, tk, td, tn, tz, x, ba, bn, bc, la, ln, lc, fa, fn, fc, bb, bo, lb, lo, fb, fo⟩ := h
  obtain ⟨ix, key, n⟩ := s
  dsimp only at HFa HT hk hln hfn hs
  simp only [Vh.cells, Stp.cells] at hb0 P Q ⊢
  have hs1 := hs.1
  have hs2 := hs.2
  have hk1 := hk.1
  have hk2 := hk.2
  clear hs hk
  have n0 : (0 : Int) ≤ ln := by omega
  have n1 : (ln : Int) ≤ 1048576 := by omega
  have n2 : (0 : Int) ≤ fn := by omega
  have n3 : (fn : Int) ≤ 1048576 := by omega
  cases ix
  · by_cases k7 : k = 7
    case neg =>
      have hr := HR.out
      rw [find_k7 (T := Vt.mk ⟨k, b, n', dd, e, tk, td, tn, tz, x, ba, bn, bc, la, ln, lc, fa, fn, fc, bb, bo, lb, lo, fb, fo⟩ Y L K F) (s := ⟨false, key, n⟩) rfl k7, Prod.mk.injEq] at hr
      obtain ⟨rfl, rfl⟩ := hr
      have e7 : (k == 7) = false := beq_eq_false_iff_ne.2 k7
      have e7' : (k != 7) = true := by simpa using k7
      clear HR k7 HT HFa P Q
      go_enter Tryd.func39, Tryd.ntmps39
      go_wp2_with fail
      go_ret2
      exact ⟨rfl, hb0⟩
    have HR2 : Hid ((if fidx K key fn < fn then (((fidx K key fn : Nat) : Int), (0 : Int)) else ((0 : Int), (7 : Int))) = (R1, R2)) := Lib.hid (by
      rw [← HR.out]
      by_cases c : fidx K key fn < fn
      · rw [if_pos c]; exact (find_key (T := Vt.mk ⟨k, b, n', dd, e, tk, td, tn, tz, x, ba, bn, bc, la, ln, lc, fa, fn, fc, bb, bo, lb, lo, fb, fo⟩ Y L K F) (s := ⟨false, key, n⟩) rfl k7 c).symm
      · rw [if_neg c]; exact (find_nokey (T := Vt.mk ⟨k, b, n', dd, e, tk, td, tn, tz, x, ba, bn, bc, la, ln, lc, fa, fn, fc, bb, bo, lb, lo, fb, fo⟩ Y L K F) (s := ⟨false, key, n⟩) rfl k7 c).symm)
    have e7 : (k == 7) = true := beq_iff_eq.2 k7
    have e7' : (k != 7) = false := by simpa using k7
    clear HR k7
    go_enter Tryd.func39, Tryd.ntmps39
    go_wp2_with fail
    go_loopw [6] (fun i wr => ∃ j : Nat, j ≤ fn ∧ i = .int .i64 j ∧ Hid (∀ t, t < j → K t ≠ key) ∧ Whole wr w.heap.size 30 (Vh.cells ⟨k, b, n', dd, e, tk, td, tn, tz, x, ba, bn, bc, la, ln, lc, fa, fn, fc, bb, bo, lb, lo, fb, fo⟩) ∧ Whole wr (w.heap.size + 1) 50 (Stp.cells ⟨false, key, n⟩) ∧ Below w.heap.size w wr) (fun i _ => fn - (intOf i).toNat)
    case atStart => exact ⟨0, by omega, rfl, Lib.hid fun t h => absurd h (Nat.not_lt_zero _), P, Q, hb0⟩
    case round =>
      clear P Q hb0
      obtain ⟨j, hj, rfl, HJ, P, Q, hbr⟩ := hrel
      have hji : (0 : Int) ≤ j := by omega
      obtain ⟨-, -, -, -, -, -, -, -, -, -, -, -, p12⟩ := Whole.c13 P
      obtain ⟨q0, q1, q2⟩ := Whole.b3 (s := ⟨false, key, n⟩) Q
      dsimp only at p12 q0 q1 q2
      by_cases hjn : j < fn
      · obtain ⟨e1, hlt⟩ := HFa.out (by omega)
        have hji2 : (j : Int) < fn := by omega
        obtain ⟨k0, k1, k2, k3⟩ := HT.out j hjn
        have l0 := (hbr.cell (p := ⟨fb, fo + j * 14, none⟩) hlt).trans k0
        subst e1
        have hbd := fun m => below_drewN hbr m
        have HB := Lib.hid hbd
        have HP := Lib.hid (fun m => show Whole (wr.drewN m) w.heap.size 30 _ from P)
        have HQ := Lib.hid (fun m => show Whole (wr.drewN m) (w.heap.size + 1) 50 _ from Q)
        clear k0 k1 k2 k3 hbd
        by_cases c : K j = key
        · have hr : R1 = j ∧ R2 = 0 := by
            have := HR2.out
            rw [fidx_first HJ.out c hjn, if_pos hjn, Prod.mk.injEq] at this
            exact ⟨this.1.symm, this.2.symm⟩
          obtain ⟨rfl, rfl⟩ := hr
          have d1 : ((K j).toList == key.toList) = true := by rw [c]; exact beq_self_eq_true _
          clear HR2 HJ c HT
          generalize K j = y at *
          go_wp2_with fail
          go_quiet (fail)
          clear l0 p12 q0 q1 q2 P Q
          go_wp2
          go_ret2
          exact ⟨rfl, HB.out _⟩
        · have d1 : ((K j).toList == key.toList) = false := beq_eq_false_iff_ne.2 fun q => c (ba_eq q)
          have HJ2 : Hid (∀ t, t < j + 1 → K t ≠ key) := Lib.hid fun t ht => by
            by_cases q : t = j
            · subst q; exact c
            · exact HJ.out t (by omega)
          clear HJ c
          generalize K j = y at *
          go_wp2_with fail
          go_quiet (fail)
          clear l0 p12 q0 q1 q2 P Q
          go_wp2
          go_roundw
          case rel => exact ⟨j + 1, by omega, by go_num, HJ2, HP.out _, HQ.out _, HB.out _⟩
          case measure => simp [intOf]; omega
      · obtain rfl : j = fn := by omega
        have hr : R1 = 0 ∧ R2 = 7 := by
          have := HR2.out
          rw [fidx_none HJ.out, if_neg (Nat.lt_irrefl _), Prod.mk.injEq] at this
          exact ⟨this.1.symm, this.2.symm⟩
        obtain ⟨rfl, rfl⟩ := hr
        clear HR2 HJ HT hjn
        go_wp2
        go_ret2
        exact ⟨rfl, hbr⟩
  · clear HT HFa
    have hr := HR.out
    by_cases k6 : k = 6
    case neg =>
      rw [find_k6 (T := Vt.mk ⟨k, b, n', dd, e, tk, td, tn, tz, x, ba, bn, bc, la, ln, lc, fa, fn, fc, bb, bo, lb, lo, fb, fo⟩ Y L K F) (s := ⟨true, key, n⟩) rfl k6, Prod.mk.injEq] at hr
      obtain ⟨rfl, rfl⟩ := hr
      have e6 : (k == 6) = false := beq_eq_false_iff_ne.2 k6
      have e6' : (k != 6) = true := by simpa using k6
      clear HR k6
      go_enter Tryd.func39, Tryd.ntmps39
      go_wp2_with fail
      go_ret2
      exact ⟨rfl, hb0⟩
    have hk6 : (Vt.mk ⟨k, b, n', dd, e, tk, td, tn, tz, x, ba, bn, bc, la, ln, lc, fa, fn, fc, bb, bo, lb, lo, fb, fo⟩ Y L K F).h.k = 6 := k6
    have e6 : (k == 6) = true := beq_iff_eq.2 k6
    have e6' : (k != 6) = false := by simpa using k6
    have Hk6 := Lib.hid hk6
    clear HR k6 hk6
    by_cases c : n < 0
    · rw [find_out (s := ⟨true, key, n⟩) rfl Hk6.out (.inl c), Prod.mk.injEq] at hr
      obtain ⟨rfl, rfl⟩ := hr
      go_enter Tryd.func39, Tryd.ntmps39
      go_wp2_with fail
      go_ret2
      exact ⟨rfl, hb0⟩
    have cn : decide (n < 0) = false := decide_eq_false c
    have c0' : 0 ≤ n := by omega
    by_cases c2' : (ln : Int) ≤ n
    · rw [find_out (s := ⟨true, key, n⟩) rfl Hk6.out (.inr c2'), Prod.mk.injEq] at hr
      obtain ⟨rfl, rfl⟩ := hr
      go_enter Tryd.func39, Tryd.ntmps39
      go_wp2_with fail
      go_ret2
      exact ⟨rfl, hb0⟩
    · rw [find_at (s := ⟨true, key, n⟩) rfl Hk6.out (by rintro (q | q); exact c q; exact c2' q), Prod.mk.injEq] at hr
      obtain ⟨rfl, rfl⟩ := hr
      have cd : decide ((ln : Int) ≤ n) = false := decide_eq_false c2'
      go_enter Tryd.func39, Tryd.ntmps39
      go_wp2_with fail
      go_ret2
      exact ⟨rfl, hb0⟩
set_option maxHeartbeats 4000000 in
set_option maxRecDepth 100000 in
theorem part_any {T : Vt} {s : Stp} {top : Nat} {w : World} (hT : T.In w top) (ht : top ≤ w.heap.size) (h0 : (T.find s).2 = 0) :
    Calls Tryd.prog 40 #[.agg T.h.cells, .int .i64 (T.find s).1] w fun r w' => r = .returned (.agg (T.part (T.find s).1.toNat).h.cells) ∧ Below w.heap.size w w' := by
  obtain ⟨i, ei, hc⟩ := Vt.find_ok h0
  rw [ei, Int.toNat_natCast]
  clear ei h0
  cases T with
  | nil => exact hT.elim
  | mk h Y L K F =>
  have hb0 := ((Below.refl w.heap.size w).alloc (Nat.le_refl _) (.cells h.cells 30)).alloc (by simp) (.cells Vh.zero.cells 30)
  have Q := Whole.new (w.alloc (.cells h.cells 30)) 30 Vh.zero.cells
  rw [World.size_alloc] at Q
  have hok := hT.1
  have hln := hok.ln
  have hfn := hok.fn
  have i0 : (0 : Int) ≤ i := by omega
  rw [show (Vt.mk h Y L K F).h = h from rfl] at hc
  rcases hc with ⟨-, k6, hi, -⟩ | ⟨-, k7, hi, -⟩
  · rw [show (Vt.mk h Y L K F).part i = L i from if_pos k6]
    rw [show (Vt.mk h Y L K F).h = h from rfl]
    have e6 : (h.k == 6) = true := beq_iff_eq.2 k6
    obtain ⟨e1, hlt⟩ := hT.2.2.2.1 (show 0 < h.ln by omega)
    have hl := (hT.2.2.2.2.1 i hi).1.below (hb0.mono ht) hlt
    obtain ⟨l0, l1, l2, l3, l4, l5, l6, l7, l8, l9, l10, l11, l12⟩ := hl.c13
    have i1 : (i : Int) < h.ln := by omega
    clear hl hT k6 hok
    generalize (L i).h = G at *
    obtain ⟨k, b, n', dd, e, tk, td, tn, tz, x, ba, bn, bc, la, ln, lc, fa, fn, fc, bb, bo, lb, lo, fb, fo⟩ := h
    dsimp only at e1 i1 e6 l0 l1 l2 l3 l4 l5 l6 l7 l8 l9 l10 l11 l12
    subst e1
    have hbE := ((Below.refl w.heap.size w).alloc (Nat.le_refl _) (.cells (Vh.cells ⟨k, b, n', dd, e, tk, td, tn, tz, x, ba, bn, bc, some ⟨lb, lo, none⟩, ln, lc, fa, fn, fc, bb, bo, lb, lo, fb, fo⟩) 30)).alloc (by simp) (.cells G.cells 30)
    have hQE := Whole.new (w.alloc (.cells (Vh.cells ⟨k, b, n', dd, e, tk, td, tn, tz, x, ba, bn, bc, some ⟨lb, lo, none⟩, ln, lc, fa, fn, fc, bb, bo, lb, lo, fb, fo⟩) 30)) 30 G.cells
    rw [World.size_alloc] at hQE
    clear Q hb0
    simp only [Vh.cells, Vh.zero] at l0 l1 l2 l3 l4 l5 l6 l7 l8 l9 l10 l11 l12 ⊢
    go_enter Tryd.func40, Tryd.ntmps40
    go_wp2_with fail
    exact bodyPost_ret (v := .agg G.cells) (ret_val (p := 4) rfl rfl hQE) rfl ⟨rfl, hbE⟩
  · rw [show (Vt.mk h Y L K F).part i = F i from if_neg (show ¬ h.k = 6 by rw [k7]; decide)]
    rw [show (Vt.mk h Y L K F).h = h from rfl]
    have e6 : (h.k == 6) = false := by rw [k7]; rfl
    obtain ⟨e1, hlt⟩ := hT.2.2.2.2.2.1 (show 0 < h.fn by omega)
    have hl := (hT.2.2.2.2.2.2 i hi).2.2.1.below (hb0.mono ht) hlt
    obtain ⟨l0, l1, l2, l3, l4, l5, l6, l7, l8, l9, l10, l11, l12⟩ := hl.c13
    have i1 : (i : Int) < h.fn := by omega
    clear hl hT k7 hok
    generalize (F i).h = G at *
    obtain ⟨k, b, n', dd, e, tk, td, tn, tz, x, ba, bn, bc, la, ln, lc, fa, fn, fc, bb, bo, lb, lo, fb, fo⟩ := h
    dsimp only at e1 i1 e6 l0 l1 l2 l3 l4 l5 l6 l7 l8 l9 l10 l11 l12
    subst e1
    have hbE := ((Below.refl w.heap.size w).alloc (Nat.le_refl _) (.cells (Vh.cells ⟨k, b, n', dd, e, tk, td, tn, tz, x, ba, bn, bc, la, ln, lc, some ⟨fb, fo, none⟩, fn, fc, bb, bo, lb, lo, fb, fo⟩) 30)).alloc (by simp) (.cells G.cells 30)
    have hQE := Whole.new (w.alloc (.cells (Vh.cells ⟨k, b, n', dd, e, tk, td, tn, tz, x, ba, bn, bc, la, ln, lc, some ⟨fb, fo, none⟩, fn, fc, bb, bo, lb, lo, fb, fo⟩) 30)) 30 G.cells
    rw [World.size_alloc] at hQE
    clear Q hb0
    simp only [Vh.cells, Vh.zero] at l0 l1 l2 l3 l4 l5 l6 l7 l8 l9 l10 l11 l12 ⊢
    go_enter Tryd.func40, Tryd.ntmps40
    go_wp2_with fail
    exact bodyPost_ret (v := .agg G.cells) (ret_val (p := 4) rfl rfl hQE) rfl ⟨rfl, hbE⟩
end Go.Proofs.YtfkfboiblgoamaaDoor
/- Paths: which are valid (path.Valid, datakitref08.Valid). -/
namespace Go.Proofs.YtfkfboiblgoamaaDoor
open Go.RowKit

set_option maxHeartbeats 8000000 in
set_option maxRecDepth 100000 in
theorem pvalid_any {p : Pth} {top : Nat} {w : World} (hp : p.In w top) (ht : top ≤ w.heap.size) :
    Calls Tryd.prog 21 #[.slice p.a p.n p.c] w fun r w' => r = .returned (.bool (pathB p.S p.n)) ∧ Below w.heap.size w w' := by
  obtain ⟨a, n, c, b, o, S⟩ := p
  obtain ⟨ha, ⟨hn, _, _⟩, hS⟩ := hp
  dsimp only at ha hn hS ⊢
  have HA : Hid (0 < n → a = some ⟨b, o, none⟩ ∧ b < w.heap.size) := Lib.hid fun q => ⟨(ha q).1, Nat.lt_of_lt_of_le (ha q).2 ht⟩
  have HS := Lib.hid hS
  clear ha hS
  obtain ⟨R, hR⟩ : ∃ R, pathB S n = R := ⟨_, rfl⟩
  rw [hR]
  have HR := Lib.hid hR
  clear hR
  have n0 : (0 : Int) ≤ n := by omega
  have n1 : (n : Int) ≤ 1048576 := by omega
  by_cases h48 : 48 < n
  · have hR : R = false := by rw [← HR.out]; exact pathB_no fun q => by have := q.1; omega
    subst hR
    have i48 : (48 : Int) < n := by omega
    clear HR HS HA
    go_enter Tryd.func21, Tryd.ntmps21
    go_wp2_with fail
    go_ret
    exact ⟨rfl, Below.refl _ _⟩
  have i48 : (n : Int) ≤ 48 := by omega
  have HN : Hid (∀ i, i < n → ¬ stepOk (S i) → R = false) := Lib.hid fun i hi q => by rw [← HR.out]; exact pathB_no fun h => q (h.2 i hi)
  have HY : Hid ((∀ i, i < n → stepOk (S i)) → R = true) := Lib.hid fun q => by rw [← HR.out]; exact pathB_yes ⟨by omega, q⟩
  clear HR
  go_enter Tryd.func21, Tryd.ntmps21
  go_wp2_with fail
  go_loopw [10] (fun i wr => ∃ k : Nat, k ≤ n ∧ i = .int .i64 k ∧ Hid (∀ t, t < k → stepOk (S t)) ∧ Below w.heap.size w wr) (fun i _ => n - (intOf i).toNat)
  case atStart => exact ⟨0, by omega, rfl, Lib.hid fun t h => absurd h (Nat.not_lt_zero _), Below.refl _ _⟩
  case round =>
    obtain ⟨k, hk, rfl, HK, hbr⟩ := hrel
    have hki : (0 : Int) ≤ k := by omega
    by_cases hkn : k < n
    · obtain ⟨e1, hlt⟩ := HA.out (by omega)
      subst e1
      have hki2 : (k : Int) < n := by omega
      obtain ⟨hl, hok⟩ := HS.out k hkn
      obtain ⟨l0, l1, l2⟩ := (hl.below hbr hlt).s3
      have hky := hok.key
      have hn1 := hok.n.1
      have hn2 := hok.n.2
      have HU := Lib.hid (putf_any hky)
      have HNk := Lib.hid (HN.out k hkn)
      have HK2 : Hid (stepOk (S k) → ∀ t, t < k + 1 → stepOk (S t)) := Lib.hid fun h t ht => by
        by_cases q : t = k
        · subst q; exact h
        · exact HK.out t (by omega)
      have hba := hbr.alloc hbr.size (.cells (S k).cells 50)
      clear hl hok HK
      have hlt2 := Nat.lt_of_lt_of_le hlt hbr.size
      generalize S k = s at *
      obtain ⟨ix, key, m⟩ := s
      dsimp only at l0 l1 l2 hky hn1 hn2 HU HNk HK2 hba
      cases ix
      all_goals simp only [Stp.cells] at hba
      · by_cases z : m = 0
        case neg =>
          have z1 : (m == 0) = false := beq_eq_false_iff_ne.2 z
          have z2 : (m != 0) = true := by simpa using z
          have hR : R = false := HNk.out fun q => by
            unfold stepOk at q
            rw [if_neg (by simp)] at q
            exact z q.1
          subst hR
          clear HNk HK2 HN HY HS
          clear HU z
          go_wp2_with fail
          go_ret
          exact ⟨rfl, hba⟩
        subst z
        by_cases z : 1024 < key.size
        · have z1 : decide ((1024 : Int) < key.size) = true := decide_eq_true (by omega)
          have hR : R = false := HNk.out fun q => by
            unfold stepOk at q
            rw [if_neg (by simp)] at q
            have q1 : key.size ≤ 1024 := q.2.1
            omega
          subst hR
          clear HNk HK2 HN HY HS
          clear HU z
          go_wp2_with fail
          go_ret
          exact ⟨rfl, hba⟩
        have z1 : decide ((1024 : Int) < key.size) = false := decide_eq_false (by omega)
        obtain ⟨u, hu⟩ : ∃ u, utfB key = u := ⟨_, rfl⟩
        rw [hu] at HU
        cases u
        · have Hu := Lib.hid hu
          clear hu z
          have hR : R = false := HNk.out fun q => by
            unfold stepOk at q
            rw [if_neg (by simp)] at q
            exact absurd q.2.2 (by rw [Hu.out]; decide)
          subst hR
          clear HNk HK2 HN HY HS
          go_wp2_with fail
          refine (HU.out _).mono ?_; rintro _ w2 ⟨rfl, rfl⟩
          go_wp2_with fail
          go_ret
          exact ⟨rfl, hba⟩
        · have HKn : Hid (∀ t, t < k + 1 → stepOk (S t)) := Lib.hid (HK2.out (by unfold stepOk; rw [if_neg (by simp)]; exact ⟨rfl, by dsimp only; omega, hu⟩))
          clear hu z HNk HK2
          go_wp2_with fail
          refine (HU.out _).mono ?_; rintro _ w2 ⟨rfl, rfl⟩
          clear l0 l1 l2
          go_wp2_with fail
          go_roundw
          case rel => exact ⟨k + 1, by omega, by go_num, HKn, hba⟩
          case measure => simp [intOf]; omega
      · clear HU
        by_cases z : key.toList = []
        case neg =>
          have z1 : key.toList.isEmpty = false := by simpa using z
          have hR : R = false := HNk.out fun q => by
            unfold stepOk at q
            rw [if_pos rfl] at q
            exact z q.1
          subst hR
          clear HNk HK2 HN HY HS
          clear z
          go_wp2_with fail
          go_ret
          exact ⟨rfl, hba⟩
        have z1 : key.toList.isEmpty = true := by simpa using z
        have HZ := Lib.hid z
        clear z
        by_cases y : m < 0
        · have y1 : decide (m < 0) = true := decide_eq_true y
          have hR : R = false := HNk.out fun q => by
            unfold stepOk at q
            rw [if_pos rfl] at q
            have q1 : 0 ≤ m := q.2.1
            omega
          subst hR
          clear HNk HK2 HN HY HS
          clear y
          go_wp2_with fail
          go_ret
          exact ⟨rfl, hba⟩
        have y1 : decide (m < 0) = false := decide_eq_false y
        by_cases x : 65536 < m
        · have x1 : decide (65536 < m) = true := decide_eq_true x
          have hR : R = false := HNk.out fun q => by
            unfold stepOk at q
            rw [if_pos rfl] at q
            have q1 : m ≤ 65536 := q.2.2
            omega
          subst hR
          clear HNk HK2 HN HY HS
          clear x
          go_wp2_with fail
          go_ret
          exact ⟨rfl, hba⟩
        have x1 : decide (65536 < m) = false := decide_eq_false x
        have HKn : Hid (∀ t, t < k + 1 → stepOk (S t)) := Lib.hid (HK2.out (by unfold stepOk; rw [if_pos rfl]; exact ⟨HZ.out, by dsimp only; omega, by dsimp only; omega⟩))
        clear HNk HK2
        go_wp2_with fail
        go_roundw
        case rel => exact ⟨k + 1, by omega, by go_num, HKn, hba⟩
        case measure => simp [intOf]; omega
    · obtain rfl : k = n := by omega
      have hR : R = true := HY.out HK.out
      subst hR
      clear HY HN HK HS hkn
      go_wp2
      go_ret
      exact ⟨rfl, hbr⟩

set_option maxHeartbeats 8000000 in
set_option maxRecDepth 100000 in
theorem rpvalid_any {p : Pth} {top : Nat} {w : World} (hp : p.In w top) (ht : top ≤ w.heap.size) :
    Calls Tryd.prog 30 #[.slice p.a p.n p.c] w fun r w' => r = .returned (.bool (pathB p.S p.n)) ∧ Below w.heap.size w w' := by
  obtain ⟨a, n, c, b, o, S⟩ := p
  obtain ⟨ha, ⟨hn, _, _⟩, hS⟩ := hp
  dsimp only at ha hn hS ⊢
  have HA : Hid (0 < n → a = some ⟨b, o, none⟩ ∧ b < w.heap.size) := Lib.hid fun q => ⟨(ha q).1, Nat.lt_of_lt_of_le (ha q).2 ht⟩
  have HS := Lib.hid hS
  clear ha hS
  obtain ⟨R, hR⟩ : ∃ R, pathB S n = R := ⟨_, rfl⟩
  rw [hR]
  have HR := Lib.hid hR
  clear hR
  have n0 : (0 : Int) ≤ n := by omega
  have n1 : (n : Int) ≤ 1048576 := by omega
  by_cases h48 : 48 < n
  · have hR : R = false := by rw [← HR.out]; exact pathB_no fun q => by have := q.1; omega
    subst hR
    have i48 : (48 : Int) < n := by omega
    clear HR HS HA
    go_enter Tryd.func30, Tryd.ntmps30
    go_wp2_with fail
    go_ret
    exact ⟨rfl, Below.refl _ _⟩
  have i48 : (n : Int) ≤ 48 := by omega
  have HN : Hid (∀ i, i < n → ¬ stepOk (S i) → R = false) := Lib.hid fun i hi q => by rw [← HR.out]; exact pathB_no fun h => q (h.2 i hi)
  have HY : Hid ((∀ i, i < n → stepOk (S i)) → R = true) := Lib.hid fun q => by rw [← HR.out]; exact pathB_yes ⟨by omega, q⟩
  clear HR
  go_enter Tryd.func30, Tryd.ntmps30
  go_wp2_with fail
  go_loopw [3] (fun i wr => ∃ k : Nat, k ≤ n ∧ i = .int .i64 k ∧ Hid (∀ t, t < k → stepOk (S t)) ∧ Below w.heap.size w wr) (fun i _ => n - (intOf i).toNat)
  case atStart => exact ⟨0, by omega, rfl, Lib.hid fun t h => absurd h (Nat.not_lt_zero _), Below.refl _ _⟩
  case round =>
    obtain ⟨k, hk, rfl, HK, hbr⟩ := hrel
    have hki : (0 : Int) ≤ k := by omega
    by_cases hkn : k < n
    · obtain ⟨e1, hlt⟩ := HA.out (by omega)
      subst e1
      have hki2 : (k : Int) < n := by omega
      obtain ⟨hl, hok⟩ := HS.out k hkn
      obtain ⟨l0, l1, l2⟩ := (hl.below hbr hlt).s3
      have hky := hok.key
      have hn1 := hok.n.1
      have hn2 := hok.n.2
      have HU := Lib.hid (rutf_any hky)
      have HNk := Lib.hid (HN.out k hkn)
      have HK2 : Hid (stepOk (S k) → ∀ t, t < k + 1 → stepOk (S t)) := Lib.hid fun h t ht => by
        by_cases q : t = k
        · subst q; exact h
        · exact HK.out t (by omega)
      clear hl hok HK
      have hlt2 := Nat.lt_of_lt_of_le hlt hbr.size
      generalize S k = s at *
      obtain ⟨ix, key, m⟩ := s
      dsimp only at l0 l1 l2 hky hn1 hn2 HU HNk HK2
      cases ix
      · by_cases z : m = 0
        case neg =>
          have z1 : (m == 0) = false := beq_eq_false_iff_ne.2 z
          have z2 : (m != 0) = true := by simpa using z
          have hR : R = false := HNk.out fun q => by
            unfold stepOk at q
            rw [if_neg (by simp)] at q
            exact z q.1
          subst hR
          clear HNk HK2 HN HY HS
          clear HU z
          go_wp2_with fail
          go_ret
          exact ⟨rfl, hbr⟩
        subst z
        by_cases z : 1024 < key.size
        · have z1 : decide ((1024 : Int) < key.size) = true := decide_eq_true (by omega)
          have hR : R = false := HNk.out fun q => by
            unfold stepOk at q
            rw [if_neg (by simp)] at q
            have q1 : key.size ≤ 1024 := q.2.1
            omega
          subst hR
          clear HNk HK2 HN HY HS
          clear HU z
          go_wp2_with fail
          go_ret
          exact ⟨rfl, hbr⟩
        have z1 : decide ((1024 : Int) < key.size) = false := decide_eq_false (by omega)
        obtain ⟨u, hu⟩ : ∃ u, utfB key = u := ⟨_, rfl⟩
        rw [hu] at HU
        cases u
        · have Hu := Lib.hid hu
          clear hu z
          have hR : R = false := HNk.out fun q => by
            unfold stepOk at q
            rw [if_neg (by simp)] at q
            exact absurd q.2.2 (by rw [Hu.out]; decide)
          subst hR
          clear HNk HK2 HN HY HS
          go_wp2_with fail
          refine (HU.out _).mono ?_; rintro _ w2 ⟨rfl, hb2⟩
          go_wp2_with fail
          go_ret
          exact ⟨rfl, below_then hbr hb2⟩
        · have HKn : Hid (∀ t, t < k + 1 → stepOk (S t)) := Lib.hid (HK2.out (by unfold stepOk; rw [if_neg (by simp)]; exact ⟨rfl, by dsimp only; omega, hu⟩))
          clear hu z HNk HK2
          go_wp2_with fail
          refine (HU.out _).mono ?_; rintro _ w2 ⟨rfl, hb2⟩
          clear l0 l1 l2
          go_wp2_with fail
          go_roundw
          case rel => exact ⟨k + 1, by omega, by go_num, HKn, below_then hbr hb2⟩
          case measure => simp [intOf]; omega
      · clear HU
        by_cases z : key.toList = []
        case neg =>
          have z1 : key.toList.isEmpty = false := by simpa using z
          have hR : R = false := HNk.out fun q => by
            unfold stepOk at q
            rw [if_pos rfl] at q
            exact z q.1
          subst hR
          clear HNk HK2 HN HY HS
          clear z
          go_wp2_with fail
          go_ret
          exact ⟨rfl, hbr⟩
        have z1 : key.toList.isEmpty = true := by simpa using z
        have HZ := Lib.hid z
        clear z
        by_cases y : m < 0
        · have y1 : decide (m < 0) = true := decide_eq_true y
          have hR : R = false := HNk.out fun q => by
            unfold stepOk at q
            rw [if_pos rfl] at q
            have q1 : 0 ≤ m := q.2.1
            omega
          subst hR
          clear HNk HK2 HN HY HS
          clear y
          go_wp2_with fail
          go_ret
          exact ⟨rfl, hbr⟩
        have y1 : decide (m < 0) = false := decide_eq_false y
        by_cases x : 65536 < m
        · have x1 : decide (65536 < m) = true := decide_eq_true x
          have hR : R = false := HNk.out fun q => by
            unfold stepOk at q
            rw [if_pos rfl] at q
            have q1 : m ≤ 65536 := q.2.2
            omega
          subst hR
          clear HNk HK2 HN HY HS
          clear x
          go_wp2_with fail
          go_ret
          exact ⟨rfl, hbr⟩
        have x1 : decide (65536 < m) = false := decide_eq_false x
        have HKn : Hid (∀ t, t < k + 1 → stepOk (S t)) := Lib.hid (HK2.out (by unfold stepOk; rw [if_pos rfl]; exact ⟨HZ.out, by dsimp only; omega, by dsimp only; omega⟩))
        clear HNk HK2
        go_wp2_with fail
        go_roundw
        case rel => exact ⟨k + 1, by omega, by go_num, HKn, hbr⟩
        case measure => simp [intOf]; omega
    · obtain rfl : k = n := by omega
      have hR : R = true := HY.out HK.out
      subst hR
      clear HY HN HK HS hkn
      go_wp2
      go_ret
      exact ⟨rfl, hbr⟩

end Go.Proofs.YtfkfboiblgoamaaDoor
