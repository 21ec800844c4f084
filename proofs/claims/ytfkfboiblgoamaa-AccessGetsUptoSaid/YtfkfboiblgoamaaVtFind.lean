/- Paths: what a step leads to, walked (access.index, fits, find; datakitref09.Find, Part). -/
import Derived.Test.YtfkfboiblgoamaaVtPath
import Derived.Test.YtfkfboiblgoamaaVtRes
import Derived.Test.YtfkfboiblgoamaaVtBytes
import Derived.Test.YtfkfboiblgoamaaVtOne
import Derived.StillTailTactics
import Derived.Deep.QuietTactic
import Derived.BigQuiet
import Derived.WalkSmall
namespace Go.Proofs.Ytfkfboiblgoamaa
open Go.RowKit

noncomputable def idxZ (K : Nat → ByteArray) (key : ByteArray) (n : Nat) : Int := if fidx K key n < n then (fidx K key n : Nat) else -1
def Vt.fits (T : Vt) (s : Stp) : Bool := if s.ix = true then T.h.k == 6 else T.h.k == 7
set_option maxHeartbeats 4000000 in
set_option maxRecDepth 100000 in
theorem index_any {T : Vt} {top : Nat} {key : ByteArray} {w : World} (hT : T.In w top) (ht : top ≤ w.heap.size) :
    Calls Try.prog 38 #[.agg T.h.cells, .string key] w fun r w' => r = .returned (.int .i64 (idxZ T.K key T.h.fn)) ∧ Below w.heap.size w w' := by
  cases T with
  | nil => exact hT.elim
  | mk h Y L K F =>
  have hb0 := (Below.refl w.heap.size w).alloc (Nat.le_refl _) (.cells h.cells 30)
  have hfn := hT.1.fn
  have HFa : Hid (0 < h.fn → h.fa = some ⟨h.fb, h.fo, none⟩ ∧ h.fb < w.heap.size) := Lib.hid fun hp => ⟨(hT.2.2.2.2.2.1 hp).1, Nat.lt_of_lt_of_le (hT.2.2.2.2.2.1 hp).2 ht⟩
  have HT := Lib.hid hT.2.2.2.2.2.2
  clear hT
  obtain ⟨R, hR⟩ : ∃ R, idxZ K key h.fn = R := ⟨_, rfl⟩
  simp only [Vt.h, Vt.K]
  rw [hR]
  have HR := Lib.hid hR
  clear hR
  obtain ⟨k, b, n, dd, e, tk, td, tn, tz, x, ba, bn, bc, la, ln, lc, fa, fn, fc, bb, bo, lb, lo, fb, fo⟩ := h
  dsimp only at HFa HT hfn HR
  simp only [Vh.cells] at hb0 ⊢
  have n2 : (0 : Int) ≤ fn := by omega
  have n3 : (fn : Int) ≤ 1048576 := by omega
  go_enter Try.func38, Try.ntmps38
  go_wp2_with fail
  go_loopw [10] (fun i wr => ∃ j : Nat, j ≤ fn ∧ i = .int .i64 j ∧ Hid (∀ t, t < j → K t ≠ key) ∧ Below w.heap.size w wr) (fun i _ => fn - (intOf i).toNat)
  case atStart => exact ⟨0, by omega, rfl, Lib.hid fun t h => absurd h (Nat.not_lt_zero _), hb0⟩
  case round =>
    clear hb0
    obtain ⟨j, hj, rfl, HJ, hbr⟩ := hrel
    have hji : (0 : Int) ≤ j := by omega
    by_cases hjn : j < fn
    · obtain ⟨e1, hlt⟩ := HFa.out (by omega)
      subst e1
      have hji2 : (j : Int) < fn := by omega
      obtain ⟨k0, k1, k2, k3⟩ := HT.out j hjn
      have hl := lies_c14 (lies_fcs ((hbr.cell (p := ⟨fb, fo + j * 14, none⟩) hlt).trans k0) (k2.below hbr hlt))
      obtain ⟨l0, l1, l2, l3, l4, l5, l6, l7, l8, l9, l10, l11, l12, l13⟩ := hl
      have hba := hbr.alloc hbr.size (.cells (fch (K j) (F j).h) 65)
      clear k0 k1 k2 k3
      simp only [fch] at hba
      generalize (F j).h = G at *
      by_cases c : K j = key
      · have hR : R = j := by
          rw [← HR.out]
          unfold idxZ
          rw [fidx_first HJ.out c hjn, if_pos hjn]
        subst hR
        have d1 : ((K j).toList == key.toList) = true := by rw [c]; exact beq_self_eq_true _
        clear HR HJ c HT
        generalize K j = y at *
        go_wp2_with fail
        go_ret
        exact ⟨rfl, hba⟩
      · have d1 : ((K j).toList == key.toList) = false := beq_eq_false_iff_ne.2 fun q => c (ba_eq q)
        have HJ2 : Hid (∀ t, t < j + 1 → K t ≠ key) := Lib.hid fun t ht => by
          by_cases q : t = j
          · subst q; exact c
          · exact HJ.out t (by omega)
        clear HJ c
        generalize K j = y at *
        go_wp2_with fail
        go_roundw
        case rel => exact ⟨j + 1, by omega, by go_num, HJ2, hba⟩
        case measure => simp [intOf]; omega
    · obtain rfl : j = fn := by omega
      have hR : R = -1 := by
        rw [← HR.out]
        unfold idxZ
        rw [fidx_none HJ.out, if_neg (Nat.lt_irrefl _)]
      subst hR
      clear HR HJ HT hjn
      go_wp2
      go_ret
      exact ⟨rfl, hbr⟩
set_option maxHeartbeats 4000000 in
set_option maxRecDepth 100000 in
theorem fits_any {T : Vt} {s : Stp} {w : World} (hk : w64 T.h.k) :
    Calls Try.prog 52 #[.agg T.h.cells, .agg s.cells] w fun r w' => r = .returned (.bool (T.fits s)) ∧ Below w.heap.size w w' := by
  have hb0 := ((Below.refl w.heap.size w).alloc (Nat.le_refl _) (.cells T.h.cells 30)).alloc (by simp) (.cells s.cells 59)
  obtain ⟨ix, key, n⟩ := s
  have hk1 := hk.1
  have hk2 := hk.2
  clear hk
  unfold Vt.fits
  generalize T.h = h at *
  obtain ⟨k, b, n', dd, e, tk, td, tn, tz, x, ba, bn, bc, la, ln, lc, fa, fn, fc, bb, bo, lb, lo, fb, fo⟩ := h
  simp only [Vh.cells, Stp.cells] at hb0 hk1 hk2 ⊢
  cases ix
  · rw [if_neg (by decide)]
    go_enter Try.func52, Try.ntmps52
    go_wp2_with fail
    go_ret
    exact ⟨rfl, hb0⟩
  · rw [if_pos rfl]
    go_enter Try.func52, Try.ntmps52
    go_wp2_with fail
    go_ret
    exact ⟨rfl, hb0⟩
theorem Whole.b3 {W : World} {B : Nat} {t : TypeId} {s : Stp} (H : Whole W B t s.cells) : W.cell? ⟨B, 0, none⟩ = some (.bool s.ix) ∧ W.cell? ⟨B, 1, none⟩ = some (.string s.key) ∧ W.cell? ⟨B, 2, none⟩ = some (.int .i64 s.n) := ⟨H.cell 0, H.cell 1, H.cell 2⟩
theorem below_row {W W' : World} {T : Vt} {top : Nat} (h : T.In W top) (ht : top ≤ W.heap.size) (hb : Below W.heap.size W W') : T.In W' top ∧ top ≤ W'.heap.size := ⟨Vt.In.below (hb.mono ht) h, Nat.le_trans ht hb.size⟩
set_option maxHeartbeats 8000000 in
set_option maxRecDepth 100000 in
theorem find_any {T : Vt} {s : Stp} {top : Nat} {w : World} (hT : T.In w top) (ht : top ≤ w.heap.size) (hs : w64 s.n) :
    Calls Try.prog 41 #[.agg T.h.cells, .agg s.cells] w fun r w' => r = .returned (.tuple #[.int .i64 (T.find s).1, .int .i64 (T.find s).2]) ∧ Below w.heap.size w w' := by
  have hb0 := ((Below.refl w.heap.size w).alloc (Nat.le_refl _) (.cells T.h.cells 30)).alloc (by simp) (.cells s.cells 59)
  have P := (Whole.new w 30 T.h.cells).alloc (.cells s.cells 59)
  have Q := Whole.new (w.alloc (.cells T.h.cells 30)) 59 s.cells
  rw [World.size_alloc] at Q
  have hok : T.h.ok := by cases T with | nil => exact hT.elim | mk h Y L K F => exact hT.1
  have HFi := Lib.hid (fun (w1 : World) => fits_any (T := T) (s := s) (w := w1) hok.k)
  have HIx := Lib.hid (fun (w1 : World) (hb : Below w.heap.size w w1) => index_any (T := T) (key := s.key) (Vt.In.below (hb.mono ht) hT) (Nat.le_trans ht hb.size))
  obtain ⟨R, hR⟩ : ∃ R, T.find s = R := ⟨_, rfl⟩
  rw [hR]
  unfold Vt.find at hR
  have HR := Lib.hid hR
  have hk := hok.k
  have hln := hok.ln
  have hfn := hok.fn
  have hfi := fidx_le T.K s.key T.h.fn
  unfold Vt.fits at HFi
  unfold idxZ at HIx
  clear hR hok hT
  generalize hfx : fidx T.K s.key T.h.fn = fx at *
  clear hfx
  obtain ⟨R1, R2⟩ := R
  generalize T.h = h at *
  obtain ⟨k, b, n', dd, e, tk, td, tn, tz, x, ba, bn, bc, la, ln, lc, fa, fn, fc, bb, bo, lb, lo, fb, fo⟩ := h
  obtain ⟨ix, key, n⟩ := s
  dsimp only at HFi HIx HR hk hln hfn hs hfi
  simp only [Vh.cells, Stp.cells] at hb0 P Q HFi HIx ⊢
  have hs1 := hs.1
  have hs2 := hs.2
  have hk1 := hk.1
  have hk2 := hk.2
  clear hs hk
  have n0 : (0 : Int) ≤ ln := by omega
  have n1 : (ln : Int) ≤ 1048576 := by omega
  cases ix
  · rw [if_neg (by decide)] at HFi
    have hr := HR.out
    rw [if_neg (by decide)] at hr
    by_cases k7 : k = 7
    case neg =>
      rw [if_pos k7, Prod.mk.injEq] at hr
      obtain ⟨rfl, rfl⟩ := hr
      have e7 : (k == 7) = false := beq_eq_false_iff_ne.2 k7
      rw [e7] at HFi
      clear HR e7 k7 HIx
      go_enter Try.func41, Try.ntmps41
      go_wp2_with fail
      refine (HFi.out _).mono ?_; rintro _ w1 ⟨rfl, hb1⟩
      go_wp2
      go_ret2
      exact ⟨rfl, below_then hb0 hb1⟩
    rw [if_neg (by simp [k7])] at hr
    have e7 : (k == 7) = true := beq_iff_eq.2 k7
    rw [e7] at HFi
    have HIx2 : Hid (∀ w1, Below w.heap.size w w1 → Calls Try.prog 38 #[.agg #[.int .i64 k, .bool b, .bool n', .string dd, .int .i64 e, .int .i64 tk, .int .i64 td, .int .i64 tn, .int .i64 tz, .string x, .slice ba bn bc, .slice la ln lc, .slice fa fn fc], .string key] w1 fun r w' => r = .returned (.int .i64 (if fx < fn then (fx : Int) else -1)) ∧ Below w1.heap.size w1 w') := Lib.hid HIx.out
    clear HR e7 k7 HIx
    by_cases c : fx < fn
    · rw [if_pos c, Prod.mk.injEq] at hr
      obtain ⟨rfl, rfl⟩ := hr
      simp only [if_pos c] at HIx2
      have i0 : (0 : Int) ≤ fx := by omega
      have i1 : (fx : Int) ≤ 1048576 := by omega
      clear c
      go_enter Try.func41, Try.ntmps41
      go_wp2_with fail
      refine (HFi.out _).mono ?_; rintro _ w1 ⟨rfl, hb1⟩
      have g1 := below_then hb0 hb1
      have P1 := P.below hb1 P.lt
      have Q1 := Q.below hb1 Q.lt
      obtain ⟨c0, c1, c2, c3, c4, c5, c6, c7, c8, c9, c10, c11, c12⟩ := Whole.c13 (h := ⟨k, b, n', dd, e, tk, td, tn, tz, x, ba, bn, bc, la, ln, lc, fa, fn, fc, bb, bo, lb, lo, fb, fo⟩) P1
      obtain ⟨q0, q1, q2⟩ := Whole.b3 (s := ⟨false, key, n⟩) Q1
      dsimp only at c0 c1 c2 c3 c4 c5 c6 c7 c8 c9 c10 c11 c12 q0 q1 q2
      go_wp2_with fail
      refine (HIx2.out _ g1).mono ?_; rintro _ w2 ⟨rfl, hb2⟩
      have g2 := below_then g1 hb2
      obtain ⟨r0, r1, r2⟩ := Whole.b3 (s := ⟨false, key, n⟩) (Q1.below hb2 Q1.lt)
      dsimp only at r0 r1 r2
      clear c0 c1 c2 c3 c4 c5 c6 c7 c8 c9 c10 c11 c12 q0 q1 q2 P1 Q1 P Q hb0 hb1 hb2 g1
      go_wp2_with fail
      go_ret2
      exact ⟨rfl, g2⟩
    · rw [if_neg c, Prod.mk.injEq] at hr
      obtain ⟨rfl, rfl⟩ := hr
      simp only [if_neg c] at HIx2
      clear c
      go_enter Try.func41, Try.ntmps41
      go_wp2_with fail
      refine (HFi.out _).mono ?_; rintro _ w1 ⟨rfl, hb1⟩
      have g1 := below_then hb0 hb1
      have P1 := P.below hb1 P.lt
      have Q1 := Q.below hb1 Q.lt
      obtain ⟨c0, c1, c2, c3, c4, c5, c6, c7, c8, c9, c10, c11, c12⟩ := Whole.c13 (h := ⟨k, b, n', dd, e, tk, td, tn, tz, x, ba, bn, bc, la, ln, lc, fa, fn, fc, bb, bo, lb, lo, fb, fo⟩) P1
      obtain ⟨q0, q1, q2⟩ := Whole.b3 (s := ⟨false, key, n⟩) Q1
      dsimp only at c0 c1 c2 c3 c4 c5 c6 c7 c8 c9 c10 c11 c12 q0 q1 q2
      go_wp2_with fail
      refine (HIx2.out _ g1).mono ?_; rintro _ w2 ⟨rfl, hb2⟩
      have g2 := below_then g1 hb2
      clear c0 c1 c2 c3 c4 c5 c6 c7 c8 c9 c10 c11 c12 q0 q1 q2 P1 Q1 P Q hb0 hb1 hb2 g1
      go_wp2_with fail
      go_ret2
      exact ⟨rfl, g2⟩
  · rw [if_pos rfl] at HFi
    have hr := HR.out
    rw [if_pos rfl] at hr
    by_cases k6 : k = 6
    case neg =>
      rw [if_pos k6, Prod.mk.injEq] at hr
      obtain ⟨rfl, rfl⟩ := hr
      have e6 : (k == 6) = false := beq_eq_false_iff_ne.2 k6
      rw [e6] at HFi
      clear HR e6 k6 HIx
      go_enter Try.func41, Try.ntmps41
      go_wp2_with fail
      refine (HFi.out _).mono ?_; rintro _ w1 ⟨rfl, hb1⟩
      go_wp2
      go_ret2
      exact ⟨rfl, below_then hb0 hb1⟩
    rw [if_neg (by simp [k6])] at hr
    have e6 : (k == 6) = true := beq_iff_eq.2 k6
    rw [e6] at HFi
    clear HR e6 k6 HIx
    by_cases c : n < 0
    · rw [if_pos (.inl c), Prod.mk.injEq] at hr
      obtain ⟨rfl, rfl⟩ := hr
      go_enter Try.func41, Try.ntmps41
      go_wp2_with fail
      refine (HFi.out _).mono ?_; rintro _ w1 ⟨rfl, hb1⟩
      obtain ⟨q0, q1, q2⟩ := Whole.b3 (s := ⟨true, key, n⟩) (Q.below hb1 Q.lt)
      dsimp only at q0 q1 q2
      go_wp2_with fail
      go_ret2
      exact ⟨rfl, below_then hb0 hb1⟩
    have cn : decide (n < 0) = false := decide_eq_false c
    have c0' : 0 ≤ n := by omega
    by_cases c2' : (ln : Int) ≤ n
    · rw [if_pos (.inr c2'), Prod.mk.injEq] at hr
      obtain ⟨rfl, rfl⟩ := hr
      go_enter Try.func41, Try.ntmps41
      go_wp2_with fail
      refine (HFi.out _).mono ?_; rintro _ w1 ⟨rfl, hb1⟩
      obtain ⟨q0, q1, q2⟩ := Whole.b3 (s := ⟨true, key, n⟩) (Q.below hb1 Q.lt)
      obtain ⟨-, -, -, -, -, -, -, -, -, -, -, c11, -⟩ := Whole.c13 (h := ⟨k, b, n', dd, e, tk, td, tn, tz, x, ba, bn, bc, la, ln, lc, fa, fn, fc, bb, bo, lb, lo, fb, fo⟩) (P.below hb1 P.lt)
      dsimp only at q0 q1 q2 c11
      go_wp2_with fail
      go_ret2
      exact ⟨rfl, below_then hb0 hb1⟩
    · rw [if_neg (by omega), Prod.mk.injEq] at hr
      obtain ⟨rfl, rfl⟩ := hr
      have cd : decide ((ln : Int) ≤ n) = false := decide_eq_false c2'
      go_enter Try.func41, Try.ntmps41
      go_wp2_with fail
      refine (HFi.out _).mono ?_; rintro _ w1 ⟨rfl, hb1⟩
      obtain ⟨q0, q1, q2⟩ := Whole.b3 (s := ⟨true, key, n⟩) (Q.below hb1 Q.lt)
      obtain ⟨-, -, -, -, -, -, -, -, -, -, -, c11, -⟩ := Whole.c13 (h := ⟨k, b, n', dd, e, tk, td, tn, tz, x, ba, bn, bc, la, ln, lc, fa, fn, fc, bb, bo, lb, lo, fb, fo⟩) (P.below hb1 P.lt)
      dsimp only at q0 q1 q2 c11
      go_wp2_with fail
      go_ret2
      exact ⟨rfl, below_then hb0 hb1⟩
end Go.Proofs.Ytfkfboiblgoamaa
