/- Laid together for one claim: VtBytes, VtFind, VtChg. -/
import Derived.Test.YtfkfboiblgoamaaQN01
import Derived.Test.YtfkfboiblgoamaaQN05
import Derived.Laws.BytesArg
import Derived.Test.YtfkfboiblgoamaaQN04
import Derived.Test.YtfkfboiblgoamaaQN09
import Derived.Test.YtfkfboiblgoamaaQN08
import Derived.StillTailTactics
import Derived.Deep.QuietTactic
import Derived.BigQuiet
import Derived.WalkSmall
import Derived.Deep.RegionHeld3
/- Values: bytes as a text. -/
namespace Go.Proofs.Ytfkfboiblgoamaa
open Go.RowKit

/-- The bytes of a value, as a text. -/
def Vt.bs (T : Vt) : ByteArray := strOfNums ((List.range T.h.bn).map T.Y)
theorem conv_bs {W : World} {top : Nat} {T : Vt} (hT : T.In W top) : (convert 26 9 (.slice T.h.ba T.h.bn T.h.bc)).run Try.prog W = .ok (.string T.bs) W := by
  cases T with
  | nil => exact hT.elim
  | mk h Y L K F =>
    obtain ⟨_, h1, h2, _⟩ := hT
    unfold Vt.bs
    simp only [Vt.h, Vt.Y]
    by_cases hz : h.bn = 0
    · rw [hz]
      have e0 : strOfNums ((List.range 0).map Y) = ByteArray.empty := rfl
      rw [e0]
      cases hb : h.ba with
      | none => exact run_convert_bytes_nil W 26 5 Try.underlying26 Try.underlying5 0 h.bc _ Try.underlying9
      | some a =>
        rw [run_convert_bytes_string W 26 9 5 _ 0 h.bc Try.underlying26 Try.underlying5 Try.underlying9,
          run_bytesToString W a 0 h.bc [] (by simp [loadCells, loadCellsFrom])]
        rfl
    · obtain ⟨hba, _⟩ := h1 (by omega)
      rw [hba]
      exact run_convert_bytes_arg W 26 5 Try.underlying26 Try.underlying5 h.bb h.bo h.bn h.bc _ (by simp) (fun i hi => by
        rw [(h2 i hi).1]
        simp [List.getD, hi]) _ Try.underlying9
theorem byte_inj {a b : Int} (a0 : 0 ≤ a) (a1 : a < 256) (b0 : 0 ≤ b) (b1 : b < 256) (h : UInt8.ofNat a.toNat = UInt8.ofNat b.toNat) : a = b := by
  have := congrArg UInt8.toNat h
  simp only [UInt8.toNat_ofNat'] at this
  omega
theorem bs_eq {W V : World} {t u : Nat} {T U : Vt} (hT : T.In W t) (hU : U.In V u) : T.bs = U.bs ↔ T.h.bn = U.h.bn ∧ ∀ i, i < T.h.bn → T.Y i = U.Y i := by
  have bT : ∀ i, i < T.h.bn → 0 ≤ T.Y i ∧ T.Y i < 256 := by
    cases T with
    | nil => exact hT.elim
    | mk h Y L K F => exact fun i hi => (hT.2.2.1 i hi).2
  have bU : ∀ i, i < U.h.bn → 0 ≤ U.Y i ∧ U.Y i < 256 := by
    cases U with
    | nil => exact hU.elim
    | mk h Y L K F => exact fun i hi => (hU.2.2.1 i hi).2
  constructor
  · intro h
    have h2 : T.bs.data.toList = U.bs.data.toList := by rw [h]
    unfold Vt.bs at h2
    rw [strOfNums_data, strOfNums_data] at h2
    have hl := congrArg List.length h2
    simp only [List.length_map, List.length_range] at hl
    refine ⟨hl, fun i hi => ?_⟩
    have h3 := congrArg (fun l => l[i]?) h2
    simp only [List.map_map, List.getElem?_map, List.getElem?_range hi, List.getElem?_range (show i < U.h.bn by omega), Option.map_some, Option.some.injEq, Function.comp] at h3
    have a := bT i hi
    have b := bU i (by omega)
    exact byte_inj a.1 a.2 b.1 b.2 h3
  · rintro ⟨h1, h2⟩
    unfold Vt.bs
    rw [← h1]
    congr 1
    exact List.map_congr_left fun i hi => h2 i (List.mem_range.1 hi)
theorem num_neq2 (a : Bool) (s : ByteArray) (e : Int) (a' : Bool) (s' : ByteArray) (e' : Int) (W : World) : (binOp .neq 23 (.agg #[.bool a, .string s, .int .i64 e]) (.agg #[.bool a', .string s', .int .i64 e'])).run Try.prog W = .ok (.bool (!(decide (a = a' ∧ s.toList = s'.toList ∧ e = e')))) W := by
  by_cases h1 : a = a'
  · subst h1
    by_cases h2 : s.toList = s'.toList
    · by_cases h3 : e = e'
      · subst h3
        simp [go_sem, h2]
      · simp [go_sem, h2, h3]
    · simp [go_sem, h2]
  · simp [go_sem, h1]
theorem tim_neq2 (a b c d a' b' c' d' : Int) (W : World) : (binOp .neq 25 (.agg #[.int .i64 a, .int .i64 b, .int .i64 c, .int .i64 d]) (.agg #[.int .i64 a', .int .i64 b', .int .i64 c', .int .i64 d'])).run Try.prog W = .ok (.bool (!(decide (a = a' ∧ b = b' ∧ c = c' ∧ d = d')))) W := by
  by_cases h1 : a = a'
  · by_cases h2 : b = b'
    · by_cases h3 : c = c'
      · by_cases h4 : d = d'
        · subst h1 h2 h3 h4
          simp [go_sem]
        · simp [go_sem, h1, h2, h3, h4]
      · simp [go_sem, h1, h2, h3]
    · simp [go_sem, h1, h2]
  · simp [go_sem, h1]
theorem ba_eq {s t : ByteArray} (h : s.toList = t.toList) : s = t := by
  rw [Lib.toList_data, Lib.toList_data] at h
  exact ByteArray.ext (Array.ext' h)
end Go.Proofs.Ytfkfboiblgoamaa
/- Paths: what a step leads to, walked (access.index, fits, find; datakitref09.Find, Part). -/
namespace Go.Proofs.Ytfkfboiblgoamaa
open Go.RowKit

noncomputable def idxZ (K : Nat → ByteArray) (key : ByteArray) (n : Nat) : Int := if fidx K key n < n then (fidx K key n : Nat) else -1
def Vt.fits (T : Vt) (s : Stp) : Bool := if s.ix = true then T.h.k == 6 else T.h.k == 7
set_option maxHeartbeats 4000000 in
set_option maxRecDepth 100000 in
theorem index_any {T : Vt} {top : Nat} {key : ByteArray} {w : World} (hT : T.In w top) (ht : top ≤ w.heap.size) :
    Calls Try.prog 38 #[.agg T.h.cells, .string key] w fun r w' => r = .returned (.int .i64 (idxZ T.K key T.h.fn)) ∧ Below w.heap.size w w' := by
  cases T with
  | nil => exact hT.elim
  | mk h Y L K F =>
  have hb0 := (Below.refl w.heap.size w).alloc (Nat.le_refl _) (.cells h.cells 30)
  have hfn := hT.1.fn
  have HFa : Hid (0 < h.fn → h.fa = some ⟨h.fb, h.fo, none⟩ ∧ h.fb < w.heap.size) := Lib.hid fun hp => ⟨(hT.2.2.2.2.2.1 hp).1, Nat.lt_of_lt_of_le (hT.2.2.2.2.2.1 hp).2 ht⟩
  have HT := Lib.hid hT.2.2.2.2.2.2
  clear hT
  obtain ⟨R, hR⟩ : ∃ R, idxZ K key h.fn = R := ⟨_, rfl⟩
  simp only [Vt.h, Vt.K]
  rw [hR]
  have HR := Lib.hid hR
  clear hR
  obtain ⟨k, b, n, dd, e, tk, td, tn, tz, x, ba, bn, bc, la, ln, lc, fa, fn, fc, bb, bo, lb, lo, fb, fo⟩ := h
  dsimp only at HFa HT hfn HR
  simp only [Vh.cells] at hb0 ⊢
  have n2 : (0 : Int) ≤ fn := by omega
  have n3 : (fn : Int) ≤ 1048576 := by omega
  go_enter Try.func38, Try.ntmps38
  go_wp2_with fail
  go_loopw [10] (fun i wr => ∃ j : Nat, j ≤ fn ∧ i = .int .i64 j ∧ Hid (∀ t, t < j → K t ≠ key) ∧ Below w.heap.size w wr) (fun i _ => fn - (intOf i).toNat)
  case atStart => exact ⟨0, by omega, rfl, Lib.hid fun t h => absurd h (Nat.not_lt_zero _), hb0⟩
  case round =>
    clear hb0
    obtain ⟨j, hj, rfl, HJ, hbr⟩ := hrel
    have hji : (0 : Int) ≤ j := by omega
    by_cases hjn : j < fn
    · obtain ⟨e1, hlt⟩ := HFa.out (by omega)
      subst e1
      have hji2 : (j : Int) < fn := by omega
      obtain ⟨k0, k1, k2, k3⟩ := HT.out j hjn
      have hl := lies_c14 (lies_fcs ((hbr.cell (p := ⟨fb, fo + j * 14, none⟩) hlt).trans k0) (k2.below hbr hlt))
      obtain ⟨l0, l1, l2, l3, l4, l5, l6, l7, l8, l9, l10, l11, l12, l13⟩ := hl
      have hba := hbr.alloc hbr.size (.cells (fch (K j) (F j).h) 65)
      clear k0 k1 k2 k3
      simp only [fch] at hba
      generalize (F j).h = G at *
      by_cases c : K j = key
      · have hR : R = j := by
          rw [← HR.out]
          unfold idxZ
          rw [fidx_first HJ.out c hjn, if_pos hjn]
        subst hR
        have d1 : ((K j).toList == key.toList) = true := by rw [c]; exact beq_self_eq_true _
        clear HR HJ c HT
        generalize K j = y at *
        go_wp2_with fail
        go_ret
        exact ⟨rfl, hba⟩
      · have d1 : ((K j).toList == key.toList) = false := beq_eq_false_iff_ne.2 fun q => c (ba_eq q)
        have HJ2 : Hid (∀ t, t < j + 1 → K t ≠ key) := Lib.hid fun t ht => by
          by_cases q : t = j
          · subst q; exact c
          · exact HJ.out t (by omega)
        clear HJ c
        generalize K j = y at *
        go_wp2_with fail
        go_roundw
        case rel => exact ⟨j + 1, by omega, by go_num, HJ2, hba⟩
        case measure => simp [intOf]; omega
    · obtain rfl : j = fn := by omega
      have hR : R = -1 := by
        rw [← HR.out]
        unfold idxZ
        rw [fidx_none HJ.out, if_neg (Nat.lt_irrefl _)]
      subst hR
      clear HR HJ HT hjn
      go_wp2
      go_ret
      exact ⟨rfl, hbr⟩
set_option maxHeartbeats 4000000 in
set_option maxRecDepth 100000 in
theorem fits_any {T : Vt} {s : Stp} {w : World} (hk : w64 T.h.k) :
    Calls Try.prog 52 #[.agg T.h.cells, .agg s.cells] w fun r w' => r = .returned (.bool (T.fits s)) ∧ Below w.heap.size w w' := by
  have hb0 := ((Below.refl w.heap.size w).alloc (Nat.le_refl _) (.cells T.h.cells 30)).alloc (by simp) (.cells s.cells 59)
  obtain ⟨ix, key, n⟩ := s
  have hk1 := hk.1
  have hk2 := hk.2
  clear hk
  unfold Vt.fits
  generalize T.h = h at *
  obtain ⟨k, b, n', dd, e, tk, td, tn, tz, x, ba, bn, bc, la, ln, lc, fa, fn, fc, bb, bo, lb, lo, fb, fo⟩ := h
  simp only [Vh.cells, Stp.cells] at hb0 hk1 hk2 ⊢
  cases ix
  · rw [if_neg (by decide)]
    go_enter Try.func52, Try.ntmps52
    go_wp2_with fail
    go_ret
    exact ⟨rfl, hb0⟩
  · rw [if_pos rfl]
    go_enter Try.func52, Try.ntmps52
    go_wp2_with fail
    go_ret
    exact ⟨rfl, hb0⟩
theorem Whole.b3 {W : World} {B : Nat} {t : TypeId} {s : Stp} (H : Whole W B t s.cells) : W.cell? ⟨B, 0, none⟩ = some (.bool s.ix) ∧ W.cell? ⟨B, 1, none⟩ = some (.string s.key) ∧ W.cell? ⟨B, 2, none⟩ = some (.int .i64 s.n) := ⟨H.cell 0, H.cell 1, H.cell 2⟩
theorem below_row {W W' : World} {T : Vt} {top : Nat} (h : T.In W top) (ht : top ≤ W.heap.size) (hb : Below W.heap.size W W') : T.In W' top ∧ top ≤ W'.heap.size := ⟨Vt.In.below (hb.mono ht) h, Nat.le_trans ht hb.size⟩
set_option maxHeartbeats 8000000 in
set_option maxRecDepth 100000 in
theorem find_any {T : Vt} {s : Stp} {top : Nat} {w : World} (hT : T.In w top) (ht : top ≤ w.heap.size) (hs : w64 s.n) :
    Calls Try.prog 41 #[.agg T.h.cells, .agg s.cells] w fun r w' => r = .returned (.tuple #[.int .i64 (T.find s).1, .int .i64 (T.find s).2]) ∧ Below w.heap.size w w' := by
  have hb0 := ((Below.refl w.heap.size w).alloc (Nat.le_refl _) (.cells T.h.cells 30)).alloc (by simp) (.cells s.cells 59)
  have P := (Whole.new w 30 T.h.cells).alloc (.cells s.cells 59)
  have Q := Whole.new (w.alloc (.cells T.h.cells 30)) 59 s.cells
  rw [World.size_alloc] at Q
  have hok : T.h.ok := by cases T with | nil => exact hT.elim | mk h Y L K F => exact hT.1
  have HFi := Lib.hid (fun (w1 : World) => fits_any (T := T) (s := s) (w := w1) hok.k)
  have HIx := Lib.hid (fun (w1 : World) (hb : Below w.heap.size w w1) => index_any (T := T) (key := s.key) (Vt.In.below (hb.mono ht) hT) (Nat.le_trans ht hb.size))
  obtain ⟨R, hR⟩ : ∃ R, T.find s = R := ⟨_, rfl⟩
  rw [hR]
  unfold Vt.find at hR
  have HR := Lib.hid hR
  have hk := hok.k
  have hln := hok.ln
  have hfn := hok.fn
  have hfi := fidx_le T.K s.key T.h.fn
  unfold Vt.fits at HFi
  unfold idxZ at HIx
  clear hR hok hT
  generalize hfx : fidx T.K s.key T.h.fn = fx at *
  clear hfx
  obtain ⟨R1, R2⟩ := R
  generalize T.h = h at *
  obtain ⟨k, b, n', dd, e, tk, td, tn, tz, x, ba, bn, bc, la, ln, lc, fa, fn, fc, bb, bo, lb, lo, fb, fo⟩ := h
  obtain ⟨ix, key, n⟩ := s
  dsimp only at HFi HIx HR hk hln hfn hs hfi
  simp only [Vh.cells, Stp.cells] at hb0 P Q HFi HIx ⊢
  have hs1 := hs.1
  have hs2 := hs.2
  have hk1 := hk.1
  have hk2 := hk.2
  clear hs hk
  have n0 : (0 : Int) ≤ ln := by omega
  have n1 : (ln : Int) ≤ 1048576 := by omega
  cases ix
  · rw [if_neg (by decide)] at HFi
    have hr := HR.out
    rw [if_neg (by decide)] at hr
    by_cases k7 : k = 7
    case neg =>
      rw [if_pos k7, Prod.mk.injEq] at hr
      obtain ⟨rfl, rfl⟩ := hr
      have e7 : (k == 7) = false := beq_eq_false_iff_ne.2 k7
      rw [e7] at HFi
      clear HR e7 k7 HIx
      go_enter Try.func41, Try.ntmps41
      go_wp2_with fail
      refine (HFi.out _).mono ?_; rintro _ w1 ⟨rfl, hb1⟩
      go_wp2
      go_ret2
      exact ⟨rfl, below_then hb0 hb1⟩
    rw [if_neg (by simp [k7])] at hr
    have e7 : (k == 7) = true := beq_iff_eq.2 k7
    rw [e7] at HFi
    have HIx2 : Hid (∀ w1, Below w.heap.size w w1 → Calls Try.prog 38 #[.agg #[.int .i64 k, .bool b, .bool n', .string dd, .int .i64 e, .int .i64 tk, .int .i64 td, .int .i64 tn, .int .i64 tz, .string x, .slice ba bn bc, .slice la ln lc, .slice fa fn fc], .string key] w1 fun r w' => r = .returned (.int .i64 (if fx < fn then (fx : Int) else -1)) ∧ Below w1.heap.size w1 w') := Lib.hid HIx.out
    clear HR e7 k7 HIx
    by_cases c : fx < fn
    · rw [if_pos c, Prod.mk.injEq] at hr
      obtain ⟨rfl, rfl⟩ := hr
      simp only [if_pos c] at HIx2
      have i0 : (0 : Int) ≤ fx := by omega
      have i1 : (fx : Int) ≤ 1048576 := by omega
      clear c
      go_enter Try.func41, Try.ntmps41
      go_wp2_with fail
      refine (HFi.out _).mono ?_; rintro _ w1 ⟨rfl, hb1⟩
      have g1 := below_then hb0 hb1
      have P1 := P.below hb1 P.lt
      have Q1 := Q.below hb1 Q.lt
      obtain ⟨c0, c1, c2, c3, c4, c5, c6, c7, c8, c9, c10, c11, c12⟩ := Whole.c13 (h := ⟨k, b, n', dd, e, tk, td, tn, tz, x, ba, bn, bc, la, ln, lc, fa, fn, fc, bb, bo, lb, lo, fb, fo⟩) P1
      obtain ⟨q0, q1, q2⟩ := Whole.b3 (s := ⟨false, key, n⟩) Q1
      dsimp only at c0 c1 c2 c3 c4 c5 c6 c7 c8 c9 c10 c11 c12 q0 q1 q2
      go_wp2_with fail
      refine (HIx2.out _ g1).mono ?_; rintro _ w2 ⟨rfl, hb2⟩
      have g2 := below_then g1 hb2
      obtain ⟨r0, r1, r2⟩ := Whole.b3 (s := ⟨false, key, n⟩) (Q1.below hb2 Q1.lt)
      dsimp only at r0 r1 r2
      clear c0 c1 c2 c3 c4 c5 c6 c7 c8 c9 c10 c11 c12 q0 q1 q2 P1 Q1 P Q hb0 hb1 hb2 g1
      go_wp2_with fail
      go_ret2
      exact ⟨rfl, g2⟩
    · rw [if_neg c, Prod.mk.injEq] at hr
      obtain ⟨rfl, rfl⟩ := hr
      simp only [if_neg c] at HIx2
      clear c
      go_enter Try.func41, Try.ntmps41
      go_wp2_with fail
      refine (HFi.out _).mono ?_; rintro _ w1 ⟨rfl, hb1⟩
      have g1 := below_then hb0 hb1
      have P1 := P.below hb1 P.lt
      have Q1 := Q.below hb1 Q.lt
      obtain ⟨c0, c1, c2, c3, c4, c5, c6, c7, c8, c9, c10, c11, c12⟩ := Whole.c13 (h := ⟨k, b, n', dd, e, tk, td, tn, tz, x, ba, bn, bc, la, ln, lc, fa, fn, fc, bb, bo, lb, lo, fb, fo⟩) P1
      obtain ⟨q0, q1, q2⟩ := Whole.b3 (s := ⟨false, key, n⟩) Q1
      dsimp only at c0 c1 c2 c3 c4 c5 c6 c7 c8 c9 c10 c11 c12 q0 q1 q2
      go_wp2_with fail
      refine (HIx2.out _ g1).mono ?_; rintro _ w2 ⟨rfl, hb2⟩
      have g2 := below_then g1 hb2
      clear c0 c1 c2 c3 c4 c5 c6 c7 c8 c9 c10 c11 c12 q0 q1 q2 P1 Q1 P Q hb0 hb1 hb2 g1
      go_wp2_with fail
      go_ret2
      exact ⟨rfl, g2⟩
  · rw [if_pos rfl] at HFi
    have hr := HR.out
    rw [if_pos rfl] at hr
    by_cases k6 : k = 6
    case neg =>
      rw [if_pos k6, Prod.mk.injEq] at hr
      obtain ⟨rfl, rfl⟩ := hr
      have e6 : (k == 6) = false := beq_eq_false_iff_ne.2 k6
      rw [e6] at HFi
      clear HR e6 k6 HIx
      go_enter Try.func41, Try.ntmps41
      go_wp2_with fail
      refine (HFi.out _).mono ?_; rintro _ w1 ⟨rfl, hb1⟩
      go_wp2
      go_ret2
      exact ⟨rfl, below_then hb0 hb1⟩
    rw [if_neg (by simp [k6])] at hr
    have e6 : (k == 6) = true := beq_iff_eq.2 k6
    rw [e6] at HFi
    clear HR e6 k6 HIx
    by_cases c : n < 0
    · rw [if_pos (.inl c), Prod.mk.injEq] at hr
      obtain ⟨rfl, rfl⟩ := hr
      go_enter Try.func41, Try.ntmps41
      go_wp2_with fail
      refine (HFi.out _).mono ?_; rintro _ w1 ⟨rfl, hb1⟩
      obtain ⟨q0, q1, q2⟩ := Whole.b3 (s := ⟨true, key, n⟩) (Q.below hb1 Q.lt)
      dsimp only at q0 q1 q2
      go_wp2_with fail
      go_ret2
      exact ⟨rfl, below_then hb0 hb1⟩
    have cn : decide (n < 0) = false := decide_eq_false c
    have c0' : 0 ≤ n := by omega
    by_cases c2' : (ln : Int) ≤ n
    · rw [if_pos (.inr c2'), Prod.mk.injEq] at hr
      obtain ⟨rfl, rfl⟩ := hr
      go_enter Try.func41, Try.ntmps41
      go_wp2_with fail
      refine (HFi.out _).mono ?_; rintro _ w1 ⟨rfl, hb1⟩
      obtain ⟨q0, q1, q2⟩ := Whole.b3 (s := ⟨true, key, n⟩) (Q.below hb1 Q.lt)
      obtain ⟨-, -, -, -, -, -, -, -, -, -, -, c11, -⟩ := Whole.c13 (h := ⟨k, b, n', dd, e, tk, td, tn, tz, x, ba, bn, bc, la, ln, lc, fa, fn, fc, bb, bo, lb, lo, fb, fo⟩) (P.below hb1 P.lt)
      dsimp only at q0 q1 q2 c11
      go_wp2_with fail
      go_ret2
      exact ⟨rfl, below_then hb0 hb1⟩
    · rw [if_neg (by omega), Prod.mk.injEq] at hr
      obtain ⟨rfl, rfl⟩ := hr
      have cd : decide ((ln : Int) ≤ n) = false := decide_eq_false c2'
      go_enter Try.func41, Try.ntmps41
      go_wp2_with fail
      refine (HFi.out _).mono ?_; rintro _ w1 ⟨rfl, hb1⟩
      obtain ⟨q0, q1, q2⟩ := Whole.b3 (s := ⟨true, key, n⟩) (Q.below hb1 Q.lt)
      obtain ⟨-, -, -, -, -, -, -, -, -, -, -, c11, -⟩ := Whole.c13 (h := ⟨k, b, n', dd, e, tk, td, tn, tz, x, ba, bn, bc, la, ln, lc, fa, fn, fc, bb, bo, lb, lo, fb, fo⟩) (P.below hb1 P.lt)
      dsimp only at q0 q1 q2 c11
      go_wp2_with fail
      go_ret2
      exact ⟨rfl, below_then hb0 hb1⟩
end Go.Proofs.Ytfkfboiblgoamaa
/- Values changed at a path, walked (access.change). -/
namespace Go.Proofs.Ytfkfboiblgoamaa
open Go.RowKit

/-- What a change answers. -/
def FnOut (R0 : Vt) (n0 : Nat) (w : World) (e : Ending) (w' : World) : Prop :=
  ∃ X : Vt, e = .returned (.agg #[.int .i64 X.h.k, .bool X.h.b, .bool X.h.n, .string X.h.d, .int .i64 X.h.e, .int .i64 X.h.tk, .int .i64 X.h.td, .int .i64 X.h.tn, .int .i64 X.h.tz, .string X.h.x, .slice X.h.ba X.h.bn X.h.bc, .slice X.h.la X.h.ln X.h.lc, .slice X.h.fa X.h.fn X.h.fc]) ∧ X.In w' w'.heap.size ∧ X.Off (fun b => b < n0 ∨ w.heap.size ≤ b) ∧ X.Same R0 ∧ Below w.heap.size w w'
def FnOk (F : Nat) (cap : Array Value) (g : Vt → Vt) (pre : Vt → Prop) (W0 : World) (n0 : Nat) : Prop :=
  ∀ (w : World) (U : Vt), Below n0 W0 w → U.In w n0 → pre U → Calls Try.prog F (#[.agg U.h.cells] ++ cap) w (FnOut (g U) n0 w)

/-! ### cells written one after the other -/
def setN (C : Array Value) : Nat → List Value → Array Value
  | _, [] => C
  | o, v :: r => setN (C.setIfInBounds o v) (o + 1) r
theorem setN_size : ∀ (vs : List Value) (C : Array Value) (o : Nat), (setN C o vs).size = C.size := by
  intro vs
  induction vs with
  | nil => intro C o; rfl
  | cons v r ih => intro C o; rw [setN, ih]; simp
theorem setN_out : ∀ (vs : List Value) (C : Array Value) (o k : Nat), (k < o ∨ o + vs.length ≤ k) → (setN C o vs)[k]? = C[k]? := by
  intro vs
  induction vs with
  | nil => intro C o k _; rfl
  | cons v r ih =>
    intro C o k h
    simp only [List.length_cons] at h
    rw [setN, ih _ _ _ (by omega), Array.getElem?_setIfInBounds_ne (by omega)]
theorem setN_in : ∀ (vs : List Value) (C : Array Value) (o j : Nat), o + vs.length ≤ C.size → j < vs.length → (setN C o vs)[o + j]? = vs[j]? := by
  intro vs
  induction vs with
  | nil => intro C o j _ h; exact absurd h (Nat.not_lt_zero _)
  | cons v r ih =>
    intro C o j hl hj
    simp only [List.length_cons] at hl hj
    rw [setN]
    match j, hj with
    | 0, _ =>
      have e := setN_out r (C.setIfInBounds o v) (o + 1) o (.inl (Nat.lt_succ_self o))
      show (setN (C.setIfInBounds o v) (o + 1) r)[o]? = some v
      rw [e, Array.getElem?_setIfInBounds_self_of_lt (by omega)]
    | j + 1, hj =>
      rw [show o + (j + 1) = o + 1 + j by omega, ih _ _ _ (by simp; omega) (by omega), List.getElem?_cons_succ]
theorem Whole.setCells {g : Nat} {t : TypeId} : ∀ (vs : List Value) {W : World} {C : Array Value} (o : Nat), Whole W g t C → Whole (W.setCells g o vs) g t (setN C o vs) := by
  intro vs
  induction vs with
  | nil => intro W C o h; exact h
  | cons v r ih => intro W C o h; exact ih (o + 1) (h.set o v)
theorem heap_setCells {g k : Nat} (hk : k ≠ g) : ∀ (vs : List Value) (W : World) (o : Nat), (W.setCells g o vs).heap[k]? = W.heap[k]? := by
  intro vs
  induction vs with
  | nil => intro W o; rfl
  | cons v r ih => intro W o; rw [World.setCells, ih]; exact Below.heap_setCell _ _ _ _ (by simpa using hk)
theorem size_setCells {g : Nat} : ∀ (vs : List Value) (W : World) (o : Nat), (W.setCells g o vs).heap.size = W.heap.size := by
  intro vs
  induction vs with
  | nil => intro W o; rfl
  | cons v r ih => intro W o; rw [World.setCells, ih]; simp
theorem below_setCells {n g : Nat} {a : World} (hg : n ≤ g) : ∀ (vs : List Value) {W : World} (o : Nat), Below n a W → Below n a (W.setCells g o vs) := by
  intro vs
  induction vs with
  | nil => intro W o h; exact h
  | cons v r ih => intro W o h; exact ih (o + 1) (h.setCell (p := ⟨g, o, none⟩) hg v)
theorem whole_there {W : World} {g o n : Nat} {t : TypeId} {C : Array Value} (h : Whole W g t C) (hn : o + n ≤ C.size) : W.there g o n := fun j hj => by
  refine ⟨?_, h.frozen _⟩
  rw [h.cell, Array.getElem?_eq_getElem (by omega)]
  rfl
theorem stp_size : (Try.prog.info? 59).map (·.size) = some 3 := by kernel_rfl
theorem elem_path : Try.prog.elem 37 = 59 := by kernel_rfl
/-- A path without its first step. -/
theorem slice_rest {b o m c : Nat} (hc : m + 1 ≤ c) (hm : m ≤ 1048576) : ∃ a1 : Addr, (a1 = ⟨b, o + 3, none⟩ ∨ m = 0) ∧
    ∀ W, (Instr.sliceAt 37 (.slice (some ⟨b, o, none⟩) (m + 1) c) (some (.int .i64 1)) none none).run Try.prog W = .ok (.slice (some a1) m (c - 1)) W := by
  have hu : Try.prog.underlying 37 = some (.slice (Try.prog.elem 37)) := by rw [elem_path]; exact Try.underlying37
  refine ⟨if c = 1 then ⟨b, o, none⟩ else ⟨b, o + 3, none⟩, ?_, fun W => ?_⟩
  · by_cases h : c = 1
    · exact .inr (by omega)
    · exact .inl (if_neg h)
  · rw [run_sliceAt_slice _ _ _ _ _ _ hu, run_slice_l _ _ _ _ _ hu .i64 1 (by omega) (by omega), elem_path]
    cases hq : Try.prog.info? 59 with
    | none => have := stp_size; rw [hq] at this; cases this
    | some i =>
      have hi : i.size = 3 := by have := stp_size; rw [hq] at this; simpa using this
      by_cases h : c = 1
      · subst h
        obtain rfl : m = 0 := by omega
        simp [sizeOf, typeInfo, hq, hi, sliced, Result.andThen]
      · simp [sizeOf, typeInfo, hq, hi, sliced, Result.andThen, h, Addr.add]
/-- One value of a row written anew. -/
theorem row_set {W : World} {g n C i : Nat} {t : TypeId} {f : Nat → Array Value} {cur : Array Value} {x : Array Value} (hf : ∀ j, (f j).size = C) (hx : x.size = C) (hi : i < n) (hg : Whole W g t cur) (hs : n * C ≤ cur.size) (hrow : ∀ j, j < n → LiesAt W g (j * C) (f j)) :
    ∀ j, j < n → LiesAt (W.setCells g (i * C) x.toList) g (j * C) (if j = i then x else f j) := by
  have hG := hg.setCells x.toList (i * C)
  have hfit : i * C + x.toList.length ≤ cur.size := by
    have : (i + 1) * C ≤ n * C := Nat.mul_le_mul_right C hi
    rw [Nat.succ_mul] at this
    simp only [Array.length_toList]
    omega
  intro j hj k hk
  rw [show (W.setCells g (i * C) x.toList).cell? ⟨g, j * C + k, none⟩ = (setN cur (i * C) x.toList)[j * C + k]? from hG.cell _]
  by_cases e : j = i
  · subst e
    rw [if_pos rfl] at hk ⊢
    rw [setN_in _ _ _ _ hfit (by simpa using hk), Array.getElem?_toList]
  · rw [if_neg e] at hk ⊢
    rw [hf] at hk
    have := hrow j hj k (by rw [hf]; exact hk)
    rw [show W.cell? ⟨g, j * C + k, none⟩ = cur[j * C + k]? from hg.cell _] at this
    rw [setN_out _ _ _ _ ?_, this]
    simp only [Array.length_toList, hx]
    rcases Nat.lt_or_ge j i with h | h
    · have : (j + 1) * C ≤ i * C := Nat.mul_le_mul_right C h
      rw [Nat.succ_mul] at this
      omega
    · have : (i + 1) * C ≤ j * C := Nat.mul_le_mul_right C (by omega)
      rw [Nat.succ_mul] at this
      omega
/-- One field's value of a row written anew. -/
theorem row_setF {W : World} {g n i : Nat} {t : TypeId} {K : Nat → ByteArray} {F : Nat → Vt} {cur : Array Value} {X : Vt} (hi : i < n) (hg : Whole W g t cur) (hs : n * 14 ≤ cur.size) (hrow : ∀ j, j < n → LiesAt W g (j * 14) (fcs (K j, F j))) :
    ∀ j, j < n → LiesAt (W.setCells g (i * 14 + 1) X.h.cells.toList) g (j * 14) (fcs (K j, if j = i then X else F j)) := by
  have hG := hg.setCells X.h.cells.toList (i * 14 + 1)
  have hlen : X.h.cells.toList.length = 13 := rfl
  have hfit : i * 14 + 1 + X.h.cells.toList.length ≤ cur.size := by
    have : (i + 1) * 14 ≤ n * 14 := Nat.mul_le_mul_right 14 hi
    omega
  intro j hj k hk
  have hk' : k < 14 := hk
  rw [show (W.setCells g (i * 14 + 1) X.h.cells.toList).cell? ⟨g, j * 14 + k, none⟩ = (setN cur (i * 14 + 1) X.h.cells.toList)[j * 14 + k]? from hG.cell _]
  have hold : ∀ m, m < 14 → cur[j * 14 + m]? = (fcs (K j, F j))[m]? := fun m hm => by
    rw [← hrow j hj m hm]
    exact (hg.cell _).symm
  by_cases e : j = i
  · subst e
    rw [if_pos rfl]
    match k, hk' with
    | 0, _ => rw [setN_out X.h.cells.toList cur (j * 14 + 1) (j * 14 + 0) (.inl (by omega))]; exact hold 0 (by decide)
    | m + 1, hm =>
      rw [show j * 14 + (m + 1) = j * 14 + 1 + m by omega, setN_in _ _ _ _ hfit (by omega)]
      match m, hm with
      | 0, _ | 1, _ | 2, _ | 3, _ | 4, _ | 5, _ | 6, _ | 7, _ | 8, _ | 9, _ | 10, _ | 11, _ | 12, _ => rfl
  · rw [if_neg e, setN_out _ _ _ _ ?_, hold k hk']
    rcases Nat.lt_or_ge j i with h | h
    · left; omega
    · right; omega
/-- A made row is a block known whole. -/
theorem made_whole {w : World} {base size g n : Nat} {e : TypeId} {xs : List Value} (h : w.ownsRow base e size (.slice (some ⟨g, 0, none⟩) n n) n xs) : ∃ cur, Whole w g e cur ∧ cur.size = n * size := by
  rcases h.2 with ⟨h0, _⟩ | ⟨g', cap, cur, h0, _, h2, _, _, h4, _⟩
  · cases h0
  · cases h0
    exact ⟨cur, h2, h4⟩
/-- A row that is copied whole. -/
theorem row_copied {W : World} {g n C : Nat} {t : TypeId} {f : Nat → Array Value} {cur : Array Value} (hf : ∀ j, (f j).size = C) (hg : Whole W g t cur) (hs : cur.size = n * C) :
    Whole (W.setRow g (spl cur 0 (catN f n))) g t (catN f n).toArray ∧ ∀ j, j < n → LiesAt (W.setRow g (spl cur 0 (catN f n))) g (j * C) (f j) := by
  have hl := catN_len hf n
  have e : spl cur 0 (catN f n) = (catN f n).toArray := by
    unfold spl
    rw [List.take_zero, List.nil_append, List.drop_eq_nil_of_le (by simp; omega), List.append_nil]
  rw [e]
  have hw := hg.setRow (catN f n).toArray
  refine ⟨hw, fun j hj k hk => ?_⟩
  rw [hf] at hk
  rw [hw.cell, List.getElem?_toArray]
  exact catN_get hf hk hj
/-- A value whose list lies anew. -/
theorem list_anew {V W : World} {n0 g c' : Nat} {S : Nat → Prop} {h : Vh} {Y : Nat → Int} {L : Nat → Vt} {K : Nat → ByteArray} {F : Nat → Vt} {M : Nat → Vt} (hT : (Vt.mk h Y L K F).In V n0) (hb : Below n0 V W) (hn0 : n0 ≤ W.heap.size) (hg : g < W.heap.size) (hgS : S g) (hS : ∀ b, b < n0 → S b)
    {m : Nat} (hm : m ≤ 1048576) (hc : m ≤ c' ∧ c' ≤ maxLen) (hrow : ∀ j, j < m → LiesAt W g (j * 13) (M j).h.cells) (hM : ∀ j, j < m → (M j).In W W.heap.size ∧ (M j).Off S) :
    (Vt.mk { h with la := some ⟨g, 0, none⟩, ln := m, lc := c', lb := g, lo := 0 } Y M K F).In W W.heap.size ∧ (Vt.mk { h with la := some ⟨g, 0, none⟩, ln := m, lc := c', lb := g, lo := 0 } Y M K F).Off S := by
  have hT2 := hT.below hb
  obtain ⟨h0, h1, h2, h3, h4, h5, h6⟩ := hT2
  refine ⟨⟨⟨h0.k, h0.e, h0.tk, h0.td, h0.tn, h0.tz, h0.d, h0.x, h0.bn, hm, h0.fn, hc, h0.fc⟩, fun q => ⟨(h1 q).1, Nat.lt_of_lt_of_le (h1 q).2 hn0⟩, h2, fun _ => ⟨rfl, hg⟩, fun i hi => ⟨by rw [Nat.zero_add]; exact hrow i hi, (hM i hi).1⟩, fun q => ⟨(h5 q).1, Nat.lt_of_lt_of_le (h5 q).2 hn0⟩, fun i hi => ⟨(h6 i hi).1, (h6 i hi).2.1, (h6 i hi).2.2.1, (h6 i hi).2.2.2.up hn0⟩⟩, ?_⟩
  exact ⟨fun q => hS _ (h1 q).2, fun _ => hgS, fun i hi => (hM i hi).2, fun q => hS _ (h5 q).2, fun i hi => (h6 i hi).2.2.2.off.mono fun b hb => hS b hb⟩
/-- A value whose fields lie anew. -/
theorem fields_anew {V W : World} {n0 g c' : Nat} {S : Nat → Prop} {h : Vh} {Y : Nat → Int} {L : Nat → Vt} {K : Nat → ByteArray} {F : Nat → Vt} {K' : Nat → ByteArray} {M : Nat → Vt} (hT : (Vt.mk h Y L K F).In V n0) (hb : Below n0 V W) (hn0 : n0 ≤ W.heap.size) (hg : g < W.heap.size) (hgS : S g) (hS : ∀ b, b < n0 → S b)
    {m : Nat} (hm : m ≤ 1048576) (hc : m ≤ c' ∧ c' ≤ maxLen) (hrow : ∀ j, j < m → LiesAt W g (j * 14) (fcs (K' j, M j))) (hM : ∀ j, j < m → (K' j).size ≤ 1048576 ∧ (M j).In W W.heap.size ∧ (M j).Off S) :
    (Vt.mk { h with fa := some ⟨g, 0, none⟩, fn := m, fc := c', fb := g, fo := 0 } Y L K' M).In W W.heap.size ∧ (Vt.mk { h with fa := some ⟨g, 0, none⟩, fn := m, fc := c', fb := g, fo := 0 } Y L K' M).Off S := by
  have hT2 := hT.below hb
  obtain ⟨h0, h1, h2, h3, h4, h5, h6⟩ := hT2
  refine ⟨⟨⟨h0.k, h0.e, h0.tk, h0.td, h0.tn, h0.tz, h0.d, h0.x, h0.bn, h0.ln, hm, h0.lc, hc⟩, fun q => ⟨(h1 q).1, Nat.lt_of_lt_of_le (h1 q).2 hn0⟩, h2, fun q => ⟨(h3 q).1, Nat.lt_of_lt_of_le (h3 q).2 hn0⟩, fun i hi => ⟨(h4 i hi).1, (h4 i hi).2.up hn0⟩, fun _ => ⟨rfl, hg⟩, fun i hi => ?_⟩, ?_⟩
  · obtain ⟨k1, k2⟩ := (hrow i hi).fcs
    simp only [Nat.zero_add]
    exact ⟨k1, (hM i hi).1, k2, (hM i hi).2.1⟩
  · exact ⟨fun q => hS _ (h1 q).2, fun q => hS _ (h3 q).2, fun i hi => (h4 i hi).2.off.mono fun b hb => hS b hb, fun _ => hgS, fun i hi => (hM i hi).2.2⟩
/-- The end of a change of a list's element. -/
theorem chgL_end {h : Vh} {Y : Nat → Int} {L : Nat → Vt} {K : Nat → ByteArray} {F : Nat → Vt} {w W : World} {n0 gg i : Nat} {X R0 : Vt} (hT : (Vt.mk h Y L K F).In w n0) (hb : Below w.heap.size w W) (hn0 : n0 ≤ w.heap.size) (hgg : w.heap.size ≤ gg) (hglt : gg < W.heap.size)
    (hrow : ∀ j, j < h.ln → LiesAt W gg (j * 13) (if j = i then X.h.cells else (L j).h.cells)) (hX : X.In W W.heap.size) (hXo : X.Off (fun b => b < n0 ∨ w.heap.size ≤ b)) (hXs : X.Same R0) :
    FnOut ((Vt.mk h Y L K F).setL i R0) n0 w (.returned (.agg #[.int .i64 h.k, .bool h.b, .bool h.n, .string h.d, .int .i64 h.e, .int .i64 h.tk, .int .i64 h.td, .int .i64 h.tn, .int .i64 h.tz, .string h.x, .slice h.ba h.bn h.bc, .slice (some ⟨gg, 0, none⟩) h.ln h.ln, .slice h.fa h.fn h.fc])) W := by
  have hok := hT.1
  have hTW := hT.below (hb.mono hn0)
  have hz := hb.size
  obtain ⟨h1, h2⟩ := list_anew (S := fun b => b < n0 ∨ w.heap.size ≤ b) (M := fun j => if j = i then X else L j) (c' := h.ln) hT (hb.mono hn0) (by omega) hglt (.inr hgg) (fun b hb => .inl hb) hok.ln ⟨Nat.le_refl _, by have := hok.lc; omega⟩
    (fun j hj => by
      have := hrow j hj
      split
      · rename_i e; rw [if_pos e] at this; exact this
      · rename_i e; rw [if_neg e] at this; exact this)
    (fun j hj => by
      split
      · exact ⟨hX, hXo⟩
      · have hl := (hTW.2.2.2.2.1 j hj).2
        exact ⟨hl.up (by omega), hl.off.mono fun b hb => .inl hb⟩)
  refine ⟨_, rfl, h1, h2, ?_, hb⟩
  refine ⟨(fun e => by cases e), ⟨rfl, rfl, rfl, rfl, rfl, rfl, rfl, rfl, rfl, rfl, rfl, rfl, rfl⟩, fun _ _ => rfl, fun j hj => ?_, fun j hj => ⟨rfl, Vt.Same.rfl' (hT.whole.2 j hj)⟩⟩
  show Vt.Same (if j = i then X else L j) (if j = i then R0 else L j)
  split
  · exact hXs
  · exact Vt.Same.rfl' (hT.whole.1 j hj)
/-- The end of a change of a field's value. -/
theorem chgF_end {h : Vh} {Y : Nat → Int} {L : Nat → Vt} {K : Nat → ByteArray} {F : Nat → Vt} {w W : World} {n0 gg i : Nat} {X R0 : Vt} (hT : (Vt.mk h Y L K F).In w n0) (hb : Below w.heap.size w W) (hn0 : n0 ≤ w.heap.size) (hgg : w.heap.size ≤ gg) (hglt : gg < W.heap.size)
    (hrow : ∀ j, j < h.fn → LiesAt W gg (j * 14) (fcs (K j, if j = i then X else F j))) (hX : X.In W W.heap.size) (hXo : X.Off (fun b => b < n0 ∨ w.heap.size ≤ b)) (hXs : X.Same R0) :
    FnOut ((Vt.mk h Y L K F).setF i R0) n0 w (.returned (.agg #[.int .i64 h.k, .bool h.b, .bool h.n, .string h.d, .int .i64 h.e, .int .i64 h.tk, .int .i64 h.td, .int .i64 h.tn, .int .i64 h.tz, .string h.x, .slice h.ba h.bn h.bc, .slice h.la h.ln h.lc, .slice (some ⟨gg, 0, none⟩) h.fn h.fn])) W := by
  have hok := hT.1
  have hTW := hT.below (hb.mono hn0)
  have hz := hb.size
  obtain ⟨h1, h2⟩ := fields_anew (S := fun b => b < n0 ∨ w.heap.size ≤ b) (K' := K) (M := fun j => if j = i then X else F j) (c' := h.fn) hT (hb.mono hn0) (by omega) hglt (.inr hgg) (fun b hb => .inl hb) hok.fn ⟨Nat.le_refl _, by have := hok.fc; omega⟩ hrow
    (fun j hj => by
      have hl := hTW.2.2.2.2.2.2 j hj
      refine ⟨hl.2.1, ?_⟩
      split
      · exact ⟨hX, hXo⟩
      · exact ⟨hl.2.2.2.up (by omega), hl.2.2.2.off.mono fun b hb => .inl hb⟩)
  refine ⟨_, rfl, h1, h2, ?_, hb⟩
  refine ⟨(fun e => by cases e), ⟨rfl, rfl, rfl, rfl, rfl, rfl, rfl, rfl, rfl, rfl, rfl, rfl, rfl⟩, fun _ _ => rfl, fun j hj => Vt.Same.rfl' (hT.whole.1 j hj), fun j hj => ⟨rfl, ?_⟩⟩
  show Vt.Same (if j = i then X else F j) (if j = i then R0 else F j)
  split
  · exact hXs
  · exact Vt.Same.rfl' (hT.whole.2 j hj)
/-- A tree through worlds that differ in a few blocks. -/
theorem Vt.In.through {W W' : World} {T : Vt} {n0 : Nat} {lo : Nat} (h : T.In W W.heap.size) (ho : T.Off (fun b => b < n0 ∨ lo ≤ b)) (hs : ∀ b, (b < n0 ∨ lo ≤ b) → W'.heap[b]? = W.heap[b]?) (hz : W.heap.size ≤ W'.heap.size) : T.In W' W'.heap.size :=
  Vt.In.turn (S := fun b => b < n0 ∨ lo ≤ b) (fun b hb hlt => ⟨hs b hb, by omega⟩) h ho
end Go.Proofs.Ytfkfboiblgoamaa
