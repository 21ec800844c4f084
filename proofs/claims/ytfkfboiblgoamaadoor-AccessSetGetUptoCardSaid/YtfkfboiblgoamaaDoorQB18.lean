/- Laid together for a claim: VtSameW, VtGet, VtRefM, VtRefN. -/
import Derived.Test.YtfkfboiblgoamaaDoorQB14
import Derived.Test.YtfkfboiblgoamaaDoorQB05
import Derived.Test.YtfkfboiblgoamaaDoorQB08
import Derived.StillTailTactics
import Derived.Deep.QuietTactic
import Derived.BigQuiet
import Derived.WalkSmall
import Derived.Test.YtfkfboiblgoamaaDoorQB16
import Derived.Test.YtfkfboiblgoamaaDoorQB17
import Derived.Test.YtfkfboiblgoamaaDoorQB15
/- Values: datakitref07.Same. -/
namespace Go.Proofs.YtfkfboiblgoamaaDoor
open Go.RowKit

noncomputable def sameB (T U : Vt) : Bool := @decide (T.Same U) (Classical.propDecidable _)
theorem sameB_iff {T U : Vt} : sameB T U = true ↔ T.Same U := @decide_eq_true_iff _ (Classical.propDecidable _)
theorem sameB_no {T U : Vt} : sameB T U = false ↔ ¬ T.Same U := @decide_eq_false_iff_not _ (Classical.propDecidable _)
def SameIs (T : Vt) : Prop := ∀ (U : Vt) (top : Nat) (w : World), T.In w top → U.In w top → top ≤ w.heap.size →
    Calls Tryd.prog 14 #[.agg T.h.cells, .agg U.h.cells] w fun r w' => r = .returned (.bool (sameB T U)) ∧ Below w.heap.size w w'
set_option maxHeartbeats 8000000 in
set_option maxRecDepth 100000 in
theorem same_any : ∀ T : Vt, SameIs T := by
  intro T
  induction T with
  | nil => exact fun _ _ _ h => h.elim
  | mk h Y L K F ihL ihF =>
  intro U top w hT hU ht
  cases U with
  | nil => exact hU.elim
  | mk g Y' L' K' F' =>
  have hb0 := ((Below.refl w.heap.size w).alloc (Nat.le_refl _) (.cells h.cells 30)).alloc (by simp) (.cells g.cells 30)
  have P := (Whole.new w 30 h.cells).alloc (.cells g.cells 30)
  have Q := Whole.new (w.alloc (.cells h.cells 30)) 30 g.cells
  rw [World.size_alloc] at Q
  have cv1 := conv_bs (Vt.In.below (hb0.mono ht) hT)
  have cv2 := conv_bs (Vt.In.below (hb0.mono ht) hU)
  have hbs := bs_eq hT hU
  have hk := hT.1.k
  have hk' := hU.1.k
  have hln := hT.1.ln
  have hln' := hU.1.ln
  have hfn := hT.1.fn
  have hfn' := hU.1.fn
  have HT := Lib.hid hT
  have HU := Lib.hid hU
  have HL := Lib.hid ihL
  have HF := Lib.hid ihF
  clear hT hU ihL ihF
  obtain ⟨R, hR⟩ : ∃ R, sameB (.mk h Y L K F) (.mk g Y' L' K' F') = R := ⟨_, rfl⟩
  rw [hR]
  have HR := Lib.hid hR
  clear hR
  have HN : Hid (¬ h.flat g → R = false) := Lib.hid fun q => by rw [← HR.out]; exact sameB_no.2 fun s => q s.flat
  have HNb : Hid ((Vt.mk h Y L K F).bs ≠ (Vt.mk g Y' L' K' F').bs → R = false) := Lib.hid fun q => by rw [← HR.out]; exact sameB_no.2 fun s => q (hbs.2 ⟨s.flat.bn, fun i hi => s.Y hi⟩)
  have HY : Hid ((Vt.mk h Y L K F).bs = (Vt.mk g Y' L' K' F').bs → h.bn = g.bn ∧ ∀ i, i < h.bn → Y i = Y' i) := Lib.hid fun q => hbs.1 q
  clear hbs
  obtain ⟨X, hX⟩ : ∃ X, (Vt.mk h Y L K F).bs = X := ⟨_, rfl⟩
  obtain ⟨X', hX'⟩ : ∃ X', (Vt.mk g Y' L' K' F').bs = X' := ⟨_, rfl⟩
  rw [hX] at cv1 HNb HY
  rw [hX'] at cv2 HNb HY
  clear hX hX'
  obtain ⟨k, b, n, d, e, tk, td, tn, tz, x, ba, bn, bc, la, ln, lc, fa, fn, fc, bb, bo, lb, lo, fb, fo⟩ := h
  obtain ⟨k', b', n', d', e', tk', td', tn', tz', x', ba', bn', bc', la', ln', lc', fa', fn', fc', bb', bo', lb', lo', fb', fo'⟩ := g
  dsimp only at hk hk' hln hln' hfn hfn' HY
  have hk1 := hk.1
  have hk2 := hk.2
  have hk1' := hk'.1
  have hk2' := hk'.2
  clear hk hk'
  simp only [Vt.h, Vh.cells] at hb0 P Q cv1 cv2 ⊢
  by_cases c1 : k = k'
  case neg =>
    have hR : R = false := HN.out fun q => c1 q.k
    subst hR
    have d1 : (k == k') = false := beq_eq_false_iff_ne.2 c1
    have d2 : (k != k') = true := by simpa using c1
    clear HR HN HNb HY HL HF HT HU P Q c1
    go_enter Tryd.func14, Tryd.ntmps14
    go_wp2_with fail
    go_ret
    exact ⟨rfl, hb0⟩
  subst c1
  by_cases c2 : b = b'
  case neg =>
    have hR : R = false := HN.out fun q => c2 q.b
    subst hR
    clear HR HN HNb HY HL HF HT HU P Q
    cases b <;> cases b' <;> first
      | exact absurd rfl c2
      | (clear c2
         go_enter Tryd.func14, Tryd.ntmps14
         go_wp2_with fail
         go_ret
         exact ⟨rfl, hb0⟩)
  subst c2
  by_cases c3 : n = n' ∧ d.toList = d'.toList ∧ e = e'
  case neg =>
    have hR : R = false := HN.out fun q => c3 ⟨q.n, by rw [show d = d' from q.d], q.e⟩
    subst hR
    have qn := num_neq2 n d e n' d' e'
    rw [decide_eq_false c3] at qn
    clear HR HN HNb HY HL HF HT HU P Q c3
    go_enter Tryd.func14, Tryd.ntmps14
    go_wp2_with fail
    go_ret
    exact ⟨rfl, hb0⟩
  obtain ⟨c3, c3', c3''⟩ := c3
  have c3 := c3
  obtain rfl := ba_eq c3'
  subst c3 c3''
  clear c3'
  have qn := num_neq2 n d e n d e
  rw [decide_eq_true ⟨rfl, rfl, rfl⟩] at qn
  by_cases c4 : tk = tk' ∧ td = td' ∧ tn = tn' ∧ tz = tz'
  case neg =>
    have hR : R = false := HN.out fun q => c4 ⟨q.tk, q.td, q.tn, q.tz⟩
    subst hR
    have qt := tim_neq2 tk td tn tz tk' td' tn' tz'
    rw [decide_eq_false c4] at qt
    clear HR HN HNb HY HL HF HT HU P Q c4
    go_enter Tryd.func14, Tryd.ntmps14
    go_wp2_with fail
    go_ret
    exact ⟨rfl, hb0⟩
  obtain ⟨rfl, rfl, rfl, rfl⟩ := c4
  have qt := tim_neq2 tk td tn tz tk td tn tz
  rw [decide_eq_true ⟨rfl, rfl, rfl, rfl⟩] at qt
  by_cases c5 : x.toList = x'.toList
  case neg =>
    have hR : R = false := HN.out fun q => c5 (by rw [show x = x' from q.x])
    subst hR
    have d1 : (x.toList == x'.toList) = false := beq_eq_false_iff_ne.2 c5
    clear HR HN HNb HY HL HF HT HU P Q c5
    go_enter Tryd.func14, Tryd.ntmps14
    go_wp2_with fail
    go_ret
    exact ⟨rfl, hb0⟩
  obtain rfl := ba_eq c5
  clear c5
  by_cases c6 : X.toList = X'.toList
  case neg =>
    have hR : R = false := HNb.out fun q => c6 (by rw [q])
    subst hR
    have d1 : (X.toList == X'.toList) = false := beq_eq_false_iff_ne.2 c6
    clear HR HN HNb HY HL HF HT HU P Q c6
    go_enter Tryd.func14, Tryd.ntmps14
    go_wp2_with fail
    go_ret
    exact ⟨rfl, hb0⟩
  obtain rfl := ba_eq c6
  clear c6
  obtain ⟨ebn, hYY⟩ := HY.out rfl
  have HYY := Lib.hid hYY
  have HBN := Lib.hid ebn
  clear HY hYY ebn HNb
  by_cases c7 : ln = ln'
  case neg =>
    have hR : R = false := HN.out fun q => c7 q.ln
    subst hR
    have d1 : (ln == ln') = false := beq_eq_false_iff_ne.2 c7
    have d2 : (ln != ln') = true := by simpa using c7
    have d3 : ((ln : Int) == (ln' : Int)) = false := beq_eq_false_iff_ne.2 (by omega)
    have d4 : ((ln : Int) != (ln' : Int)) = true := bne_iff_ne.2 (by omega)
    clear HR HN HL HF HT HU P Q HYY HBN c7
    go_enter Tryd.func14, Tryd.ntmps14
    go_wp2_with fail
    go_ret
    exact ⟨rfl, hb0⟩
  subst c7
  by_cases c8 : fn = fn'
  case neg =>
    have hR : R = false := HN.out fun q => c8 q.fn
    subst hR
    have d1 : (fn == fn') = false := beq_eq_false_iff_ne.2 c8
    have d2 : (fn != fn') = true := by simpa using c8
    have d3 : ((fn : Int) == (fn' : Int)) = false := beq_eq_false_iff_ne.2 (by omega)
    have d4 : ((fn : Int) != (fn' : Int)) = true := bne_iff_ne.2 (by omega)
    clear HR HN HL HF HT HU P Q HYY HBN c8
    go_enter Tryd.func14, Tryd.ntmps14
    go_wp2_with fail
    go_ret
    exact ⟨rfl, hb0⟩
  subst c8
  have hla := HT.out.2.2.2.1
  have hlb := HU.out.2.2.2.1
  have hla' := HT.out.2.2.2.2.2.1
  have hlb' := HU.out.2.2.2.2.2.1
  have HLa : Hid (0 < ln → la = some ⟨lb, lo, none⟩ ∧ lb < w.heap.size) := Lib.hid fun hp => ⟨(hla hp).1, Nat.lt_of_lt_of_le (hla hp).2 ht⟩
  have HLb : Hid (0 < ln → la' = some ⟨lb', lo', none⟩ ∧ lb' < w.heap.size) := Lib.hid fun hp => ⟨(hlb hp).1, Nat.lt_of_lt_of_le (hlb hp).2 ht⟩
  have HFa : Hid (0 < fn → fa = some ⟨fb, fo, none⟩ ∧ fb < w.heap.size) := Lib.hid fun hp => ⟨(hla' hp).1, Nat.lt_of_lt_of_le (hla' hp).2 ht⟩
  have HFb : Hid (0 < fn → fa' = some ⟨fb', fo', none⟩ ∧ fb' < w.heap.size) := Lib.hid fun hp => ⟨(hlb' hp).1, Nat.lt_of_lt_of_le (hlb' hp).2 ht⟩
  clear hla hlb hla' hlb'
  have HRl : Hid (∀ i, i < ln → ¬ (L i).Same (L' i) → R = false) := Lib.hid fun i hi q => by rw [← HR.out]; exact sameB_no.2 fun s => q (s.L hi)
  have HRk : Hid (∀ i, i < fn → ¬ (K i = K' i ∧ (F i).Same (F' i)) → R = false) := Lib.hid fun i hi q => by rw [← HR.out]; exact sameB_no.2 fun s => q ⟨s.K hi, s.F hi⟩
  have HRt : Hid ((∀ i, i < ln → (L i).Same (L' i)) → (∀ i, i < fn → K i = K' i ∧ (F i).Same (F' i)) → R = true) := Lib.hid fun q1 q2 => by
    rw [← HR.out]
    exact sameB_iff.2 ⟨(fun e => by cases e), ⟨rfl, rfl, rfl, rfl, rfl, rfl, rfl, rfl, rfl, rfl, HBN.out, rfl, rfl⟩, HYY.out, q1, q2⟩
  clear HR HYY HBN HN
  have n0 : (0 : Int) ≤ ln := by omega
  have n1 : (ln : Int) ≤ 1048576 := by omega
  have n2 : (0 : Int) ≤ fn := by omega
  have n3 : (fn : Int) ≤ 1048576 := by omega
  go_enter Tryd.func14, Tryd.ntmps14
  go_wp2_with fail
  clear qn qt cv1 cv2
  go_loopw [5] (fun i wr => ∃ j : Nat, j ≤ ln ∧ i = .int .i64 j ∧ Hid (∀ t, t < j → (L t).Same (L' t)) ∧ Whole wr w.heap.size 30 (Vh.cells ⟨k, b, n, d, e, tk, td, tn, tz, x, ba, bn, bc, la, ln, lc, fa, fn, fc, bb, bo, lb, lo, fb, fo⟩) ∧ Whole wr (w.heap.size + 1) 30 (Vh.cells ⟨k, b, n, d, e, tk, td, tn, tz, x, ba', bn', bc', la', ln, lc', fa', fn, fc', bb', bo', lb', lo', fb', fo'⟩) ∧ Below w.heap.size w wr) (fun i _ => ln - (intOf i).toNat)
  case atStart => exact ⟨0, by omega, rfl, Lib.hid fun t h => absurd h (Nat.not_lt_zero _), P, Q, hb0⟩
  case round =>
    clear P Q hb0
    obtain ⟨j, hj, rfl, HJ, P, Q, hbr⟩ := hrel
    have hji : (0 : Int) ≤ j := by omega
    obtain ⟨-, -, -, -, -, -, -, -, -, -, -, p11, p12⟩ := Whole.c13 P
    obtain ⟨-, -, -, -, -, -, -, -, -, -, -, q11, q12⟩ := Whole.c13 Q
    by_cases hjn : j < ln
    · have hji2 : (j : Int) < ln := by omega
      obtain ⟨e1, hlt⟩ := HLa.out (by omega)
      obtain ⟨e2, hlt'⟩ := HLb.out (by omega)
      have hl := (HT.out.2.2.2.2.1 j hjn).1.below (hbr.mono ht) (HT.out.2.2.2.1 (show 0 < ln by omega)).2
      have hl' := (HU.out.2.2.2.2.1 j hjn).1.below (hbr.mono ht) (HU.out.2.2.2.1 (show 0 < ln by omega)).2
      have hrec := HL.out j (L' j) top wr.drew (Vt.In.below (hbr.drew.mono ht) (HT.out.2.2.2.2.1 j hjn).2) (Vt.In.below (hbr.drew.mono ht) (HU.out.2.2.2.2.1 j hjn).2) (Nat.le_trans ht hbr.size)
      dsimp only at hl hl' e1 e2
      rw [e1] at p11
      rw [e2] at q11
      obtain ⟨l0, l1, l2, l3, l4, l5, l6, l7, l8, l9, l10, l11, l12⟩ := hl.c13
      obtain ⟨m0, m1, m2, m3, m4, m5, m6, m7, m8, m9, m10, m11, m12⟩ := hl'.c13
      have hdr : wr.drew = wr.drew := rfl
      clear hl hl' e1 e2 p12 q12 hdr
      have HC := Lib.hid hrec
      clear hrec
      obtain ⟨c, hc⟩ : ∃ c, sameB (L j) (L' j) = c := ⟨_, rfl⟩
      rw [hc] at HC
      have HCc := Lib.hid hc
      clear hc
      generalize (L j).h = G at *
      generalize (L' j).h = G' at *
      go_wp2_with fail
      go_still_tail 10, (by kernel_rfl)
      change wpList _ _ _ _ _ wr.drew
      have P2 := P.drew
      have Q2 := Q.drew
      have hb2 := hbr.drew
      clear l0 l1 l2 l3 l4 l5 l6 l7 l8 l9 l10 l11 l12 m0 m1 m2 m3 m4 m5 m6 m7 m8 m9 m10 m11 m12 p11 q11 P Q hbr
      generalize wr.drew = w2 at *
      cases c
      · have hR : R = false := HRl.out j hjn (sameB_no.1 HCc.out)
        subst hR
        go_wp2_with fail
        refine HC.out.mono ?_; rintro _ w3 ⟨rfl, hb3⟩
        clear HRl HRk HRt
        go_wp2
        go_ret
        exact ⟨rfl, below_then hb2 hb3⟩
      · have HJ2 : Hid (∀ t, t < j + 1 → (L t).Same (L' t)) := Lib.hid fun t ht => by
          by_cases q : t = j
          · subst q; exact sameB_iff.1 HCc.out
          · exact HJ.out t (by omega)
        go_wp2_with fail
        refine HC.out.mono ?_; rintro _ w3 ⟨rfl, hb3⟩
        have P3 := Whole.below P2 hb3 (Whole.lt P2)
        have Q3 := Whole.below Q2 hb3 (Whole.lt Q2)
        have hbr := below_then hb2 hb3
        clear P2 Q2 hb2 hb3
        go_wp2
        go_roundw
        case rel => exact ⟨j + 1, by omega, by go_num, HJ2, P3, Q3, hbr⟩
        case measure => simp [intOf]; omega
    · obtain rfl : j = ln := by omega
      clear hjn p12 q12 HL
      go_wp2_with fail
      clear p11 q11
      go_loopw [6] (fun i wr => ∃ i' : Nat, i' ≤ fn ∧ i = .int .i64 i' ∧ Hid (∀ t, t < i' → K t = K' t ∧ (F t).Same (F' t)) ∧ Whole wr w.heap.size 30 (Vh.cells ⟨k, b, n, d, e, tk, td, tn, tz, x, ba, bn, bc, la, j, lc, fa, fn, fc, bb, bo, lb, lo, fb, fo⟩) ∧ Whole wr (w.heap.size + 1) 30 (Vh.cells ⟨k, b, n, d, e, tk, td, tn, tz, x, ba', bn', bc', la', j, lc', fa', fn, fc', bb', bo', lb', lo', fb', fo'⟩) ∧ Below w.heap.size w wr) (fun i _ => fn - (intOf i).toNat)
      case atStart => exact ⟨0, by omega, rfl, Lib.hid fun t h => absurd h (Nat.not_lt_zero _), P, Q, hbr⟩
      case round =>
        clear P Q hbr
        obtain ⟨i, hi, rfl, HI, P, Q, hbr⟩ := hrel
        have hii : (0 : Int) ≤ i := by omega
        obtain ⟨-, -, -, -, -, -, -, -, -, -, -, -, p12⟩ := Whole.c13 P
        obtain ⟨-, -, -, -, -, -, -, -, -, -, -, -, q12⟩ := Whole.c13 Q
        by_cases hin : i < fn
        · have hii2 : (i : Int) < fn := by omega
          obtain ⟨e1, hlt⟩ := HFa.out (by omega)
          obtain ⟨e2, hlt'⟩ := HFb.out (by omega)
          obtain ⟨k0, k1, k2, k3⟩ := HT.out.2.2.2.2.2.2 i hin
          obtain ⟨k0', k1', k2', k3'⟩ := HU.out.2.2.2.2.2.2 i hin
          have hf := (HT.out.2.2.2.2.2.1 (show 0 < fn by omega)).2
          have hf' := (HU.out.2.2.2.2.2.1 (show 0 < fn by omega)).2
          have hl := k2.below (hbr.mono ht) hf
          have hl' := k2'.below (hbr.mono ht) hf'
          have z0 := ((hbr.mono ht).cell (p := ⟨fb, fo + i * 14, none⟩) hf).trans k0
          have z0' := ((hbr.mono ht).cell (p := ⟨fb', fo' + i * 14, none⟩) hf').trans k0'
          have hrec := HF.out i (F' i) top wr.drew (Vt.In.below (hbr.drew.mono ht) k3) (Vt.In.below (hbr.drew.mono ht) k3') (Nat.le_trans ht hbr.size)
          dsimp only at hl hl' e1 e2 hf hf' z0 z0'
          rw [e1] at p12
          rw [e2] at q12
          have HS := Lib.hid (HRk.out i hin)
          clear k0 k1 k2 k3 k0' k1' k2' k3' hf hf' e1 e2
          by_cases hK : K i = K' i
          · have d1 : ((K i).toList == (K' i).toList) = true := by rw [hK]; exact beq_self_eq_true _
            have HK := Lib.hid hK
            clear hK
            obtain ⟨l0, l1, l2, l3, l4, l5, l6, l7, l8, l9, l10, l11, l12⟩ := hl.c13
            obtain ⟨m0, m1, m2, m3, m4, m5, m6, m7, m8, m9, m10, m11, m12⟩ := hl'.c13
            clear hl hl'
            have HC := Lib.hid hrec
            clear hrec
            obtain ⟨c, hc⟩ : ∃ c, sameB (F i) (F' i) = c := ⟨_, rfl⟩
            rw [hc] at HC
            have HCc := Lib.hid hc
            clear hc
            generalize (F i).h = G at *
            generalize (F' i).h = G' at *
            generalize hy : K i = y at *
            generalize hy' : K' i = y' at *
            have Hy := Lib.hid hy
            have Hy' := Lib.hid hy'
            clear hy hy'
            go_wp2_with fail
            go_still_tail 26, (by kernel_rfl)
            change wpList _ _ _ _ _ wr.drew
            have P2 := P.drew
            have Q2 := Q.drew
            have hb2 := hbr.drew
            clear l0 l1 l2 l3 l4 l5 l6 l7 l8 l9 l10 l11 l12 m0 m1 m2 m3 m4 m5 m6 m7 m8 m9 m10 m11 m12 p12 q12 P Q hbr z0 z0'
            generalize wr.drew = w2 at *
            cases c
            · have hR : R = false := HS.out fun q => sameB_no.1 HCc.out q.2
              subst hR
              go_wp2_with fail
              refine HC.out.mono ?_; rintro _ w3 ⟨rfl, hb3⟩
              clear HRl HRk HRt HS
              go_wp2
              go_ret
              exact ⟨rfl, below_then hb2 hb3⟩
            · have HI2 : Hid (∀ t, t < i + 1 → K t = K' t ∧ (F t).Same (F' t)) := Lib.hid fun t ht => by
                by_cases q : t = i
                · subst q; exact ⟨by rw [Hy.out, Hy'.out]; exact HK.out, sameB_iff.1 HCc.out⟩
                · exact HI.out t (by omega)
              go_wp2_with fail
              refine HC.out.mono ?_; rintro _ w3 ⟨rfl, hb3⟩
              have P3 := Whole.below P2 hb3 (Whole.lt P2)
              have Q3 := Whole.below Q2 hb3 (Whole.lt Q2)
              have hbr := below_then hb2 hb3
              clear P2 Q2 hb2 hb3
              go_wp2
              go_roundw
              case rel => exact ⟨i + 1, by omega, by go_num, HI2, P3, Q3, hbr⟩
              case measure => simp [intOf]; omega
          · have d1 : ((K i).toList == (K' i).toList) = false := beq_eq_false_iff_ne.2 fun q => hK (ba_eq q)
            have hR : R = false := HS.out fun q => hK q.1
            subst hR
            clear hl hl' hrec HRl HRk HRt HS hK HT HU HF HI
            generalize K i = y at *
            generalize K' i = y' at *
            go_wp2_with fail
            go_quiet (fail)
            clear z0 z0' p12 q12 P Q
            go_wp2
            go_ret
            exact ⟨rfl, below_drewN hbr _⟩
        · obtain rfl : i = fn := by omega
          have hR : R = true := HRt.out HJ.out HI.out
          subst hR
          clear hin HRl HRk HRt HJ HI HT HU HF P Q
          go_wp2
          go_ret
          exact ⟨rfl, hbr⟩
end Go.Proofs.YtfkfboiblgoamaaDoor
/- Paths: access.Get, access.Has; the law's alike. -/
namespace Go.Proofs.YtfkfboiblgoamaaDoor
open Go.RowKit

/-- The value of which everything is zero. -/
def Vt.z : Vt := .mk Vh.zero (fun _ => 0) (fun _ => .nil) (fun _ => ByteArray.empty) (fun _ => .nil)
theorem Vt.z_in (W : World) (top : Nat) : Vt.z.In W top := by
  refine ⟨⟨?_, ?_, ?_, ?_, ?_, ?_, ?_, ?_, ?_, ?_, ?_, ?_, ?_⟩, fun h => absurd h (Nat.lt_irrefl _), fun i h => absurd h (Nat.not_lt_zero _), fun h => absurd h (Nat.lt_irrefl _), fun i h => absurd h (Nat.not_lt_zero _), fun h => absurd h (Nat.lt_irrefl _), fun i h => absurd h (Nat.not_lt_zero _)⟩ <;> simp [Vh.zero, w64, ByteArray.size]
theorem Vt.z_same : Vt.z.Same Vt.z := Vt.Same.rfl' (Vt.In.whole (Vt.z_in default 0))
theorem Vt.upto_part {T : Vt} {d : Nat} {s : Stp} (h : T.upto d) (h0 : (T.find s).2 = 0) : (T.part (T.find s).1.toNat).upto d := by
  obtain ⟨i, e, hc⟩ := Vt.find_ok h0
  rw [e, Int.toNat_natCast]
  cases T with
  | nil => unfold Vt.part; split <;> trivial
  | mk g Y L K F =>
    unfold Vt.part
    rcases hc with ⟨_, k6, hi, _⟩ | ⟨_, k7, hi, _⟩
    · rw [if_pos k6]; exact Vt.upto_le (h.2.1 i hi) (Nat.sub_le _ _)
    · rw [if_neg (by rw [k7]; decide)]; exact Vt.upto_le (h.2.2 i hi) (Nat.sub_le _ _)
theorem Vt.upto_at {T : Vt} {d : Nat} (h : T.upto d) (S : Nat → Stp) : ∀ n, (T.atN S n).1.upto d := by
  intro n
  induction n with
  | zero => exact h
  | succ n ih =>
    unfold Vt.atN
    split
    · exact ih
    split
    · exact ih
    · rename_i _ hq
      exact Vt.upto_part ih (Classical.byContradiction hq)
/-- What access.Get answers. -/
def GetOut (T : Vt) (S : Nat → Stp) (n : Nat) (w : World) (e : Ending) (w' : World) : Prop :=
  ∃ X : Vt, e = .returned (.tuple #[.agg #[.int .i64 X.h.k, .bool X.h.b, .bool X.h.n, .string X.h.d, .int .i64 X.h.e, .int .i64 X.h.tk, .int .i64 X.h.td, .int .i64 X.h.tn, .int .i64 X.h.tz, .string X.h.x, .slice X.h.ba X.h.bn X.h.bc, .slice X.h.la X.h.ln X.h.lc, .slice X.h.fa X.h.fn X.h.fc], .int .i64 (T.getV S n).2]) ∧
    X.In w' w'.heap.size ∧ ((T.getV S n).2 = 0 → X.Same (T.getV S n).1) ∧ ((T.getV S n).2 ≠ 0 → X = .z) ∧ Below w.heap.size w w'
theorem get_arg {T : Vt} {S : Nat → Stp} {n : Nat} (h : pathB S n = false) : T.getV S n = (.nil, 1) := by unfold Vt.getV; rw [if_neg (by simp [h])]
theorem get_val {T : Vt} {S : Nat → Stp} {n : Nat} (h : pathB S n = true) : T.getV S n = T.get S n := by unfold Vt.getV; rw [if_pos h]
set_option maxHeartbeats 8000000 in
set_option maxRecDepth 100000 in
theorem aget_any {T : Vt} {p : Pth} {top : Nat} {w : World} (hT : T.In w top) (hp : p.In w top) (ht : top ≤ w.heap.size) (hu : T.upto 48) :
    Calls Tryd.prog 13 #[.agg T.h.cells, .slice p.a p.n p.c] w (GetOut T p.S p.n w) := by
  have hb0 := ((Below.refl w.heap.size w).alloc (Nat.le_refl _) (.cells T.h.cells 30)).alloc (by simp) (.cells Vh.zero.cells 30)
  have P := (Whole.new w 30 T.h.cells).alloc (.cells Vh.zero.cells 30)
  have Q := Whole.new (w.alloc (.cells T.h.cells 30)) 30 Vh.zero.cells
  rw [World.size_alloc] at Q
  have HV := Lib.hid (fun (w1 : World) (hb : Below w.heap.size w w1) => pvalid_any (Pth.In.below hp (hb.mono ht)) (Nat.le_trans ht hb.size))
  have HAt := Lib.hid (fun (w1 : World) (hb : Below w.heap.size w w1) => at_any (Vt.In.below (hb.mono ht) hT) (Pth.In.below hp (hb.mono ht)) (Nat.le_trans ht hb.size))
  have HCo := Lib.hid (fun (h0 : (T.atN p.S p.n).2 = 0) (w1 : World) (hb : Below w.heap.size w w1) => copy_any (Vt.In.below (hb.mono ht) (Vt.In.atN hT p.S p.n)) (Nat.le_trans ht hb.size) (Vt.upto_le (Vt.upto_at hu p.S p.n) (by decide)))
  obtain ⟨B, hB⟩ : ∃ B, pathB p.S p.n = B := ⟨_, rfl⟩
  rw [hB] at HV
  have HB := Lib.hid hB
  clear hB hT hp hu
  simp only [Vh.cells, Vh.zero] at hb0 Q HAt ⊢
  cases B
  · have hone := Lib.hid (vh_all Vh.zero)
    have HE : Hid (∀ w', Below w.heap.size w w' → GetOut T p.S p.n w (.returned (.tuple #[.agg Vh.zero.cells, .int .i64 1])) w') := Lib.hid fun w' hb => by
      refine ⟨.z, by rw [get_arg HB.out]; rfl, Vt.z_in _ _, fun h => ?_, fun _ => rfl, hb⟩
      rw [get_arg HB.out] at h
      cases h
    clear HAt HCo HB
    go_enter Tryd.func13, Tryd.ntmps13
    go_wp2_with fail
    refine (HV.out _ hb0).mono ?_; rintro _ w1 ⟨rfl, hb1⟩
    have Q1 := Q.below hb1 Q.lt
    go_wp2_with (refine wpList_store_row rfl 30 _ _ rfl (w.heap.size + 1) Vh.zero.cells rfl rfl 30 _ Q1 vh_row rfl hone.out ?_)
    exact bodyPost_ret (v := .tuple #[.agg Vh.zero.cells, .int .i64 1]) (ret_val2 (p := 4) (q := 5) rfl rfl (Q1.setRow Vh.zero.cells)) rfl (HE.out _ (below_setRow (below_then hb0 hb1) (Nat.le_succ _) _))
  have HG := Lib.hid (get_val (T := T) HB.out)
  clear HB
  by_cases h0 : (T.atN p.S p.n).2 = 0
  · have HC2 := Lib.hid (HCo.out h0)
    have e2 : T.get p.S p.n = ((T.atN p.S p.n).1, 0) := by unfold Vt.get; rw [if_pos h0, ← h0]
    rw [e2] at HAt HG
    clear HCo h0 e2
    generalize (T.atN p.S p.n).1 = U at *
    have HE : Hid (∀ (X : Vt) (w' : World), X.In w' w'.heap.size → X.Same U → Below w.heap.size w w' → GetOut T p.S p.n w (.returned (.tuple #[.agg X.h.cells, .int .i64 0])) w') := Lib.hid fun X w' h1 h2 hb => by
      refine ⟨X, by rw [HG.out]; rfl, h1, fun _ => ?_, fun h => ?_, hb⟩
      · rw [HG.out]; exact h2
      · rw [HG.out] at h; exact absurd rfl h
    clear HG
    go_enter Tryd.func13, Tryd.ntmps13
    go_wp2_with fail
    refine (HV.out _ hb0).mono ?_; rintro _ w1 ⟨rfl, hb1⟩
    have g1 := below_then hb0 hb1
    have P1 := P.below hb1 P.lt
    have Q1 := Q.below hb1 Q.lt
    obtain ⟨c0, c1, c2, c3, c4, c5, c6, c7, c8, c9, c10, c11, c12⟩ := Whole.c13 (h := T.h) P1
    go_wp2_with fail
    refine (HAt.out _ g1).mono ?_; rintro _ w2 ⟨rfl, hb2⟩
    have g2 := below_then g1 hb2
    have Q2 := Q1.below hb2 Q1.lt
    have gA := g2.alloc (by have := Q2.lt; omega) (.cells U.h.cells 30)
    have QA := Q2.alloc (.cells U.h.cells 30)
    clear c0 c1 c2 c3 c4 c5 c6 c7 c8 c9 c10 c11 c12 P P1 Q Q1 hb0 hb1 hb2 g1 Q2
    simp only [Vh.cells] at gA QA HC2
    go_wp2_with fail
    refine (HC2.out _ gA).mono ?_; rintro _ w3 ⟨X, rfl, hX, hXo, hXs, hb3⟩
    have Q3 := QA.below hb3 QA.lt
    have g3 := below_then gA hb3
    have hone := Lib.hid (vh_all X.h)
    have hX2 := Lib.hid (hX.stays hXo (W' := w3.setRow (w.heap.size + 1) X.h.cells) (fun b hb => setRow_other _ _ _ _ (by have h1 : _ ≤ b := hb; have := QA.lt; simp at h1 this; omega)) (by rw [size_setRow]; omega))
    have hXs2 := Lib.hid hXs
    clear hX hXo hXs QA gA g2
    go_wp2_with (refine wpList_store_row rfl 30 _ _ rfl (w.heap.size + 1) X.h.cells rfl rfl 30 _ Q3 vh_row rfl hone.out ?_)
    exact bodyPost_ret (v := .tuple #[.agg X.h.cells, .int .i64 0]) (ret_val2 (p := 4) (q := 5) rfl rfl (Q3.setRow X.h.cells)) rfl (HE.out X _ hX2.out hXs2.out (below_setRow g3 (Nat.le_succ _) _))
  · have e2 : T.get p.S p.n = (.nil, (T.atN p.S p.n).2) := by unfold Vt.get; rw [if_neg h0]
    rw [e2] at HAt HG
    have H0 := Lib.hid h0
    have z1 : ((T.atN p.S p.n).2 == 0) = false := beq_eq_false_iff_ne.2 h0
    have z2 : ((T.atN p.S p.n).2 != 0) = true := by simpa using h0
    clear HCo h0 e2
    generalize (T.atN p.S p.n).2 = E at *
    have HE : Hid (∀ (w' : World), Below w.heap.size w w' → GetOut T p.S p.n w (.returned (.tuple #[.agg Vh.zero.cells, .int .i64 E])) w') := Lib.hid fun w' hb => by
      refine ⟨.z, by rw [HG.out]; rfl, Vt.z_in _ _, fun h => ?_, fun _ => rfl, hb⟩
      rw [HG.out] at h
      exact absurd h H0.out
    have hone := Lib.hid (vh_all Vh.zero)
    clear HG H0
    have en : (Vt.nil.h) = Vh.zero := rfl
    simp only [en, Vh.zero] at HAt
    go_enter Tryd.func13, Tryd.ntmps13
    go_wp2_with fail
    refine (HV.out _ hb0).mono ?_; rintro _ w1 ⟨rfl, hb1⟩
    have g1 := below_then hb0 hb1
    have P1 := P.below hb1 P.lt
    have Q1 := Q.below hb1 Q.lt
    obtain ⟨c0, c1, c2, c3, c4, c5, c6, c7, c8, c9, c10, c11, c12⟩ := Whole.c13 (h := T.h) P1
    clear en
    go_wp2_with fail
    refine (HAt.out _ g1).mono ?_; rintro _ w2 ⟨rfl, hb2⟩
    have g2 := below_then g1 hb2
    have Q2 := Q1.below hb2 Q1.lt
    have gA := g2.alloc (by have := Q2.lt; omega) (.cells Vh.zero.cells 30)
    have QA := Q2.alloc (.cells Vh.zero.cells 30)
    clear c0 c1 c2 c3 c4 c5 c6 c7 c8 c9 c10 c11 c12 P P1 Q Q1 hb0 hb1 hb2 g1 Q2
    simp only [Vh.cells, Vh.zero] at gA QA
    go_wp2_with (refine wpList_store_row rfl 30 _ _ rfl (w.heap.size + 1) Vh.zero.cells rfl rfl 30 _ QA vh_row rfl hone.out ?_)
    exact bodyPost_ret (v := .tuple #[.agg Vh.zero.cells, .int .i64 E]) (ret_val2 (p := 4) (q := 5) rfl rfl (Whole.setRow QA Vh.zero.cells)) rfl (HE.out _ (below_setRow gA (Nat.le_succ _) _))
set_option maxHeartbeats 8000000 in
set_option maxRecDepth 100000 in
theorem alike_any {A B : Vt} {e f : Int} {top : Nat} {w : World} (hA : A.In w top) (hB : B.In w top) (ht : top ≤ w.heap.size) :
    Calls Tryd.prog 10 #[.agg A.h.cells, .int .i64 e, .agg B.h.cells, .int .i64 f] w fun r w' => r = .returned (.bool (e == f && sameB A B)) ∧ Below w.heap.size w w' := by
  have hb0 := ((Below.refl w.heap.size w).alloc (Nat.le_refl _) (.cells A.h.cells 30)).alloc (by simp) (.cells B.h.cells 30)
  have HS := Lib.hid (same_any A B top _ (Vt.In.below (hb0.mono ht) hA) (Vt.In.below (hb0.mono ht) hB) (Nat.le_trans ht hb0.size))
  clear hA hB
  generalize sameB A B = S at *
  simp only [Vh.cells] at hb0 HS ⊢
  by_cases c : e = f
  · subst c
    have e1 : (e == e && S) = S := by simp
    rw [e1]
    clear e1
    go_enter Tryd.func10, Tryd.ntmps10
    go_wp2_with fail
    refine HS.out.mono ?_; rintro _ w1 ⟨rfl, hb1⟩
    go_wp2
    go_ret
    exact ⟨rfl, below_then hb0 hb1⟩
  · have d1 : (e == f) = false := beq_eq_false_iff_ne.2 c
    rw [show (e == f && S) = false by rw [d1]; rfl]
    clear HS c
    go_enter Tryd.func10, Tryd.ntmps10
    go_wp2_with fail
    go_ret
    exact ⟨rfl, hb0⟩
end Go.Proofs.YtfkfboiblgoamaaDoor
/- Values built anew by the reference: plain. -/
namespace Go.Proofs.YtfkfboiblgoamaaDoor
open Go.RowKit

/-- What the reference's functions answer that build a value. -/
def RefOut (R0 : Vt) (w : World) (e : Ending) (w' : World) : Prop :=
  ∃ X : Vt, e = .returned (.agg #[.int .i64 X.h.k, .bool X.h.b, .bool X.h.n, .string X.h.d, .int .i64 X.h.e, .int .i64 X.h.tk, .int .i64 X.h.td, .int .i64 X.h.tn, .int .i64 X.h.tz, .string X.h.x, .slice X.h.ba X.h.bn X.h.bc, .slice X.h.la X.h.ln X.h.lc, .slice X.h.fa X.h.fn X.h.fc]) ∧ X.In w' w'.heap.size ∧ X.Same R0 ∧ Below w.heap.size w w'
def Vh.lst (k : Int) (a : Option Addr) (n c b : Nat) : Vh := ⟨k, false, false, ⟨#[]⟩, 0, 0, 0, 0, 0, ⟨#[]⟩, none, 0, 0, a, n, c, none, 0, 0, 0, 0, b, 0, 0, 0⟩
def Vh.fld (k : Int) (a : Option Addr) (n c b : Nat) : Vh := ⟨k, false, false, ⟨#[]⟩, 0, 0, 0, 0, 0, ⟨#[]⟩, none, 0, 0, none, 0, 0, a, n, c, 0, 0, 0, 0, b, 0⟩
theorem ba_nil {s : ByteArray} (h : s.toList = []) : s = ⟨#[]⟩ := by
  rw [Lib.toList_data] at h
  exact ByteArray.ext (Array.toList_eq_nil_iff.1 h)
/-- A list that is built anew out of the same values. -/
theorem lst_same {h : Vh} {Y : Nat → Int} {K : Nat → ByteArray} {F M : Nat → Vt} {m : Nat} (ho : h.own = true) (hk : h.k = 6) {M' : Nat → Vt} (hM : ∀ j, j < m → (M' j).Same (M j)) {a : Option Addr} {c b : Nat} {Y' : Nat → Int} {K' : Nat → ByteArray} {F' : Nat → Vt} :
    (Vt.mk (Vh.lst 6 a m c b) Y' M' K' F').Same (.mk { h with ln := m } Y M K F) := by
  obtain ⟨_, _, h1, h2, h3, h4, h5, _, h7⟩ := Vh.own_parts ho
  obtain ⟨a1, a2, a3⟩ := h2 (by omega)
  obtain ⟨b1, b2, b3, b4⟩ := h3 (by omega)
  have f0 : h.fn = 0 := h7 (by omega)
  refine ⟨(fun e => by cases e), ⟨hk.symm, (h1 (by omega)).symm, a1.symm, (ba_nil a2).symm, a3.symm, b1.symm, b2.symm, b3.symm, b4.symm, (ba_nil (h4 (by omega))).symm, (h5 (by omega)).symm, rfl, f0.symm⟩, fun i hi => absurd hi (Nat.not_lt_zero _), hM, fun i hi => absurd hi (Nat.not_lt_zero _)⟩
theorem fld_same {h : Vh} {Y : Nat → Int} {K : Nat → ByteArray} {L M : Nat → Vt} {m : Nat} (ho : h.own = true) (hk : h.k = 7) {M' : Nat → Vt} {K' : Nat → ByteArray} (hM : ∀ j, j < m → K' j = K j ∧ (M' j).Same (M j)) {a : Option Addr} {c b : Nat} {Y' : Nat → Int} {L' : Nat → Vt} :
    (Vt.mk (Vh.fld 7 a m c b) Y' L' K' M').Same (.mk { h with fn := m } Y L K M) := by
  obtain ⟨_, _, h1, h2, h3, h4, h5, h6, _⟩ := Vh.own_parts ho
  obtain ⟨a1, a2, a3⟩ := h2 (by omega)
  obtain ⟨b1, b2, b3, b4⟩ := h3 (by omega)
  have l0 : h.ln = 0 := h6 (by omega)
  refine ⟨(fun e => by cases e), ⟨hk.symm, (h1 (by omega)).symm, a1.symm, (ba_nil a2).symm, a3.symm, b1.symm, b2.symm, b3.symm, b4.symm, (ba_nil (h4 (by omega))).symm, (h5 (by omega)).symm, l0.symm, rfl⟩, fun i hi => absurd hi (Nat.not_lt_zero _), fun i hi => absurd hi (Nat.not_lt_zero _), hM⟩
theorem lst_in {W : World} {k : Int} (hk : w64 k) {a : Option Addr} {m c b : Nat} (hm : m ≤ 1048576) (hc : m ≤ c ∧ c ≤ maxLen) (ha : 0 < m → a = some ⟨b, 0, none⟩ ∧ b < W.heap.size) {M : Nat → Vt} (hM : ∀ j, j < m → LiesAt W b (j * 13) (M j).h.cells ∧ (M j).In W W.heap.size) {Y' : Nat → Int} {K' : Nat → ByteArray} {F' : Nat → Vt} :
    (Vt.mk (Vh.lst k a m c b) Y' M K' F').In W W.heap.size := by
  have z : w64 0 := ⟨by decide, by decide⟩
  exact ⟨⟨hk, z, z, z, z, z, by simp [Vh.lst, ByteArray.size], by simp [Vh.lst, ByteArray.size], Nat.zero_le _, hm, Nat.zero_le _, hc, ⟨Nat.le_refl _, Nat.zero_le _⟩⟩, fun q => absurd q (Nat.lt_irrefl _), fun i hi => absurd hi (Nat.not_lt_zero _), ha, fun i hi => ⟨by rw [show (Vh.lst k a m c b).lo + i * 13 = i * 13 from Nat.zero_add _]; exact (hM i hi).1, (hM i hi).2⟩, fun q => absurd q (Nat.lt_irrefl _), fun i hi => absurd hi (Nat.not_lt_zero _)⟩
theorem fld_in {W : World} {k : Int} (hk : w64 k) {a : Option Addr} {m c b : Nat} (hm : m ≤ 1048576) (hc : m ≤ c ∧ c ≤ maxLen) (ha : 0 < m → a = some ⟨b, 0, none⟩ ∧ b < W.heap.size) {K : Nat → ByteArray} {M : Nat → Vt} (hM : ∀ j, j < m → LiesAt W b (j * 14) (fcs (K j, M j)) ∧ (K j).size ≤ 1048576 ∧ (M j).In W W.heap.size) {Y' : Nat → Int} {L' : Nat → Vt} :
    (Vt.mk (Vh.fld k a m c b) Y' L' K M).In W W.heap.size := by
  have z : w64 0 := ⟨by decide, by decide⟩
  refine ⟨⟨hk, z, z, z, z, z, by simp [Vh.fld, ByteArray.size], by simp [Vh.fld, ByteArray.size], Nat.zero_le _, Nat.zero_le _, hm, ⟨Nat.le_refl _, Nat.zero_le _⟩, hc⟩, fun q => absurd q (Nat.lt_irrefl _), fun i hi => absurd hi (Nat.not_lt_zero _), fun q => absurd q (Nat.lt_irrefl _), fun i hi => absurd hi (Nat.not_lt_zero _), ha, fun i hi => ?_⟩
  obtain ⟨k1, k2⟩ := (hM i hi).1.fcs
  rw [show (Vh.fld k a m c b).fo + i * 14 = i * 14 from Nat.zero_add _]
  exact ⟨k1, (hM i hi).2.1, k2, (hM i hi).2.2⟩
end Go.Proofs.YtfkfboiblgoamaaDoor
/- Values built anew by the reference: how such a walk ends. -/
namespace Go.Proofs.YtfkfboiblgoamaaDoor
open Go.ChangeShapes Go.WideShapes Go.Joins Go.Deep Go.RowKit

theorem grown_set (W : World) (B i : Nat) (u : Value) : W.grownBy (W.setCell ⟨B, i, none⟩ u) (some B) :=
  ⟨rfl, rfl, rfl, by simp [World.setCell], fun k _ hk => Below.heap_setCell _ _ _ _ (by simp at hk ⊢; omega)⟩
theorem grown_row (W : World) (B : Nat) (cs : Array Value) : W.grownBy (W.setRow B cs) (some B) :=
  have b := below_setRow (Below.refl B W) (Nat.le_refl B) cs
  ⟨b.os, b.tape, b.output, b.size, fun k _ hk => setRow_other _ _ _ _ (by intro e; subst e; exact hk rfl)⟩
theorem cutAt {p q : Prop} (h : p → q) (hp : p) : q := h hp
/-- A function that gives a value: where the result may lie. -/
def FnS (R0 : Vt) (S : Nat → Prop) (w : World) (e : Ending) (w' : World) : Prop :=
  ∃ X : Vt, e = .returned (.agg #[.int .i64 X.h.k, .bool X.h.b, .bool X.h.n, .string X.h.d, .int .i64 X.h.e, .int .i64 X.h.tk, .int .i64 X.h.td, .int .i64 X.h.tn, .int .i64 X.h.tz, .string X.h.x, .slice X.h.ba X.h.bn X.h.bc, .slice X.h.la X.h.ln X.h.lc, .slice X.h.fa X.h.fn X.h.fc]) ∧ X.In w' w'.heap.size ∧ X.Off (fun b => S b ∨ w.heap.size ≤ b) ∧ X.Same R0 ∧ Below w.heap.size w w'
theorem setN_fch (y : ByteArray) (h g : Vh) : setN (fch y h) 1 g.cells.toList = fch y g := by
  simp [setN, fch, Vh.cells]
theorem Whole.setF {W : World} {B : Nat} {t : TypeId} {y : ByteArray} {h : Vh} (P : Whole W B t (fch y h)) (g : Vh) : Whole (W.setCells B 1 g.cells.toList) B t (fch y g) := by
  have := Whole.setCells g.cells.toList 1 P
  rwa [setN_fch] at this
theorem there_fch {W : World} {B : Nat} {t : TypeId} {y : ByteArray} {h : Vh} (P : Whole W B t (fch y h)) : W.there B 1 13 := whole_there P (Nat.le_refl _)
theorem lst_out {w W : World} {B m c : Nat} {S : Nat → Prop} {a : Option Addr} {q : Nat → Vt → Prop} {M : Nat → Vt} {R0 : Vt} (hr : RowG (fun x : Vt => x.h.cells) id 13 30 B S q W (.slice a m c) m) (hm : m ≤ 1048576) (hB : w.heap.size ≤ B) (hb : Below w.heap.size w W)
    (hq : ∀ j X, j < m → q j X → X.Same (M j)) (hso : ∀ (a : Option Addr) (c b : Nat) (M' : Nat → Vt), (∀ j, j < m → (M' j).Same (M j)) → (Vt.mk (Vh.lst 6 a m c b) (fun _ => 0) M' (fun _ => ByteArray.empty) (fun _ => .nil)).Same R0) :
    FnS R0 S w (.returned (.agg #[.int .i64 6, .bool false, .bool false, .string ⟨#[]⟩, .int .i64 0, .int .i64 0, .int .i64 0, .int .i64 0, .int .i64 0, .string ⟨#[]⟩, .slice none 0 0, .slice a m c, .slice none 0 0])) W := by
  obtain ⟨f, a', c', b, e, hcc, ha, hrows⟩ := RowG.done (fun x : Vt => vh_size x.h) hr
  injection e with e1 e2 e3
  subst e1 e3
  exact ⟨_, rfl, lst_in ⟨by decide, by decide⟩ hm hcc (fun h => ⟨(ha h).1, (ha h).2.2⟩) (fun j hj => ⟨(hrows j hj).1, (hrows j hj).2.1⟩),
    ⟨fun q => absurd q (Nat.lt_irrefl _), fun q => .inr (Nat.le_trans hB (ha q).2.1), fun j hj => (hrows j hj).2.2.1.mono fun b hb => .inl hb, fun q => absurd q (Nat.lt_irrefl _), fun i hi => absurd hi (Nat.not_lt_zero _)⟩,
    hso a c b f (fun j hj => hq j _ hj (hrows j hj).2.2.2), hb⟩
theorem fld_out {w W : World} {B m c : Nat} {S : Nat → Prop} {a : Option Addr} {q : Nat → ByteArray × Vt → Prop} {K : Nat → ByteArray} {M : Nat → Vt} {R0 : Vt} (hr : RowG fcs Prod.snd 14 61 B S q W (.slice a m c) m) (hm : m ≤ 1048576) (hB : w.heap.size ≤ B) (hb : Below w.heap.size w W)
    (hq : ∀ j x, j < m → q j x → x.1 = K j ∧ x.1.size ≤ 1048576 ∧ x.2.Same (M j)) (hso : ∀ (a : Option Addr) (c b : Nat) (K' : Nat → ByteArray) (M' : Nat → Vt), (∀ j, j < m → K' j = K j ∧ (M' j).Same (M j)) → (Vt.mk (Vh.fld 7 a m c b) (fun _ => 0) (fun _ => .nil) K' M').Same R0) :
    FnS R0 S w (.returned (.agg #[.int .i64 7, .bool false, .bool false, .string ⟨#[]⟩, .int .i64 0, .int .i64 0, .int .i64 0, .int .i64 0, .int .i64 0, .string ⟨#[]⟩, .slice none 0 0, .slice none 0 0, .slice a m c])) W := by
  obtain ⟨f, a', c', b, e, hcc, ha, hrows⟩ := hr.done fcs_size
  injection e with e1 e2 e3
  subst e1 e3
  exact ⟨_, rfl, fld_in (K := fun j => (f j).1) (M := fun j => (f j).2) ⟨by decide, by decide⟩ hm hcc (fun h => ⟨(ha h).1, (ha h).2.2⟩) (fun j hj => ⟨(hrows j hj).1, (hq j _ hj (hrows j hj).2.2.2).2.1, (hrows j hj).2.1⟩),
    ⟨fun q => absurd q (Nat.lt_irrefl _), fun q => absurd q (Nat.lt_irrefl _), fun i hi => absurd hi (Nat.not_lt_zero _), fun q => .inr (Nat.le_trans hB (ha q).2.1), fun j hj => (hrows j hj).2.2.1.mono fun b hb => .inl hb⟩,
    hso a c b _ _ (fun j hj => ⟨(hq j _ hj (hrows j hj).2.2.2).1, (hq j _ hj (hrows j hj).2.2.2).2.2⟩), hb⟩
end Go.Proofs.YtfkfboiblgoamaaDoor
