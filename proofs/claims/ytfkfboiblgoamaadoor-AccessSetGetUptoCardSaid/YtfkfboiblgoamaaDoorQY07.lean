/- Laid together for a claim: VkRset, VtVisM. -/
import Derived.Test.YtfkfboiblgoamaaDoorQB26
import Derived.Test.YtfkfboiblgoamaaDoorQY06
import Derived.Test.YtfkfboiblgoamaaDoorQB25
import Derived.Test.YtfkfboiblgoamaaDoorQY01
/- The reference's Set. -/
namespace Go.Proofs.YtfkfboiblgoamaaDoor
open Go.RowKit
set_option linter.unusedSimpArgs false
set_option linter.unusedVariables false

theorem last1_is (X : Vt) : LastIs 1 (Vt.last1 X) X := fun T s top w hT hX ht hg hsz hso hn => last1_any hT hX ht (Vt.good_own hg (by rintro rfl; exact hT.elim)) hn hsz hso

set_option maxHeartbeats 4000000 in
set_option maxRecDepth 100000 in
theorem rset_bad {T X : Vt} {p : Pth} {top : Nat} {w : World} (hT : T.In w top) (hXT : X.In w top) (hp : p.In w top) (ht : top ≤ w.heap.size) (h : pathB p.S p.n = false) :
    Calls Tryd.prog 9 #[.agg T.h.cells, .slice p.a p.n p.c, .agg X.h.cells] w (ResOut (.z, 1) top w) := by
  have hb0 := (((Below.refl w.heap.size w).alloc (Nat.le_refl _) (.cells T.h.cells 30)).alloc (by simp) (.cells X.h.cells 30)).alloc (by simp; omega) (.cells Vh.zero.cells 30)
  have P := ((Whole.new w 30 T.h.cells).alloc (.cells X.h.cells 30)).alloc (.cells Vh.zero.cells 30)
  have KB := (Whole.new (w.alloc (.cells T.h.cells 30)) 30 X.h.cells).alloc (.cells Vh.zero.cells 30)
  rw [World.size_alloc] at KB
  have Q := Whole.new ((w.alloc (.cells T.h.cells 30)).alloc (.cells X.h.cells 30)) 30 Vh.zero.cells
  rw [World.size_alloc, World.size_alloc] at Q
  have HV := Lib.hid (fun (w1 : World) (hb : Below w.heap.size w w1) => rpvalid_any (Pth.In.below hp (hb.mono ht)) (Nat.le_trans ht hb.size))
  have HE : Hid (∀ w', Below w.heap.size w w' → ResOut ((.z, 1) : Vt × Int) top w (.returned (.tuple #[.agg Vh.zero.cells, .int .i64 1])) w') := Lib.hid fun w' hb => res_of (X := .z) rfl (Vt.z_in _ _) (Vt.z_off _) (fun q => absurd q (by decide)) (fun _ => rfl) hb
  rw [h] at HV
  clear h
  clear hT hp hXT
  simp only [Vh.cells, Vh.zero] at hb0 P Q KB ⊢
  go_enter Tryd.func9, Tryd.ntmps9
  go_wp2_with fail
  refine (HV.out _ hb0).mono ?_; rintro _ w1 ⟨rfl, hb1⟩
  have g1 := below_then hb0 hb1
  have P1 := P.below hb1 P.lt
  have Q1 := Q.below hb1 Q.lt
  have K1 := Whole.below KB hb1 KB.lt
  clear P Q KB hb0 hb1
  have hone := Lib.hid (vh_all Vh.zero)
  go_wp2_with (refine wpList_store_row rfl 30 _ _ rfl (w.heap.size + 2) Vh.zero.cells rfl rfl 30 _ Q1 vh_row rfl hone.out ?_)
  exact bodyPost_ret (v := .tuple #[.agg Vh.zero.cells, .int .i64 1]) (ret_val2 (p := 6) (q := 7) rfl rfl (Whole.setRow Q1 Vh.zero.cells)) rfl (HE.out _ (below_setRow g1 (by omega) _))

set_option maxHeartbeats 4000000 in
set_option maxRecDepth 100000 in
theorem rset_nil {T X : Vt} {p : Pth} {top : Nat} {w : World} (hT : T.In w top) (hXT : X.In w top) (hp : p.In w top) (ht : top ≤ w.heap.size) (h : pathB p.S p.n = true) (h0 : p.n = 0) :
    Calls Tryd.prog 9 #[.agg T.h.cells, .slice p.a p.n p.c, .agg X.h.cells] w (ResOut (X, 0) top w) := by
  have hb0 := (((Below.refl w.heap.size w).alloc (Nat.le_refl _) (.cells T.h.cells 30)).alloc (by simp) (.cells X.h.cells 30)).alloc (by simp; omega) (.cells Vh.zero.cells 30)
  have P := ((Whole.new w 30 T.h.cells).alloc (.cells X.h.cells 30)).alloc (.cells Vh.zero.cells 30)
  have KB := (Whole.new (w.alloc (.cells T.h.cells 30)) 30 X.h.cells).alloc (.cells Vh.zero.cells 30)
  rw [World.size_alloc] at KB
  have Q := Whole.new ((w.alloc (.cells T.h.cells 30)).alloc (.cells X.h.cells 30)) 30 Vh.zero.cells
  rw [World.size_alloc, World.size_alloc] at Q
  have HV := Lib.hid (fun (w1 : World) (hb : Below w.heap.size w w1) => rpvalid_any (Pth.In.below hp (hb.mono ht)) (Nat.le_trans ht hb.size))
  have HE := Lib.hid (fun (w' : World) (hb : Below w.heap.size w w') => (res_of (R := (X, 0)) (E := 0) (X := X) rfl ((Vt.In.below (hb.mono ht) hXT).up (Nat.le_trans ht hb.size)) (hXT.off.mono fun b q => .inl q) (fun _ => Vt.Same.rfl' hXT.whole) (fun q => absurd rfl q) hb : ResOut (X, 0) top w _ w'))
  rw [h, h0] at HV
  rw [h0]
  clear h h0
  clear hT hp hXT
  simp only [Vh.cells, Vh.zero] at hb0 P Q KB HE ⊢
  go_enter Tryd.func9, Tryd.ntmps9
  go_wp2_with fail
  refine (HV.out _ hb0).mono ?_; rintro _ w1 ⟨rfl, hb1⟩
  have g1 := below_then hb0 hb1
  have P1 := P.below hb1 P.lt
  have Q1 := Q.below hb1 Q.lt
  have K1 := Whole.below KB hb1 KB.lt
  clear P Q KB hb0 hb1
  obtain ⟨c0, c1, c2, c3, c4, c5, c6, c7, c8, c9, c10, c11, c12⟩ := Whole.c13 (h := X.h) K1
  have hone := Lib.hid (vh_all X.h)
  go_wp2_with (refine wpList_store_row rfl 30 _ _ rfl (w.heap.size + 2) X.h.cells rfl rfl 30 _ Q1 vh_row rfl hone.out ?_)
  exact bodyPost_ret (v := .tuple #[.agg X.h.cells, .int .i64 0]) (ret_val2 (p := 6) (q := 7) rfl rfl (Whole.setRow Q1 X.h.cells)) rfl (HE.out _ (below_setRow g1 (by omega) _))

set_option maxHeartbeats 4000000 in
set_option maxRecDepth 100000 in
theorem rset_ok {T X : Vt} {p : Pth} {top : Nat} {w : World} (hT : T.In w top) (hXT : X.In w top) (hp : p.In w top) (ht : top ≤ w.heap.size) (hg : T.good) (hsz : T.size ≤ 65536) (h : pathB p.S p.n = true) {m : Nat} (h0 : p.n = m + 1) :
    Calls Tryd.prog 9 #[.agg T.h.cells, .slice p.a p.n p.c, .agg X.h.cells] w (ResOut (chkR (Vt.chgV (Vt.last1 X) (m + 1) p.S T)) top w) := by
  have hb0 := (((Below.refl w.heap.size w).alloc (Nat.le_refl _) (.cells T.h.cells 30)).alloc (by simp) (.cells X.h.cells 30)).alloc (by simp; omega) (.cells Vh.zero.cells 30)
  have P := ((Whole.new w 30 T.h.cells).alloc (.cells X.h.cells 30)).alloc (.cells Vh.zero.cells 30)
  have KB := (Whole.new (w.alloc (.cells T.h.cells 30)) 30 X.h.cells).alloc (.cells Vh.zero.cells 30)
  rw [World.size_alloc] at KB
  have Q := Whole.new ((w.alloc (.cells T.h.cells 30)).alloc (.cells X.h.cells 30)) 30 Vh.zero.cells
  rw [World.size_alloc, World.size_alloc] at Q
  have HV := Lib.hid (fun (w1 : World) (hb : Below w.heap.size w w1) => rpvalid_any (Pth.In.below hp (hb.mono ht)) (Nat.le_trans ht hb.size))
  have HC := Lib.hid (fun (w1 : World) (hb : Below w.heap.size w w1) => rch_any (last1_is X) ⟨by decide, by decide⟩ m p T top w1 h0 (Vt.In.below (hb.mono ht) hT) (Vt.In.below (hb.mono ht) hXT) (Pth.In.below hp (hb.mono ht)) (Nat.le_trans ht hb.size) hg hsz (pathB_ok h).2)
  obtain ⟨⟨V, E⟩, hR⟩ : ∃ R, Vt.chgV (Vt.last1 X) (m + 1) p.S T = R := ⟨_, rfl⟩
  rw [hR] at HC ⊢
  rw [h] at HV
  have HK := Lib.hid (fun (Z : Vt) (w1 : World) (S : Nat → Prop) (hZ : Z.In w1 w1.heap.size) (hZo : Z.Off S) => rchkd_any (E := E) hZ hZo)
  have HS : Hid (∀ (Z : Vt) (U : Vt), (E = 0 → Z.Same V) → (E ≠ 0 → Z = .z) → ((chkR (Z, E)).2 = 0 → U.Same (chkR (Z, E)).1) → ((chkR (Z, E)).2 ≠ 0 → U = .z) → ((chkR (Z, E)).2 = (chkR (V, E)).2 ∧ ((chkR (V, E)).2 = 0 → U.Same (chkR (V, E)).1) ∧ ((chkR (V, E)).2 ≠ 0 → U = .z))) := Lib.hid fun Z U k0 k1 k2 k3 => by
    by_cases q : E = 0
    · subst q
      have hs := k0 rfl
      rw [chkR_ok] at k2 k3
      rw [chkR_ok, chkR_ok]
      have hl : Z.look 1 0 = V.look 1 0 := look_same hs
      unfold Vt.chkV at k2 k3 ⊢
      rw [hl] at k2 k3 ⊢
      by_cases z : (V.look 1 0).2 ≠ 0
      · rw [if_pos z] at k2 k3 ⊢
        rw [if_pos z]
        exact ⟨rfl, k2, k3⟩
      · rw [if_neg z] at k2 k3 ⊢
        rw [if_neg z]
        exact ⟨rfl, fun _ => (k2 rfl).trans hs, fun y => absurd rfl y⟩
    · rw [chkR_bad q] at k2 k3
      rw [chkR_bad q, chkR_bad q]
      exact ⟨rfl, k2, k3⟩
  have n1 : ((m : Int) + 1 == 0) = false := beq_eq_false_iff_ne.2 (by omega)
  have n2 : (((m + 1 : Nat) : Int) == 0) = false := beq_eq_false_iff_ne.2 (by omega)
  have n3 : (m + 1 == 0) = false := beq_eq_false_iff_ne.2 (by omega)
  obtain ⟨R, hR2⟩ : ∃ R, chkR (V, E) = R := ⟨_, rfl⟩
  rw [hR2] at HS ⊢
  clear hR2
  rw [h0] at HC HV ⊢
  clear hR hT hXT hp hg hsz h h0
  simp only [Vh.cells, Vh.zero] at hb0 P Q KB HC ⊢
  go_enter Tryd.func9, Tryd.ntmps9
  go_wp2_with fail
  refine (HV.out _ hb0).mono ?_; rintro _ w1 ⟨rfl, hb1⟩
  have g1 := below_then hb0 hb1
  have P1 := P.below hb1 P.lt
  have Q1 := Q.below hb1 Q.lt
  have K1 := Whole.below KB hb1 KB.lt
  clear P Q KB hb0 hb1
  obtain ⟨c0, c1, c2, c3, c4, c5, c6, c7, c8, c9, c10, c11, c12⟩ := Whole.c13 (h := T.h) P1
  obtain ⟨x0, x1, x2, x3, x4, x5, x6, x7, x8, x9, x10, x11, x12⟩ := Whole.c13 (h := X.h) K1
  go_wp2_with fail
  refine (HC.out _ g1).mono ?_; rintro _ w2 ⟨Z, rfl, hZ, hZo, hZ0, hZ1, hb2⟩
  have g2 := below_then g1 hb2
  have hw1 := g1.size
  have hs2 := hb2.size
  have hQ1 := Q1.lt
  have Q2 := Whole.below Q1 hb2 Q1.lt
  have HZ := Lib.hid hZ
  have HZo := Lib.hid hZo
  have HZ0 := Lib.hid hZ0
  have HZ1 := Lib.hid hZ1
  clear hZ hZo hZ0 hZ1 hb2 g1 P1 Q1 K1 HC c0 c1 c2 c3 c4 c5 c6 c7 c8 c9 c10 c11 c12 x0 x1 x2 x3 x4 x5 x6 x7 x8 x9 x10 x11 x12
  simp only [Vh.cells] at HK
  go_wp2_with fail
  refine (HK.out Z _ _ HZ.out HZo.out).mono ?_; rintro _ w3 ⟨U, rfl, hU, hUo, hU0, hU1, hb3⟩
  have g3 := below_then g2 hb3
  have hQ2 := Q2.lt
  have Q3 := Whole.below Q2 hb3 Q2.lt
  obtain ⟨hE, hV0, hV1⟩ := HS.out Z U HZ0.out HZ1.out hU0 hU1
  have hone := Lib.hid (vh_all U.h)
  have hU2 := Lib.hid (hU.stays hUo (W' := w3.setRow (w.heap.size + 2) U.h.cells) (fun b hb => setRow_other _ _ _ _ (by omega)) (by rw [size_setRow]; exact Nat.le_refl _))
  have hUo2 : Hid (U.Off (fun b => b < top ∨ w.heap.size ≤ b)) := Lib.hid (hUo.mono fun b hb => by omega)
  have HV0 := Lib.hid hV0
  have HV1 := Lib.hid hV1
  rw [hE]
  clear hU hUo hU0 hU1 hV0 hV1 hb3 g2 Q2 hQ1 hE HS HZ0 HZ1 HZ HZo HK
  go_wp2_with (refine wpList_store_row rfl 30 _ _ rfl (w.heap.size + 2) U.h.cells rfl rfl 30 _ Q3 vh_row rfl hone.out ?_)
  exact bodyPost_ret (v := .tuple #[.agg U.h.cells, .int .i64 R.2]) (ret_val2 (p := 6) (q := 7) rfl rfl (Whole.setRow Q3 U.h.cells)) rfl ⟨U, rfl, hU2.out, hUo2.out, HV0.out, HV1.out, below_setRow g3 (by omega) _⟩

theorem rset_any {T X : Vt} {p : Pth} {top : Nat} {w : World} (hT : T.In w top) (hXT : X.In w top) (hp : p.In w top) (ht : top ≤ w.heap.size) (hg : T.good) (hsz : T.size ≤ 65536) :
    Calls Tryd.prog 9 #[.agg T.h.cells, .slice p.a p.n p.c, .agg X.h.cells] w (ResOut (T.setV p.S p.n X) top w) := by
  cases h : pathB p.S p.n with
  | false => rw [setV_bad h]; exact rset_bad hT hXT hp ht h
  | true =>
    cases hn : p.n with
    | zero => rw [setV_nil (by rw [← hn]; exact h), ← hn]; exact rset_nil hT hXT hp ht h hn
    | succ m => rw [setV_suc (by rw [← hn]; exact h)]; have q := rset_ok hT hXT hp ht hg hsz h hn; rw [hn] at q; exact q
end Go.Proofs.YtfkfboiblgoamaaDoor
/- Where the values of a value lie in its walk: plain. -/
namespace Go.Proofs.YtfkfboiblgoamaaDoor
open Go.RowKit

theorem flat_at {α : Type} (f : Nat → List α) : ∀ n i j, i < n → j < (f i).length → ((List.range n).flatMap f)[sumN (fun i => (f i).length) i + j]? = (f i)[j]? := by
  intro n
  induction n with
  | zero => intro i j h; exact absurd h (Nat.not_lt_zero _)
  | succ n ih =>
    intro i j hi hj
    rw [List.range_succ, List.flatMap_append]
    by_cases e : i = n
    · subst e
      rw [List.getElem?_append_right (by rw [flat_len]; omega), flat_len, Nat.add_sub_cancel_left]
      simp
    · have h1 : sumN (fun i => (f i).length) (i + 1) ≤ sumN (fun i => (f i).length) n := sumN_mono (by omega)
      have h2 : sumN (fun i => (f i).length) (i + 1) = sumN (fun i => (f i).length) i + (f i).length := rfl
      rw [List.getElem?_append_left (by rw [flat_len]; omega)]
      exact ih i j (by omega) hj
def wkL (L : Nat → Vt) (q : List Stp) (i : Nat) : Nat := sumN (fun i => ((L i).walk (q ++ [stI i])).length) i
def wkF (K : Nat → ByteArray) (F : Nat → Vt) (q : List Stp) (i : Nat) : Nat := sumN (fun i => ((F i).walk (q ++ [stK (K i)])).length) i
theorem wkL_succ (L : Nat → Vt) (q : List Stp) (i : Nat) : wkL L q (i + 1) = wkL L q i + ((L i).walk (q ++ [stI i])).length := rfl
theorem wkF_succ (K : Nat → ByteArray) (F : Nat → Vt) (q : List Stp) (i : Nat) : wkF K F q (i + 1) = wkF K F q i + ((F i).walk (q ++ [stK (K i)])).length := rfl
theorem wkL_le (L : Nat → Vt) (q : List Stp) {i n : Nat} (h : i ≤ n) : wkL L q i ≤ wkL L q n := sumN_mono h
theorem wkF_le (K : Nat → ByteArray) (F : Nat → Vt) (q : List Stp) {i n : Nat} (h : i ≤ n) : wkF K F q i ≤ wkF K F q n := sumN_mono h
theorem walk_size (h : Vh) (Y : Nat → Int) (L : Nat → Vt) (K : Nat → ByteArray) (F : Nat → Vt) (q : List Stp) : ((Vt.mk h Y L K F).walk q).length = 1 + wkL L q h.ln + wkF K F q h.fn := by
  rw [Vt.walk, List.length_cons, List.length_append, flat_len, flat_len]
  unfold wkL wkF
  omega
theorem walk_parts {E : List (List Stp × Vt)} {k : Nat} {h : Vh} {Y : Nat → Int} {L : Nat → Vt} {K : Nat → ByteArray} {F : Nat → Vt} {q : List Stp} (hE : ∀ j, j < ((Vt.mk h Y L K F).walk q).length → E[k + j]? = ((Vt.mk h Y L K F).walk q)[j]?) :
    E[k]? = some (q, .mk h Y L K F) ∧ (∀ i, i < h.ln → ∀ j, j < ((L i).walk (q ++ [stI i])).length → E[k + 1 + wkL L q i + j]? = ((L i).walk (q ++ [stI i]))[j]?) ∧
      (∀ i, i < h.fn → ∀ j, j < ((F i).walk (q ++ [stK (K i)])).length → E[k + 1 + wkL L q h.ln + wkF K F q i + j]? = ((F i).walk (q ++ [stK (K i)]))[j]?) := by
  have hs := walk_size h Y L K F q
  have lA : ((List.range h.ln).flatMap (fun i => (L i).walk (q ++ [stI i]))).length = wkL L q h.ln := flat_len _ _
  refine ⟨?_, fun i hi j hj => ?_, fun i hi j hj => ?_⟩
  · have := hE 0 (by omega)
    rw [Nat.add_zero] at this
    rw [this, Vt.walk]
    rfl
  · have h1 := wkL_le L q (show i + 1 ≤ h.ln from hi)
    rw [wkL_succ] at h1
    have := hE (wkL L q i + j + 1) (by omega)
    rw [show k + 1 + wkL L q i + j = k + (wkL L q i + j + 1) by omega, this, Vt.walk, List.getElem?_cons_succ, List.getElem?_append_left (by omega)]
    exact flat_at (fun i => (L i).walk (q ++ [stI i])) h.ln i j hi hj
  · have h1 := wkF_le K F q (show i + 1 ≤ h.fn from hi)
    rw [wkF_succ] at h1
    have := hE (wkL L q h.ln + (wkF K F q i + j) + 1) (by omega)
    rw [show k + 1 + wkL L q h.ln + wkF K F q i + j = k + (wkL L q h.ln + (wkF K F q i + j) + 1) by omega, this, Vt.walk, List.getElem?_cons_succ, List.getElem?_append_right (by omega), lA, Nat.add_sub_cancel_left]
    exact flat_at (fun i => (F i).walk (q ++ [stK (K i)])) h.fn i j hi hj
end Go.Proofs.YtfkfboiblgoamaaDoor
