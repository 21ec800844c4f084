/- Laid together for a claim: VkRins. -/
import Derived.Test.YtfkfboiblgoamaaDoorQB26
import Derived.Test.YtfkfboiblgoamaaDoorQI06
import Derived.Test.YtfkfboiblgoamaaDoorQB25
/- The reference's Insert. -/
namespace Go.Proofs.YtfkfboiblgoamaaDoor
open Go.RowKit
set_option linter.unusedSimpArgs false
set_option linter.unusedVariables false

theorem last2_is (X : Vt) : LastIs 2 (Vt.last2 X) X := fun T s top w hT hX ht hg hsz hso hn => last2_any hT hX ht (Vt.good_own hg (by rintro rfl; exact hT.elim)) hn hsz hso

set_option maxHeartbeats 4000000 in
set_option maxRecDepth 100000 in
theorem rins_bad {T X : Vt} {p : Pth} {top : Nat} {w : World} (hT : T.In w top) (hXT : X.In w top) (hp : p.In w top) (ht : top ≤ w.heap.size) (h : pathB p.S p.n = false) :
    Calls Tryd.prog 12 #[.agg T.h.cells, .slice p.a p.n p.c, .agg X.h.cells] w (ResOut (.z, 1) top w) := by
  have hb0 := (((Below.refl w.heap.size w).alloc (Nat.le_refl _) (.cells T.h.cells 30)).alloc (by simp) (.cells X.h.cells 30)).alloc (by simp; omega) (.cells Vh.zero.cells 30)
  have P := ((Whole.new w 30 T.h.cells).alloc (.cells X.h.cells 30)).alloc (.cells Vh.zero.cells 30)
  have KB := (Whole.new (w.alloc (.cells T.h.cells 30)) 30 X.h.cells).alloc (.cells Vh.zero.cells 30)
  rw [World.size_alloc] at KB
  have Q := Whole.new ((w.alloc (.cells T.h.cells 30)).alloc (.cells X.h.cells 30)) 30 Vh.zero.cells
  rw [World.size_alloc, World.size_alloc] at Q
  have HV := Lib.hid (fun (w1 : World) (hb : Below w.heap.size w w1) => rpvalid_any (Pth.In.below hp (hb.mono ht)) (Nat.le_trans ht hb.size))
  have HE : Hid (∀ w', Below w.heap.size w w' → ResOut ((.z, 1) : Vt × Int) top w (.returned (.tuple #[.agg Vh.zero.cells, .int .i64 1])) w') := Lib.hid fun w' hb => res_of (X := .z) rfl (Vt.z_in _ _) (Vt.z_off _) (fun q => absurd q (by decide)) (fun _ => rfl) hb
  rw [h] at HV
  clear h
  clear hT hp hXT
  simp only [Vh.cells, Vh.zero] at hb0 P Q KB ⊢
  go_enter Tryd.func12, Tryd.ntmps12
  go_wp2_with fail
  refine (HV.out _ hb0).mono ?_; rintro _ w1 ⟨rfl, hb1⟩
  have g1 := below_then hb0 hb1
  have P1 := P.below hb1 P.lt
  have Q1 := Q.below hb1 Q.lt
  have K1 := Whole.below KB hb1 KB.lt
  clear P Q KB hb0 hb1
  have hone := Lib.hid (vh_all Vh.zero)
  go_wp2_with (refine wpList_store_row rfl 30 _ _ rfl (w.heap.size + 2) Vh.zero.cells rfl rfl 30 _ Q1 vh_row rfl hone.out ?_)
  exact bodyPost_ret (v := .tuple #[.agg Vh.zero.cells, .int .i64 1]) (ret_val2 (p := 6) (q := 7) rfl rfl (Whole.setRow Q1 Vh.zero.cells)) rfl (HE.out _ (below_setRow g1 (by omega) _))

set_option maxHeartbeats 4000000 in
set_option maxRecDepth 100000 in
theorem rins_nil {T X : Vt} {p : Pth} {top : Nat} {w : World} (hT : T.In w top) (hXT : X.In w top) (hp : p.In w top) (ht : top ≤ w.heap.size) (h : pathB p.S p.n = true) (h0 : p.n = 0) :
    Calls Tryd.prog 12 #[.agg T.h.cells, .slice p.a p.n p.c, .agg X.h.cells] w (ResOut (.z, 1) top w) := by
  have hb0 := (((Below.refl w.heap.size w).alloc (Nat.le_refl _) (.cells T.h.cells 30)).alloc (by simp) (.cells X.h.cells 30)).alloc (by simp; omega) (.cells Vh.zero.cells 30)
  have P := ((Whole.new w 30 T.h.cells).alloc (.cells X.h.cells 30)).alloc (.cells Vh.zero.cells 30)
  have KB := (Whole.new (w.alloc (.cells T.h.cells 30)) 30 X.h.cells).alloc (.cells Vh.zero.cells 30)
  rw [World.size_alloc] at KB
  have Q := Whole.new ((w.alloc (.cells T.h.cells 30)).alloc (.cells X.h.cells 30)) 30 Vh.zero.cells
  rw [World.size_alloc, World.size_alloc] at Q
  have HV := Lib.hid (fun (w1 : World) (hb : Below w.heap.size w w1) => rpvalid_any (Pth.In.below hp (hb.mono ht)) (Nat.le_trans ht hb.size))
  have HE : Hid (∀ w', Below w.heap.size w w' → ResOut ((.z, 1) : Vt × Int) top w (.returned (.tuple #[.agg Vh.zero.cells, .int .i64 1])) w') := Lib.hid fun w' hb => res_of (X := .z) rfl (Vt.z_in _ _) (Vt.z_off _) (fun q => absurd q (by decide)) (fun _ => rfl) hb
  rw [h, h0] at HV
  rw [h0]
  clear h h0
  clear hT hp hXT
  simp only [Vh.cells, Vh.zero] at hb0 P Q KB ⊢
  go_enter Tryd.func12, Tryd.ntmps12
  go_wp2_with fail
  refine (HV.out _ hb0).mono ?_; rintro _ w1 ⟨rfl, hb1⟩
  have g1 := below_then hb0 hb1
  have P1 := P.below hb1 P.lt
  have Q1 := Q.below hb1 Q.lt
  have K1 := Whole.below KB hb1 KB.lt
  clear P Q KB hb0 hb1
  have hone := Lib.hid (vh_all Vh.zero)
  go_wp2_with (refine wpList_store_row rfl 30 _ _ rfl (w.heap.size + 2) Vh.zero.cells rfl rfl 30 _ Q1 vh_row rfl hone.out ?_)
  exact bodyPost_ret (v := .tuple #[.agg Vh.zero.cells, .int .i64 1]) (ret_val2 (p := 6) (q := 7) rfl rfl (Whole.setRow Q1 Vh.zero.cells)) rfl (HE.out _ (below_setRow g1 (by omega) _))

set_option maxHeartbeats 4000000 in
set_option maxRecDepth 100000 in
theorem rins_ok {T X : Vt} {p : Pth} {top : Nat} {w : World} (hT : T.In w top) (hXT : X.In w top) (hp : p.In w top) (ht : top ≤ w.heap.size) (hg : T.good) (hsz : T.size ≤ 65536) (h : pathB p.S p.n = true) {m : Nat} (h0 : p.n = m + 1) :
    Calls Tryd.prog 12 #[.agg T.h.cells, .slice p.a p.n p.c, .agg X.h.cells] w (ResOut (chkR (Vt.chgV (Vt.last2 X) (m + 1) p.S T)) top w) := by
  have hb0 := (((Below.refl w.heap.size w).alloc (Nat.le_refl _) (.cells T.h.cells 30)).alloc (by simp) (.cells X.h.cells 30)).alloc (by simp; omega) (.cells Vh.zero.cells 30)
  have P := ((Whole.new w 30 T.h.cells).alloc (.cells X.h.cells 30)).alloc (.cells Vh.zero.cells 30)
  have KB := (Whole.new (w.alloc (.cells T.h.cells 30)) 30 X.h.cells).alloc (.cells Vh.zero.cells 30)
  rw [World.size_alloc] at KB
  have Q := Whole.new ((w.alloc (.cells T.h.cells 30)).alloc (.cells X.h.cells 30)) 30 Vh.zero.cells
  rw [World.size_alloc, World.size_alloc] at Q
  have HV := Lib.hid (fun (w1 : World) (hb : Below w.heap.size w w1) => rpvalid_any (Pth.In.below hp (hb.mono ht)) (Nat.le_trans ht hb.size))
  have HC := Lib.hid (fun (w1 : World) (hb : Below w.heap.size w w1) => rch_any (last2_is X) ⟨by decide, by decide⟩ m p T top w1 h0 (Vt.In.below (hb.mono ht) hT) (Vt.In.below (hb.mono ht) hXT) (Pth.In.below hp (hb.mono ht)) (Nat.le_trans ht hb.size) hg hsz (pathB_ok h).2)
  obtain ⟨⟨V, E⟩, hR⟩ : ∃ R, Vt.chgV (Vt.last2 X) (m + 1) p.S T = R := ⟨_, rfl⟩
  rw [hR] at HC ⊢
  rw [h] at HV
  have HK := Lib.hid (fun (Z : Vt) (w1 : World) (S : Nat → Prop) (hZ : Z.In w1 w1.heap.size) (hZo : Z.Off S) => rchkd_any (E := E) hZ hZo)
  have HS : Hid (∀ (Z : Vt) (U : Vt), (E = 0 → Z.Same V) → (E ≠ 0 → Z = .z) → ((chkR (Z, E)).2 = 0 → U.Same (chkR (Z, E)).1) → ((chkR (Z, E)).2 ≠ 0 → U = .z) → ((chkR (Z, E)).2 = (chkR (V, E)).2 ∧ ((chkR (V, E)).2 = 0 → U.Same (chkR (V, E)).1) ∧ ((chkR (V, E)).2 ≠ 0 → U = .z))) := Lib.hid fun Z U k0 k1 k2 k3 => by
    by_cases q : E = 0
    · subst q
      have hs := k0 rfl
      rw [chkR_ok] at k2 k3
      rw [chkR_ok, chkR_ok]
      have hl : Z.look 1 0 = V.look 1 0 := look_same hs
      unfold Vt.chkV at k2 k3 ⊢
      rw [hl] at k2 k3 ⊢
      by_cases z : (V.look 1 0).2 ≠ 0
      · rw [if_pos z] at k2 k3 ⊢
        rw [if_pos z]
        exact ⟨rfl, k2, k3⟩
      · rw [if_neg z] at k2 k3 ⊢
        rw [if_neg z]
        exact ⟨rfl, fun _ => (k2 rfl).trans hs, fun y => absurd rfl y⟩
    · rw [chkR_bad q] at k2 k3
      rw [chkR_bad q, chkR_bad q]
      exact ⟨rfl, k2, k3⟩
  have n1 : ((m : Int) + 1 == 0) = false := beq_eq_false_iff_ne.2 (by omega)
  have n2 : (((m + 1 : Nat) : Int) == 0) = false := beq_eq_false_iff_ne.2 (by omega)
  have n3 : (m + 1 == 0) = false := beq_eq_false_iff_ne.2 (by omega)
  obtain ⟨R, hR2⟩ : ∃ R, chkR (V, E) = R := ⟨_, rfl⟩
  rw [hR2] at HS ⊢
  clear hR2
  rw [h0] at HC HV ⊢
  clear hR hT hXT hp hg hsz h h0
  simp only [Vh.cells, Vh.zero] at hb0 P Q KB HC ⊢
  go_enter Tryd.func12, Tryd.ntmps12
  go_wp2_with fail
  refine (HV.out _ hb0).mono ?_; rintro _ w1 ⟨rfl, hb1⟩
  have g1 := below_then hb0 hb1
  have P1 := P.below hb1 P.lt
  have Q1 := Q.below hb1 Q.lt
  have K1 := Whole.below KB hb1 KB.lt
  clear P Q KB hb0 hb1
  obtain ⟨c0, c1, c2, c3, c4, c5, c6, c7, c8, c9, c10, c11, c12⟩ := Whole.c13 (h := T.h) P1
  obtain ⟨x0, x1, x2, x3, x4, x5, x6, x7, x8, x9, x10, x11, x12⟩ := Whole.c13 (h := X.h) K1
  go_wp2_with fail
  refine (HC.out _ g1).mono ?_; rintro _ w2 ⟨Z, rfl, hZ, hZo, hZ0, hZ1, hb2⟩
  have g2 := below_then g1 hb2
  have hw1 := g1.size
  have hs2 := hb2.size
  have hQ1 := Q1.lt
  have Q2 := Whole.below Q1 hb2 Q1.lt
  have HZ := Lib.hid hZ
  have HZo := Lib.hid hZo
  have HZ0 := Lib.hid hZ0
  have HZ1 := Lib.hid hZ1
  clear hZ hZo hZ0 hZ1 hb2 g1 P1 Q1 K1 HC c0 c1 c2 c3 c4 c5 c6 c7 c8 c9 c10 c11 c12 x0 x1 x2 x3 x4 x5 x6 x7 x8 x9 x10 x11 x12
  simp only [Vh.cells] at HK
  go_wp2_with fail
  refine (HK.out Z _ _ HZ.out HZo.out).mono ?_; rintro _ w3 ⟨U, rfl, hU, hUo, hU0, hU1, hb3⟩
  have g3 := below_then g2 hb3
  have hQ2 := Q2.lt
  have Q3 := Whole.below Q2 hb3 Q2.lt
  obtain ⟨hE, hV0, hV1⟩ := HS.out Z U HZ0.out HZ1.out hU0 hU1
  have hone := Lib.hid (vh_all U.h)
  have hU2 := Lib.hid (hU.stays hUo (W' := w3.setRow (w.heap.size + 2) U.h.cells) (fun b hb => setRow_other _ _ _ _ (by omega)) (by rw [size_setRow]; exact Nat.le_refl _))
  have hUo2 : Hid (U.Off (fun b => b < top ∨ w.heap.size ≤ b)) := Lib.hid (hUo.mono fun b hb => by omega)
  have HV0 := Lib.hid hV0
  have HV1 := Lib.hid hV1
  rw [hE]
  clear hU hUo hU0 hU1 hV0 hV1 hb3 g2 Q2 hQ1 hE HS HZ0 HZ1 HZ HZo HK
  go_wp2_with (refine wpList_store_row rfl 30 _ _ rfl (w.heap.size + 2) U.h.cells rfl rfl 30 _ Q3 vh_row rfl hone.out ?_)
  exact bodyPost_ret (v := .tuple #[.agg U.h.cells, .int .i64 R.2]) (ret_val2 (p := 6) (q := 7) rfl rfl (Whole.setRow Q3 U.h.cells)) rfl ⟨U, rfl, hU2.out, hUo2.out, HV0.out, HV1.out, below_setRow g3 (by omega) _⟩

theorem rins_any {T X : Vt} {p : Pth} {top : Nat} {w : World} (hT : T.In w top) (hXT : X.In w top) (hp : p.In w top) (ht : top ≤ w.heap.size) (hg : T.good) (hsz : T.size ≤ 65536) :
    Calls Tryd.prog 12 #[.agg T.h.cells, .slice p.a p.n p.c, .agg X.h.cells] w (ResOut (T.insV p.S p.n X) top w) := by
  cases h : pathB p.S p.n with
  | false => rw [insV_bad (.inl h)]; exact rins_bad hT hXT hp ht h
  | true =>
    cases hn : p.n with
    | zero => rw [insV_bad (.inr rfl), ← hn]; exact rins_nil hT hXT hp ht h hn
    | succ m => rw [insV_suc (by rw [← hn]; exact h)]; have q := rins_ok hT hXT hp ht hg hsz h hn; rw [hn] at q; exact q
end Go.Proofs.YtfkfboiblgoamaaDoor
