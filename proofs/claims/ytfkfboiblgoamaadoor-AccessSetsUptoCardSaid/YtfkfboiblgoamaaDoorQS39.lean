/- Laid together for one claim: VkRset, VtLawS, Base. -/
import Derived.Test.YtfkfboiblgoamaaDoorQS34
import Derived.Test.YtfkfboiblgoamaaDoorQS38
import Derived.Test.YtfkfboiblgoamaaDoorQS33
import Derived.Test.YtfkfboiblgoamaaDoorQS24
import Derived.Test.YtfkfboiblgoamaaDoorQS23
import Derived.Below
import Derived.ChangeSame
import Derived.ProofKit
/- The reference's Set. -/
namespace Go.Proofs.YtfkfboiblgoamaaDoor
open Go.RowKit
set_option linter.unusedSimpArgs false
set_option linter.unusedVariables false

theorem last1_is (X : Vt) : LastIs 1 (Vt.last1 X) X := fun T s top w hT hX ht hg hsz hso hn => last1_any hT hX ht (Vt.good_own hg (by rintro rfl; exact hT.elim)) hn hsz hso

set_option maxHeartbeats 4000000 in
set_option maxRecDepth 100000 in
theorem rset_bad {T X : Vt} {p : Pth} {top : Nat} {w : World} (hT : T.In w top) (hXT : X.In w top) (hp : p.In w top) (ht : top ≤ w.heap.size) (h : pathB p.S p.n = false) :
    Calls Tryd.prog 9 #[.agg T.h.cells, .slice p.a p.n p.c, .agg X.h.cells] w (ResOut (.z, 1) top w) := by
  have hb0 := (((Below.refl w.heap.size w).alloc (Nat.le_refl _) (.cells T.h.cells 30)).alloc (by simp) (.cells X.h.cells 30)).alloc (by simp; omega) (.cells Vh.zero.cells 30)
  have P := ((Whole.new w 30 T.h.cells).alloc (.cells X.h.cells 30)).alloc (.cells Vh.zero.cells 30)
  have KB := (Whole.new (w.alloc (.cells T.h.cells 30)) 30 X.h.cells).alloc (.cells Vh.zero.cells 30)
  rw [World.size_alloc] at KB
  have Q := Whole.new ((w.alloc (.cells T.h.cells 30)).alloc (.cells X.h.cells 30)) 30 Vh.zero.cells
  rw [World.size_alloc, World.size_alloc] at Q
  have HV := Lib.hid (fun (w1 : World) (hb : Below w.heap.size w w1) => rpvalid_any (Pth.In.below hp (hb.mono ht)) (Nat.le_trans ht hb.size))
  have HE : Hid (∀ w', Below w.heap.size w w' → ResOut ((.z, 1) : Vt × Int) top w (.returned (.tuple #[.agg Vh.zero.cells, .int .i64 1])) w') := Lib.hid fun w' hb => res_of (X := .z) rfl (Vt.z_in _ _) (Vt.z_off _) (fun q => absurd q (by decide)) (fun _ => rfl) hb
  rw [h] at HV
  clear h
  clear hT hp hXT
  simp only [Vh.cells, Vh.zero] at hb0 P Q KB ⊢
  go_enter Tryd.func9, Tryd.ntmps9
  go_wp2_with fail
  refine (HV.out _ hb0).mono ?_; rintro _ w1 ⟨rfl, hb1⟩
  have g1 := below_then hb0 hb1
  have P1 := P.below hb1 P.lt
  have Q1 := Q.below hb1 Q.lt
  have K1 := Whole.below KB hb1 KB.lt
  clear P Q KB hb0 hb1
  have hone := Lib.hid (vh_all Vh.zero)
  go_wp2_with (refine wpList_store_row rfl 30 _ _ rfl (w.heap.size + 2) Vh.zero.cells rfl rfl 30 _ Q1 vh_row rfl hone.out ?_)
  exact bodyPost_ret (v := .tuple #[.agg Vh.zero.cells, .int .i64 1]) (ret_val2 (p := 6) (q := 7) rfl rfl (Whole.setRow Q1 Vh.zero.cells)) rfl (HE.out _ (below_setRow g1 (by omega) _))

set_option maxHeartbeats 4000000 in
set_option maxRecDepth 100000 in
theorem rset_nil {T X : Vt} {p : Pth} {top : Nat} {w : World} (hT : T.In w top) (hXT : X.In w top) (hp : p.In w top) (ht : top ≤ w.heap.size) (h : pathB p.S p.n = true) (h0 : p.n = 0) :
    Calls Tryd.prog 9 #[.agg T.h.cells, .slice p.a p.n p.c, .agg X.h.cells] w (ResOut (X, 0) top w) := by
  have hb0 := (((Below.refl w.heap.size w).alloc (Nat.le_refl _) (.cells T.h.cells 30)).alloc (by simp) (.cells X.h.cells 30)).alloc (by simp; omega) (.cells Vh.zero.cells 30)
  have P := ((Whole.new w 30 T.h.cells).alloc (.cells X.h.cells 30)).alloc (.cells Vh.zero.cells 30)
  have KB := (Whole.new (w.alloc (.cells T.h.cells 30)) 30 X.h.cells).alloc (.cells Vh.zero.cells 30)
  rw [World.size_alloc] at KB
  have Q := Whole.new ((w.alloc (.cells T.h.cells 30)).alloc (.cells X.h.cells 30)) 30 Vh.zero.cells
  rw [World.size_alloc, World.size_alloc] at Q
  have HV := Lib.hid (fun (w1 : World) (hb : Below w.heap.size w w1) => rpvalid_any (Pth.In.below hp (hb.mono ht)) (Nat.le_trans ht hb.size))
  have HE := Lib.hid (fun (w' : World) (hb : Below w.heap.size w w') => (res_of (R := (X, 0)) (E := 0) (X := X) rfl ((Vt.In.below (hb.mono ht) hXT).up (Nat.le_trans ht hb.size)) (hXT.off.mono fun b q => .inl q) (fun _ => Vt.Same.rfl' hXT.whole) (fun q => absurd rfl q) hb : ResOut (X, 0) top w _ w'))
  rw [h, h0] at HV
  rw [h0]
  clear h h0
  clear hT hp hXT
  simp only [Vh.cells, Vh.zero] at hb0 P Q KB HE ⊢
  go_enter Tryd.func9, Tryd.ntmps9
  go_wp2_with fail
  refine (HV.out _ hb0).mono ?_; rintro _ w1 ⟨rfl, hb1⟩
  have g1 := below_then hb0 hb1
  have P1 := P.below hb1 P.lt
  have Q1 := Q.below hb1 Q.lt
  have K1 := Whole.below KB hb1 KB.lt
  clear P Q KB hb0 hb1
  obtain ⟨c0, c1, c2, c3, c4, c5, c6, c7, c8, c9, c10, c11, c12⟩ := Whole.c13 (h := X.h) K1
  have hone := Lib.hid (vh_all X.h)
  go_wp2_with (refine wpList_store_row rfl 30 _ _ rfl (w.heap.size + 2) X.h.cells rfl rfl 30 _ Q1 vh_row rfl hone.out ?_)
  exact bodyPost_ret (v := .tuple #[.agg X.h.cells, .int .i64 0]) (ret_val2 (p := 6) (q := 7) rfl rfl (Whole.setRow Q1 X.h.cells)) rfl (HE.out _ (below_setRow g1 (by omega) _))

set_option maxHeartbeats 4000000 in
set_option maxRecDepth 100000 in
theorem rset_ok {T X : Vt} {p : Pth} {top : Nat} {w : World} (hT : T.In w top) (hXT : X.In w top) (hp : p.In w top) (ht : top ≤ w.heap.size) (hg : T.good) (hsz : T.size ≤ 65536) (h : pathB p.S p.n = true) {m : Nat} (h0 : p.n = m + 1) :
    Calls Tryd.prog 9 #[.agg T.h.cells, .slice p.a p.n p.c, .agg X.h.cells] w (ResOut (chkR (Vt.chgV (Vt.last1 X) (m + 1) p.S T)) top w) := by
  have hb0 := (((Below.refl w.heap.size w).alloc (Nat.le_refl _) (.cells T.h.cells 30)).alloc (by simp) (.cells X.h.cells 30)).alloc (by simp; omega) (.cells Vh.zero.cells 30)
  have P := ((Whole.new w 30 T.h.cells).alloc (.cells X.h.cells 30)).alloc (.cells Vh.zero.cells 30)
  have KB := (Whole.new (w.alloc (.cells T.h.cells 30)) 30 X.h.cells).alloc (.cells Vh.zero.cells 30)
  rw [World.size_alloc] at KB
  have Q := Whole.new ((w.alloc (.cells T.h.cells 30)).alloc (.cells X.h.cells 30)) 30 Vh.zero.cells
  rw [World.size_alloc, World.size_alloc] at Q
  have HV := Lib.hid (fun (w1 : World) (hb : Below w.heap.size w w1) => rpvalid_any (Pth.In.below hp (hb.mono ht)) (Nat.le_trans ht hb.size))
  have HC := Lib.hid (fun (w1 : World) (hb : Below w.heap.size w w1) => rch_any (last1_is X) ⟨by decide, by decide⟩ m p T top w1 h0 (Vt.In.below (hb.mono ht) hT) (Vt.In.below (hb.mono ht) hXT) (Pth.In.below hp (hb.mono ht)) (Nat.le_trans ht hb.size) hg hsz (pathB_ok h).2)
  obtain ⟨⟨V, E⟩, hR⟩ : ∃ R, Vt.chgV (Vt.last1 X) (m + 1) p.S T = R := ⟨_, rfl⟩
  rw [hR] at HC ⊢
  rw [h] at HV
  have HK := Lib.hid (fun (Z : Vt) (w1 : World) (S : Nat → Prop) (hZ : Z.In w1 w1.heap.size) (hZo : Z.Off S) => rchkd_any (E := E) hZ hZo)
  have HS : Hid (∀ (Z : Vt) (U : Vt), (E = 0 → Z.Same V) → (E ≠ 0 → Z = .z) → ((chkR (Z, E)).2 = 0 → U.Same (chkR (Z, E)).1) → ((chkR (Z, E)).2 ≠ 0 → U = .z) → ((chkR (Z, E)).2 = (chkR (V, E)).2 ∧ ((chkR (V, E)).2 = 0 → U.Same (chkR (V, E)).1) ∧ ((chkR (V, E)).2 ≠ 0 → U = .z))) := Lib.hid fun Z U k0 k1 k2 k3 => by
    by_cases q : E = 0
    · subst q
      have hs := k0 rfl
      rw [chkR_ok] at k2 k3
      rw [chkR_ok, chkR_ok]
      have hl : Z.look 1 0 = V.look 1 0 := look_same hs
      unfold Vt.chkV at k2 k3 ⊢
      rw [hl] at k2 k3 ⊢
      by_cases z : (V.look 1 0).2 ≠ 0
      · rw [if_pos z] at k2 k3 ⊢
        rw [if_pos z]
        exact ⟨rfl, k2, k3⟩
      · rw [if_neg z] at k2 k3 ⊢
        rw [if_neg z]
        exact ⟨rfl, fun _ => (k2 rfl).trans hs, fun y => absurd rfl y⟩
    · rw [chkR_bad q] at k2 k3
      rw [chkR_bad q, chkR_bad q]
      exact ⟨rfl, k2, k3⟩
  have n1 : ((m : Int) + 1 == 0) = false := beq_eq_false_iff_ne.2 (by omega)
  have n2 : (((m + 1 : Nat) : Int) == 0) = false := beq_eq_false_iff_ne.2 (by omega)
  have n3 : (m + 1 == 0) = false := beq_eq_false_iff_ne.2 (by omega)
  obtain ⟨R, hR2⟩ : ∃ R, chkR (V, E) = R := ⟨_, rfl⟩
  rw [hR2] at HS ⊢
  clear hR2
  rw [h0] at HC HV ⊢
  clear hR hT hXT hp hg hsz h h0
  simp only [Vh.cells, Vh.zero] at hb0 P Q KB HC ⊢
  go_enter Tryd.func9, Tryd.ntmps9
  go_wp2_with fail
  refine (HV.out _ hb0).mono ?_; rintro _ w1 ⟨rfl, hb1⟩
  have g1 := below_then hb0 hb1
  have P1 := P.below hb1 P.lt
  have Q1 := Q.below hb1 Q.lt
  have K1 := Whole.below KB hb1 KB.lt
  clear P Q KB hb0 hb1
  obtain ⟨c0, c1, c2, c3, c4, c5, c6, c7, c8, c9, c10, c11, c12⟩ := Whole.c13 (h := T.h) P1
  obtain ⟨x0, x1, x2, x3, x4, x5, x6, x7, x8, x9, x10, x11, x12⟩ := Whole.c13 (h := X.h) K1
  go_wp2_with fail
  refine (HC.out _ g1).mono ?_; rintro _ w2 ⟨Z, rfl, hZ, hZo, hZ0, hZ1, hb2⟩
  have g2 := below_then g1 hb2
  have hw1 := g1.size
  have hs2 := hb2.size
  have hQ1 := Q1.lt
  have Q2 := Whole.below Q1 hb2 Q1.lt
  have HZ := Lib.hid hZ
  have HZo := Lib.hid hZo
  have HZ0 := Lib.hid hZ0
  have HZ1 := Lib.hid hZ1
  clear hZ hZo hZ0 hZ1 hb2 g1 P1 Q1 K1 HC c0 c1 c2 c3 c4 c5 c6 c7 c8 c9 c10 c11 c12 x0 x1 x2 x3 x4 x5 x6 x7 x8 x9 x10 x11 x12
  simp only [Vh.cells] at HK
  go_wp2_with fail
  refine (HK.out Z _ _ HZ.out HZo.out).mono ?_; rintro _ w3 ⟨U, rfl, hU, hUo, hU0, hU1, hb3⟩
  have g3 := below_then g2 hb3
  have hQ2 := Q2.lt
  have Q3 := Whole.below Q2 hb3 Q2.lt
  obtain ⟨hE, hV0, hV1⟩ := HS.out Z U HZ0.out HZ1.out hU0 hU1
  have hone := Lib.hid (vh_all U.h)
  have hU2 := Lib.hid (hU.stays hUo (W' := w3.setRow (w.heap.size + 2) U.h.cells) (fun b hb => setRow_other _ _ _ _ (by omega)) (by rw [size_setRow]; exact Nat.le_refl _))
  have hUo2 : Hid (U.Off (fun b => b < top ∨ w.heap.size ≤ b)) := Lib.hid (hUo.mono fun b hb => by omega)
  have HV0 := Lib.hid hV0
  have HV1 := Lib.hid hV1
  rw [hE]
  clear hU hUo hU0 hU1 hV0 hV1 hb3 g2 Q2 hQ1 hE HS HZ0 HZ1 HZ HZo HK
  go_wp2_with (refine wpList_store_row rfl 30 _ _ rfl (w.heap.size + 2) U.h.cells rfl rfl 30 _ Q3 vh_row rfl hone.out ?_)
  exact bodyPost_ret (v := .tuple #[.agg U.h.cells, .int .i64 R.2]) (ret_val2 (p := 6) (q := 7) rfl rfl (Whole.setRow Q3 U.h.cells)) rfl ⟨U, rfl, hU2.out, hUo2.out, HV0.out, HV1.out, below_setRow g3 (by omega) _⟩

theorem rset_any {T X : Vt} {p : Pth} {top : Nat} {w : World} (hT : T.In w top) (hXT : X.In w top) (hp : p.In w top) (ht : top ≤ w.heap.size) (hg : T.good) (hsz : T.size ≤ 65536) :
    Calls Tryd.prog 9 #[.agg T.h.cells, .slice p.a p.n p.c, .agg X.h.cells] w (ResOut (T.setV p.S p.n X) top w) := by
  cases h : pathB p.S p.n with
  | false => rw [setV_bad h]; exact rset_bad hT hXT hp ht h
  | true =>
    cases hn : p.n with
    | zero => rw [setV_nil (by rw [← hn]; exact h), ← hn]; exact rset_nil hT hXT hp ht h hn
    | succ m => rw [setV_suc (by rw [← hn]; exact h)]; have q := rset_ok hT hXT hp ht hg hsz h hn; rw [hn] at q; exact q
end Go.Proofs.YtfkfboiblgoamaaDoor
/- The law of Sets, walked. -/
namespace Go.Proofs.YtfkfboiblgoamaaDoor
open Go.RowKit
set_option linter.unusedSimpArgs false
set_option linter.unusedVariables false

theorem res_alikeSets {R : Vt × Int} {X U : Vt} (h0 : R.2 = 0 → X.Same R.1) (h1 : R.2 ≠ 0 → X = .z) (k0 : R.2 = 0 → U.Same R.1) (k1 : R.2 ≠ 0 → U = .z) : X.Same U := by
  by_cases e : R.2 = 0
  · exact (h0 e).trans (k0 e).symm
  · rw [h1 e, k1 e]; exact Vt.z_same

set_option maxHeartbeats 8000000 in
set_option maxRecDepth 100000 in
theorem walk_AccessSets (W : World) (T : Vt) (hT : T.In W W.heap.size) (p : Pth) (hp : p.In W W.heap.size) (X0 : Vt) (hXT : X0.In W W.heap.size) :
    Calls Tryd.prog 3 #[.agg T.h.cells, .slice p.a p.n p.c, .agg X0.h.cells] W fun e W' => e = .returned (.bool true) ∧ Below W.heap.size W W' := by
  have hb0 := ((Below.refl W.heap.size W).alloc (Nat.le_refl _) (.cells T.h.cells 30)).alloc (by simp) (.cells X0.h.cells 30)
  have P := (Whole.new W 30 T.h.cells).alloc (.cells X0.h.cells 30)
  have XX := Whole.new (W.alloc (.cells T.h.cells 30)) 30 X0.h.cells
  rw [World.size_alloc] at XX
  have HV := Lib.hid (fun (w1 : World) (hb : Below W.heap.size W w1) => lvalid_any (Vt.In.below hb hT) hb.size)
  obtain ⟨B, hB⟩ : ∃ B, vldB T = B := ⟨_, rfl⟩
  rw [hB] at HV
  have HVx := Lib.hid (fun (w1 : World) (hb : Below W.heap.size W w1) => lvalid_any (Vt.In.below hb hXT) hb.size)
  obtain ⟨Bx, hBx⟩ : ∃ B, vldB X0 = B := ⟨_, rfl⟩
  rw [hBx] at HVx
  cases B
  · clear hT hp hB HVx hXT hBx
    simp only [Vh.cells] at hb0 HV ⊢
    go_enter Tryd.func3, Tryd.ntmps3
    go_wp2_with fail
    refine (HV.out _ hb0).mono ?_; rintro _ w1 ⟨rfl, hb1⟩
    go_wp2
    go_ret
    exact ⟨rfl, below_then hb0 hb1⟩
  cases Bx
  · clear hT hp hB hXT hBx
    simp only [Vh.cells] at hb0 HV HVx XX ⊢
    go_enter Tryd.func3, Tryd.ntmps3
    go_wp2_with fail
    refine (HV.out _ hb0).mono ?_; rintro _ w1 ⟨rfl, hb1⟩
    have g1 := below_then hb0 hb1
    have X1 := Whole.below XX hb1 (Whole.lt XX)
    obtain ⟨x0, x1, x2, x3, x4, x5, x6, x7, x8, x9, x10, x11, x12⟩ := Whole.c13 (h := X0.h) X1
    go_wp2_with fail
    refine (HVx.out _ g1).mono ?_; rintro _ w2 ⟨rfl, hb2⟩
    clear x0 x1 x2 x3 x4 x5 x6 x7 x8 x9 x10 x11 x12
    go_wp2
    go_ret
    exact ⟨rfl, below_then g1 hb2⟩
  obtain ⟨hgx, hux, hszx⟩ := valid_parts hXT.whole hBx
  have hszx : X0.size ≤ 65536 := by omega
  obtain ⟨hg, hu, hsz⟩ := valid_parts hT.whole hB
  have hsz : T.size ≤ 65536 := by omega
  have HG := Lib.hid (fun (w1 : World) (hb : Below W.heap.size W w1) => aset_any (Vt.In.below hb hT) (Vt.In.below hb hXT) (Pth.In.below hp hb) hb.size hg hu hsz hux)
  have HR := Lib.hid (fun (w1 : World) (hb : Below W.heap.size W w1) => rset_any (Vt.In.below hb hT) (Vt.In.below hb hXT) (Pth.In.below hp hb) hb.size hg hsz)
  obtain ⟨R, hR⟩ : ∃ R, T.setV p.S p.n X0 = R := ⟨_, rfl⟩
  rw [hR] at HG HR
  clear hR hT hp hB hu hg hsz hXT hBx hgx hux hszx
  simp only [Vh.cells] at hb0 HV HVx XX HR HG ⊢
  go_enter Tryd.func3, Tryd.ntmps3
  go_wp2_with fail
  refine (HV.out _ hb0).mono ?_; rintro _ w0 ⟨rfl, hb1⟩
  have g0 := below_then hb0 hb1
  have P0 := Whole.below P hb1 (Whole.lt P)
  have Xq := Whole.below XX hb1 (Whole.lt XX)
  clear P XX hb0 hb1
  obtain ⟨x0, x1, x2, x3, x4, x5, x6, x7, x8, x9, x10, x11, x12⟩ := Whole.c13 (h := X0.h) Xq
  go_wp2_with fail
  refine (HVx.out _ g0).mono ?_; rintro _ w1 ⟨rfl, hb1⟩
  have g1 := below_then g0 hb1
  have P1 := Whole.below P0 hb1 (Whole.lt P0)
  have X1 := Whole.below Xq hb1 (Whole.lt Xq)
  clear g0 P0 Xq hb1 x0 x1 x2 x3 x4 x5 x6 x7 x8 x9 x10 x11 x12
  obtain ⟨x0, x1, x2, x3, x4, x5, x6, x7, x8, x9, x10, x11, x12⟩ := Whole.c13 (h := X0.h) X1
  obtain ⟨c0, c1, c2, c3, c4, c5, c6, c7, c8, c9, c10, c11, c12⟩ := Whole.c13 (h := T.h) P1
  go_wp2_with fail
  refine (HG.out _ g1).mono ?_; rintro _ w2 ⟨X, rfl, hX, -, hX0, hX1, hb2⟩
  have g2 := below_then g1 hb2
  have P2 := (P1.below hb2 P1.lt).alloc (.cells X.h.cells 30)
  have X2 := (X1.below hb2 X1.lt).alloc (.cells X.h.cells 30)
  have gA := g2.alloc g2.size (.cells X.h.cells 30)
  have XA := Whole.new w2 30 X.h.cells
  have hXA := Lib.hid (hX.later ((Below.refl _ w2).alloc (Nat.le_refl _) (.cells X.h.cells 30)))
  have HX0 := Lib.hid hX0
  have HX1 := Lib.hid hX1
  clear c0 c1 c2 c3 c4 c5 c6 c7 c8 c9 c10 c11 c12 hX0 hX1 hX P1 HV HG g1 g2 X1 HVx x0 x1 x2 x3 x4 x5 x6 x7 x8 x9 x10 x11 x12
  have q1 := P2.lt
  have q2 := XA.lt
  obtain ⟨c0, c1, c2, c3, c4, c5, c6, c7, c8, c9, c10, c11, c12⟩ := Whole.c13 (h := T.h) P2
  obtain ⟨x0, x1, x2, x3, x4, x5, x6, x7, x8, x9, x10, x11, x12⟩ := Whole.c13 (h := X0.h) X2
  simp only [Vh.cells] at gA XA hXA P2 q1 q2 c0 c1 c2 c3 c4 c5 c6 c7 c8 c9 c10 c11 c12 X2 x0 x1 x2 x3 x4 x5 x6 x7 x8 x9 x10 x11 x12
  go_wp2_with fail
  refine (HR.out _ gA).mono ?_; rintro _ w3 ⟨U, rfl, hU, -, hU0, hU1, hb3⟩
  clear c0 c1 c2 c3 c4 c5 c6 c7 c8 c9 c10 c11 c12 x0 x1 x2 x3 x4 x5 x6 x7 x8 x9 x10 x11 x12
  have g3 := below_then gA hb3
  have X3 := (XA.below hb3 q2).alloc (.cells U.h.cells 30)
  have U3 := Whole.new w3 30 U.h.cells
  have gB := g3.alloc g3.size (.cells U.h.cells 30)
  have hXB := hXA.out.later (hb3.alloc hb3.size (.cells U.h.cells 30))
  have hUB := hU.later ((Below.refl _ w3).alloc (Nat.le_refl _) (.cells U.h.cells 30))
  have HAl := Lib.hid (alike_any (e := R.2) (f := R.2) hXB hUB (Nat.le_refl _))
  have hS : sameB X U = true := sameB_iff.2 (res_alikeSets HX0.out HX1.out hU0 hU1)
  rw [hS] at HAl
  have hE : (R.2 == R.2 && true) = true := by simp
  rw [hE] at HAl
  clear hS hE hXB hXA hUB hU hU0 hU1 HX0 HX1 HR g3 gA hb3 hb2 XA P2 q1 q2 X2
  obtain ⟨c0, c1, c2, c3, c4, c5, c6, c7, c8, c9, c10, c11, c12⟩ := Whole.c13 (h := X.h) X3
  obtain ⟨u0, u1, u2, u3, u4, u5, u6, u7, u8, u9, u10, u11, u12⟩ := Whole.c13 (h := U.h) U3
  simp only [Vh.cells] at gB HAl c0 c1 c2 c3 c4 c5 c6 c7 c8 c9 c10 c11 c12 u0 u1 u2 u3 u4 u5 u6 u7 u8 u9 u10 u11 u12
  go_wp2_with fail
  refine HAl.out.mono ?_; rintro _ w4 ⟨rfl, hb4⟩
  have g4 := below_then gB hb4
  clear c0 c1 c2 c3 c4 c5 c6 c7 c8 c9 c10 c11 c12 u0 u1 u2 u3 u4 u5 u6 u7 u8 u9 u10 u11 u12 HAl X3 U3 gB
  go_wp2
  go_ret
  exact ⟨rfl, g4⟩
end Go.Proofs.YtfkfboiblgoamaaDoor
/- Small lemmas that every law's last step uses: the row's post out of a world below which nothing has turned. -/
namespace Go.Proofs.YtfkfboiblgoamaaDoor
open Go.RowKit Go.WideShapes Go.ChangeShapes
section
variable {H : Type} {enc : TypeId × Value → H} {P : Program}
theorem post_of_below {f : Func} {s : ChangeSpec} {apart fresh handsOn again : Bool} {W W' : World} {args : Array Value} {v : Value} {ds gs : List (DataW H)} {before pa pv : List MemPlace}
    (hW : DataW.Whole enc P f.params.toList s.vars apart W args.toList ds gs before)
    (hres : ∀ (b : Nat) (sp : Nat → Bool) (hd : Bool), DataW.TrodAll enc P W' b sp hd f.resultTypes.toList (v.resultList f.resultTypes.size) (s.fn H (ds ++ gs)).results [])
    (hargs : ∀ sp : Nat → Bool, (∀ p ∈ before, sp p.block = true) → DataW.TrodAll enc P W' 0 sp true f.params.toList args.toList (s.fn H (ds ++ gs)).args pa)
    (hvars : ∀ sp : Nat → Bool, (∀ p ∈ before, sp p.block = true) → DataW.TrodVars enc P W' sp s.vars (s.fn H (ds ++ gs)).vars pv)
    (hps : before = pa ++ pv) (hb : Below W.heap.size W W')
    (hok : ∀ (j : Nat) (t : TypeId) (r : Value), f.resultTypes[j]? = some t → (v.resultList f.resultTypes.size)[j]? = some r → Value.okWide P W' .any 0 t r) :
    s.post enc P f apart fresh handsOn again W args v W' := by
  have hlt : ∀ p ∈ before, p.block < W.heap.size := fun p hp => hW.lt p hp
  have hold : ∀ p ∈ before, (fun b => decide (b < W.heap.size)) p.block = true := fun p hp => by simpa using hlt p hp
  refine ⟨ds, gs, before, [], pa, pv, hW, hres _ _ _, hargs _ hold, hvars _ hold, World.keptBut_mono (fun p hp => ⟨hp, ?_⟩) (hb.frame (· ∈ before)), fun _ => ?_⟩
  · rw [hps, List.mem_append] at hp
    exact Or.inr hp
  · obtain ⟨_, _, _, _, _, hz, hn⟩ := hW
    refine ⟨hok, _, _, ([] ++ pa) ++ pv, ⟨[] ++ pa, pv, trodAll_append (hargs _ (fun _ _ => rfl)) (hres _ _ _), hvars _ (fun _ _ => rfl), rfl, ?_, ?_⟩, ?_⟩
    · intro b off hp
      have hin : MemPlace.cell b off ∈ before := by rw [hps]; simpa using hp
      rw [hb.frozen (hlt _ hin)]
      exact hz b off hin
    · intro ha
      have := hn ha
      rw [hps] at this
      simpa using this
    · intro p hp _
      rw [hps]
      simpa using hp
end
end Go.Proofs.YtfkfboiblgoamaaDoor
