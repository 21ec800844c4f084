/- Laid together for a claim: VtLast3, VkChecked, VtFresh, VtMore. -/
import Derived.Test.YtfkfboiblgoamaaDoorQB22
import Derived.Test.YtfkfboiblgoamaaDoorQB13
import Derived.Test.YtfkfboiblgoamaaDoorQB19
import Derived.Test.YtfkfboiblgoamaaDoorQB18
import Derived.Deep.Cut
import Derived.Deep.DeepCutAuto
/- What the reference makes at the last step: datakitref09.last, how = 3. -/
namespace Go.Proofs.YtfkfboiblgoamaaDoor
open Go.RowKit
set_option linter.unusedSimpArgs false
set_option linter.unusedVariables false

theorem find_rng (T : Vt) (s : Stp) : (T.find s).2 = 0 ∨ (T.find s).2 = 6 ∨ (T.find s).2 = 7 := by
  unfold Vt.find
  split <;> split <;> first | exact .inr (.inl rfl) | (split <;> first | exact .inl rfl | exact .inr (.inr rfl))

/-- A result that a walk has put together. -/
theorem res_of {R : Vt × Int} {X : Vt} {E : Int} {w w' : World} (hE : R.2 = E) {top : Nat} (hX : X.In w' w'.heap.size) (hXo : X.Off (fun b => b < top ∨ w.heap.size ≤ b)) (h0 : R.2 = 0 → X.Same R.1) (h1 : R.2 ≠ 0 → X = .z) (hb : Below w.heap.size w w') :
    ResOut R top w (.returned (.tuple #[.agg #[.int .i64 X.h.k, .bool X.h.b, .bool X.h.n, .string X.h.d, .int .i64 X.h.e, .int .i64 X.h.tk, .int .i64 X.h.td, .int .i64 X.h.tn, .int .i64 X.h.tz, .string X.h.x, .slice X.h.ba X.h.bn X.h.bc, .slice X.h.la X.h.ln X.h.lc, .slice X.h.fa X.h.fn X.h.fc], .int .i64 E])) w' := by
  subst hE
  exact ⟨X, rfl, hX, hXo, h0, h1, hb⟩

/-- What 'last' makes. -/
noncomputable def Vt.last3 (X T : Vt) (s : Stp) : Vt × Int := if (T.find s).2 = 0 then (T.wo s, 0) else (.z, (T.find s).2)

set_option maxHeartbeats 8000000 in
set_option maxRecDepth 100000 in
theorem last3_6 {T X : Vt} {s : Stp} {top : Nat} {w : World} (hT : T.In w top) (hX : X.In w top) (ht : top ≤ w.heap.size) (ho : T.h.own = true) (hs : w64 s.n) (h0 : (T.find s).2 = 6) :
    Calls Tryd.prog 48 #[.agg T.h.cells, .agg s.cells, .agg X.h.cells, .int .i64 3] w (ResOut (.z, 6) top w) := by
  obtain ⟨f1, hf1⟩ : ∃ f, T.find s = (f, 6) := ⟨_, Prod.ext rfl h0⟩
  have HE : Hid (∀ w', Below w.heap.size w w' → ResOut ((.z, 6) : Vt × Int) top w (.returned (.tuple #[.agg Vh.zero.cells, .int .i64 6])) w') := Lib.hid fun w' hb => res_of (X := .z) rfl (Vt.z_in _ _) (Vt.z_off _) (fun h => absurd h (by decide)) (fun _ => rfl) hb
  have hb0 := ((((Below.refl w.heap.size w).alloc (Nat.le_refl _) (.cells T.h.cells 30)).alloc (by simp) (.cells s.cells 50)).alloc (by simp; omega) (.cells X.h.cells 30)).alloc (by simp; omega) (.cells Vh.zero.cells 30)
  have P := (((Whole.new w 30 T.h.cells).alloc (.cells s.cells 50)).alloc (.cells X.h.cells 30)).alloc (.cells Vh.zero.cells 30)
  have S3 := ((Whole.new (w.alloc (.cells T.h.cells 30)) 50 s.cells).alloc (.cells X.h.cells 30)).alloc (.cells Vh.zero.cells 30)
  rw [World.size_alloc] at S3
  have XB := (Whole.new ((w.alloc (.cells T.h.cells 30)).alloc (.cells s.cells 50)) 30 X.h.cells).alloc (.cells Vh.zero.cells 30)
  rw [World.size_alloc, World.size_alloc] at XB
  have Q := Whole.new (((w.alloc (.cells T.h.cells 30)).alloc (.cells s.cells 50)).alloc (.cells X.h.cells 30)) 30 Vh.zero.cells
  rw [World.size_alloc, World.size_alloc, World.size_alloc] at Q
  have HF := Lib.hid (fun (w1 : World) (hb : Below w.heap.size w w1) => rfind_any (T := T) (s := s) (Vt.In.below (hb.mono ht) hT) (Nat.le_trans ht hb.size) hs)
  rw [hf1] at HF
  clear hT hX ho h0 hf1
  simp only [Vh.cells, Vh.zero, Stp.cells] at hb0 P S3 XB Q HF ⊢
  go_enter Tryd.func48, Tryd.ntmps48
  go_wp2_with fail
  refine (HF.out _ hb0).mono ?_; rintro _ w1 ⟨rfl, hb1⟩
  have g1 := below_then hb0 hb1
  have P1 := Whole.below P hb1 (Whole.lt P)
  have S31 := Whole.below S3 hb1 (Whole.lt S3)
  have XB1 := Whole.below XB hb1 (Whole.lt XB)
  have Q1 := Whole.below Q hb1 (Whole.lt Q)
  clear HF hb0 hb1 P S3 XB Q
  have b0 := Whole.b3 (s := s) S31
  obtain ⟨s0, s1, s2⟩ := b0
  have hone := Lib.hid (vh_all Vh.zero)
  go_wp2_with (refine wpList_store_row rfl 30 _ _ rfl (w.heap.size + 3) Vh.zero.cells rfl rfl 30 _ Q1 vh_row rfl hone.out ?_)
  exact bodyPost_ret (v := .tuple #[.agg Vh.zero.cells, .int .i64 6]) (ret_val2 (p := 8) (q := 9) rfl rfl (Whole.setRow Q1 Vh.zero.cells)) rfl (HE.out _ (below_setRow g1 (by omega) _))

set_option maxHeartbeats 8000000 in
set_option maxRecDepth 100000 in
theorem last3_7 {T X : Vt} {s : Stp} {top : Nat} {w : World} (hT : T.In w top) (hX : X.In w top) (ht : top ≤ w.heap.size) (ho : T.h.own = true) (hs : w64 s.n) (h0 : (T.find s).2 = 7) :
    Calls Tryd.prog 48 #[.agg T.h.cells, .agg s.cells, .agg X.h.cells, .int .i64 3] w (ResOut (.z, 7) top w) := by
  obtain ⟨f1, hf1⟩ : ∃ f, T.find s = (f, 7) := ⟨_, Prod.ext rfl h0⟩
  have HE : Hid (∀ w', Below w.heap.size w w' → ResOut ((.z, 7) : Vt × Int) top w (.returned (.tuple #[.agg Vh.zero.cells, .int .i64 7])) w') := Lib.hid fun w' hb => res_of (X := .z) rfl (Vt.z_in _ _) (Vt.z_off _) (fun h => absurd h (by decide)) (fun _ => rfl) hb
  have hb0 := ((((Below.refl w.heap.size w).alloc (Nat.le_refl _) (.cells T.h.cells 30)).alloc (by simp) (.cells s.cells 50)).alloc (by simp; omega) (.cells X.h.cells 30)).alloc (by simp; omega) (.cells Vh.zero.cells 30)
  have P := (((Whole.new w 30 T.h.cells).alloc (.cells s.cells 50)).alloc (.cells X.h.cells 30)).alloc (.cells Vh.zero.cells 30)
  have S3 := ((Whole.new (w.alloc (.cells T.h.cells 30)) 50 s.cells).alloc (.cells X.h.cells 30)).alloc (.cells Vh.zero.cells 30)
  rw [World.size_alloc] at S3
  have XB := (Whole.new ((w.alloc (.cells T.h.cells 30)).alloc (.cells s.cells 50)) 30 X.h.cells).alloc (.cells Vh.zero.cells 30)
  rw [World.size_alloc, World.size_alloc] at XB
  have Q := Whole.new (((w.alloc (.cells T.h.cells 30)).alloc (.cells s.cells 50)).alloc (.cells X.h.cells 30)) 30 Vh.zero.cells
  rw [World.size_alloc, World.size_alloc, World.size_alloc] at Q
  have HF := Lib.hid (fun (w1 : World) (hb : Below w.heap.size w w1) => rfind_any (T := T) (s := s) (Vt.In.below (hb.mono ht) hT) (Nat.le_trans ht hb.size) hs)
  rw [hf1] at HF
  clear hT hX ho h0 hf1
  simp only [Vh.cells, Vh.zero, Stp.cells] at hb0 P S3 XB Q HF ⊢
  go_enter Tryd.func48, Tryd.ntmps48
  go_wp2_with fail
  refine (HF.out _ hb0).mono ?_; rintro _ w1 ⟨rfl, hb1⟩
  have g1 := below_then hb0 hb1
  have P1 := Whole.below P hb1 (Whole.lt P)
  have S31 := Whole.below S3 hb1 (Whole.lt S3)
  have XB1 := Whole.below XB hb1 (Whole.lt XB)
  have Q1 := Whole.below Q hb1 (Whole.lt Q)
  clear HF hb0 hb1 P S3 XB Q
  have b0 := Whole.b3 (s := s) S31
  obtain ⟨s0, s1, s2⟩ := b0
  have hone := Lib.hid (vh_all Vh.zero)
  go_wp2_with (refine wpList_store_row rfl 30 _ _ rfl (w.heap.size + 3) Vh.zero.cells rfl rfl 30 _ Q1 vh_row rfl hone.out ?_)
  exact bodyPost_ret (v := .tuple #[.agg Vh.zero.cells, .int .i64 7]) (ret_val2 (p := 8) (q := 9) rfl rfl (Whole.setRow Q1 Vh.zero.cells)) rfl (HE.out _ (below_setRow g1 (by omega) _))

set_option maxHeartbeats 8000000 in
set_option maxRecDepth 100000 in
theorem last3_0 {T X : Vt} {s : Stp} {top : Nat} {w : World} (hT : T.In w top) (hX : X.In w top) (ht : top ≤ w.heap.size) (ho : T.h.own = true) (hs : w64 s.n) (h0 : (T.find s).2 = 0) :
    Calls Tryd.prog 48 #[.agg T.h.cells, .agg s.cells, .agg X.h.cells, .int .i64 3] w (ResOut (T.wo s, 0) top w) := by
  obtain ⟨f1, hf1⟩ : ∃ f, T.find s = (f, 0) := ⟨_, Prod.ext rfl h0⟩
  have HC := Lib.hid (fun (w1 : World) (hb : Below w.heap.size w w1) => without_any (s := s) (Vt.In.below (hb.mono ht) hT) (Nat.le_trans ht hb.size) ho h0)
  rw [hf1] at HC
  obtain ⟨V, hV⟩ : ∃ V, T.wo s = V := ⟨_, rfl⟩
  rw [hV] at HC ⊢
  clear hV
  have HE : Hid (∀ (Z : Vt) w', Z.In w' w'.heap.size → Z.Off (fun b => b < top ∨ w.heap.size ≤ b) → Z.Same V → Below w.heap.size w w' → ResOut (V, 0) top w (.returned (.tuple #[.agg Z.h.cells, .int .i64 0])) w') := Lib.hid fun Z w' h1 h3 h2 hb => res_of (X := Z) rfl h1 h3 (fun _ => h2) (fun h => absurd rfl h) hb
  have hb0 := ((((Below.refl w.heap.size w).alloc (Nat.le_refl _) (.cells T.h.cells 30)).alloc (by simp) (.cells s.cells 50)).alloc (by simp; omega) (.cells X.h.cells 30)).alloc (by simp; omega) (.cells Vh.zero.cells 30)
  have P := (((Whole.new w 30 T.h.cells).alloc (.cells s.cells 50)).alloc (.cells X.h.cells 30)).alloc (.cells Vh.zero.cells 30)
  have S3 := ((Whole.new (w.alloc (.cells T.h.cells 30)) 50 s.cells).alloc (.cells X.h.cells 30)).alloc (.cells Vh.zero.cells 30)
  rw [World.size_alloc] at S3
  have XB := (Whole.new ((w.alloc (.cells T.h.cells 30)).alloc (.cells s.cells 50)) 30 X.h.cells).alloc (.cells Vh.zero.cells 30)
  rw [World.size_alloc, World.size_alloc] at XB
  have Q := Whole.new (((w.alloc (.cells T.h.cells 30)).alloc (.cells s.cells 50)).alloc (.cells X.h.cells 30)) 30 Vh.zero.cells
  rw [World.size_alloc, World.size_alloc, World.size_alloc] at Q
  have HF := Lib.hid (fun (w1 : World) (hb : Below w.heap.size w w1) => rfind_any (T := T) (s := s) (Vt.In.below (hb.mono ht) hT) (Nat.le_trans ht hb.size) hs)
  rw [hf1] at HF
  clear hT hX ho h0 hf1
  simp only [Vh.cells, Vh.zero, Stp.cells] at hb0 P S3 XB Q HF ⊢
  go_enter Tryd.func48, Tryd.ntmps48
  go_wp2_with fail
  refine (HF.out _ hb0).mono ?_; rintro _ w1 ⟨rfl, hb1⟩
  have g1 := below_then hb0 hb1
  have P1 := Whole.below P hb1 (Whole.lt P)
  have S31 := Whole.below S3 hb1 (Whole.lt S3)
  have XB1 := Whole.below XB hb1 (Whole.lt XB)
  have Q1 := Whole.below Q hb1 (Whole.lt Q)
  clear HF hb0 hb1 P S3 XB Q
  obtain ⟨c0, c1, c2, c3, c4, c5, c6, c7, c8, c9, c10, c11, c12⟩ := Whole.c13 (h := T.h) P1
  obtain ⟨s0, s1, s2⟩ := Whole.b3 (s := s) S31
  simp only [Vh.cells, Stp.cells] at HC
  go_wp2_with fail
  refine (HC.out _ g1).mono ?_; rintro _ w2 ⟨Z, rfl, hZ, hZo, hZs, hb2⟩
  have g2 := below_then g1 hb2
  have hw1 := g1.size
  have hQ1 := Q1.lt
  have Q2 := Q1.below hb2 Q1.lt
  have hone := Lib.hid (vh_all Z.h)
  have hZ2 := Lib.hid (hZ.stays hZo (W' := w2.setRow (w.heap.size + 3) Z.h.cells) (fun b hb => setRow_other _ _ _ _ (by omega)) (by rw [size_setRow]; exact Nat.le_refl _))
  have hZs2 := Lib.hid hZs
  have hZo2 : Hid (Z.Off (fun b => b < top ∨ w.heap.size ≤ b)) := Lib.hid (hZo.mono fun b hb => by omega)
  clear c0 c1 c2 c3 c4 c5 c6 c7 c8 c9 c10 c11 c12 s0 s1 s2  HC hZ hZo hZs hb2 g1 P1 S31 XB1 Q1 hQ1
  go_wp2_with (refine wpList_store_row rfl 30 _ _ rfl (w.heap.size + 3) Z.h.cells rfl rfl 30 _ Q2 vh_row rfl hone.out ?_)
  exact bodyPost_ret (v := .tuple #[.agg Z.h.cells, .int .i64 0]) (ret_val2 (p := 8) (q := 9) rfl rfl (Q2.setRow Z.h.cells)) rfl (HE.out Z _ hZ2.out hZo2.out hZs2.out (below_setRow g2 (by omega) _))

theorem last3_any {T X : Vt} {s : Stp} {top : Nat} {w : World} (hT : T.In w top) (hX : X.In w top) (ht : top ≤ w.heap.size) (ho : T.h.own = true) (hs : w64 s.n) :
    Calls Tryd.prog 48 #[.agg T.h.cells, .agg s.cells, .agg X.h.cells, .int .i64 3] w (ResOut (Vt.last3 X T s) top w) := by
  unfold Vt.last3
  rcases find_rng T s with h | h | h
  · rw [if_pos h]; exact last3_0 hT hX ht ho hs h
  · rw [if_neg (by omega), h]; exact last3_6 hT hX ht ho hs h
  · rw [if_neg (by omega), h]; exact last3_7 hT hX ht ho hs h
end Go.Proofs.YtfkfboiblgoamaaDoor
/- The program's value.Check; access.checked: the value, or what is wrong with it. -/
namespace Go.Proofs.YtfkfboiblgoamaaDoor
open Go.RowKit
set_option linter.unusedSimpArgs false
set_option linter.unusedVariables false

/-- The value, or what is wrong with it. -/
noncomputable def Vt.chkV (T : Vt) : Vt × Int := if (T.look 1 0).2 ≠ 0 then (.z, (T.look 1 0).2) else (T, 0)
set_option maxHeartbeats 1000000 in
set_option maxRecDepth 100000 in
theorem vcheck_any {T : Vt} {top : Nat} {w : World} (hT : T.In w top) (ht : top ≤ w.heap.size) :
    Calls Tryd.prog 46 #[.agg T.h.cells] w fun r w' => r = .returned (.int .i64 (T.look 1 0).2) ∧ Below w.heap.size w w' := by
  have hb0 := ((Below.refl w.heap.size w).alloc (Nat.le_refl _) (.cells T.h.cells 30)).alloc (by simp) (.cells #[.int .i64 0] 3)
  have P := (Whole.new w 30 T.h.cells).alloc (.cells #[.int .i64 0] 3)
  have B := Whole.new (w.alloc (.cells T.h.cells 30)) 3 #[.int .i64 0]
  rw [World.size_alloc] at B
  have HC := Lib.hid (chk_any T 1 0 top (w.heap.size + 1) _ (Vt.In.below (hb0.mono ht) hT) (by omega) B (by decide) (by decide) (by decide) (by decide))
  obtain ⟨R, hR⟩ : ∃ R, T.look 1 0 = R := ⟨_, rfl⟩
  rw [hR] at HC ⊢
  obtain ⟨c0, c1, c2, c3, c4, c5, c6, c7, c8, c9, c10, c11, c12⟩ := Whole.c13 (h := T.h) P
  clear hT hR B P
  simp only [Vh.cells] at hb0 HC c0 c1 c2 c3 c4 c5 c6 c7 c8 c9 c10 c11 c12 ⊢
  go_enter Tryd.func46, Tryd.ntmps46
  go_wp2_with fail
  refine HC.out.mono ?_; rintro _ w1 ⟨s', rfl, -, -, hk⟩
  have g1 := hb0.trans (hk.below (n := w.heap.size) (by have := hb0.size; omega) (fun b q e => by omega))
  clear c0 c1 c2 c3 c4 c5 c6 c7 c8 c9 c10 c11 c12 HC hk hb0
  go_wp2
  go_ret
  exact ⟨rfl, g1⟩
set_option maxHeartbeats 2000000 in
set_option maxRecDepth 100000 in
theorem chkd_any {T : Vt} {top : Nat} {w : World} (hT : T.In w top) (ht : top ≤ w.heap.size) :
    Calls Tryd.prog 25 #[.agg T.h.cells] w (ResOut T.chkV 0 w) := by
  have hb0 := ((Below.refl w.heap.size w).alloc (Nat.le_refl _) (.cells T.h.cells 30)).alloc (by simp) (.cells Vh.zero.cells 30)
  have P := (Whole.new w 30 T.h.cells).alloc (.cells Vh.zero.cells 30)
  have Q := Whole.new (w.alloc (.cells T.h.cells 30)) 30 Vh.zero.cells
  rw [World.size_alloc] at Q
  have HC := Lib.hid (vcheck_any (Vt.In.below (hb0.mono ht) hT) (Nat.le_trans ht hb0.size))
  have HT := Lib.hid (fun (w1 : World) (h : Below w.heap.size w w1) => Vt.In.below (h.mono ht) hT)
  have hwh := hT.whole
  obtain ⟨c0, c1, c2, c3, c4, c5, c6, c7, c8, c9, c10, c11, c12⟩ := Whole.c13 (h := T.h) P
  by_cases z : (T.look 1 0).2 = 0
  · have e : T.chkV = (T, 0) := if_neg (fun q => q z)
    have hu := (Vt.look_ok (d := 1) (s := 0) hwh z).2.1
    rw [e]
    have HCo := Lib.hid (fun (w1 : World) (h : Below w.heap.size w w1) => copy_any (HT.out w1 h) (Nat.le_trans ht h.size) (Vt.upto_le hu (by decide)))
    have HE : Hid (∀ (Z : Vt) w', Z.In w' w'.heap.size → Z.Off (w.heap.size ≤ ·) → Z.Same T → Below w.heap.size w w' → ResOut (T, 0) 0 w (.returned (.tuple #[.agg Z.h.cells, .int .i64 0])) w') := Lib.hid fun Z w' h1 h3 h4 hb => res_of (X := Z) rfl h1 (h3.mono fun _ q => .inr q) (fun _ => h4) (fun q => absurd rfl q) hb
    rw [z] at HC
    clear e z hT hwh hu HT
    simp only [Vh.cells, Vh.zero] at hb0 P Q HC HCo c0 c1 c2 c3 c4 c5 c6 c7 c8 c9 c10 c11 c12 ⊢
    go_enter Tryd.func25, Tryd.ntmps25
    go_wp2_with fail
    refine HC.out.mono ?_; rintro _ w1 ⟨rfl, hb1⟩
    have g1 := below_then hb0 hb1
    have P1 := P.below hb1 P.lt
    have Q1 := Q.below hb1 Q.lt
    clear c0 c1 c2 c3 c4 c5 c6 c7 c8 c9 c10 c11 c12 HC P Q hb0 hb1
    obtain ⟨c0, c1, c2, c3, c4, c5, c6, c7, c8, c9, c10, c11, c12⟩ := Whole.c13 (h := T.h) P1
    go_wp2_with fail
    refine (HCo.out _ g1).mono ?_; rintro _ w2 ⟨X, rfl, hX, hXo, hXs, hb2⟩
    have g2 := below_then g1 hb2
    have Q2 := Q1.below hb2 Q1.lt
    have hz1 := g1.size
    have hone := Lib.hid (vh_all X.h)
    have hX2 := Lib.hid (hX.stays hXo (W' := w2.setRow (w.heap.size + 1) X.h.cells) (fun b hb => setRow_other _ _ _ _ (by have h1 : _ ≤ b := hb; have := Q1.lt; omega)) (by rw [size_setRow]; exact Nat.le_refl _))
    have hXo2 := Lib.hid (hXo.mono (S' := (w.heap.size ≤ ·)) fun b hb => Nat.le_trans hz1 hb)
    have hXs2 := Lib.hid hXs
    clear hX hXo hXs c0 c1 c2 c3 c4 c5 c6 c7 c8 c9 c10 c11 c12 hb2 HCo P1 Q1 g1
    go_wp2_with (refine wpList_store_row rfl 30 _ _ rfl (w.heap.size + 1) X.h.cells rfl rfl 30 _ Q2 vh_row rfl hone.out ?_)
    exact bodyPost_ret (v := .tuple #[.agg X.h.cells, .int .i64 0]) (ret_val2 (p := 2) (q := 3) rfl rfl (Whole.setRow Q2 X.h.cells)) rfl (HE.out X _ hX2.out hXo2.out hXs2.out (below_setRow g2 (by omega) _))
  · have e : T.chkV = (.z, (T.look 1 0).2) := if_pos z
    rw [e]
    clear e
    obtain ⟨E, hE⟩ : ∃ E, (T.look 1 0).2 = E := ⟨_, rfl⟩
    rw [hE] at HC z ⊢
    have z1 : (E == 0) = false := beq_eq_false_iff_ne.2 z
    have z2 : (E != 0) = true := bne_iff_ne.2 z
    have HE : Hid (∀ w', Below w.heap.size w w' → ResOut ((.z, E) : Vt × Int) 0 w (.returned (.tuple #[.agg Vh.zero.cells, .int .i64 E])) w') := Lib.hid fun w' hb => res_of (X := .z) rfl (Vt.z_in _ _) (Vt.z_off _) (fun q => absurd q z) (fun _ => rfl) hb
    clear hE z hT hwh HT
    simp only [Vh.cells, Vh.zero] at hb0 P Q HC c0 c1 c2 c3 c4 c5 c6 c7 c8 c9 c10 c11 c12 ⊢
    go_enter Tryd.func25, Tryd.ntmps25
    go_wp2_with fail
    refine HC.out.mono ?_; rintro _ w1 ⟨rfl, hb1⟩
    have g1 := below_then hb0 hb1
    have Q1 := Q.below hb1 Q.lt
    clear c0 c1 c2 c3 c4 c5 c6 c7 c8 c9 c10 c11 c12 HC P Q hb0 hb1
    have hone := Lib.hid (vh_all Vh.zero)
    go_wp2_with (refine wpList_store_row rfl 30 _ _ rfl (w.heap.size + 1) Vh.zero.cells rfl rfl 30 _ Q1 vh_row rfl hone.out ?_)
    exact bodyPost_ret (v := .tuple #[.agg Vh.zero.cells, .int .i64 E]) (ret_val2 (p := 2) (q := 3) rfl rfl (Whole.setRow Q1 Vh.zero.cells)) rfl (HE.out _ (below_setRow g1 (by omega) _))
end Go.Proofs.YtfkfboiblgoamaaDoor
/- An append of a whole slice to nil; sizes of parts. -/
namespace Go.Proofs.YtfkfboiblgoamaaDoor
open Go.ChangeShapes Go.WideShapes Go.Joins Go.Deep Go.RowKit

theorem run_append_fresh {P : Program} (w : World) (base : Nat) (t ty e : TypeId) (i : TypeInfo) (z : Value) (size bytes : Nat) (ht : P.underlying t = some (.slice e)) (hi : P.info? e = some i) (hz : i.zero = some z)
    (hsize : i.size = size) (hby : i.bytes = bytes) (hzs : z.cells.size = size) (hsz : 0 < size) (xa : Option Addr) (m c : Nat) (news : List Value) (hl : news.length = m * size)
    (hnews : 0 < m → ∃ ad, xa = some ad ∧ ∀ j u, news[j]? = some u → w.cell? (ad.add j) = some u) (h1 : ∀ u ∈ news, u.oneCell' = true) (h63 : m ≤ maxLen) (hbytes : m * bytes ≤ 140737488355328) (hbase : base ≤ w.heap.size) :
    ∃ v' w', (Builtin.append_ #[t, t] ty #[.slice none 0 0, .slice xa m c]).run P w = .ok v' w' ∧ w'.ownsRow base e size v' m news ∧ w.grownBy w' none ∧ (v'.ownBlock = none ∨ v'.ownBlock = some w.heap.size) := by
  by_cases hm : m = 0
  · subst hm
    have hn : news = [] := List.eq_nil_of_length_eq_zero (by simpa using hl)
    subst hn
    refine ⟨.slice none 0 0, w, ?_, World.ownsRow_nil w base e size, ⟨rfl, rfl, rfl, Nat.le_refl _, fun _ _ _ => rfl⟩, .inl rfl⟩
    cases xa <;> simp [Builtin.append_, run_underlying ht, sizeOf, typeInfo, hi, Builtin.lenOf, Builtin.firstCells, loadCells, loadCellsFrom]
  · obtain ⟨ad, rfl, hn⟩ := hnews (by omega)
    have h := run_append_told (P := P) w base t ty e i z size bytes ht hi hz hsize hby hzs hsz (.slice none 0 0) 0 [] (World.ownsRow_nil w base e size) ad m c news hl hn h1 (by omega) (by rw [Nat.zero_add]; exact hbytes) hbase (by omega)
    obtain ⟨v', w', hr, h2, h3, h4⟩ := h
    rw [Nat.zero_add, List.nil_append] at h2
    exact ⟨v', w', hr, h2, h3, h4⟩
theorem wpList_append_fresh {P : Program} (w : World) {ops : Array Oper} {rest : List Oper} {o : Oper} {a : Act} {Q : Exit → Act → World → Prop} (hgd : o.guard = none) (s x : Operand) (t : TypeId)
    (ho : o.op = .call { callee := .builtin .append, args := #[s, x], argTypes := #[t, t] })
    (base : Nat) (e : TypeId) (i : TypeInfo) (z : Value) (size bytes : Nat) (ht : P.underlying t = some (.slice e)) (hi : P.info? e = some i) (hz : i.zero = some z)
    (hsize : i.size = size) (hby : i.bytes = bytes) (hzs : z.cells.size = size) (hsz : 0 < size) (hs : a.eval s = .slice none 0 0)
    (xa : Option Addr) (m c : Nat) (news : List Value) (hx : a.eval x = .slice xa m c) (hl : news.length = m * size) (hnews : 0 < m → ∃ ad, xa = some ad ∧ ∀ j u, news[j]? = some u → w.cell? (ad.add j) = some u) (h1 : ∀ u ∈ news, u.oneCell' = true)
    (h63 : m ≤ maxLen) (hbytes : m * bytes ≤ 140737488355328) (hbase : base ≤ w.heap.size)
    (h : ∀ v' w', w'.ownsRow base e size v' m news → w.grownBy w' none → (v'.ownBlock = none ∨ v'.ownBlock = some w.heap.size) → wpList P ops Q rest (a.put o.dst v') w') : wpList P ops Q (o :: rest) a w := by
  refine wpList_plain hgd fun K hK => ?_
  obtain ⟨v', w', hr, h2, h3, h4⟩ := run_append_fresh (P := P) w base t o.type e i z size bytes ht hi hz hsize hby hzs hsz xa m c news hl hnews h1 h63 hbytes hbase
  unfold Oper.wp execOp
  simp only [ho, resolve, invoke, builtin, Sem.run_bind, Sem.run_pure, Result.andThen_ok, List.map_toArray, List.map_cons, List.map_nil, hs, hx, hr]
  exact hK _ _ (h v' w' h2 h3 h4)
/-- A map with one more field; a list with one more element. -/
def Vt.moreF : Vt → ByteArray → Vt → Vt
  | .nil, _, _ => .nil
  | .mk h Y L K F, key, X => .mk { h with fn := h.fn + 1 } Y L (fun j => if j < h.fn then K j else key) (fun j => if j < h.fn then F j else X)
def Vt.insL : Vt → Nat → Vt → Vt
  | .nil, _, _ => .nil
  | .mk h Y L K F, i, X => .mk { h with ln := h.ln + 1 } Y (fun j => if j < i then L j else if j = i then X else L (j - 1)) K F
theorem Vt.size_one (T : Vt) : 1 ≤ T.size := by
  cases T with
  | nil => exact Nat.le_refl _
  | mk h Y L K F => unfold Vt.size; omega
theorem sumN_ge {f : Nat → Nat} (hf : ∀ i, 1 ≤ f i) : ∀ n, n ≤ sumN f n := by
  intro n
  induction n with
  | zero => exact Nat.le_refl _
  | succ n ih => have := hf n; rw [sumN]; omega
theorem Vt.fn_le_size {T : Vt} (hk : T.h.k = 7) : T.h.fn ≤ T.size := by
  cases T with
  | nil => exact Nat.zero_le _
  | mk h Y L K F =>
    have e : (Vt.mk h Y L K F).size = 1 + sumN (fun i => (F i).size) h.fn := by
      have hk' : h.k = 7 := hk
      rw [Vt.size, if_pos hk']
    have := sumN_ge (f := fun i => (F i).size) (fun i => Vt.size_one _) h.fn
    show h.fn ≤ _
    omega
theorem Vt.ln_le_size {T : Vt} (hk : T.h.k ≠ 7) : T.h.ln ≤ T.size := by
  cases T with
  | nil => exact Nat.zero_le _
  | mk h Y L K F =>
    have e : (Vt.mk h Y L K F).size = 1 + sumN (fun i => (L i).size) h.ln := by
      have hk' : h.k ≠ 7 := hk
      rw [Vt.size, if_neg hk']
    have := sumN_ge (f := fun i => (L i).size) (fun i => Vt.size_one _) h.ln
    show h.ln ≤ _
    omega
theorem Vt.size_part {T : Vt} {s : Stp} (hT : T ≠ .nil) (h0 : (T.find s).2 = 0) : (T.part (T.find s).1.toNat).size ≤ T.size := by
  cases hx : s.ix with
  | true =>
    obtain ⟨e, k6, hi, _⟩ := Vt.part_ix h0 hx
    have hn : T.kn = T.h.ln := if_neg (by rw [k6]; decide)
    have := Vt.size_kid hT (i := (T.find s).1.toNat) (by rw [hn]; exact hi)
    rw [Vt.kid, if_neg (by rw [k6]; decide)] at this
    rw [e]
    omega
  | false =>
    obtain ⟨e, k7, hi, _⟩ := Vt.part_key h0 hx
    have hn : T.kn = T.h.fn := if_pos k7
    have := Vt.size_kid hT (i := (T.find s).1.toNat) (by rw [hn]; exact hi)
    rw [Vt.kid, if_pos k7] at this
    rw [e]
    omega
end Go.Proofs.YtfkfboiblgoamaaDoor
/- Values with one more field: datakitref09.More. -/
namespace Go.Proofs.YtfkfboiblgoamaaDoor
open Go.RowKit
set_option linter.unusedSimpArgs false
set_option linter.unusedVariables false

set_option maxHeartbeats 8000000 in
set_option maxRecDepth 100000 in
theorem more_any {h : Vh} {Y : Nat → Int} {L : Nat → Vt} {K : Nat → ByteArray} {F : Nat → Vt} {X : Vt} {key : ByteArray} {top : Nat} {w : World} (hT : (Vt.mk h Y L K F).In w top) (hX : X.In w w.heap.size) {SS : Nat → Prop} (hXo : X.Off SS) (hSt : ∀ b, b < top → SS b) (hSl : ∀ b, SS b → b < w.heap.size) (ht : top ≤ w.heap.size) (ho : h.own = true) (hk : h.k = 7) (hkey : key.size ≤ 1048576) (hfn : h.fn < 1048576) :
    Calls Tryd.prog 56 #[.agg h.cells, .string key, .agg X.h.cells] w (FnS ((Vt.mk h Y L K F).moreF key X) SS w) := by
  have HX := Lib.hid (fun (w1 : World) (hb : Below w.heap.size w w1) => (hX.below hb).up hb.size)
  have HXo := Lib.hid hXo
  have HSt := Lib.hid hSt
  have HSl := Lib.hid hSl
  have HXs := Lib.hid (Vt.Same.rfl' hX.whole)
  clear hX hXo hSt hSl
  have hb0 := (((((Below.refl w.heap.size w).alloc (Nat.le_refl _) (.cells h.cells 30)).alloc (by simp) (.cells X.h.cells 30)).alloc (by simp; omega) (.cells Vh.zero.cells 30)).alloc (by simp; omega) (.cells (Vh.fld 7 none 0 0 0).cells 30))
  have P := ((((Whole.new w 30 h.cells).alloc (.cells X.h.cells 30)).alloc (.cells Vh.zero.cells 30)).alloc (.cells (Vh.fld 7 none 0 0 0).cells 30))
  have XB := (((Whole.new (w.alloc (.cells h.cells 30)) 30 X.h.cells).alloc (.cells Vh.zero.cells 30)).alloc (.cells (Vh.fld 7 none 0 0 0).cells 30))
  rw [World.size_alloc] at XB
  have Q := ((Whole.new ((w.alloc (.cells h.cells 30)).alloc (.cells X.h.cells 30)) 30 Vh.zero.cells).alloc (.cells (Vh.fld 7 none 0 0 0).cells 30))
  rw [World.size_alloc, World.size_alloc] at Q
  have O := (Whole.new (((w.alloc (.cells h.cells 30)).alloc (.cells X.h.cells 30)).alloc (.cells Vh.zero.cells 30)) 30 (Vh.fld 7 none 0 0 0).cells)
  rw [World.size_alloc, World.size_alloc, World.size_alloc] at O
  obtain ⟨i0, hi0, hz0, hz1, hz2⟩ := info_parts Tryd.infoFld
  have hokh := hT.1
  have HAd := Lib.hid (hT.2.2.2.2.2.1)
  have HWh := Lib.hid (fun t (ht : t < h.fn) => And.intro (hT.2.2.2.2.2.2 t ht).2.1 (Vt.Same.rfl' (hT.whole.2 t ht)))
  have HLrow := Lib.hid (fun (w1 : World) (hb : Below w.heap.size w w1) => fun j (hj : j < h.fn) => (And.intro (lies_fcs ((hT.below (hb.mono ht)).2.2.2.2.2.2 j hj).1 ((hT.below (hb.mono ht)).2.2.2.2.2.2 j hj).2.2.1) ((hT.below (hb.mono ht)).2.2.2.2.2.2 j hj).2.2.2 : LiesAt w1 h.fb (h.fo + j * 14) (fcs (K j, F j)) ∧ (F j).In w1 top))
  have hz : h.ln = 0 := (Vh.own_parts ho).2.2.2.2.2.2.2.1 (by omega)
  have HOwn := Lib.hid ho
  have Hk := Lib.hid hk
  have hln := hokh.fn
  have hk1 := hokh.k.1
  have hk2 := hokh.k.2
  have i3 : (h.fn : Int) ≤ 1048576 := by omega
  have i4 : (0 : Int) ≤ h.fn := by omega
  clear hokh hT ho hk
  obtain ⟨k, b', n', dd, e, tk, td, tn, tz, x, ba, bn, bc, la, ln, lc, fa, fn, fc, bb, bo, lb, lo, fb, fo⟩ := h
  dsimp only at HAd hln hk1 hk2 hz i3 i4 HLrow HWh Hk P O hb0 Q XB hfn HAd
  subst hz
  obtain ⟨M, hM⟩ : ∃ M : Nat → ByteArray × Vt, M = fun j => if j < fn then (K j, F j) else (key, X) := ⟨_, rfl⟩
  have HM := Lib.hid hM
  have HKy := Lib.hid hkey
  clear hM hkey
  simp only [Vh.cells, Vh.zero, Vh.fld] at hb0 Q O XB P ⊢
  have oO := Whole.cell O 12
  have fO := Whole.frozen O 12
  have cP := Whole.cell P 12
  simp only [List.getElem?_toArray, List.getElem?_cons_succ, List.getElem?_cons_zero] at oO cP
  have s1 := Lib.hid (fun (hp : 0 < fn) => (⟨⟨fb, fo, none⟩, (HAd.out hp).1, rowL_src (fun j => fcs_size (K j, F j)) (fun j hj => (HLrow.out _ hb0 j hj).1)⟩ : ∃ ad, fa = some ad ∧ ∀ j u, (catN (fun j => fcs (K j, F j)) fn)[j]? = some u → World.cell? _ (ad.add j) = some u))
  have s2 := Lib.hid (catN_one (fun j => fcs_one (K j, F j)) fn)
  have s0 := Lib.hid (catN_len (fun j => fcs_size (K j, F j)) fn)
  have s3 : Hid (fn ≤ maxLen) := Lib.hid (by unfold maxLen; omega)
  have s4 : Hid (fn * 184 ≤ 140737488355328) := Lib.hid (by omega)
  have hOl := Whole.lt O
  have s5 := Lib.hid hOl
  go_enter Tryd.func56, Tryd.ntmps56
  go_wp2_with (first | (at_builtin; refine wpList_append_fresh _ rfl _ _ 28 rfl (w.heap.size + 4) 61 i0 _ 14 184 Tryd.underlying28 hi0 hz0 hz1 hz2 rfl (by decide) rfl fa fn fc (catN (fun j => fcs (K j, F j)) fn) rfl s0.out s1.out s2.out s3.out s4.out s5.out ?_))
  clear s0 s1 s2 s3 s4 s5 oO cP fO
  intro v1 w1 hown1 hgrow1 hat1
  clear hat1
  have P1 := Whole.kept P hgrow1 (by simp)
  have XB1 := Whole.kept XB hgrow1 (by simp)
  have Q1 := Whole.kept Q hgrow1 (by simp)
  have O1 := Whole.kept O hgrow1 (by simp)
  have hb1 := hb0.grown hgrow1 (Nat.le_trans (by omega) (Nat.le_of_lt hOl)) (fun g hg => by cases hg)
  have hoB := Lib.hid (fun b (e : v1.ownBlock = some b) => (hown1.lt b e).1)
  obtain ⟨a1, c1, b1, rfl, -, -, -⟩ := own_lies (fun j => fcs_size (K j, F j)) hown1
  have hrow1 : RowG fcs Prod.snd 14 61 (w.heap.size + 4) SS (fun t x => x = M t) w1 (.slice a1 fn c1) fn := ⟨fun j => (K j, F j), hown1, fun j hj => ⟨(HLrow.out w1 hb1 j hj).2.up (Nat.le_trans ht hb1.size), (HLrow.out w1 hb1 j hj).2.off.mono fun b hb => ⟨HSt.out b hb, fun e => by have := hoB.out b e.symm; omega⟩, by rw [HM.out]; exact (if_pos hj).symm⟩⟩
  clear P XB Q O hgrow1 hown1 hb0 hoB hOl
  have oO := Whole.cell O1 12
  have fO := Whole.frozen O1 12
  simp only [List.getElem?_toArray, List.getElem?_cons_succ, List.getElem?_cons_zero] at oO
  have hO1 := Whole.lt O1
  go_upto_region 3 with fail
  clear oO fO
  have O5 := Whole.set O1 12 (.slice a1 fn c1)
  have P5 := Whole.far (p := ⟨w.heap.size + 1 + 1 + 1, 12, none⟩) P1 (by show w.heap.size ≠ w.heap.size + 1 + 1 + 1; omega) (.slice a1 fn c1)
  have XB5 := Whole.far (p := ⟨w.heap.size + 1 + 1 + 1, 12, none⟩) XB1 (by show w.heap.size + 1 ≠ w.heap.size + 1 + 1 + 1; omega) (.slice a1 fn c1)
  have Q5 := Whole.far (p := ⟨w.heap.size + 1 + 1 + 1, 12, none⟩) Q1 (by show w.heap.size + 1 + 1 ≠ w.heap.size + 1 + 1 + 1; omega) (.slice a1 fn c1)
  have hb5 := hb1.setCell (p := ⟨w.heap.size + 1 + 1 + 1, 12, none⟩) (by show w.heap.size ≤ w.heap.size + 1 + 1 + 1; omega) (.slice a1 fn c1)
  have hrow5 := hrow1.turn (grown_set w1 (w.heap.size + 1 + 1 + 1) 12 (.slice a1 fn c1)) (by omega) (fun b hb => by have hb' := HSl.out b hb; omega)
  clear P1 XB1 Q1 O1 hb1 hrow1
  generalize w1.setCell ⟨w.heap.size + 1 + 1 + 1, 12, none⟩ (.slice a1 fn c1) = w5 at *
  have O5 : Whole w5 (w.heap.size + 3) 30 #[.int .i64 7, .bool false, .bool false, .string ⟨#[]⟩, .int .i64 0, .int .i64 0, .int .i64 0, .int .i64 0, .int .i64 0, .string ⟨#[]⟩, .slice none 0 0, .slice none 0 0, .slice a1 fn c1] := O5
  have hw5 := Whole.lt O5
  have HZin : Hid (X.In w5 w5.heap.size) := Lib.hid (HX.out w5 hb5)
  have HZo := HXo
  have HMj : Hid ((key, X) = M fn) := Lib.hid (by rw [HM.out]; exact (if_neg (Nat.lt_irrefl _)).symm)
  have hb5s := hb5.size
  obtain ⟨x0, x1, x2, x3, x4, x5, x6, x7, x8, x9, x10, x11, x12⟩ := Whole.c13 (h := X.h) XB5
  have oO := Whole.cell O5 12
  have fO := Whole.frozen O5 12
  simp only [List.getElem?_toArray, List.getElem?_cons_succ, List.getElem?_cons_zero] at oO
  obtain ⟨f, hown, hf⟩ := (hrow5.alloc (.cells #[.string key, .int .i64 X.h.k, .bool X.h.b, .bool X.h.n, .string X.h.d, .int .i64 X.h.e, .int .i64 X.h.tk, .int .i64 X.h.td, .int .i64 X.h.tn, .int .i64 X.h.tz, .string X.h.x, .slice X.h.ba X.h.bn X.h.bc, .slice X.h.la X.h.ln X.h.lc, .slice X.h.fa X.h.fn X.h.fc] 61))
  have Hf := Lib.hid hf
  have s1 := Lib.hid (cells_new w5 61 (fcs (key, X)))
  have s2 := Lib.hid (fcs_one (key, X))
  have s3 : Hid (fn + 1 ≤ maxLen) := Lib.hid (by unfold maxLen; omega)
  have s4 : Hid ((fn + 1) * 184 ≤ 140737488355328) := Lib.hid (by omega)
  have s5 : Hid ((w.heap.size + 4) ≤ (w5.alloc (.cells #[.string key, .int .i64 X.h.k, .bool X.h.b, .bool X.h.n, .string X.h.d, .int .i64 X.h.e, .int .i64 X.h.tk, .int .i64 X.h.td, .int .i64 X.h.tn, .int .i64 X.h.tz, .string X.h.x, .slice X.h.ba X.h.bn X.h.bc, .slice X.h.la X.h.ln X.h.lc, .slice X.h.fa X.h.fn X.h.fc] 61)).heap.size) := Lib.hid (by rw [World.size_alloc]; omega)
  go_wp2_with (first | (at_builtin; refine wpList_append_told _ rfl _ _ 28 rfl (w.heap.size + 4) 61 i0 _ 14 184 Tryd.underlying28 hi0 hz0 hz1 hz2 rfl (by decide) _ _ _ rfl hown ⟨w5.heap.size, 0, none⟩ 1 1 (fcs (key, X)).toList rfl rfl s1.out s2.out s3.out s4.out s5.out Nat.one_pos ?_))
  clear s1 s2 s3 s4 s5
  intro v' w3 hown3 hgrow hat
  obtain ⟨gg, cap, rfl, -, -⟩ := own_form hown3 (Nat.succ_pos _)
  have HOw := fun g (hg : (Value.slice a1 fn c1).ownBlock = some g) => hown.lt g hg
  have hrow3 : RowG fcs Prod.snd 14 61 (w.heap.size + 4) SS (fun t X => X = M t) w3 (.slice (some ⟨gg, 0, none⟩) (fn + 1) cap) (fn + 1) :=
    RowG.push (x := (key, X)) hown Hf.out (HZin.out.later ((Below.refl _ _).alloc (Nat.le_refl _) _)) HZo.out (fun g hg => HZo.out.mono fun b hb => by have hb' := HSl.out b hb; have := (HOw g hg).1; omega) HMj.out hown3 hgrow (by simp only [World.size_alloc]; exact hat)
  have far : ∀ B, B < (w.heap.size + 4) → some B ≠ (Value.slice a1 fn c1).ownBlock := fun B hB e => by have := (HOw B e.symm).1; omega
  have P3 := Whole.kept (Whole.alloc P5 (.cells #[.string key, .int .i64 X.h.k, .bool X.h.b, .bool X.h.n, .string X.h.d, .int .i64 X.h.e, .int .i64 X.h.tk, .int .i64 X.h.td, .int .i64 X.h.tn, .int .i64 X.h.tz, .string X.h.x, .slice X.h.ba X.h.bn X.h.bc, .slice X.h.la X.h.ln X.h.lc, .slice X.h.fa X.h.fn X.h.fc] 61)) hgrow (far _ (by omega))
  have XB3 := Whole.kept (Whole.alloc XB5 (.cells #[.string key, .int .i64 X.h.k, .bool X.h.b, .bool X.h.n, .string X.h.d, .int .i64 X.h.e, .int .i64 X.h.tk, .int .i64 X.h.td, .int .i64 X.h.tn, .int .i64 X.h.tz, .string X.h.x, .slice X.h.ba X.h.bn X.h.bc, .slice X.h.la X.h.ln X.h.lc, .slice X.h.fa X.h.fn X.h.fc] 61)) hgrow (far _ (by omega))
  have Q3 := Whole.kept (Whole.alloc Q5 (.cells #[.string key, .int .i64 X.h.k, .bool X.h.b, .bool X.h.n, .string X.h.d, .int .i64 X.h.e, .int .i64 X.h.tk, .int .i64 X.h.td, .int .i64 X.h.tn, .int .i64 X.h.tz, .string X.h.x, .slice X.h.ba X.h.bn X.h.bc, .slice X.h.la X.h.ln X.h.lc, .slice X.h.fa X.h.fn X.h.fc] 61)) hgrow (far _ (by omega))
  have O3 := Whole.kept (Whole.alloc O5 (.cells #[.string key, .int .i64 X.h.k, .bool X.h.b, .bool X.h.n, .string X.h.d, .int .i64 X.h.e, .int .i64 X.h.tk, .int .i64 X.h.td, .int .i64 X.h.tn, .int .i64 X.h.tz, .string X.h.x, .slice X.h.ba X.h.bn X.h.bc, .slice X.h.la X.h.ln X.h.lc, .slice X.h.fa X.h.fn X.h.fc] 61)) hgrow (far _ (by omega))
  have hb3 := (hb5.alloc hb5.size (.cells #[.string key, .int .i64 X.h.k, .bool X.h.b, .bool X.h.n, .string X.h.d, .int .i64 X.h.e, .int .i64 X.h.tk, .int .i64 X.h.td, .int .i64 X.h.tn, .int .i64 X.h.tz, .string X.h.x, .slice X.h.ba X.h.bn X.h.bc, .slice X.h.la X.h.ln X.h.lc, .slice X.h.fa X.h.fn X.h.fc] 61)).grown hgrow (by rw [World.size_alloc]; omega) (fun g hg => by have := (HOw g hg).1; omega)
  clear hown Hf hown3 hgrow hat hrow5 hb5 P5 XB5 Q5 O5 oO fO HOw far HZin HZo x0 x1 x2 x3 x4 x5 x6 x7 x8 x9 x10 x11 x12 hw5 hb5s
  have oO := Whole.cell O3 12
  have fO := Whole.frozen O3 12
  simp only [List.getElem?_toArray, List.getElem?_cons_succ, List.getElem?_cons_zero] at oO
  have O4 := Whole.set O3 12 (.slice (some ⟨gg, 0, none⟩) (fn + 1) cap)
  have P4 := Whole.far (p := ⟨w.heap.size + 1 + 1 + 1, 12, none⟩) P3 (by show w.heap.size ≠ w.heap.size + 1 + 1 + 1; omega) (.slice (some ⟨gg, 0, none⟩) (fn + 1) cap)
  have XB4 := Whole.far (p := ⟨w.heap.size + 1 + 1 + 1, 12, none⟩) XB3 (by show w.heap.size + 1 ≠ w.heap.size + 1 + 1 + 1; omega) (.slice (some ⟨gg, 0, none⟩) (fn + 1) cap)
  have Q4 := Whole.far (p := ⟨w.heap.size + 1 + 1 + 1, 12, none⟩) Q3 (by show w.heap.size + 1 + 1 ≠ w.heap.size + 1 + 1 + 1; omega) (.slice (some ⟨gg, 0, none⟩) (fn + 1) cap)
  have hb4 := hb3.setCell (p := ⟨w.heap.size + 1 + 1 + 1, 12, none⟩) (by show w.heap.size ≤ w.heap.size + 1 + 1 + 1; omega) (.slice (some ⟨gg, 0, none⟩) (fn + 1) cap)
  have hrow4 := hrow3.turn (grown_set w3 (w.heap.size + 1 + 1 + 1) 12 (.slice (some ⟨gg, 0, none⟩) (fn + 1) cap)) (by omega) (fun b hb => by have hb' := HSl.out b hb; omega)
  clear P3 XB3 Q3 O3 hb3 hrow3
  obtain ⟨c0, c1', c2, c3, c4, c5, c6, c7, c8, c9, c10, c11, c12⟩ := Whole.c13 (h := (Vh.fld 7 (some ⟨gg, 0, none⟩) (fn + 1) cap 0)) O4
  simp only [Vh.fld, Vh.cells] at c0 c1' c2 c3 c4 c5 c6 c7 c8 c9 c10 c11 c12
  have hone := Lib.hid (vh_all (Vh.fld 7 (some ⟨gg, 0, none⟩) (fn + 1) cap 0))
  have HE : Hid (∀ W', Below w.heap.size w W' → RowG fcs Prod.snd 14 61 (w.heap.size + 4) SS (fun t X => X = M t) W' (.slice (some ⟨gg, 0, none⟩) (fn + 1) cap) (fn + 1) → FnS ((Vt.mk ⟨k, b', n', dd, e, tk, td, tn, tz, x, ba, bn, bc, la, 0, lc, fa, fn, fc, bb, bo, lb, lo, fb, fo⟩ Y L K F).moreF key X) SS w (.returned (.agg #[.int .i64 7, .bool false, .bool false, .string ⟨#[]⟩, .int .i64 0, .int .i64 0, .int .i64 0, .int .i64 0, .int .i64 0, .string ⟨#[]⟩, .slice none 0 0, .slice none 0 0, .slice (some ⟨gg, 0, none⟩) (fn + 1) cap])) W') := Lib.hid fun W' hb hr =>
    fld_out (K := fun t => (M t).1) (M := fun t => (M t).2) hr (by omega) (by omega) hb (fun t x ht hq => by rw [hq, HM.out]; dsimp only; rcases Nat.lt_or_ge t fn with q | q; { simp only [if_pos q]; exact ⟨trivial, HWh.out t q⟩ }; { simp only [if_neg (Nat.not_lt.2 q)]; exact ⟨trivial, HKy.out, HXs.out⟩ })
      (fun a c b K' M' hM' => fld_same (L := L) HOwn.out Hk.out (fun t ht => by have := hM' t ht; rw [HM.out] at this; dsimp only at this; by_cases q : t < fn <;> simp only [q, if_true, if_false] at this ⊢ <;> exact this))
  go_wp2_with (refine wpList_store_row rfl 30 _ _ rfl (w.heap.size + 2) (Vh.fld 7 (some ⟨gg, 0, none⟩) (fn + 1) cap 0).cells rfl rfl 30 _ Q4 vh_row rfl hone.out ?_)
  exact bodyPost_ret (v := .agg (Vh.fld 7 (some ⟨gg, 0, none⟩) (fn + 1) cap 0).cells) (ret_val (p := 6) rfl rfl (Q4.setRow _)) rfl (HE.out _ (below_setRow hb4 (by omega) _) (hrow4.turn (grown_row _ _ _) (by omega) (fun b hb => by have hb' := HSl.out b hb; omega)))
end Go.Proofs.YtfkfboiblgoamaaDoor
