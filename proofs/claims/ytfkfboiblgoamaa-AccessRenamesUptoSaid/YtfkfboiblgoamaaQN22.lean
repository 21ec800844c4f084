/- Laid together for one claim: VtLast3. -/
import Derived.Test.YtfkfboiblgoamaaQN21
/- What the reference makes at the last step: datakitref09.last, how = 3. -/
namespace Go.Proofs.Ytfkfboiblgoamaa
open Go.RowKit
set_option linter.unusedSimpArgs false
set_option linter.unusedVariables false

theorem find_rng (T : Vt) (s : Stp) : (T.find s).2 = 0 ∨ (T.find s).2 = 6 ∨ (T.find s).2 = 7 := by
  unfold Vt.find
  split <;> split <;> first | exact .inr (.inl rfl) | (split <;> first | exact .inl rfl | exact .inr (.inr rfl))

/-- A result that a walk has put together. -/
theorem res_of {R : Vt × Int} {X : Vt} {E : Int} {w w' : World} (hE : R.2 = E) {top : Nat} (hX : X.In w' w'.heap.size) (hXo : X.Off (fun b => b < top ∨ w.heap.size ≤ b)) (h0 : R.2 = 0 → X.Same R.1) (h1 : R.2 ≠ 0 → X = .z) (hb : Below w.heap.size w w') :
    ResOut R top w (.returned (.tuple #[.agg #[.int .i64 X.h.k, .bool X.h.b, .bool X.h.n, .string X.h.d, .int .i64 X.h.e, .int .i64 X.h.tk, .int .i64 X.h.td, .int .i64 X.h.tn, .int .i64 X.h.tz, .string X.h.x, .slice X.h.ba X.h.bn X.h.bc, .slice X.h.la X.h.ln X.h.lc, .slice X.h.fa X.h.fn X.h.fc], .int .i64 E])) w' := by
  subst hE
  exact ⟨X, rfl, hX, hXo, h0, h1, hb⟩

/-- What 'last' makes. -/
noncomputable def Vt.last3 (X T : Vt) (s : Stp) : Vt × Int := if (T.find s).2 = 0 then (T.wo s, 0) else (.z, (T.find s).2)

set_option maxHeartbeats 8000000 in
set_option maxRecDepth 100000 in
theorem last3_6 {T X : Vt} {s : Stp} {top : Nat} {w : World} (hT : T.In w top) (hX : X.In w top) (ht : top ≤ w.heap.size) (ho : T.h.own = true) (hs : w64 s.n) (h0 : (T.find s).2 = 6) :
    Calls Try.prog 53 #[.agg T.h.cells, .agg s.cells, .agg X.h.cells, .int .i64 3] w (ResOut (.z, 6) top w) := by
  obtain ⟨f1, hf1⟩ : ∃ f, T.find s = (f, 6) := ⟨_, Prod.ext rfl h0⟩
  have HE : Hid (∀ w', Below w.heap.size w w' → ResOut ((.z, 6) : Vt × Int) top w (.returned (.tuple #[.agg Vh.zero.cells, .int .i64 6])) w') := Lib.hid fun w' hb => res_of (X := .z) rfl (Vt.z_in _ _) (Vt.z_off _) (fun h => absurd h (by decide)) (fun _ => rfl) hb
  have hb0 := ((((Below.refl w.heap.size w).alloc (Nat.le_refl _) (.cells T.h.cells 30)).alloc (by simp) (.cells s.cells 59)).alloc (by simp; omega) (.cells X.h.cells 30)).alloc (by simp; omega) (.cells Vh.zero.cells 30)
  have P := (((Whole.new w 30 T.h.cells).alloc (.cells s.cells 59)).alloc (.cells X.h.cells 30)).alloc (.cells Vh.zero.cells 30)
  have S3 := ((Whole.new (w.alloc (.cells T.h.cells 30)) 59 s.cells).alloc (.cells X.h.cells 30)).alloc (.cells Vh.zero.cells 30)
  rw [World.size_alloc] at S3
  have XB := (Whole.new ((w.alloc (.cells T.h.cells 30)).alloc (.cells s.cells 59)) 30 X.h.cells).alloc (.cells Vh.zero.cells 30)
  rw [World.size_alloc, World.size_alloc] at XB
  have Q := Whole.new (((w.alloc (.cells T.h.cells 30)).alloc (.cells s.cells 59)).alloc (.cells X.h.cells 30)) 30 Vh.zero.cells
  rw [World.size_alloc, World.size_alloc, World.size_alloc] at Q
  have HF := Lib.hid (fun (w1 : World) (hb : Below w.heap.size w w1) => rfind_any (T := T) (s := s) (Vt.In.below (hb.mono ht) hT) (Nat.le_trans ht hb.size) hs)
  rw [hf1] at HF
  clear hT hX ho h0 hf1
  simp only [Vh.cells, Vh.zero, Stp.cells] at hb0 P S3 XB Q HF ⊢
  go_enter Try.func53, Try.ntmps53
  go_wp2_with fail
  refine (HF.out _ hb0).mono ?_; rintro _ w1 ⟨rfl, hb1⟩
  have g1 := below_then hb0 hb1
  have P1 := Whole.below P hb1 (Whole.lt P)
  have S31 := Whole.below S3 hb1 (Whole.lt S3)
  have XB1 := Whole.below XB hb1 (Whole.lt XB)
  have Q1 := Whole.below Q hb1 (Whole.lt Q)
  clear HF hb0 hb1 P S3 XB Q
  have b0 := Whole.b3 (s := s) S31
  obtain ⟨s0, s1, s2⟩ := b0
  have hone := Lib.hid (vh_all Vh.zero)
  go_wp2_with (refine wpList_store_row rfl 30 _ _ rfl (w.heap.size + 3) Vh.zero.cells rfl rfl 30 _ Q1 vh_row rfl hone.out ?_)
  exact bodyPost_ret (v := .tuple #[.agg Vh.zero.cells, .int .i64 6]) (ret_val2 (p := 8) (q := 9) rfl rfl (Whole.setRow Q1 Vh.zero.cells)) rfl (HE.out _ (below_setRow g1 (by omega) _))

set_option maxHeartbeats 8000000 in
set_option maxRecDepth 100000 in
theorem last3_7 {T X : Vt} {s : Stp} {top : Nat} {w : World} (hT : T.In w top) (hX : X.In w top) (ht : top ≤ w.heap.size) (ho : T.h.own = true) (hs : w64 s.n) (h0 : (T.find s).2 = 7) :
    Calls Try.prog 53 #[.agg T.h.cells, .agg s.cells, .agg X.h.cells, .int .i64 3] w (ResOut (.z, 7) top w) := by
  obtain ⟨f1, hf1⟩ : ∃ f, T.find s = (f, 7) := ⟨_, Prod.ext rfl h0⟩
  have HE : Hid (∀ w', Below w.heap.size w w' → ResOut ((.z, 7) : Vt × Int) top w (.returned (.tuple #[.agg Vh.zero.cells, .int .i64 7])) w') := Lib.hid fun w' hb => res_of (X := .z) rfl (Vt.z_in _ _) (Vt.z_off _) (fun h => absurd h (by decide)) (fun _ => rfl) hb
  have hb0 := ((((Below.refl w.heap.size w).alloc (Nat.le_refl _) (.cells T.h.cells 30)).alloc (by simp) (.cells s.cells 59)).alloc (by simp; omega) (.cells X.h.cells 30)).alloc (by simp; omega) (.cells Vh.zero.cells 30)
  have P := (((Whole.new w 30 T.h.cells).alloc (.cells s.cells 59)).alloc (.cells X.h.cells 30)).alloc (.cells Vh.zero.cells 30)
  have S3 := ((Whole.new (w.alloc (.cells T.h.cells 30)) 59 s.cells).alloc (.cells X.h.cells 30)).alloc (.cells Vh.zero.cells 30)
  rw [World.size_alloc] at S3
  have XB := (Whole.new ((w.alloc (.cells T.h.cells 30)).alloc (.cells s.cells 59)) 30 X.h.cells).alloc (.cells Vh.zero.cells 30)
  rw [World.size_alloc, World.size_alloc] at XB
  have Q := Whole.new (((w.alloc (.cells T.h.cells 30)).alloc (.cells s.cells 59)).alloc (.cells X.h.cells 30)) 30 Vh.zero.cells
  rw [World.size_alloc, World.size_alloc, World.size_alloc] at Q
  have HF := Lib.hid (fun (w1 : World) (hb : Below w.heap.size w w1) => rfind_any (T := T) (s := s) (Vt.In.below (hb.mono ht) hT) (Nat.le_trans ht hb.size) hs)
  rw [hf1] at HF
  clear hT hX ho h0 hf1
  simp only [Vh.cells, Vh.zero, Stp.cells] at hb0 P S3 XB Q HF ⊢
  go_enter Try.func53, Try.ntmps53
  go_wp2_with fail
  refine (HF.out _ hb0).mono ?_; rintro _ w1 ⟨rfl, hb1⟩
  have g1 := below_then hb0 hb1
  have P1 := Whole.below P hb1 (Whole.lt P)
  have S31 := Whole.below S3 hb1 (Whole.lt S3)
  have XB1 := Whole.below XB hb1 (Whole.lt XB)
  have Q1 := Whole.below Q hb1 (Whole.lt Q)
  clear HF hb0 hb1 P S3 XB Q
  have b0 := Whole.b3 (s := s) S31
  obtain ⟨s0, s1, s2⟩ := b0
  have hone := Lib.hid (vh_all Vh.zero)
  go_wp2_with (refine wpList_store_row rfl 30 _ _ rfl (w.heap.size + 3) Vh.zero.cells rfl rfl 30 _ Q1 vh_row rfl hone.out ?_)
  exact bodyPost_ret (v := .tuple #[.agg Vh.zero.cells, .int .i64 7]) (ret_val2 (p := 8) (q := 9) rfl rfl (Whole.setRow Q1 Vh.zero.cells)) rfl (HE.out _ (below_setRow g1 (by omega) _))

set_option maxHeartbeats 8000000 in
set_option maxRecDepth 100000 in
theorem last3_0 {T X : Vt} {s : Stp} {top : Nat} {w : World} (hT : T.In w top) (hX : X.In w top) (ht : top ≤ w.heap.size) (ho : T.h.own = true) (hs : w64 s.n) (h0 : (T.find s).2 = 0) :
    Calls Try.prog 53 #[.agg T.h.cells, .agg s.cells, .agg X.h.cells, .int .i64 3] w (ResOut (T.wo s, 0) top w) := by
  obtain ⟨f1, hf1⟩ : ∃ f, T.find s = (f, 0) := ⟨_, Prod.ext rfl h0⟩
  have HC := Lib.hid (fun (w1 : World) (hb : Below w.heap.size w w1) => without_any (s := s) (Vt.In.below (hb.mono ht) hT) (Nat.le_trans ht hb.size) ho h0)
  rw [hf1] at HC
  obtain ⟨V, hV⟩ : ∃ V, T.wo s = V := ⟨_, rfl⟩
  rw [hV] at HC ⊢
  clear hV
  have HE : Hid (∀ (Z : Vt) w', Z.In w' w'.heap.size → Z.Off (fun b => b < top ∨ w.heap.size ≤ b) → Z.Same V → Below w.heap.size w w' → ResOut (V, 0) top w (.returned (.tuple #[.agg Z.h.cells, .int .i64 0])) w') := Lib.hid fun Z w' h1 h3 h2 hb => res_of (X := Z) rfl h1 h3 (fun _ => h2) (fun h => absurd rfl h) hb
  have hb0 := ((((Below.refl w.heap.size w).alloc (Nat.le_refl _) (.cells T.h.cells 30)).alloc (by simp) (.cells s.cells 59)).alloc (by simp; omega) (.cells X.h.cells 30)).alloc (by simp; omega) (.cells Vh.zero.cells 30)
  have P := (((Whole.new w 30 T.h.cells).alloc (.cells s.cells 59)).alloc (.cells X.h.cells 30)).alloc (.cells Vh.zero.cells 30)
  have S3 := ((Whole.new (w.alloc (.cells T.h.cells 30)) 59 s.cells).alloc (.cells X.h.cells 30)).alloc (.cells Vh.zero.cells 30)
  rw [World.size_alloc] at S3
  have XB := (Whole.new ((w.alloc (.cells T.h.cells 30)).alloc (.cells s.cells 59)) 30 X.h.cells).alloc (.cells Vh.zero.cells 30)
  rw [World.size_alloc, World.size_alloc] at XB
  have Q := Whole.new (((w.alloc (.cells T.h.cells 30)).alloc (.cells s.cells 59)).alloc (.cells X.h.cells 30)) 30 Vh.zero.cells
  rw [World.size_alloc, World.size_alloc, World.size_alloc] at Q
  have HF := Lib.hid (fun (w1 : World) (hb : Below w.heap.size w w1) => rfind_any (T := T) (s := s) (Vt.In.below (hb.mono ht) hT) (Nat.le_trans ht hb.size) hs)
  rw [hf1] at HF
  clear hT hX ho h0 hf1
  simp only [Vh.cells, Vh.zero, Stp.cells] at hb0 P S3 XB Q HF ⊢
  go_enter Try.func53, Try.ntmps53
  go_wp2_with fail
  refine (HF.out _ hb0).mono ?_; rintro _ w1 ⟨rfl, hb1⟩
  have g1 := below_then hb0 hb1
  have P1 := Whole.below P hb1 (Whole.lt P)
  have S31 := Whole.below S3 hb1 (Whole.lt S3)
  have XB1 := Whole.below XB hb1 (Whole.lt XB)
  have Q1 := Whole.below Q hb1 (Whole.lt Q)
  clear HF hb0 hb1 P S3 XB Q
  obtain ⟨c0, c1, c2, c3, c4, c5, c6, c7, c8, c9, c10, c11, c12⟩ := Whole.c13 (h := T.h) P1
  obtain ⟨s0, s1, s2⟩ := Whole.b3 (s := s) S31
  simp only [Vh.cells, Stp.cells] at HC
  go_wp2_with fail
  refine (HC.out _ g1).mono ?_; rintro _ w2 ⟨Z, rfl, hZ, hZo, hZs, hb2⟩
  have g2 := below_then g1 hb2
  have hw1 := g1.size
  have hQ1 := Q1.lt
  have Q2 := Q1.below hb2 Q1.lt
  have hone := Lib.hid (vh_all Z.h)
  have hZ2 := Lib.hid (hZ.stays hZo (W' := w2.setRow (w.heap.size + 3) Z.h.cells) (fun b hb => setRow_other _ _ _ _ (by omega)) (by rw [size_setRow]; exact Nat.le_refl _))
  have hZs2 := Lib.hid hZs
  have hZo2 : Hid (Z.Off (fun b => b < top ∨ w.heap.size ≤ b)) := Lib.hid (hZo.mono fun b hb => by omega)
  clear c0 c1 c2 c3 c4 c5 c6 c7 c8 c9 c10 c11 c12 s0 s1 s2  HC hZ hZo hZs hb2 g1 P1 S31 XB1 Q1 hQ1
  go_wp2_with (refine wpList_store_row rfl 30 _ _ rfl (w.heap.size + 3) Z.h.cells rfl rfl 30 _ Q2 vh_row rfl hone.out ?_)
  exact bodyPost_ret (v := .tuple #[.agg Z.h.cells, .int .i64 0]) (ret_val2 (p := 8) (q := 9) rfl rfl (Q2.setRow Z.h.cells)) rfl (HE.out Z _ hZ2.out hZo2.out hZs2.out (below_setRow g2 (by omega) _))

theorem last3_any {T X : Vt} {s : Stp} {top : Nat} {w : World} (hT : T.In w top) (hX : X.In w top) (ht : top ≤ w.heap.size) (ho : T.h.own = true) (hs : w64 s.n) :
    Calls Try.prog 53 #[.agg T.h.cells, .agg s.cells, .agg X.h.cells, .int .i64 3] w (ResOut (Vt.last3 X T s) top w) := by
  unfold Vt.last3
  rcases find_rng T s with h | h | h
  · rw [if_pos h]; exact last3_0 hT hX ht ho hs h
  · rw [if_neg (by omega), h]; exact last3_6 hT hX ht ho hs h
  · rw [if_neg (by omega), h]; exact last3_7 hT hX ht ho hs h
end Go.Proofs.Ytfkfboiblgoamaa
