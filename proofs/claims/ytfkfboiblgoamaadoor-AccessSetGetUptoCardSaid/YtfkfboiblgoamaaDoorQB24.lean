/- Laid together for a claim: VtLast1. -/
import Derived.Test.YtfkfboiblgoamaaDoorQB22
import Derived.Test.YtfkfboiblgoamaaDoorQB23
/- What the reference makes at the last step: datakitref09.last, how = 1. -/
namespace Go.Proofs.YtfkfboiblgoamaaDoor
open Go.RowKit
set_option linter.unusedSimpArgs false
set_option linter.unusedVariables false

/-- What 'last' makes. -/
noncomputable def Vt.last1 (X T : Vt) (s : Stp) : Vt × Int := if (T.find s).2 = 0 then (T.setP (T.find s).1.toNat X, 0) else if (T.find s).2 = 7 ∧ s.ix = false then (T.moreF s.key X, 0) else (.z, (T.find s).2)

theorem find_7 {T : Vt} {s : Stp} (h : (T.find s).2 = 7) : if s.ix = true then T.h.k = 6 else T.h.k = 7 := by
  unfold Vt.find at h
  split at h
  · rename_i q
    rw [if_pos q]
    split at h
    · cases h
    · rename_i q2; exact Classical.byContradiction q2
  · rename_i q
    rw [if_neg q]
    split at h
    · cases h
    · rename_i q2; exact Classical.byContradiction q2

theorem mored_any {T X : Vt} {key : ByteArray} {top : Nat} {w : World} (hT : T.In w top) (hX : X.In w w.heap.size) {SS : Nat → Prop} (hXo : X.Off SS) (hSt : ∀ b, b < top → SS b) (hSl : ∀ b, SS b → b < w.heap.size) (ht : top ≤ w.heap.size) (ho : T.h.own = true) (hk : T.h.k = 7) (hkey : key.size ≤ 1048576) (hfn : T.h.fn < 1048576) :
    Calls Tryd.prog 56 #[.agg T.h.cells, .string key, .agg X.h.cells] w (FnS (T.moreF key X) SS w) := by
  cases T with
  | nil => exact hT.elim
  | mk h Y L K F => exact more_any hT hX hXo hSt hSl ht ho hk hkey hfn

set_option maxHeartbeats 8000000 in
set_option maxRecDepth 100000 in
theorem last1_6 {T X : Vt} {s : Stp} {top : Nat} {w : World} (hT : T.In w top) (hX : X.In w top) (ht : top ≤ w.heap.size) (ho : T.h.own = true) (hs : w64 s.n) (h0 : (T.find s).2 = 6) :
    Calls Tryd.prog 48 #[.agg T.h.cells, .agg s.cells, .agg X.h.cells, .int .i64 1] w (ResOut (.z, 6) top w) := by
  obtain ⟨f1, hf1⟩ : ∃ f, T.find s = (f, 6) := ⟨_, Prod.ext rfl h0⟩
  have HE : Hid (∀ w', Below w.heap.size w w' → ResOut ((.z, 6) : Vt × Int) top w (.returned (.tuple #[.agg Vh.zero.cells, .int .i64 6])) w') := Lib.hid fun w' hb => res_of (X := .z) rfl (Vt.z_in _ _) (Vt.z_off _) (fun h => absurd h (by decide)) (fun _ => rfl) hb
  have hb0 := ((((Below.refl w.heap.size w).alloc (Nat.le_refl _) (.cells T.h.cells 30)).alloc (by simp) (.cells s.cells 50)).alloc (by simp; omega) (.cells X.h.cells 30)).alloc (by simp; omega) (.cells Vh.zero.cells 30)
  have P := (((Whole.new w 30 T.h.cells).alloc (.cells s.cells 50)).alloc (.cells X.h.cells 30)).alloc (.cells Vh.zero.cells 30)
  have S3 := ((Whole.new (w.alloc (.cells T.h.cells 30)) 50 s.cells).alloc (.cells X.h.cells 30)).alloc (.cells Vh.zero.cells 30)
  rw [World.size_alloc] at S3
  have XB := (Whole.new ((w.alloc (.cells T.h.cells 30)).alloc (.cells s.cells 50)) 30 X.h.cells).alloc (.cells Vh.zero.cells 30)
  rw [World.size_alloc, World.size_alloc] at XB
  have Q := Whole.new (((w.alloc (.cells T.h.cells 30)).alloc (.cells s.cells 50)).alloc (.cells X.h.cells 30)) 30 Vh.zero.cells
  rw [World.size_alloc, World.size_alloc, World.size_alloc] at Q
  have HF := Lib.hid (fun (w1 : World) (hb : Below w.heap.size w w1) => rfind_any (T := T) (s := s) (Vt.In.below (hb.mono ht) hT) (Nat.le_trans ht hb.size) hs)
  rw [hf1] at HF
  clear hT hX ho h0 hf1
  simp only [Vh.cells, Vh.zero, Stp.cells] at hb0 P S3 XB Q HF ⊢
  go_enter Tryd.func48, Tryd.ntmps48
  go_wp2_with fail
  refine (HF.out _ hb0).mono ?_; rintro _ w1 ⟨rfl, hb1⟩
  have g1 := below_then hb0 hb1
  have P1 := Whole.below P hb1 (Whole.lt P)
  have S31 := Whole.below S3 hb1 (Whole.lt S3)
  have XB1 := Whole.below XB hb1 (Whole.lt XB)
  have Q1 := Whole.below Q hb1 (Whole.lt Q)
  clear HF hb0 hb1 P S3 XB Q
  obtain ⟨s0, s1, s2⟩ := Whole.b3 (s := s) S31
  have hone := Lib.hid (vh_all Vh.zero)
  go_wp2_with (refine wpList_store_row rfl 30 _ _ rfl (w.heap.size + 3) Vh.zero.cells rfl rfl 30 _ Q1 vh_row rfl hone.out ?_)
  exact bodyPost_ret (v := .tuple #[.agg Vh.zero.cells, .int .i64 6]) (ret_val2 (p := 8) (q := 9) rfl rfl (Whole.setRow Q1 Vh.zero.cells)) rfl (HE.out _ (below_setRow g1 (by omega) _))

set_option maxHeartbeats 8000000 in
set_option maxRecDepth 100000 in
theorem last1_7 {T X : Vt} {s : Stp} {top : Nat} {w : World} (hT : T.In w top) (hX : X.In w top) (ht : top ≤ w.heap.size) (ho : T.h.own = true) (hs : w64 s.n) (h0 : (T.find s).2 = 7) (hix : s.ix = true) :
    Calls Tryd.prog 48 #[.agg T.h.cells, .agg s.cells, .agg X.h.cells, .int .i64 1] w (ResOut (.z, 7) top w) := by
  have Hix := Lib.hid hix
  clear hix
  obtain ⟨f1, hf1⟩ : ∃ f, T.find s = (f, 7) := ⟨_, Prod.ext rfl h0⟩
  have HE : Hid (∀ w', Below w.heap.size w w' → ResOut ((.z, 7) : Vt × Int) top w (.returned (.tuple #[.agg Vh.zero.cells, .int .i64 7])) w') := Lib.hid fun w' hb => res_of (X := .z) rfl (Vt.z_in _ _) (Vt.z_off _) (fun h => absurd h (by decide)) (fun _ => rfl) hb
  have hb0 := ((((Below.refl w.heap.size w).alloc (Nat.le_refl _) (.cells T.h.cells 30)).alloc (by simp) (.cells s.cells 50)).alloc (by simp; omega) (.cells X.h.cells 30)).alloc (by simp; omega) (.cells Vh.zero.cells 30)
  have P := (((Whole.new w 30 T.h.cells).alloc (.cells s.cells 50)).alloc (.cells X.h.cells 30)).alloc (.cells Vh.zero.cells 30)
  have S3 := ((Whole.new (w.alloc (.cells T.h.cells 30)) 50 s.cells).alloc (.cells X.h.cells 30)).alloc (.cells Vh.zero.cells 30)
  rw [World.size_alloc] at S3
  have XB := (Whole.new ((w.alloc (.cells T.h.cells 30)).alloc (.cells s.cells 50)) 30 X.h.cells).alloc (.cells Vh.zero.cells 30)
  rw [World.size_alloc, World.size_alloc] at XB
  have Q := Whole.new (((w.alloc (.cells T.h.cells 30)).alloc (.cells s.cells 50)).alloc (.cells X.h.cells 30)) 30 Vh.zero.cells
  rw [World.size_alloc, World.size_alloc, World.size_alloc] at Q
  have HF := Lib.hid (fun (w1 : World) (hb : Below w.heap.size w w1) => rfind_any (T := T) (s := s) (Vt.In.below (hb.mono ht) hT) (Nat.le_trans ht hb.size) hs)
  rw [hf1] at HF
  clear hT hX ho h0 hf1
  simp only [Vh.cells, Vh.zero, Stp.cells] at hb0 P S3 XB Q HF ⊢
  go_enter Tryd.func48, Tryd.ntmps48
  go_wp2_with fail
  refine (HF.out _ hb0).mono ?_; rintro _ w1 ⟨rfl, hb1⟩
  have g1 := below_then hb0 hb1
  have P1 := Whole.below P hb1 (Whole.lt P)
  have S31 := Whole.below S3 hb1 (Whole.lt S3)
  have XB1 := Whole.below XB hb1 (Whole.lt XB)
  have Q1 := Whole.below Q hb1 (Whole.lt Q)
  clear HF hb0 hb1 P S3 XB Q
  obtain ⟨s0, s1, s2⟩ := Whole.b3 (s := s) S31
  rw [Hix.out] at s0
  clear Hix
  have hone := Lib.hid (vh_all Vh.zero)
  go_wp2_with (refine wpList_store_row rfl 30 _ _ rfl (w.heap.size + 3) Vh.zero.cells rfl rfl 30 _ Q1 vh_row rfl hone.out ?_)
  exact bodyPost_ret (v := .tuple #[.agg Vh.zero.cells, .int .i64 7]) (ret_val2 (p := 8) (q := 9) rfl rfl (Whole.setRow Q1 Vh.zero.cells)) rfl (HE.out _ (below_setRow g1 (by omega) _))

set_option maxHeartbeats 8000000 in
set_option maxRecDepth 100000 in
theorem last1_0 {T X : Vt} {s : Stp} {top : Nat} {w : World} (hT : T.In w top) (hX : X.In w top) (ht : top ≤ w.heap.size) (ho : T.h.own = true) (hs : w64 s.n) (h0 : (T.find s).2 = 0) :
    Calls Tryd.prog 48 #[.agg T.h.cells, .agg s.cells, .agg X.h.cells, .int .i64 1] w (ResOut (T.setP (T.find s).1.toNat X, 0) top w) := by
  obtain ⟨f1, hf1⟩ : ∃ f, T.find s = (f, 0) := ⟨_, Prod.ext rfl h0⟩
  have HC := Lib.hid (fun (w1 : World) (hb : Below w.heap.size w w1) => replace_any (s := s) (Vt.In.below (hb.mono ht) hT) ((Vt.In.below (hb.mono ht) hX).up (Nat.le_trans ht hb.size)) (SS := (· < top)) hX.off (fun _ q => q) (fun b q => Nat.lt_of_lt_of_le q (Nat.le_trans ht hb.size)) (Nat.le_trans ht hb.size) ho h0)
  obtain ⟨V, hV⟩ : ∃ V, T.setP (T.find s).1.toNat X = V := ⟨_, rfl⟩
  rw [hV] at HC ⊢
  clear hV
  rw [hf1] at HC
  have HE : Hid (∀ (Z : Vt) w', Z.In w' w'.heap.size → Z.Off (fun b => b < top ∨ w.heap.size ≤ b) → Z.Same V → Below w.heap.size w w' → ResOut (V, 0) top w (.returned (.tuple #[.agg Z.h.cells, .int .i64 0])) w') := Lib.hid fun Z w' h1 h3 h2 hb => res_of (X := Z) rfl h1 h3 (fun _ => h2) (fun h => absurd rfl h) hb
  have hb0 := ((((Below.refl w.heap.size w).alloc (Nat.le_refl _) (.cells T.h.cells 30)).alloc (by simp) (.cells s.cells 50)).alloc (by simp; omega) (.cells X.h.cells 30)).alloc (by simp; omega) (.cells Vh.zero.cells 30)
  have P := (((Whole.new w 30 T.h.cells).alloc (.cells s.cells 50)).alloc (.cells X.h.cells 30)).alloc (.cells Vh.zero.cells 30)
  have S3 := ((Whole.new (w.alloc (.cells T.h.cells 30)) 50 s.cells).alloc (.cells X.h.cells 30)).alloc (.cells Vh.zero.cells 30)
  rw [World.size_alloc] at S3
  have XB := (Whole.new ((w.alloc (.cells T.h.cells 30)).alloc (.cells s.cells 50)) 30 X.h.cells).alloc (.cells Vh.zero.cells 30)
  rw [World.size_alloc, World.size_alloc] at XB
  have Q := Whole.new (((w.alloc (.cells T.h.cells 30)).alloc (.cells s.cells 50)).alloc (.cells X.h.cells 30)) 30 Vh.zero.cells
  rw [World.size_alloc, World.size_alloc, World.size_alloc] at Q
  have HF := Lib.hid (fun (w1 : World) (hb : Below w.heap.size w w1) => rfind_any (T := T) (s := s) (Vt.In.below (hb.mono ht) hT) (Nat.le_trans ht hb.size) hs)
  rw [hf1] at HF
  clear hT hX ho h0 hf1
  simp only [Vh.cells, Vh.zero, Stp.cells] at hb0 P S3 XB Q HF ⊢
  go_enter Tryd.func48, Tryd.ntmps48
  go_wp2_with fail
  refine (HF.out _ hb0).mono ?_; rintro _ w1 ⟨rfl, hb1⟩
  have g1 := below_then hb0 hb1
  have P1 := Whole.below P hb1 (Whole.lt P)
  have S31 := Whole.below S3 hb1 (Whole.lt S3)
  have XB1 := Whole.below XB hb1 (Whole.lt XB)
  have Q1 := Whole.below Q hb1 (Whole.lt Q)
  clear HF hb0 hb1 P S3 XB Q
  obtain ⟨c0, c1, c2, c3, c4, c5, c6, c7, c8, c9, c10, c11, c12⟩ := Whole.c13 (h := T.h) P1
  obtain ⟨s0, s1, s2⟩ := Whole.b3 (s := s) S31
  obtain ⟨x0, x1, x2, x3, x4, x5, x6, x7, x8, x9, x10, x11, x12⟩ := Whole.c13 (h := X.h) XB1
  simp only [Vh.cells, Stp.cells] at HC
  go_wp2_with fail
  refine (HC.out _ g1).mono ?_; rintro _ w2 ⟨Z, rfl, hZ, hZo, hZs, hb2⟩
  have g2 := below_then g1 hb2
  have hw1 := g1.size
  have hQ1 := Q1.lt
  have Q2 := Q1.below hb2 Q1.lt
  have hone := Lib.hid (vh_all Z.h)
  have hZ2 := Lib.hid (hZ.stays hZo (W' := w2.setRow (w.heap.size + 3) Z.h.cells) (fun b hb => setRow_other _ _ _ _ (by omega)) (by rw [size_setRow]; exact Nat.le_refl _))
  have hZs2 := Lib.hid hZs
  have hZo2 : Hid (Z.Off (fun b => b < top ∨ w.heap.size ≤ b)) := Lib.hid (hZo.mono fun b hb => by omega)
  clear c0 c1 c2 c3 c4 c5 c6 c7 c8 c9 c10 c11 c12 s0 s1 s2 x0 x1 x2 x3 x4 x5 x6 x7 x8 x9 x10 x11 x12 HC hZ hZo hZs hb2 g1 P1 S31 XB1 Q1 hQ1
  go_wp2_with (refine wpList_store_row rfl 30 _ _ rfl (w.heap.size + 3) Z.h.cells rfl rfl 30 _ Q2 vh_row rfl hone.out ?_)
  exact bodyPost_ret (v := .tuple #[.agg Z.h.cells, .int .i64 0]) (ret_val2 (p := 8) (q := 9) rfl rfl (Q2.setRow Z.h.cells)) rfl (HE.out Z _ hZ2.out hZo2.out hZs2.out (below_setRow g2 (by omega) _))

set_option maxHeartbeats 8000000 in
set_option maxRecDepth 100000 in
theorem last1_m {T X : Vt} {s : Stp} {top : Nat} {w : World} (hT : T.In w top) (hX : X.In w top) (ht : top ≤ w.heap.size) (ho : T.h.own = true) (hs : w64 s.n) (h0 : (T.find s).2 = 7) (hix : s.ix = false) (hk7 : T.h.k = 7) (hkey : s.key.size ≤ 1048576) (hfn : T.h.fn < 1048576) :
    Calls Tryd.prog 48 #[.agg T.h.cells, .agg s.cells, .agg X.h.cells, .int .i64 1] w (ResOut (T.moreF s.key X, 0) top w) := by
  have Hix := Lib.hid hix
  clear hix
  obtain ⟨f1, hf1⟩ : ∃ f, T.find s = (f, 7) := ⟨_, Prod.ext rfl h0⟩
  have HC := Lib.hid (fun (w1 : World) (hb : Below w.heap.size w w1) => mored_any (Vt.In.below (hb.mono ht) hT) ((Vt.In.below (hb.mono ht) hX).up (Nat.le_trans ht hb.size)) (SS := (· < top)) hX.off (fun _ q => q) (fun b q => Nat.lt_of_lt_of_le q (Nat.le_trans ht hb.size)) (Nat.le_trans ht hb.size) ho hk7 hkey hfn)
  obtain ⟨V, hV⟩ : ∃ V, T.moreF s.key X = V := ⟨_, rfl⟩
  rw [hV] at HC ⊢
  clear hV
  have HE : Hid (∀ (Z : Vt) w', Z.In w' w'.heap.size → Z.Off (fun b => b < top ∨ w.heap.size ≤ b) → Z.Same V → Below w.heap.size w w' → ResOut (V, 0) top w (.returned (.tuple #[.agg Z.h.cells, .int .i64 0])) w') := Lib.hid fun Z w' h1 h3 h2 hb => res_of (X := Z) rfl h1 h3 (fun _ => h2) (fun h => absurd rfl h) hb
  have hb0 := ((((Below.refl w.heap.size w).alloc (Nat.le_refl _) (.cells T.h.cells 30)).alloc (by simp) (.cells s.cells 50)).alloc (by simp; omega) (.cells X.h.cells 30)).alloc (by simp; omega) (.cells Vh.zero.cells 30)
  have P := (((Whole.new w 30 T.h.cells).alloc (.cells s.cells 50)).alloc (.cells X.h.cells 30)).alloc (.cells Vh.zero.cells 30)
  have S3 := ((Whole.new (w.alloc (.cells T.h.cells 30)) 50 s.cells).alloc (.cells X.h.cells 30)).alloc (.cells Vh.zero.cells 30)
  rw [World.size_alloc] at S3
  have XB := (Whole.new ((w.alloc (.cells T.h.cells 30)).alloc (.cells s.cells 50)) 30 X.h.cells).alloc (.cells Vh.zero.cells 30)
  rw [World.size_alloc, World.size_alloc] at XB
  have Q := Whole.new (((w.alloc (.cells T.h.cells 30)).alloc (.cells s.cells 50)).alloc (.cells X.h.cells 30)) 30 Vh.zero.cells
  rw [World.size_alloc, World.size_alloc, World.size_alloc] at Q
  have HF := Lib.hid (fun (w1 : World) (hb : Below w.heap.size w w1) => rfind_any (T := T) (s := s) (Vt.In.below (hb.mono ht) hT) (Nat.le_trans ht hb.size) hs)
  rw [hf1] at HF
  clear hT hX ho h0 hf1 hk7 hkey hfn
  simp only [Vh.cells, Vh.zero, Stp.cells] at hb0 P S3 XB Q HF ⊢
  go_enter Tryd.func48, Tryd.ntmps48
  go_wp2_with fail
  refine (HF.out _ hb0).mono ?_; rintro _ w1 ⟨rfl, hb1⟩
  have g1 := below_then hb0 hb1
  have P1 := Whole.below P hb1 (Whole.lt P)
  have S31 := Whole.below S3 hb1 (Whole.lt S3)
  have XB1 := Whole.below XB hb1 (Whole.lt XB)
  have Q1 := Whole.below Q hb1 (Whole.lt Q)
  clear HF hb0 hb1 P S3 XB Q
  obtain ⟨c0, c1, c2, c3, c4, c5, c6, c7, c8, c9, c10, c11, c12⟩ := Whole.c13 (h := T.h) P1
  obtain ⟨s0, s1, s2⟩ := Whole.b3 (s := s) S31
  obtain ⟨x0, x1, x2, x3, x4, x5, x6, x7, x8, x9, x10, x11, x12⟩ := Whole.c13 (h := X.h) XB1
  rw [Hix.out] at s0
  clear Hix
  simp only [Vh.cells, Stp.cells] at HC
  go_wp2_with fail
  refine (HC.out _ g1).mono ?_; rintro _ w2 ⟨Z, rfl, hZ, hZo, hZs, hb2⟩
  have g2 := below_then g1 hb2
  have hw1 := g1.size
  have hQ1 := Q1.lt
  have Q2 := Q1.below hb2 Q1.lt
  have hone := Lib.hid (vh_all Z.h)
  have hZ2 := Lib.hid (hZ.stays hZo (W' := w2.setRow (w.heap.size + 3) Z.h.cells) (fun b hb => setRow_other _ _ _ _ (by omega)) (by rw [size_setRow]; exact Nat.le_refl _))
  have hZs2 := Lib.hid hZs
  have hZo2 : Hid (Z.Off (fun b => b < top ∨ w.heap.size ≤ b)) := Lib.hid (hZo.mono fun b hb => by omega)
  clear c0 c1 c2 c3 c4 c5 c6 c7 c8 c9 c10 c11 c12 s0 s1 s2 x0 x1 x2 x3 x4 x5 x6 x7 x8 x9 x10 x11 x12 HC hZ hZo hZs hb2 g1 P1 S31 XB1 Q1 hQ1
  go_wp2_with (refine wpList_store_row rfl 30 _ _ rfl (w.heap.size + 3) Z.h.cells rfl rfl 30 _ Q2 vh_row rfl hone.out ?_)
  exact bodyPost_ret (v := .tuple #[.agg Z.h.cells, .int .i64 0]) (ret_val2 (p := 8) (q := 9) rfl rfl (Q2.setRow Z.h.cells)) rfl (HE.out Z _ hZ2.out hZo2.out hZs2.out (below_setRow g2 (by omega) _))

theorem last1_any {T X : Vt} {s : Stp} {top : Nat} {w : World} (hT : T.In w top) (hX : X.In w top) (ht : top ≤ w.heap.size) (ho : T.h.own = true) (hs : w64 s.n) (hsz : T.size ≤ 65536) (hso : stepOk s) :
    Calls Tryd.prog 48 #[.agg T.h.cells, .agg s.cells, .agg X.h.cells, .int .i64 1] w (ResOut (Vt.last1 X T s) top w) := by
  unfold Vt.last1
  rcases find_rng T s with h | h | h
  · rw [if_pos h]; exact last1_0 hT hX ht ho hs h
  · rw [if_neg (by omega), if_neg (fun q => by omega), h]; exact last1_6 hT hX ht ho hs h
  · rw [if_neg (by omega)]
    have h7 := find_7 h
    cases hix : s.ix with
    | true => rw [if_neg (fun q => by cases q.2), h]; exact last1_7 hT hX ht ho hs h hix
    | false =>
      rw [hix, if_neg (by decide)] at h7
      rw [if_pos ⟨h, rfl⟩]
      have hk : s.key.size ≤ 1024 := by unfold stepOk at hso; rw [hix, if_neg (by decide)] at hso; exact hso.2.1
      exact last1_m hT hX ht ho hs h hix h7 (by omega) (by have := Vt.fn_le_size h7; omega)
end Go.Proofs.YtfkfboiblgoamaaDoor
