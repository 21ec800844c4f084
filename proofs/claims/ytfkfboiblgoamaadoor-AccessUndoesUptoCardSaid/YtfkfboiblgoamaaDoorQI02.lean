/- Laid together for a claim: VtLast2, VkInsM, VkIns1. -/
import Derived.Test.YtfkfboiblgoamaaDoorQB22
import Derived.Test.YtfkfboiblgoamaaDoorQB24
import Derived.Test.YtfkfboiblgoamaaDoorQI01
import Derived.Test.YtfkfboiblgoamaaDoorQB26
import Derived.Test.YtfkfboiblgoamaaDoorQB15
import Derived.Test.YtfkfboiblgoamaaDoorQB27
import Derived.Test.YtfkfboiblgoamaaDoorQB14
/- What the reference makes at the last step: datakitref09.last, how = 2. -/
namespace Go.Proofs.YtfkfboiblgoamaaDoor
open Go.RowKit
set_option linter.unusedSimpArgs false
set_option linter.unusedVariables false

/-- What 'last' makes. -/
noncomputable def Vt.last2 (X T : Vt) (s : Stp) : Vt × Int := if (T.find s).2 = 6 then (.z, 6) else if s.ix = true then (if s.n ≤ (T.h.ln : Int) then (T.insL s.n.toNat X, 0) else (.z, 7)) else if (T.find s).2 = 0 then (.z, 8) else (T.moreF s.key X, 0)

set_option maxHeartbeats 8000000 in
set_option maxRecDepth 100000 in
theorem last2_6 {T X : Vt} {s : Stp} {top : Nat} {w : World} (hT : T.In w top) (hX : X.In w top) (ht : top ≤ w.heap.size) (ho : T.h.own = true) (hs : w64 s.n) (h0 : (T.find s).2 = 6) :
    Calls Tryd.prog 48 #[.agg T.h.cells, .agg s.cells, .agg X.h.cells, .int .i64 2] w (ResOut (.z, 6) top w) := by
  obtain ⟨f1, hf1⟩ : ∃ f, T.find s = (f, 6) := ⟨_, Prod.ext rfl h0⟩
  have HE : Hid (∀ w', Below w.heap.size w w' → ResOut ((.z, 6) : Vt × Int) top w (.returned (.tuple #[.agg Vh.zero.cells, .int .i64 6])) w') := Lib.hid fun w' hb => res_of (X := .z) rfl (Vt.z_in _ _) (Vt.z_off _) (fun h => absurd h (by decide)) (fun _ => rfl) hb
  have hb0 := ((((Below.refl w.heap.size w).alloc (Nat.le_refl _) (.cells T.h.cells 30)).alloc (by simp) (.cells s.cells 50)).alloc (by simp; omega) (.cells X.h.cells 30)).alloc (by simp; omega) (.cells Vh.zero.cells 30)
  have P := (((Whole.new w 30 T.h.cells).alloc (.cells s.cells 50)).alloc (.cells X.h.cells 30)).alloc (.cells Vh.zero.cells 30)
  have S3 := ((Whole.new (w.alloc (.cells T.h.cells 30)) 50 s.cells).alloc (.cells X.h.cells 30)).alloc (.cells Vh.zero.cells 30)
  rw [World.size_alloc] at S3
  have XB := (Whole.new ((w.alloc (.cells T.h.cells 30)).alloc (.cells s.cells 50)) 30 X.h.cells).alloc (.cells Vh.zero.cells 30)
  rw [World.size_alloc, World.size_alloc] at XB
  have Q := Whole.new (((w.alloc (.cells T.h.cells 30)).alloc (.cells s.cells 50)).alloc (.cells X.h.cells 30)) 30 Vh.zero.cells
  rw [World.size_alloc, World.size_alloc, World.size_alloc] at Q
  have HF := Lib.hid (fun (w1 : World) (hb : Below w.heap.size w w1) => rfind_any (T := T) (s := s) (Vt.In.below (hb.mono ht) hT) (Nat.le_trans ht hb.size) hs)
  rw [hf1] at HF
  clear hT hX ho h0 hf1
  simp only [Vh.cells, Vh.zero, Stp.cells] at hb0 P S3 XB Q HF ⊢
  go_enter Tryd.func48, Tryd.ntmps48
  go_wp2_with fail
  refine (HF.out _ hb0).mono ?_; rintro _ w1 ⟨rfl, hb1⟩
  have g1 := below_then hb0 hb1
  have P1 := Whole.below P hb1 (Whole.lt P)
  have S31 := Whole.below S3 hb1 (Whole.lt S3)
  have XB1 := Whole.below XB hb1 (Whole.lt XB)
  have Q1 := Whole.below Q hb1 (Whole.lt Q)
  clear HF hb0 hb1 P S3 XB Q
  obtain ⟨s0, s1, s2⟩ := Whole.b3 (s := s) S31
  have hone := Lib.hid (vh_all Vh.zero)
  go_wp2_with (refine wpList_store_row rfl 30 _ _ rfl (w.heap.size + 3) Vh.zero.cells rfl rfl 30 _ Q1 vh_row rfl hone.out ?_)
  exact bodyPost_ret (v := .tuple #[.agg Vh.zero.cells, .int .i64 6]) (ret_val2 (p := 8) (q := 9) rfl rfl (Whole.setRow Q1 Vh.zero.cells)) rfl (HE.out _ (below_setRow g1 (by omega) _))

set_option maxHeartbeats 8000000 in
set_option maxRecDepth 100000 in
theorem last2_w0 {T X : Vt} {s : Stp} {top : Nat} {w : World} (hT : T.In w top) (hX : X.In w top) (ht : top ≤ w.heap.size) (ho : T.h.own = true) (hs : w64 s.n) (h0 : (T.find s).2 = 0) (hix : s.ix = true) (hk6 : T.h.k = 6) (hn0 : 0 ≤ s.n) (hnl : s.n ≤ (T.h.ln : Int)) (hln : T.h.ln < 1048576) :
    Calls Tryd.prog 48 #[.agg T.h.cells, .agg s.cells, .agg X.h.cells, .int .i64 2] w (ResOut (T.insL s.n.toNat X, 0) top w) := by
  have Hix := Lib.hid hix
  clear hix
  obtain ⟨f1, hf1⟩ : ∃ f, T.find s = (f, 0) := ⟨_, Prod.ext rfl h0⟩
  have HC := Lib.hid (fun (w1 : World) (hb : Below w.heap.size w w1) => within_any (Vt.In.below (hb.mono ht) hT) ((Vt.In.below (hb.mono ht) hX).up (Nat.le_trans ht hb.size)) (SS := (· < top)) hX.off (fun _ q => q) (fun b q => Nat.lt_of_lt_of_le q (Nat.le_trans ht hb.size)) (Nat.le_trans ht hb.size) ho hk6 hn0 hnl hln)
  obtain ⟨V, hV⟩ : ∃ V, T.insL s.n.toNat X = V := ⟨_, rfl⟩
  rw [hV] at HC ⊢
  clear hV
  have HE : Hid (∀ (Z : Vt) w', Z.In w' w'.heap.size → Z.Off (fun b => b < top ∨ w.heap.size ≤ b) → Z.Same V → Below w.heap.size w w' → ResOut (V, 0) top w (.returned (.tuple #[.agg Z.h.cells, .int .i64 0])) w') := Lib.hid fun Z w' h1 h3 h2 hb => res_of (X := Z) rfl h1 h3 (fun _ => h2) (fun h => absurd rfl h) hb
  have hb0 := ((((Below.refl w.heap.size w).alloc (Nat.le_refl _) (.cells T.h.cells 30)).alloc (by simp) (.cells s.cells 50)).alloc (by simp; omega) (.cells X.h.cells 30)).alloc (by simp; omega) (.cells Vh.zero.cells 30)
  have P := (((Whole.new w 30 T.h.cells).alloc (.cells s.cells 50)).alloc (.cells X.h.cells 30)).alloc (.cells Vh.zero.cells 30)
  have S3 := ((Whole.new (w.alloc (.cells T.h.cells 30)) 50 s.cells).alloc (.cells X.h.cells 30)).alloc (.cells Vh.zero.cells 30)
  rw [World.size_alloc] at S3
  have XB := (Whole.new ((w.alloc (.cells T.h.cells 30)).alloc (.cells s.cells 50)) 30 X.h.cells).alloc (.cells Vh.zero.cells 30)
  rw [World.size_alloc, World.size_alloc] at XB
  have Q := Whole.new (((w.alloc (.cells T.h.cells 30)).alloc (.cells s.cells 50)).alloc (.cells X.h.cells 30)) 30 Vh.zero.cells
  rw [World.size_alloc, World.size_alloc, World.size_alloc] at Q
  have HF := Lib.hid (fun (w1 : World) (hb : Below w.heap.size w w1) => rfind_any (T := T) (s := s) (Vt.In.below (hb.mono ht) hT) (Nat.le_trans ht hb.size) hs)
  rw [hf1] at HF
  clear hT hX ho h0 hf1 hk6 hn0 hln
  simp only [Vh.cells, Vh.zero, Stp.cells] at hb0 P S3 XB Q HF ⊢
  go_enter Tryd.func48, Tryd.ntmps48
  go_wp2_with fail
  refine (HF.out _ hb0).mono ?_; rintro _ w1 ⟨rfl, hb1⟩
  have g1 := below_then hb0 hb1
  have P1 := Whole.below P hb1 (Whole.lt P)
  have S31 := Whole.below S3 hb1 (Whole.lt S3)
  have XB1 := Whole.below XB hb1 (Whole.lt XB)
  have Q1 := Whole.below Q hb1 (Whole.lt Q)
  clear HF hb0 hb1 P S3 XB Q
  obtain ⟨c0, c1, c2, c3, c4, c5, c6, c7, c8, c9, c10, c11, c12⟩ := Whole.c13 (h := T.h) P1
  obtain ⟨s0, s1, s2⟩ := Whole.b3 (s := s) S31
  obtain ⟨x0, x1, x2, x3, x4, x5, x6, x7, x8, x9, x10, x11, x12⟩ := Whole.c13 (h := X.h) XB1
  rw [Hix.out] at s0
  clear Hix
  simp only [Vh.cells, Stp.cells] at HC
  go_wp2_with fail
  refine (HC.out _ g1).mono ?_; rintro _ w2 ⟨Z, rfl, hZ, hZo, hZs, hb2⟩
  have g2 := below_then g1 hb2
  have hw1 := g1.size
  have hQ1 := Q1.lt
  have Q2 := Q1.below hb2 Q1.lt
  have hone := Lib.hid (vh_all Z.h)
  have hZ2 := Lib.hid (hZ.stays hZo (W' := w2.setRow (w.heap.size + 3) Z.h.cells) (fun b hb => setRow_other _ _ _ _ (by omega)) (by rw [size_setRow]; exact Nat.le_refl _))
  have hZs2 := Lib.hid hZs
  have hZo2 : Hid (Z.Off (fun b => b < top ∨ w.heap.size ≤ b)) := Lib.hid (hZo.mono fun b hb => by omega)
  clear c0 c1 c2 c3 c4 c5 c6 c7 c8 c9 c10 c11 c12 s0 s1 s2 x0 x1 x2 x3 x4 x5 x6 x7 x8 x9 x10 x11 x12 HC hZ hZo hZs hb2 g1 P1 S31 XB1 Q1 hQ1
  go_wp2_with (refine wpList_store_row rfl 30 _ _ rfl (w.heap.size + 3) Z.h.cells rfl rfl 30 _ Q2 vh_row rfl hone.out ?_)
  exact bodyPost_ret (v := .tuple #[.agg Z.h.cells, .int .i64 0]) (ret_val2 (p := 8) (q := 9) rfl rfl (Q2.setRow Z.h.cells)) rfl (HE.out Z _ hZ2.out hZo2.out hZs2.out (below_setRow g2 (by omega) _))

set_option maxHeartbeats 8000000 in
set_option maxRecDepth 100000 in
theorem last2_w7 {T X : Vt} {s : Stp} {top : Nat} {w : World} (hT : T.In w top) (hX : X.In w top) (ht : top ≤ w.heap.size) (ho : T.h.own = true) (hs : w64 s.n) (h0 : (T.find s).2 = 7) (hix : s.ix = true) (hk6 : T.h.k = 6) (hn0 : 0 ≤ s.n) (hnl : s.n ≤ (T.h.ln : Int)) (hln : T.h.ln < 1048576) :
    Calls Tryd.prog 48 #[.agg T.h.cells, .agg s.cells, .agg X.h.cells, .int .i64 2] w (ResOut (T.insL s.n.toNat X, 0) top w) := by
  have Hix := Lib.hid hix
  clear hix
  obtain ⟨f1, hf1⟩ : ∃ f, T.find s = (f, 7) := ⟨_, Prod.ext rfl h0⟩
  have HC := Lib.hid (fun (w1 : World) (hb : Below w.heap.size w w1) => within_any (Vt.In.below (hb.mono ht) hT) ((Vt.In.below (hb.mono ht) hX).up (Nat.le_trans ht hb.size)) (SS := (· < top)) hX.off (fun _ q => q) (fun b q => Nat.lt_of_lt_of_le q (Nat.le_trans ht hb.size)) (Nat.le_trans ht hb.size) ho hk6 hn0 hnl hln)
  obtain ⟨V, hV⟩ : ∃ V, T.insL s.n.toNat X = V := ⟨_, rfl⟩
  rw [hV] at HC ⊢
  clear hV
  have HE : Hid (∀ (Z : Vt) w', Z.In w' w'.heap.size → Z.Off (fun b => b < top ∨ w.heap.size ≤ b) → Z.Same V → Below w.heap.size w w' → ResOut (V, 0) top w (.returned (.tuple #[.agg Z.h.cells, .int .i64 0])) w') := Lib.hid fun Z w' h1 h3 h2 hb => res_of (X := Z) rfl h1 h3 (fun _ => h2) (fun h => absurd rfl h) hb
  have hb0 := ((((Below.refl w.heap.size w).alloc (Nat.le_refl _) (.cells T.h.cells 30)).alloc (by simp) (.cells s.cells 50)).alloc (by simp; omega) (.cells X.h.cells 30)).alloc (by simp; omega) (.cells Vh.zero.cells 30)
  have P := (((Whole.new w 30 T.h.cells).alloc (.cells s.cells 50)).alloc (.cells X.h.cells 30)).alloc (.cells Vh.zero.cells 30)
  have S3 := ((Whole.new (w.alloc (.cells T.h.cells 30)) 50 s.cells).alloc (.cells X.h.cells 30)).alloc (.cells Vh.zero.cells 30)
  rw [World.size_alloc] at S3
  have XB := (Whole.new ((w.alloc (.cells T.h.cells 30)).alloc (.cells s.cells 50)) 30 X.h.cells).alloc (.cells Vh.zero.cells 30)
  rw [World.size_alloc, World.size_alloc] at XB
  have Q := Whole.new (((w.alloc (.cells T.h.cells 30)).alloc (.cells s.cells 50)).alloc (.cells X.h.cells 30)) 30 Vh.zero.cells
  rw [World.size_alloc, World.size_alloc, World.size_alloc] at Q
  have HF := Lib.hid (fun (w1 : World) (hb : Below w.heap.size w w1) => rfind_any (T := T) (s := s) (Vt.In.below (hb.mono ht) hT) (Nat.le_trans ht hb.size) hs)
  rw [hf1] at HF
  clear hT hX ho h0 hf1 hk6 hn0 hln
  simp only [Vh.cells, Vh.zero, Stp.cells] at hb0 P S3 XB Q HF ⊢
  go_enter Tryd.func48, Tryd.ntmps48
  go_wp2_with fail
  refine (HF.out _ hb0).mono ?_; rintro _ w1 ⟨rfl, hb1⟩
  have g1 := below_then hb0 hb1
  have P1 := Whole.below P hb1 (Whole.lt P)
  have S31 := Whole.below S3 hb1 (Whole.lt S3)
  have XB1 := Whole.below XB hb1 (Whole.lt XB)
  have Q1 := Whole.below Q hb1 (Whole.lt Q)
  clear HF hb0 hb1 P S3 XB Q
  obtain ⟨c0, c1, c2, c3, c4, c5, c6, c7, c8, c9, c10, c11, c12⟩ := Whole.c13 (h := T.h) P1
  obtain ⟨s0, s1, s2⟩ := Whole.b3 (s := s) S31
  obtain ⟨x0, x1, x2, x3, x4, x5, x6, x7, x8, x9, x10, x11, x12⟩ := Whole.c13 (h := X.h) XB1
  rw [Hix.out] at s0
  clear Hix
  simp only [Vh.cells, Stp.cells] at HC
  go_wp2_with fail
  refine (HC.out _ g1).mono ?_; rintro _ w2 ⟨Z, rfl, hZ, hZo, hZs, hb2⟩
  have g2 := below_then g1 hb2
  have hw1 := g1.size
  have hQ1 := Q1.lt
  have Q2 := Q1.below hb2 Q1.lt
  have hone := Lib.hid (vh_all Z.h)
  have hZ2 := Lib.hid (hZ.stays hZo (W' := w2.setRow (w.heap.size + 3) Z.h.cells) (fun b hb => setRow_other _ _ _ _ (by omega)) (by rw [size_setRow]; exact Nat.le_refl _))
  have hZs2 := Lib.hid hZs
  have hZo2 : Hid (Z.Off (fun b => b < top ∨ w.heap.size ≤ b)) := Lib.hid (hZo.mono fun b hb => by omega)
  clear c0 c1 c2 c3 c4 c5 c6 c7 c8 c9 c10 c11 c12 s0 s1 s2 x0 x1 x2 x3 x4 x5 x6 x7 x8 x9 x10 x11 x12 HC hZ hZo hZs hb2 g1 P1 S31 XB1 Q1 hQ1
  go_wp2_with (refine wpList_store_row rfl 30 _ _ rfl (w.heap.size + 3) Z.h.cells rfl rfl 30 _ Q2 vh_row rfl hone.out ?_)
  exact bodyPost_ret (v := .tuple #[.agg Z.h.cells, .int .i64 0]) (ret_val2 (p := 8) (q := 9) rfl rfl (Q2.setRow Z.h.cells)) rfl (HE.out Z _ hZ2.out hZo2.out hZs2.out (below_setRow g2 (by omega) _))

set_option maxHeartbeats 8000000 in
set_option maxRecDepth 100000 in
theorem last2_o {T X : Vt} {s : Stp} {top : Nat} {w : World} (hT : T.In w top) (hX : X.In w top) (ht : top ≤ w.heap.size) (ho : T.h.own = true) (hs : w64 s.n) (h0 : (T.find s).2 = 7) (hix : s.ix = true) (hnl : ¬ s.n ≤ (T.h.ln : Int)) :
    Calls Tryd.prog 48 #[.agg T.h.cells, .agg s.cells, .agg X.h.cells, .int .i64 2] w (ResOut (.z, 7) top w) := by
  have Hix := Lib.hid hix
  clear hix
  obtain ⟨f1, hf1⟩ : ∃ f, T.find s = (f, 7) := ⟨_, Prod.ext rfl h0⟩
  have HE : Hid (∀ w', Below w.heap.size w w' → ResOut ((.z, 7) : Vt × Int) top w (.returned (.tuple #[.agg Vh.zero.cells, .int .i64 7])) w') := Lib.hid fun w' hb => res_of (X := .z) rfl (Vt.z_in _ _) (Vt.z_off _) (fun h => absurd h (by decide)) (fun _ => rfl) hb
  have hb0 := ((((Below.refl w.heap.size w).alloc (Nat.le_refl _) (.cells T.h.cells 30)).alloc (by simp) (.cells s.cells 50)).alloc (by simp; omega) (.cells X.h.cells 30)).alloc (by simp; omega) (.cells Vh.zero.cells 30)
  have P := (((Whole.new w 30 T.h.cells).alloc (.cells s.cells 50)).alloc (.cells X.h.cells 30)).alloc (.cells Vh.zero.cells 30)
  have S3 := ((Whole.new (w.alloc (.cells T.h.cells 30)) 50 s.cells).alloc (.cells X.h.cells 30)).alloc (.cells Vh.zero.cells 30)
  rw [World.size_alloc] at S3
  have XB := (Whole.new ((w.alloc (.cells T.h.cells 30)).alloc (.cells s.cells 50)) 30 X.h.cells).alloc (.cells Vh.zero.cells 30)
  rw [World.size_alloc, World.size_alloc] at XB
  have Q := Whole.new (((w.alloc (.cells T.h.cells 30)).alloc (.cells s.cells 50)).alloc (.cells X.h.cells 30)) 30 Vh.zero.cells
  rw [World.size_alloc, World.size_alloc, World.size_alloc] at Q
  have HF := Lib.hid (fun (w1 : World) (hb : Below w.heap.size w w1) => rfind_any (T := T) (s := s) (Vt.In.below (hb.mono ht) hT) (Nat.le_trans ht hb.size) hs)
  rw [hf1] at HF
  clear hT hX ho h0 hf1
  simp only [Vh.cells, Vh.zero, Stp.cells] at hb0 P S3 XB Q HF ⊢
  go_enter Tryd.func48, Tryd.ntmps48
  go_wp2_with fail
  refine (HF.out _ hb0).mono ?_; rintro _ w1 ⟨rfl, hb1⟩
  have g1 := below_then hb0 hb1
  have P1 := Whole.below P hb1 (Whole.lt P)
  have S31 := Whole.below S3 hb1 (Whole.lt S3)
  have XB1 := Whole.below XB hb1 (Whole.lt XB)
  have Q1 := Whole.below Q hb1 (Whole.lt Q)
  clear HF hb0 hb1 P S3 XB Q
  obtain ⟨s0, s1, s2⟩ := Whole.b3 (s := s) S31
  rw [Hix.out] at s0
  clear Hix
  have c11 := Whole.cell P1 11
  simp only [List.getElem?_toArray, List.getElem?_cons_succ, List.getElem?_cons_zero] at c11
  have hd : decide (s.n ≤ (T.h.ln : Int)) = false := decide_eq_false (by omega)
  have hone := Lib.hid (vh_all Vh.zero)
  go_wp2_with (refine wpList_store_row rfl 30 _ _ rfl (w.heap.size + 3) Vh.zero.cells rfl rfl 30 _ Q1 vh_row rfl hone.out ?_)
  exact bodyPost_ret (v := .tuple #[.agg Vh.zero.cells, .int .i64 7]) (ret_val2 (p := 8) (q := 9) rfl rfl (Whole.setRow Q1 Vh.zero.cells)) rfl (HE.out _ (below_setRow g1 (by omega) _))

set_option maxHeartbeats 8000000 in
set_option maxRecDepth 100000 in
theorem last2_e {T X : Vt} {s : Stp} {top : Nat} {w : World} (hT : T.In w top) (hX : X.In w top) (ht : top ≤ w.heap.size) (ho : T.h.own = true) (hs : w64 s.n) (h0 : (T.find s).2 = 0) (hix : s.ix = false) :
    Calls Tryd.prog 48 #[.agg T.h.cells, .agg s.cells, .agg X.h.cells, .int .i64 2] w (ResOut (.z, 8) top w) := by
  have Hix := Lib.hid hix
  clear hix
  obtain ⟨f1, hf1⟩ : ∃ f, T.find s = (f, 0) := ⟨_, Prod.ext rfl h0⟩
  have HE : Hid (∀ w', Below w.heap.size w w' → ResOut ((.z, 8) : Vt × Int) top w (.returned (.tuple #[.agg Vh.zero.cells, .int .i64 8])) w') := Lib.hid fun w' hb => res_of (X := .z) rfl (Vt.z_in _ _) (Vt.z_off _) (fun h => absurd h (by decide)) (fun _ => rfl) hb
  have hb0 := ((((Below.refl w.heap.size w).alloc (Nat.le_refl _) (.cells T.h.cells 30)).alloc (by simp) (.cells s.cells 50)).alloc (by simp; omega) (.cells X.h.cells 30)).alloc (by simp; omega) (.cells Vh.zero.cells 30)
  have P := (((Whole.new w 30 T.h.cells).alloc (.cells s.cells 50)).alloc (.cells X.h.cells 30)).alloc (.cells Vh.zero.cells 30)
  have S3 := ((Whole.new (w.alloc (.cells T.h.cells 30)) 50 s.cells).alloc (.cells X.h.cells 30)).alloc (.cells Vh.zero.cells 30)
  rw [World.size_alloc] at S3
  have XB := (Whole.new ((w.alloc (.cells T.h.cells 30)).alloc (.cells s.cells 50)) 30 X.h.cells).alloc (.cells Vh.zero.cells 30)
  rw [World.size_alloc, World.size_alloc] at XB
  have Q := Whole.new (((w.alloc (.cells T.h.cells 30)).alloc (.cells s.cells 50)).alloc (.cells X.h.cells 30)) 30 Vh.zero.cells
  rw [World.size_alloc, World.size_alloc, World.size_alloc] at Q
  have HF := Lib.hid (fun (w1 : World) (hb : Below w.heap.size w w1) => rfind_any (T := T) (s := s) (Vt.In.below (hb.mono ht) hT) (Nat.le_trans ht hb.size) hs)
  rw [hf1] at HF
  clear hT hX ho h0 hf1
  simp only [Vh.cells, Vh.zero, Stp.cells] at hb0 P S3 XB Q HF ⊢
  go_enter Tryd.func48, Tryd.ntmps48
  go_wp2_with fail
  refine (HF.out _ hb0).mono ?_; rintro _ w1 ⟨rfl, hb1⟩
  have g1 := below_then hb0 hb1
  have P1 := Whole.below P hb1 (Whole.lt P)
  have S31 := Whole.below S3 hb1 (Whole.lt S3)
  have XB1 := Whole.below XB hb1 (Whole.lt XB)
  have Q1 := Whole.below Q hb1 (Whole.lt Q)
  clear HF hb0 hb1 P S3 XB Q
  obtain ⟨s0, s1, s2⟩ := Whole.b3 (s := s) S31
  rw [Hix.out] at s0
  clear Hix
  have hone := Lib.hid (vh_all Vh.zero)
  go_wp2_with (refine wpList_store_row rfl 30 _ _ rfl (w.heap.size + 3) Vh.zero.cells rfl rfl 30 _ Q1 vh_row rfl hone.out ?_)
  exact bodyPost_ret (v := .tuple #[.agg Vh.zero.cells, .int .i64 8]) (ret_val2 (p := 8) (q := 9) rfl rfl (Whole.setRow Q1 Vh.zero.cells)) rfl (HE.out _ (below_setRow g1 (by omega) _))

set_option maxHeartbeats 8000000 in
set_option maxRecDepth 100000 in
theorem last2_m {T X : Vt} {s : Stp} {top : Nat} {w : World} (hT : T.In w top) (hX : X.In w top) (ht : top ≤ w.heap.size) (ho : T.h.own = true) (hs : w64 s.n) (h0 : (T.find s).2 = 7) (hix : s.ix = false) (hk7 : T.h.k = 7) (hkey : s.key.size ≤ 1048576) (hfn : T.h.fn < 1048576) :
    Calls Tryd.prog 48 #[.agg T.h.cells, .agg s.cells, .agg X.h.cells, .int .i64 2] w (ResOut (T.moreF s.key X, 0) top w) := by
  have Hix := Lib.hid hix
  clear hix
  obtain ⟨f1, hf1⟩ : ∃ f, T.find s = (f, 7) := ⟨_, Prod.ext rfl h0⟩
  have HC := Lib.hid (fun (w1 : World) (hb : Below w.heap.size w w1) => mored_any (Vt.In.below (hb.mono ht) hT) ((Vt.In.below (hb.mono ht) hX).up (Nat.le_trans ht hb.size)) (SS := (· < top)) hX.off (fun _ q => q) (fun b q => Nat.lt_of_lt_of_le q (Nat.le_trans ht hb.size)) (Nat.le_trans ht hb.size) ho hk7 hkey hfn)
  obtain ⟨V, hV⟩ : ∃ V, T.moreF s.key X = V := ⟨_, rfl⟩
  rw [hV] at HC ⊢
  clear hV
  have HE : Hid (∀ (Z : Vt) w', Z.In w' w'.heap.size → Z.Off (fun b => b < top ∨ w.heap.size ≤ b) → Z.Same V → Below w.heap.size w w' → ResOut (V, 0) top w (.returned (.tuple #[.agg Z.h.cells, .int .i64 0])) w') := Lib.hid fun Z w' h1 h3 h2 hb => res_of (X := Z) rfl h1 h3 (fun _ => h2) (fun h => absurd rfl h) hb
  have hb0 := ((((Below.refl w.heap.size w).alloc (Nat.le_refl _) (.cells T.h.cells 30)).alloc (by simp) (.cells s.cells 50)).alloc (by simp; omega) (.cells X.h.cells 30)).alloc (by simp; omega) (.cells Vh.zero.cells 30)
  have P := (((Whole.new w 30 T.h.cells).alloc (.cells s.cells 50)).alloc (.cells X.h.cells 30)).alloc (.cells Vh.zero.cells 30)
  have S3 := ((Whole.new (w.alloc (.cells T.h.cells 30)) 50 s.cells).alloc (.cells X.h.cells 30)).alloc (.cells Vh.zero.cells 30)
  rw [World.size_alloc] at S3
  have XB := (Whole.new ((w.alloc (.cells T.h.cells 30)).alloc (.cells s.cells 50)) 30 X.h.cells).alloc (.cells Vh.zero.cells 30)
  rw [World.size_alloc, World.size_alloc] at XB
  have Q := Whole.new (((w.alloc (.cells T.h.cells 30)).alloc (.cells s.cells 50)).alloc (.cells X.h.cells 30)) 30 Vh.zero.cells
  rw [World.size_alloc, World.size_alloc, World.size_alloc] at Q
  have HF := Lib.hid (fun (w1 : World) (hb : Below w.heap.size w w1) => rfind_any (T := T) (s := s) (Vt.In.below (hb.mono ht) hT) (Nat.le_trans ht hb.size) hs)
  rw [hf1] at HF
  clear hT hX ho h0 hf1 hk7 hkey hfn
  simp only [Vh.cells, Vh.zero, Stp.cells] at hb0 P S3 XB Q HF ⊢
  go_enter Tryd.func48, Tryd.ntmps48
  go_wp2_with fail
  refine (HF.out _ hb0).mono ?_; rintro _ w1 ⟨rfl, hb1⟩
  have g1 := below_then hb0 hb1
  have P1 := Whole.below P hb1 (Whole.lt P)
  have S31 := Whole.below S3 hb1 (Whole.lt S3)
  have XB1 := Whole.below XB hb1 (Whole.lt XB)
  have Q1 := Whole.below Q hb1 (Whole.lt Q)
  clear HF hb0 hb1 P S3 XB Q
  obtain ⟨c0, c1, c2, c3, c4, c5, c6, c7, c8, c9, c10, c11, c12⟩ := Whole.c13 (h := T.h) P1
  obtain ⟨s0, s1, s2⟩ := Whole.b3 (s := s) S31
  obtain ⟨x0, x1, x2, x3, x4, x5, x6, x7, x8, x9, x10, x11, x12⟩ := Whole.c13 (h := X.h) XB1
  rw [Hix.out] at s0
  clear Hix
  simp only [Vh.cells, Stp.cells] at HC
  go_wp2_with fail
  refine (HC.out _ g1).mono ?_; rintro _ w2 ⟨Z, rfl, hZ, hZo, hZs, hb2⟩
  have g2 := below_then g1 hb2
  have hw1 := g1.size
  have hQ1 := Q1.lt
  have Q2 := Q1.below hb2 Q1.lt
  have hone := Lib.hid (vh_all Z.h)
  have hZ2 := Lib.hid (hZ.stays hZo (W' := w2.setRow (w.heap.size + 3) Z.h.cells) (fun b hb => setRow_other _ _ _ _ (by omega)) (by rw [size_setRow]; exact Nat.le_refl _))
  have hZs2 := Lib.hid hZs
  have hZo2 : Hid (Z.Off (fun b => b < top ∨ w.heap.size ≤ b)) := Lib.hid (hZo.mono fun b hb => by omega)
  clear c0 c1 c2 c3 c4 c5 c6 c7 c8 c9 c10 c11 c12 s0 s1 s2 x0 x1 x2 x3 x4 x5 x6 x7 x8 x9 x10 x11 x12 HC hZ hZo hZs hb2 g1 P1 S31 XB1 Q1 hQ1
  go_wp2_with (refine wpList_store_row rfl 30 _ _ rfl (w.heap.size + 3) Z.h.cells rfl rfl 30 _ Q2 vh_row rfl hone.out ?_)
  exact bodyPost_ret (v := .tuple #[.agg Z.h.cells, .int .i64 0]) (ret_val2 (p := 8) (q := 9) rfl rfl (Q2.setRow Z.h.cells)) rfl (HE.out Z _ hZ2.out hZo2.out hZs2.out (below_setRow g2 (by omega) _))

theorem last2_any {T X : Vt} {s : Stp} {top : Nat} {w : World} (hT : T.In w top) (hX : X.In w top) (ht : top ≤ w.heap.size) (ho : T.h.own = true) (hs : w64 s.n) (hsz : T.size ≤ 65536) (hso : stepOk s) :
    Calls Tryd.prog 48 #[.agg T.h.cells, .agg s.cells, .agg X.h.cells, .int .i64 2] w (ResOut (Vt.last2 X T s) top w) := by
  unfold Vt.last2
  by_cases h6 : (T.find s).2 = 6
  · rw [if_pos h6]; exact last2_6 hT hX ht ho hs h6
  · rw [if_neg h6]
    cases hix : s.ix with
    | true =>
      rw [if_pos rfl]
      have hk6 : T.h.k = 6 := Classical.byContradiction fun q => h6 (by rw [find_k6 hix q])
      have hn0 : 0 ≤ s.n := by unfold stepOk at hso; rw [if_pos hix] at hso; exact hso.2.1
      have hln : T.h.ln < 1048576 := by have := Vt.ln_le_size (T := T) (by rw [hk6]; decide); omega
      by_cases hnl : s.n ≤ (T.h.ln : Int)
      · rw [if_pos hnl]
        rcases find_rng T s with h | h | h
        · exact last2_w0 hT hX ht ho hs h hix hk6 hn0 hnl hln
        · exact absurd h h6
        · exact last2_w7 hT hX ht ho hs h hix hk6 hn0 hnl hln
      · rw [if_neg hnl]
        exact last2_o hT hX ht ho hs (by rw [find_out hix hk6 (.inr (by omega))]) hix hnl
    | false =>
      rw [if_neg (by decide)]
      by_cases h0 : (T.find s).2 = 0
      · rw [if_pos h0]; exact last2_e hT hX ht ho hs h0 hix
      · rw [if_neg h0]
        have h : (T.find s).2 = 7 := by rcases find_rng T s with h | h | h <;> omega
        have h7 := find_7 h
        rw [hix, if_neg (by decide)] at h7
        have hk : s.key.size ≤ 1024 := by unfold stepOk at hso; rw [hix, if_neg (by decide)] at hso; exact hso.2.1
        exact last2_m hT hX ht ho hs h hix h7 (by omega) (by have := Vt.fn_le_size h7; omega)
end Go.Proofs.YtfkfboiblgoamaaDoor
/- What Insert answers, and how a list with one more element lies: plain. -/
namespace Go.Proofs.YtfkfboiblgoamaaDoor
open Go.ChangeShapes Go.WideShapes Go.Joins Go.Deep Go.RowKit

/-- What Insert answers. -/
noncomputable def Vt.insV (T : Vt) (S : Nat → Stp) (n : Nat) (X : Vt) : Vt × Int :=
  if pathB S n = true ∧ n ≠ 0 then chkR (Vt.chgV (Vt.last2 X) n S T) else (.z, 1)
theorem insV_bad {T X : Vt} {S : Nat → Stp} {n : Nat} (h : pathB S n = false ∨ n = 0) : T.insV S n X = (.z, 1) := by
  unfold Vt.insV
  rw [if_neg]
  rintro ⟨a, b⟩
  rcases h with h | h
  · rw [h] at a; cases a
  · exact b h
theorem insV_suc {T X : Vt} {S : Nat → Stp} {m : Nat} (h : pathB S (m + 1) = true) : T.insV S (m + 1) X = chkR (Vt.chgV (Vt.last2 X) (m + 1) S T) := by
  unfold Vt.insV
  rw [if_pos ⟨h, by omega⟩]
theorem ins_more {T X : Vt} {S : Nat → Stp} {m : Nat} (hk : (T.atN S m).2 = 0) (hf : ((T.atN S m).1.find (S m)).2 = 7) (hix : (S m).ix = false) : Vt.chgV (Vt.last2 X) (m + 1) S T = (Vt.chg (fun U => U.moreF (S m).key X) m S T, 0) :=
  Vt.chgV_chg (g := Vt.last2 X) (f := fun U => U.moreF (S m).key X) hk (by unfold Vt.last2; rw [if_neg (by rw [hf]; decide), if_neg (by rw [hix]; decide), if_neg (by rw [hf]; decide)])
theorem ins_list {T X : Vt} {S : Nat → Stp} {m : Nat} (hk : (T.atN S m).2 = 0) (hf : ((T.atN S m).1.find (S m)).2 ≠ 6) (hix : (S m).ix = true) (hn : (S m).n ≤ ((T.atN S m).1.h.ln : Int)) : Vt.chgV (Vt.last2 X) (m + 1) S T = (Vt.chg (fun U => U.insL (S m).n.toNat X) m S T, 0) :=
  Vt.chgV_chg (g := Vt.last2 X) (f := fun U => U.insL (S m).n.toNat X) hk (by unfold Vt.last2; rw [if_neg hf, if_pos hix, if_pos hn])
theorem ins_err {T X : Vt} {S : Nat → Stp} {m : Nat} {E : Int} (hk : (T.atN S m).2 = 0) (h : Vt.last2 X (T.atN S m).1 (S m) = (.z, E)) (hE : E ≠ 0) : Vt.chgV (Vt.last2 X) (m + 1) S T = (.z, E) := by
  have := Vt.chgV_err (g := Vt.last2 X) hk (by rw [h]; exact hE) (by rw [h])
  rw [this, h]
theorem fits_6 {T : Vt} {s : Stp} : T.fits s = false ↔ (T.find s).2 = 6 := by
  unfold Vt.fits Vt.find
  cases s.ix with
  | true =>
    rw [if_pos rfl, if_pos rfl]
    by_cases h : T.h.k = 6
    · rw [if_neg (fun q => q h), h]
      constructor
      · intro q; simp at q
      · intro q; split at q <;> cases q
    · rw [if_pos h]
      exact ⟨fun _ => rfl, fun _ => beq_eq_false_iff_ne.2 h⟩
  | false =>
    rw [if_neg (by decide), if_neg (by decide)]
    by_cases h : T.h.k = 7
    · rw [if_neg (fun q => q h), h]
      constructor
      · intro q; simp at q
      · intro q; split at q <;> cases q
    · rw [if_pos h]
      exact ⟨fun _ => rfl, fun _ => beq_eq_false_iff_ne.2 h⟩
/-- A key that is there, or is not. -/
theorem idxZ_find {T : Vt} {s : Stp} (hix : s.ix = false) (h6 : (T.find s).2 ≠ 6) : ((T.find s).2 = 0 ∧ ∃ i : Nat, idxZ T.K s.key T.h.fn = i) ∨ ((T.find s).2 = 7 ∧ idxZ T.K s.key T.h.fn = -1) := by
  unfold Vt.find at h6 ⊢
  rw [if_neg (by rw [hix]; decide)] at h6 ⊢
  by_cases hk : T.h.k = 7
  · rw [if_neg (fun q => q hk)] at h6 ⊢
    unfold idxZ
    by_cases hf : fidx T.K s.key T.h.fn < T.h.fn
    · rw [if_pos hf, if_pos hf]; exact .inl ⟨rfl, _, rfl⟩
    · rw [if_neg hf, if_neg hf]; exact .inr ⟨rfl, rfl⟩
  · rw [if_pos hk] at h6; exact absurd rfl h6

section
variable {ty el : TypeId} {C : Nat} (hu : Tryd.prog.underlying ty = some (.slice el)) (he : Tryd.prog.elem ty = el) (hs : (Tryd.prog.info? el).map (·.size) = some C)
include hu he hs
/-- The first elements of a slice, wherever it lies. -/
theorem slice_headG {a : Option Addr} {b o n c i : Nat} (hi : i ≤ c) : ∃ a1 : Option Addr, (a = some ⟨b, o, none⟩ → a1 = some ⟨b, o, none⟩) ∧
    ∀ W, (Instr.sliceAt ty (.slice a n c) none (some (.int .i64 i)) none).run Tryd.prog W = .ok (.slice a1 i c) W := by
  have hu' : Tryd.prog.underlying ty = some (.slice (Tryd.prog.elem ty)) := by rw [he]; exact hu
  refine ⟨if c = 0 then a else a.map (·.add (0 * C)), fun q => ?_, fun W => ?_⟩
  · rw [q]; split <;> simp [Addr.add]
  rw [run_sliceAt_slice _ _ _ _ _ _ hu', run_slice_h _ _ _ _ _ hu' .i64 i (by omega) (by omega), he]
  cases hq : Tryd.prog.info? el with
  | none => rw [hq] at hs; cases hs
  | some t =>
    have hi : t.size = C := by rw [hq] at hs; simpa using hs
    simp [sizeOf, typeInfo, hq, hi, sliced, Result.andThen]
/-- The last elements of a slice, wherever it lies. -/
theorem slice_fromG {a : Option Addr} {b o n c i : Nat} {z : Int} (hz : z = i) (hi : i ≤ n) : ∃ a1 : Option Addr, (i < c → a = some ⟨b, o, none⟩ → a1 = some ⟨b, o + i * C, none⟩) ∧
    ∀ W, (Instr.sliceAt ty (.slice a n c) (some (.int .i64 z)) none none).run Tryd.prog W = .ok (.slice a1 (n - i) (c - i)) W := by
  subst hz
  have hu' : Tryd.prog.underlying ty = some (.slice (Tryd.prog.elem ty)) := by rw [he]; exact hu
  refine ⟨if c = i then a else a.map (·.add (i * C)), fun h2 h3 => by rw [if_neg (by omega), h3]; show some ((⟨b, o, none⟩ : Addr).add (i * C)) = _; rw [add_plain], fun W => ?_⟩
  rw [run_sliceAt_slice _ _ _ _ _ _ hu', run_slice_l _ _ _ _ _ hu' .i64 i (by omega) (by omega), he]
  cases hq : Tryd.prog.info? el with
  | none => rw [hq] at hs; cases hs
  | some t =>
    have hi : t.size = C := by rw [hq] at hs; simpa using hs
    simp [sizeOf, typeInfo, hq, hi, sliced, Result.andThen]
end
/-- A row copied in two pieces, with something in between. -/
theorem row_three {g n i C : Nat} {t : TypeId} {f : Nat → Array Value} {x : Array Value} {cur : Array Value} (hf : ∀ j, (f j).size = C) (hx : x.size = C) (hi : i ≤ n) (hs : cur.size = (n + 1) * C) :
    0 + (catN f i).length ≤ cur.size ∧ (spl cur 0 (catN f i)).size = (n + 1) * C ∧ i * C + x.toList.length ≤ (spl cur 0 (catN f i)).size ∧ (setN (spl cur 0 (catN f i)) (i * C) x.toList).size = (n + 1) * C ∧
      ∀ W', Whole W' g t (setN (spl cur 0 (catN f i)) (i * C) x.toList) → ∀ j, j < n + 1 →
        LiesAt (W'.setRow g (spl (setN (spl cur 0 (catN f i)) (i * C) x.toList) ((i + 1) * C) (catN (fun j => f (i + j)) (n - i)))) g (j * C) (if j < i then f j else if j = i then x else f (j - 1)) := by
  have hl1 := catN_len hf i
  have hl2 := catN_len (fun j => hf (i + j)) (n - i)
  have hsum : (i + 1) * C + (n - i) * C = (n + 1) * C := by rw [← Nat.add_mul]; congr 1; omega
  have hsum2 : (i + 1) * C = i * C + C := Nat.succ_mul i C
  have hfit1 : 0 + (catN f i).length ≤ cur.size := by omega
  have hsz1 : (spl cur 0 (catN f i)).size = (n + 1) * C := (spl_size hfit1).trans hs
  have hxl : x.toList.length = C := by simpa using hx
  have hfit2 : i * C + x.toList.length ≤ (spl cur 0 (catN f i)).size := by omega
  have hsz2 : (setN (spl cur 0 (catN f i)) (i * C) x.toList).size = (n + 1) * C := (setN_size _ _ _).trans hsz1
  have hfit3 : (i + 1) * C + (catN (fun j => f (i + j)) (n - i)).length ≤ (setN (spl cur 0 (catN f i)) (i * C) x.toList).size := by omega
  refine ⟨hfit1, hsz1, hfit2, hsz2, fun W' hW' j hj k hk => ?_⟩
  have hk' : k < C := by
    have e : (if j < i then f j else if j = i then x else f (j - 1)).size = C := by
      split
      · exact hf _
      split
      · exact hx
      · exact hf _
    omega
  rw [(hW'.setRow _).cell]
  rcases Nat.lt_trichotomy j i with q | q | q
  · have hlt : j * C + k < i * C := by
      have : (j + 1) * C ≤ i * C := Nat.mul_le_mul_right C q
      rw [Nat.succ_mul] at this
      omega
    rw [spl_before hfit3 (by omega), setN_out _ _ _ _ (.inl hlt), if_pos q]
    have := spl_in hfit1 (j := j * C + k) (by omega)
    rw [Nat.zero_add] at this
    rw [this]
    exact catN_get hf hk' q
  · subst q
    rw [spl_before hfit3 (by omega), if_neg (Nat.lt_irrefl _), if_pos rfl]
    have := setN_in x.toList (spl cur 0 (catN f j)) (j * C) k hfit2 (by omega)
    rw [this]
    simp
  · rw [if_neg (by omega), if_neg (by omega)]
    have h1 : j * C = (i + 1) * C + (j - (i + 1)) * C := by rw [← Nat.add_mul]; congr 1; omega
    have hlt : (j - (i + 1)) * C + k < (catN (fun j => f (i + j)) (n - i)).length := by
      have : (j - (i + 1) + 1) * C ≤ (n - i) * C := Nat.mul_le_mul_right C (by omega)
      rw [Nat.succ_mul] at this
      omega
    rw [show j * C + k = (i + 1) * C + ((j - (i + 1)) * C + k) by omega, spl_in hfit3 hlt, catN_get (fun j => hf (i + j)) hk' (by omega)]
    rw [show i + (j - (i + 1)) = j - 1 by omega]
/-- The end of an insertion of an element. -/
theorem insL_end {h : Vh} {Y : Nat → Int} {L : Nat → Vt} {K : Nat → ByteArray} {F : Nat → Vt} {X : Vt} {w W : World} {n0 gg i : Nat} (hT : (Vt.mk h Y L K F).In w n0) (hX : X.In w n0) (hi : i ≤ h.ln) (hln : h.ln < 1048576) (hb : Below w.heap.size w W) (hn0 : n0 ≤ w.heap.size) (hgg : w.heap.size ≤ gg) (hglt : gg < W.heap.size)
    (hrow : ∀ j, j < h.ln + 1 → LiesAt W gg (j * 13) (if j < i then (L j).h.cells else if j = i then X.h.cells else (L (j - 1)).h.cells)) :
    FnOut ((Vt.mk h Y L K F).insL i X) n0 w (.returned (.agg #[.int .i64 h.k, .bool h.b, .bool h.n, .string h.d, .int .i64 h.e, .int .i64 h.tk, .int .i64 h.td, .int .i64 h.tn, .int .i64 h.tz, .string h.x, .slice h.ba h.bn h.bc, .slice (some ⟨gg, 0, none⟩) (h.ln + 1) (h.ln + 1), .slice h.fa h.fn h.fc])) W := by
  have hok := hT.1
  have hTW := hT.below (hb.mono hn0)
  have hXW := Vt.In.below (hb.mono hn0) hX
  have hz := hb.size
  have hlc := hok.lc
  obtain ⟨h1, h2⟩ := list_anew (S := fun b => b < n0 ∨ w.heap.size ≤ b) (M := fun j => if j < i then L j else if j = i then X else L (j - 1)) (c' := h.ln + 1) hT (hb.mono hn0) (by omega) hglt (.inr hgg) (fun b hb => .inl hb) (m := h.ln + 1) (by omega) ⟨Nat.le_refl _, by unfold maxLen; omega⟩
    (fun j hj => by
      have := hrow j hj
      rcases Nat.lt_trichotomy j i with q | q | q
      · rw [if_pos q] at this ⊢; exact this
      · rw [if_neg (by omega), if_pos q] at this ⊢; exact this
      · rw [if_neg (by omega), if_neg (by omega)] at this ⊢; exact this)
    (fun j hj => by
      rcases Nat.lt_trichotomy j i with q | q | q
      · rw [if_pos q]; have hl := (hTW.2.2.2.2.1 j (by omega)).2; exact ⟨hl.up (by omega), hl.off.mono fun b hb => .inl hb⟩
      · rw [if_neg (by omega), if_pos q]; exact ⟨hXW.up (by omega), hXW.off.mono fun b hb => .inl hb⟩
      · rw [if_neg (by omega), if_neg (by omega)]; have hl := (hTW.2.2.2.2.1 (j - 1) (by omega)).2; exact ⟨hl.up (by omega), hl.off.mono fun b hb => .inl hb⟩)
  refine ⟨_, rfl, h1, h2, ?_, hb⟩
  refine ⟨(fun e => by cases e), ⟨rfl, rfl, rfl, rfl, rfl, rfl, rfl, rfl, rfl, rfl, rfl, rfl, rfl⟩, fun _ _ => rfl, fun j hj => ?_, fun j hj => ⟨rfl, Vt.Same.rfl' (hT.whole.2 j hj)⟩⟩
  have hj' : j < h.ln + 1 := hj
  show Vt.Same (if j < i then L j else if j = i then X else L (j - 1)) (if j < i then L j else if j = i then X else L (j - 1))
  rcases Nat.lt_trichotomy j i with q | q | q
  · rw [if_pos q]; exact Vt.Same.rfl' (hT.whole.1 j (by omega))
  · rw [if_neg (by omega), if_pos q]; exact Vt.Same.rfl' hX.whole
  · rw [if_neg (by omega), if_neg (by omega)]; exact Vt.Same.rfl' (hT.whole.1 (j - 1) (by omega))
end Go.Proofs.YtfkfboiblgoamaaDoor
/- Values inserted: access.Insert$1. -/
namespace Go.Proofs.YtfkfboiblgoamaaDoor
open Go.RowKit
set_option linter.unusedSimpArgs false
set_option linter.unusedVariables false

set_option maxHeartbeats 1000000 in
set_option maxRecDepth 100000 in
theorem ins1_ok {s : Stp} {X : Vt} {cb xb : Nat} {W0 : World} {n0 : Nat} (hcb : cb < n0) (hS : LiesAt W0 cb 0 s.cells) (hxb : xb < n0) (hX : Whole W0 xb 30 X.h.cells) (hXT : X.In W0 n0) (hkey : s.key.size ≤ 1048576) (hn0 : n0 ≤ W0.heap.size) :
    FnOk 35 #[.pointer (some ⟨cb, 0, none⟩), .pointer (some ⟨xb, 0, none⟩)] (fun U => U.moreF s.key X) (fun U => U.h.fn + 1 ≤ 1048576) W0 n0 := by
  intro w U hw hU hfn
  have hsw := hw.size
  have hn0w := Nat.le_trans hn0 hsw
  have hb0 := ((Below.refl w.heap.size w).alloc (Nat.le_refl _) (.cells U.h.cells 30)).alloc (by simp) (.cells Vh.zero.cells 30)
  have P := (Whole.new w 30 U.h.cells).alloc (.cells Vh.zero.cells 30)
  have Q := Whole.new (w.alloc (.cells U.h.cells 30)) 30 Vh.zero.cells
  rw [World.size_alloc] at Q
  have PX := ((hX.below hw hxb).alloc (.cells U.h.cells 30)).alloc (.cells Vh.zero.cells 30)
  obtain ⟨l0, l1, l2⟩ := ((hS.below hw hcb).below (hb0.mono hn0w) hcb).s3
  simp only [Nat.zero_add] at l0 l1 l2
  have HA := Lib.hid (added_any (Vt.In.below (hb0.mono hn0w) hU) (Vt.In.below (hw.trans (hb0.mono hn0w)) hXT) (Nat.le_trans hn0w hb0.size) hkey hfn)
  obtain ⟨c0, c1, c2, c3, c4, c5, c6, c7, c8, c9, c10, c11, c12⟩ := Whole.c13 (h := U.h) P
  obtain ⟨d0, d1, d2, d3, d4, d5, d6, d7, d8, d9, d10, d11, d12⟩ := Whole.c13 (h := X.h) PX
  clear hX hXT hU P PX hw hS
  simp only [Vh.cells, Vh.zero] at hb0 Q c0 c1 c2 c3 c4 c5 c6 c7 c8 c9 c10 c11 c12 d0 d1 d2 d3 d4 d5 d6 d7 d8 d9 d10 d11 d12 l1 HA ⊢
  go_enter Tryd.func35, Tryd.ntmps35
  go_wp2_with fail
  refine HA.out.mono ?_; rintro _ w1 ⟨Z, rfl, hZ, hZo, hZs, hb1⟩
  have Q1 := Q.below hb1 Q.lt
  have g1 := below_then hb0 hb1
  have hone := Lib.hid (vh_all Z.h)
  have Hs := Lib.hid hZs
  clear HA Q hb0 hZs
  go_wp2_with (refine wpList_store_row rfl 30 _ _ rfl (w.heap.size + 1) Z.h.cells rfl rfl 30 _ Q1 vh_row rfl hone.out ?_)
  have Q2 := Q1.setRow Z.h.cells
  have hsz := Q1.lt
  simp at hZo
  exact bodyPost_ret (v := .agg Z.h.cells) (ret_val (p := 4) rfl rfl Q2) rfl ⟨Z, rfl, hZ.stays hZo (fun b hb => setRow_other _ _ _ _ (by omega)) (by rw [size_setRow]; omega), hZo.mono fun b hb => by omega, Hs.out, below_setRow g1 (by omega) _⟩
end Go.Proofs.YtfkfboiblgoamaaDoor
