/- Laid together for a claim: VkSetM, VtLast1S, VkRchk, VkLookS, VkResC, VkMake, VkRowCap. -/
import Derived.Test.YtfkfboiblgoamaaDoorQB23
import Derived.Test.YtfkfboiblgoamaaDoorQB24
import Derived.Test.YtfkfboiblgoamaaDoorQB25
import Derived.Test.YtfkfboiblgoamaaDoorQB22
import Derived.Test.YtfkfboiblgoamaaDoorQB08
import Derived.Test.YtfkfboiblgoamaaDoorQB05
import Derived.Test.YtfkfboiblgoamaaDoorQB15
import Derived.Test.YtfkfboiblgoamaaDoorQB06
/- What Set answers: plain. -/
namespace Go.Proofs.YtfkfboiblgoamaaDoor
open Go.RowKit

theorem Vt.chg_succ2 {f : Vt → Vt} {n : Nat} {S : Nat → Stp} {T : Vt} (h : (T.find (S 0)).2 = 0) : Vt.chg f (n + 1) S T = T.setP (T.find (S 0)).1.toNat (Vt.chg f n (fun i => S (i + 1)) (T.part (T.find (S 0)).1.toNat)) := by
  rw [Vt.setP_ix h, Vt.chg]
  cases hx : (S 0).ix with
  | true => rw [(Vt.part_ix h hx).1, if_pos rfl, if_pos rfl]
  | false => rw [(Vt.part_key h hx).1, if_neg (by simp), if_neg (by simp)]
theorem Vt.chg_last2 {f : Vt → Vt} : ∀ {n : Nat} {S : Nat → Stp} {T : Vt}, (T.atN S (n + 1)).2 = 0 → Vt.chg f (n + 1) S T = Vt.chg (fun U => U.setP (U.find (S n)).1.toNat (f (U.part (U.find (S n)).1.toNat))) n S T := by
  intro n
  induction n with
  | zero => intro S T h; exact Vt.chg_succ2 (n := 0) (Vt.atN_find (k := 0) h (by omega))
  | succ n ih =>
    intro S T h
    have h0 : (T.find (S 0)).2 = 0 := Vt.atN_find (k := 0) h (by omega)
    have h' := h
    rw [Vt.atN_shift h0] at h'
    rw [Vt.chg_succ2 h0, ih h', Vt.chg_succ2 h0]
/-- The result of a change, checked. -/
noncomputable def chkR (R : Vt × Int) : Vt × Int := if R.2 ≠ 0 then (.z, R.2) else R.1.chkV
/-- What Set answers. -/
noncomputable def Vt.setV (T : Vt) (S : Nat → Stp) (n : Nat) (X : Vt) : Vt × Int :=
  if pathB S n = true then (if n = 0 then (X, 0) else chkR (Vt.chgV (Vt.last1 X) n S T)) else (.z, 1)
theorem set_in {T X : Vt} {S : Nat → Stp} {m : Nat} (h : (T.atN S (m + 1)).2 = 0) : Vt.chgV (Vt.last1 X) (m + 1) S T = (Vt.chg (fun _ => X) (m + 1) S T, 0) := by
  have hk := Vt.atN_le h (Nat.le_succ m)
  have hf := Vt.atN_find h (Nat.lt_succ_self m)
  rw [Vt.chg_last2 h]
  exact Vt.chgV_chg (g := Vt.last1 X) (f := fun U => U.setP (U.find (S m)).1.toNat X) hk (by unfold Vt.last1; rw [if_pos hf])
theorem set_more {T X : Vt} {S : Nat → Stp} {m : Nat} (hk : (T.atN S m).2 = 0) (hf : ((T.atN S m).1.find (S m)).2 = 7) (hix : (S m).ix = false) : Vt.chgV (Vt.last1 X) (m + 1) S T = (Vt.chg (fun U => U.moreF (S m).key X) m S T, 0) :=
  Vt.chgV_chg (g := Vt.last1 X) (f := fun U => U.moreF (S m).key X) hk (by unfold Vt.last1; rw [if_neg (by rw [hf]; decide), if_pos ⟨hf, hix⟩])
theorem set_err {T X : Vt} {S : Nat → Stp} {m : Nat} (hk : (T.atN S m).2 = 0) (hf : ((T.atN S m).1.find (S m)).2 ≠ 0) (h7 : ¬ (((T.atN S m).1.find (S m)).2 = 7 ∧ (S m).ix = false)) : Vt.chgV (Vt.last1 X) (m + 1) S T = (.z, ((T.atN S m).1.find (S m)).2) := by
  have e : Vt.last1 X (T.atN S m).1 (S m) = (.z, ((T.atN S m).1.find (S m)).2) := by unfold Vt.last1; rw [if_neg hf, if_neg h7]
  have := Vt.chgV_err (g := Vt.last1 X) hk (by rw [e]; exact hf) (by rw [e])
  rw [this, e]
end Go.Proofs.YtfkfboiblgoamaaDoor
/- What the reference makes at the last step of a change that sets: datakitref09.last; where the result lies. -/
namespace Go.Proofs.YtfkfboiblgoamaaDoor
open Go.RowKit
set_option linter.unusedSimpArgs false
set_option linter.unusedVariables false

/-- A value or an error; which blocks the value lies in. -/
def ResS (R : Vt × Int) (S : Nat → Prop) (w : World) (e : Ending) (w' : World) : Prop :=
  ∃ X : Vt, e = .returned (.tuple #[.agg #[.int .i64 X.h.k, .bool X.h.b, .bool X.h.n, .string X.h.d, .int .i64 X.h.e, .int .i64 X.h.tk, .int .i64 X.h.td, .int .i64 X.h.tn, .int .i64 X.h.tz, .string X.h.x, .slice X.h.ba X.h.bn X.h.bc, .slice X.h.la X.h.ln X.h.lc, .slice X.h.fa X.h.fn X.h.fc], .int .i64 R.2]) ∧
    X.In w' w'.heap.size ∧ X.Off (fun b => S b ∨ w.heap.size ≤ b) ∧ (R.2 = 0 → X.Same R.1) ∧ (R.2 ≠ 0 → X = .z) ∧ Below w.heap.size w w'
theorem resS_of {R : Vt × Int} {X : Vt} {E : Int} {w w' : World} (hE : R.2 = E) {S : Nat → Prop} (hX : X.In w' w'.heap.size) (hXo : X.Off (fun b => S b ∨ w.heap.size ≤ b)) (h0 : R.2 = 0 → X.Same R.1) (h1 : R.2 ≠ 0 → X = .z) (hb : Below w.heap.size w w') :
    ResS R S w (.returned (.tuple #[.agg #[.int .i64 X.h.k, .bool X.h.b, .bool X.h.n, .string X.h.d, .int .i64 X.h.e, .int .i64 X.h.tk, .int .i64 X.h.td, .int .i64 X.h.tn, .int .i64 X.h.tz, .string X.h.x, .slice X.h.ba X.h.bn X.h.bc, .slice X.h.la X.h.ln X.h.lc, .slice X.h.fa X.h.fn X.h.fc], .int .i64 E])) w' := by
  subst hE
  exact ⟨X, rfl, hX, hXo, h0, h1, hb⟩
set_option maxHeartbeats 8000000 in
set_option maxRecDepth 100000 in
theorem last1s_6 {T X : Vt} {s : Stp} {top : Nat} {w : World} (hT : T.In w top) (hX : X.In w w.heap.size) {SX : Nat → Prop} (hXo : X.Off SX) (hSt : ∀ b, b < top → SX b) (hSl : ∀ b, SX b → b < w.heap.size) (ht : top ≤ w.heap.size) (ho : T.h.own = true) (hs : w64 s.n) (h0 : (T.find s).2 = 6) :
    Calls Tryd.prog 48 #[.agg T.h.cells, .agg s.cells, .agg X.h.cells, .int .i64 1] w (ResS (.z, 6) SX w) := by
  obtain ⟨f1, hf1⟩ : ∃ f, T.find s = (f, 6) := ⟨_, Prod.ext rfl h0⟩
  have HE : Hid (∀ w', Below w.heap.size w w' → ResS ((.z, 6) : Vt × Int) SX w (.returned (.tuple #[.agg Vh.zero.cells, .int .i64 6])) w') := Lib.hid fun w' hb => resS_of (X := .z) rfl (Vt.z_in _ _) (Vt.z_off _) (fun h => absurd h (by decide)) (fun _ => rfl) hb
  have hb0 := ((((Below.refl w.heap.size w).alloc (Nat.le_refl _) (.cells T.h.cells 30)).alloc (by simp) (.cells s.cells 50)).alloc (by simp; omega) (.cells X.h.cells 30)).alloc (by simp; omega) (.cells Vh.zero.cells 30)
  have P := (((Whole.new w 30 T.h.cells).alloc (.cells s.cells 50)).alloc (.cells X.h.cells 30)).alloc (.cells Vh.zero.cells 30)
  have S3 := ((Whole.new (w.alloc (.cells T.h.cells 30)) 50 s.cells).alloc (.cells X.h.cells 30)).alloc (.cells Vh.zero.cells 30)
  rw [World.size_alloc] at S3
  have XB := (Whole.new ((w.alloc (.cells T.h.cells 30)).alloc (.cells s.cells 50)) 30 X.h.cells).alloc (.cells Vh.zero.cells 30)
  rw [World.size_alloc, World.size_alloc] at XB
  have Q := Whole.new (((w.alloc (.cells T.h.cells 30)).alloc (.cells s.cells 50)).alloc (.cells X.h.cells 30)) 30 Vh.zero.cells
  rw [World.size_alloc, World.size_alloc, World.size_alloc] at Q
  have HF := Lib.hid (fun (w1 : World) (hb : Below w.heap.size w w1) => rfind_any (T := T) (s := s) (Vt.In.below (hb.mono ht) hT) (Nat.le_trans ht hb.size) hs)
  rw [hf1] at HF
  have HSl := Lib.hid hSl
  clear hT hX hXo hSt hSl ho h0 hf1
  simp only [Vh.cells, Vh.zero, Stp.cells] at hb0 P S3 XB Q HF ⊢
  go_enter Tryd.func48, Tryd.ntmps48
  go_wp2_with fail
  refine (HF.out _ hb0).mono ?_; rintro _ w1 ⟨rfl, hb1⟩
  have g1 := below_then hb0 hb1
  have P1 := Whole.below P hb1 (Whole.lt P)
  have S31 := Whole.below S3 hb1 (Whole.lt S3)
  have XB1 := Whole.below XB hb1 (Whole.lt XB)
  have Q1 := Whole.below Q hb1 (Whole.lt Q)
  clear HF hb0 hb1 P S3 XB Q
  obtain ⟨s0, s1, s2⟩ := Whole.b3 (s := s) S31
  have hone := Lib.hid (vh_all Vh.zero)
  go_wp2_with (refine wpList_store_row rfl 30 _ _ rfl (w.heap.size + 3) Vh.zero.cells rfl rfl 30 _ Q1 vh_row rfl hone.out ?_)
  exact bodyPost_ret (v := .tuple #[.agg Vh.zero.cells, .int .i64 6]) (ret_val2 (p := 8) (q := 9) rfl rfl (Whole.setRow Q1 Vh.zero.cells)) rfl (HE.out _ (below_setRow g1 (by omega) _))

set_option maxHeartbeats 8000000 in
set_option maxRecDepth 100000 in
theorem last1s_7 {T X : Vt} {s : Stp} {top : Nat} {w : World} (hT : T.In w top) (hX : X.In w w.heap.size) {SX : Nat → Prop} (hXo : X.Off SX) (hSt : ∀ b, b < top → SX b) (hSl : ∀ b, SX b → b < w.heap.size) (ht : top ≤ w.heap.size) (ho : T.h.own = true) (hs : w64 s.n) (h0 : (T.find s).2 = 7) (hix : s.ix = true) :
    Calls Tryd.prog 48 #[.agg T.h.cells, .agg s.cells, .agg X.h.cells, .int .i64 1] w (ResS (.z, 7) SX w) := by
  have Hix := Lib.hid hix
  clear hix
  obtain ⟨f1, hf1⟩ : ∃ f, T.find s = (f, 7) := ⟨_, Prod.ext rfl h0⟩
  have HE : Hid (∀ w', Below w.heap.size w w' → ResS ((.z, 7) : Vt × Int) SX w (.returned (.tuple #[.agg Vh.zero.cells, .int .i64 7])) w') := Lib.hid fun w' hb => resS_of (X := .z) rfl (Vt.z_in _ _) (Vt.z_off _) (fun h => absurd h (by decide)) (fun _ => rfl) hb
  have hb0 := ((((Below.refl w.heap.size w).alloc (Nat.le_refl _) (.cells T.h.cells 30)).alloc (by simp) (.cells s.cells 50)).alloc (by simp; omega) (.cells X.h.cells 30)).alloc (by simp; omega) (.cells Vh.zero.cells 30)
  have P := (((Whole.new w 30 T.h.cells).alloc (.cells s.cells 50)).alloc (.cells X.h.cells 30)).alloc (.cells Vh.zero.cells 30)
  have S3 := ((Whole.new (w.alloc (.cells T.h.cells 30)) 50 s.cells).alloc (.cells X.h.cells 30)).alloc (.cells Vh.zero.cells 30)
  rw [World.size_alloc] at S3
  have XB := (Whole.new ((w.alloc (.cells T.h.cells 30)).alloc (.cells s.cells 50)) 30 X.h.cells).alloc (.cells Vh.zero.cells 30)
  rw [World.size_alloc, World.size_alloc] at XB
  have Q := Whole.new (((w.alloc (.cells T.h.cells 30)).alloc (.cells s.cells 50)).alloc (.cells X.h.cells 30)) 30 Vh.zero.cells
  rw [World.size_alloc, World.size_alloc, World.size_alloc] at Q
  have HF := Lib.hid (fun (w1 : World) (hb : Below w.heap.size w w1) => rfind_any (T := T) (s := s) (Vt.In.below (hb.mono ht) hT) (Nat.le_trans ht hb.size) hs)
  rw [hf1] at HF
  have HSl := Lib.hid hSl
  clear hT hX hXo hSt hSl ho h0 hf1
  simp only [Vh.cells, Vh.zero, Stp.cells] at hb0 P S3 XB Q HF ⊢
  go_enter Tryd.func48, Tryd.ntmps48
  go_wp2_with fail
  refine (HF.out _ hb0).mono ?_; rintro _ w1 ⟨rfl, hb1⟩
  have g1 := below_then hb0 hb1
  have P1 := Whole.below P hb1 (Whole.lt P)
  have S31 := Whole.below S3 hb1 (Whole.lt S3)
  have XB1 := Whole.below XB hb1 (Whole.lt XB)
  have Q1 := Whole.below Q hb1 (Whole.lt Q)
  clear HF hb0 hb1 P S3 XB Q
  obtain ⟨s0, s1, s2⟩ := Whole.b3 (s := s) S31
  rw [Hix.out] at s0
  clear Hix
  have hone := Lib.hid (vh_all Vh.zero)
  go_wp2_with (refine wpList_store_row rfl 30 _ _ rfl (w.heap.size + 3) Vh.zero.cells rfl rfl 30 _ Q1 vh_row rfl hone.out ?_)
  exact bodyPost_ret (v := .tuple #[.agg Vh.zero.cells, .int .i64 7]) (ret_val2 (p := 8) (q := 9) rfl rfl (Whole.setRow Q1 Vh.zero.cells)) rfl (HE.out _ (below_setRow g1 (by omega) _))

set_option maxHeartbeats 8000000 in
set_option maxRecDepth 100000 in
theorem last1s_0 {T X : Vt} {s : Stp} {top : Nat} {w : World} (hT : T.In w top) (hX : X.In w w.heap.size) {SX : Nat → Prop} (hXo : X.Off SX) (hSt : ∀ b, b < top → SX b) (hSl : ∀ b, SX b → b < w.heap.size) (ht : top ≤ w.heap.size) (ho : T.h.own = true) (hs : w64 s.n) (h0 : (T.find s).2 = 0) :
    Calls Tryd.prog 48 #[.agg T.h.cells, .agg s.cells, .agg X.h.cells, .int .i64 1] w (ResS (T.setP (T.find s).1.toNat X, 0) SX w) := by
  obtain ⟨f1, hf1⟩ : ∃ f, T.find s = (f, 0) := ⟨_, Prod.ext rfl h0⟩
  have HC := Lib.hid (fun (w1 : World) (hb : Below w.heap.size w w1) => replace_any (s := s) (Vt.In.below (hb.mono ht) hT) ((hX.below hb).up hb.size) hXo hSt (fun b q => Nat.lt_of_lt_of_le (hSl b q) hb.size) (Nat.le_trans ht hb.size) ho h0)
  obtain ⟨V, hV⟩ : ∃ V, T.setP (T.find s).1.toNat X = V := ⟨_, rfl⟩
  rw [hV] at HC ⊢
  clear hV
  rw [hf1] at HC
  have HE : Hid (∀ (Z : Vt) w', Z.In w' w'.heap.size → Z.Off (fun b => SX b ∨ w.heap.size ≤ b) → Z.Same V → Below w.heap.size w w' → ResS (V, 0) SX w (.returned (.tuple #[.agg Z.h.cells, .int .i64 0])) w') := Lib.hid fun Z w' h1 h3 h2 hb => resS_of (X := Z) rfl h1 h3 (fun _ => h2) (fun h => absurd rfl h) hb
  have hb0 := ((((Below.refl w.heap.size w).alloc (Nat.le_refl _) (.cells T.h.cells 30)).alloc (by simp) (.cells s.cells 50)).alloc (by simp; omega) (.cells X.h.cells 30)).alloc (by simp; omega) (.cells Vh.zero.cells 30)
  have P := (((Whole.new w 30 T.h.cells).alloc (.cells s.cells 50)).alloc (.cells X.h.cells 30)).alloc (.cells Vh.zero.cells 30)
  have S3 := ((Whole.new (w.alloc (.cells T.h.cells 30)) 50 s.cells).alloc (.cells X.h.cells 30)).alloc (.cells Vh.zero.cells 30)
  rw [World.size_alloc] at S3
  have XB := (Whole.new ((w.alloc (.cells T.h.cells 30)).alloc (.cells s.cells 50)) 30 X.h.cells).alloc (.cells Vh.zero.cells 30)
  rw [World.size_alloc, World.size_alloc] at XB
  have Q := Whole.new (((w.alloc (.cells T.h.cells 30)).alloc (.cells s.cells 50)).alloc (.cells X.h.cells 30)) 30 Vh.zero.cells
  rw [World.size_alloc, World.size_alloc, World.size_alloc] at Q
  have HF := Lib.hid (fun (w1 : World) (hb : Below w.heap.size w w1) => rfind_any (T := T) (s := s) (Vt.In.below (hb.mono ht) hT) (Nat.le_trans ht hb.size) hs)
  rw [hf1] at HF
  have HSl := Lib.hid hSl
  clear hT hX hXo hSt hSl ho h0 hf1
  simp only [Vh.cells, Vh.zero, Stp.cells] at hb0 P S3 XB Q HF ⊢
  go_enter Tryd.func48, Tryd.ntmps48
  go_wp2_with fail
  refine (HF.out _ hb0).mono ?_; rintro _ w1 ⟨rfl, hb1⟩
  have g1 := below_then hb0 hb1
  have P1 := Whole.below P hb1 (Whole.lt P)
  have S31 := Whole.below S3 hb1 (Whole.lt S3)
  have XB1 := Whole.below XB hb1 (Whole.lt XB)
  have Q1 := Whole.below Q hb1 (Whole.lt Q)
  clear HF hb0 hb1 P S3 XB Q
  obtain ⟨c0, c1, c2, c3, c4, c5, c6, c7, c8, c9, c10, c11, c12⟩ := Whole.c13 (h := T.h) P1
  obtain ⟨s0, s1, s2⟩ := Whole.b3 (s := s) S31
  obtain ⟨x0, x1, x2, x3, x4, x5, x6, x7, x8, x9, x10, x11, x12⟩ := Whole.c13 (h := X.h) XB1
  simp only [Vh.cells, Stp.cells] at HC
  go_wp2_with fail
  refine (HC.out _ g1).mono ?_; rintro _ w2 ⟨Z, rfl, hZ, hZo, hZs, hb2⟩
  have g2 := below_then g1 hb2
  have hw1 := g1.size
  have hQ1 := Q1.lt
  have Q2 := Q1.below hb2 Q1.lt
  have hone := Lib.hid (vh_all Z.h)
  have hZ2 := Lib.hid (hZ.stays hZo (W' := w2.setRow (w.heap.size + 3) Z.h.cells) (fun b hb => setRow_other _ _ _ _ (by rcases hb with hb | hb; { have := HSl.out b hb; omega }; { omega })) (by rw [size_setRow]; exact Nat.le_refl _))
  have hZs2 := Lib.hid hZs
  have hZo2 : Hid (Z.Off (fun b => SX b ∨ w.heap.size ≤ b)) := Lib.hid (hZo.mono fun b hb => hb.imp id fun q => by omega)
  clear c0 c1 c2 c3 c4 c5 c6 c7 c8 c9 c10 c11 c12 s0 s1 s2 x0 x1 x2 x3 x4 x5 x6 x7 x8 x9 x10 x11 x12 HC hZ hZo hZs hb2 g1 P1 S31 XB1 Q1 hQ1
  go_wp2_with (refine wpList_store_row rfl 30 _ _ rfl (w.heap.size + 3) Z.h.cells rfl rfl 30 _ Q2 vh_row rfl hone.out ?_)
  exact bodyPost_ret (v := .tuple #[.agg Z.h.cells, .int .i64 0]) (ret_val2 (p := 8) (q := 9) rfl rfl (Q2.setRow Z.h.cells)) rfl (HE.out Z _ hZ2.out hZo2.out hZs2.out (below_setRow g2 (by omega) _))

set_option maxHeartbeats 8000000 in
set_option maxRecDepth 100000 in
theorem last1s_m {T X : Vt} {s : Stp} {top : Nat} {w : World} (hT : T.In w top) (hX : X.In w w.heap.size) {SX : Nat → Prop} (hXo : X.Off SX) (hSt : ∀ b, b < top → SX b) (hSl : ∀ b, SX b → b < w.heap.size) (ht : top ≤ w.heap.size) (ho : T.h.own = true) (hs : w64 s.n) (h0 : (T.find s).2 = 7) (hix : s.ix = false) (hk7 : T.h.k = 7) (hkey : s.key.size ≤ 1048576) (hfn : T.h.fn < 1048576) :
    Calls Tryd.prog 48 #[.agg T.h.cells, .agg s.cells, .agg X.h.cells, .int .i64 1] w (ResS (T.moreF s.key X, 0) SX w) := by
  have Hix := Lib.hid hix
  clear hix
  obtain ⟨f1, hf1⟩ : ∃ f, T.find s = (f, 7) := ⟨_, Prod.ext rfl h0⟩
  have HC := Lib.hid (fun (w1 : World) (hb : Below w.heap.size w w1) => mored_any (Vt.In.below (hb.mono ht) hT) ((hX.below hb).up hb.size) hXo hSt (fun b q => Nat.lt_of_lt_of_le (hSl b q) hb.size) (Nat.le_trans ht hb.size) ho hk7 hkey hfn)
  obtain ⟨V, hV⟩ : ∃ V, T.moreF s.key X = V := ⟨_, rfl⟩
  rw [hV] at HC ⊢
  clear hV
  have HE : Hid (∀ (Z : Vt) w', Z.In w' w'.heap.size → Z.Off (fun b => SX b ∨ w.heap.size ≤ b) → Z.Same V → Below w.heap.size w w' → ResS (V, 0) SX w (.returned (.tuple #[.agg Z.h.cells, .int .i64 0])) w') := Lib.hid fun Z w' h1 h3 h2 hb => resS_of (X := Z) rfl h1 h3 (fun _ => h2) (fun h => absurd rfl h) hb
  have hb0 := ((((Below.refl w.heap.size w).alloc (Nat.le_refl _) (.cells T.h.cells 30)).alloc (by simp) (.cells s.cells 50)).alloc (by simp; omega) (.cells X.h.cells 30)).alloc (by simp; omega) (.cells Vh.zero.cells 30)
  have P := (((Whole.new w 30 T.h.cells).alloc (.cells s.cells 50)).alloc (.cells X.h.cells 30)).alloc (.cells Vh.zero.cells 30)
  have S3 := ((Whole.new (w.alloc (.cells T.h.cells 30)) 50 s.cells).alloc (.cells X.h.cells 30)).alloc (.cells Vh.zero.cells 30)
  rw [World.size_alloc] at S3
  have XB := (Whole.new ((w.alloc (.cells T.h.cells 30)).alloc (.cells s.cells 50)) 30 X.h.cells).alloc (.cells Vh.zero.cells 30)
  rw [World.size_alloc, World.size_alloc] at XB
  have Q := Whole.new (((w.alloc (.cells T.h.cells 30)).alloc (.cells s.cells 50)).alloc (.cells X.h.cells 30)) 30 Vh.zero.cells
  rw [World.size_alloc, World.size_alloc, World.size_alloc] at Q
  have HF := Lib.hid (fun (w1 : World) (hb : Below w.heap.size w w1) => rfind_any (T := T) (s := s) (Vt.In.below (hb.mono ht) hT) (Nat.le_trans ht hb.size) hs)
  rw [hf1] at HF
  have HSl := Lib.hid hSl
  clear hT hX hXo hSt hSl ho h0 hf1 hk7 hkey hfn
  simp only [Vh.cells, Vh.zero, Stp.cells] at hb0 P S3 XB Q HF ⊢
  go_enter Tryd.func48, Tryd.ntmps48
  go_wp2_with fail
  refine (HF.out _ hb0).mono ?_; rintro _ w1 ⟨rfl, hb1⟩
  have g1 := below_then hb0 hb1
  have P1 := Whole.below P hb1 (Whole.lt P)
  have S31 := Whole.below S3 hb1 (Whole.lt S3)
  have XB1 := Whole.below XB hb1 (Whole.lt XB)
  have Q1 := Whole.below Q hb1 (Whole.lt Q)
  clear HF hb0 hb1 P S3 XB Q
  obtain ⟨c0, c1, c2, c3, c4, c5, c6, c7, c8, c9, c10, c11, c12⟩ := Whole.c13 (h := T.h) P1
  obtain ⟨s0, s1, s2⟩ := Whole.b3 (s := s) S31
  obtain ⟨x0, x1, x2, x3, x4, x5, x6, x7, x8, x9, x10, x11, x12⟩ := Whole.c13 (h := X.h) XB1
  rw [Hix.out] at s0
  clear Hix
  simp only [Vh.cells, Stp.cells] at HC
  go_wp2_with fail
  refine (HC.out _ g1).mono ?_; rintro _ w2 ⟨Z, rfl, hZ, hZo, hZs, hb2⟩
  have g2 := below_then g1 hb2
  have hw1 := g1.size
  have hQ1 := Q1.lt
  have Q2 := Q1.below hb2 Q1.lt
  have hone := Lib.hid (vh_all Z.h)
  have hZ2 := Lib.hid (hZ.stays hZo (W' := w2.setRow (w.heap.size + 3) Z.h.cells) (fun b hb => setRow_other _ _ _ _ (by rcases hb with hb | hb; { have := HSl.out b hb; omega }; { omega })) (by rw [size_setRow]; exact Nat.le_refl _))
  have hZs2 := Lib.hid hZs
  have hZo2 : Hid (Z.Off (fun b => SX b ∨ w.heap.size ≤ b)) := Lib.hid (hZo.mono fun b hb => hb.imp id fun q => by omega)
  clear c0 c1 c2 c3 c4 c5 c6 c7 c8 c9 c10 c11 c12 s0 s1 s2 x0 x1 x2 x3 x4 x5 x6 x7 x8 x9 x10 x11 x12 HC hZ hZo hZs hb2 g1 P1 S31 XB1 Q1 hQ1
  go_wp2_with (refine wpList_store_row rfl 30 _ _ rfl (w.heap.size + 3) Z.h.cells rfl rfl 30 _ Q2 vh_row rfl hone.out ?_)
  exact bodyPost_ret (v := .tuple #[.agg Z.h.cells, .int .i64 0]) (ret_val2 (p := 8) (q := 9) rfl rfl (Q2.setRow Z.h.cells)) rfl (HE.out Z _ hZ2.out hZo2.out hZs2.out (below_setRow g2 (by omega) _))

theorem last1s_any {T X : Vt} {s : Stp} {top : Nat} {w : World} (hT : T.In w top) (hX : X.In w w.heap.size) {SX : Nat → Prop} (hXo : X.Off SX) (hSt : ∀ b, b < top → SX b) (hSl : ∀ b, SX b → b < w.heap.size) (ht : top ≤ w.heap.size) (ho : T.h.own = true) (hs : w64 s.n) (hsz : T.size ≤ 65536) (hso : stepOk s) :
    Calls Tryd.prog 48 #[.agg T.h.cells, .agg s.cells, .agg X.h.cells, .int .i64 1] w (ResS (Vt.last1 X T s) SX w) := by
  unfold Vt.last1
  rcases find_rng T s with h | h | h
  · rw [if_pos h]; exact last1s_0 hT hX hXo hSt hSl ht ho hs h
  · rw [if_neg (by omega), if_neg (fun q => by omega), h]; exact last1s_6 hT hX hXo hSt hSl ht ho hs h
  · rw [if_neg (by omega)]
    have h7 := find_7 h
    cases hix : s.ix with
    | true => rw [if_neg (fun q => by cases q.2), h]; exact last1s_7 hT hX hXo hSt hSl ht ho hs h hix
    | false =>
      rw [hix, if_neg (by decide)] at h7
      rw [if_pos ⟨h, rfl⟩]
      have hk : s.key.size ≤ 1024 := by unfold stepOk at hso; rw [hix, if_neg (by decide)] at hso; exact hso.2.1
      exact last1s_m hT hX hXo hSt hSl ht ho hs h hix h7 (by omega) (by have := Vt.fn_le_size h7; omega)
end Go.Proofs.YtfkfboiblgoamaaDoor
/- The reference's checked. -/
namespace Go.Proofs.YtfkfboiblgoamaaDoor
open Go.RowKit
set_option linter.unusedSimpArgs false
set_option linter.unusedVariables false

set_option maxHeartbeats 2000000 in
set_option maxRecDepth 100000 in
theorem rchkd_any {X : Vt} {E : Int} {w : World} (hX : X.In w w.heap.size) {SX : Nat → Prop} (hXo : X.Off SX) :
    Calls Tryd.prog 31 #[.agg X.h.cells, .int .i64 E] w (ResS (chkR (X, E)) SX w) := by
  have hb0 := ((Below.refl w.heap.size w).alloc (Nat.le_refl _) (.cells X.h.cells 30)).alloc (by simp) (.cells Vh.zero.cells 30)
  have P := (Whole.new w 30 X.h.cells).alloc (.cells Vh.zero.cells 30)
  have Q := Whole.new (w.alloc (.cells X.h.cells 30)) 30 Vh.zero.cells
  rw [World.size_alloc] at Q
  by_cases z : E = 0
  · subst z
    rw [show chkR (X, 0) = X.chkV from if_neg (fun q => q rfl)]
    have HC := Lib.hid (check_any (Vt.In.below hb0 hX) hb0.size)
    obtain ⟨c0, c1, c2, c3, c4, c5, c6, c7, c8, c9, c10, c11, c12⟩ := Whole.c13 (h := X.h) P
    by_cases y : (X.look 1 0).2 = 0
    · rw [show X.chkV = (X, 0) from if_neg (fun q => q y)]
      rw [y] at HC
      have hsz0 := hb0.size
      have HT := Lib.hid hX
      have HXo := Lib.hid hXo
      have HW := Lib.hid hX.whole
      clear y hX hXo
      simp only [Vh.cells, Vh.zero] at hb0 P Q HC c0 c1 c2 c3 c4 c5 c6 c7 c8 c9 c10 c11 c12 ⊢
      go_enter Tryd.func31, Tryd.ntmps31
      go_wp2_with fail
      refine HC.out.mono ?_; rintro _ w1 ⟨rfl, hb1⟩
      have g1 := below_then hb0 hb1
      have P1 := P.below hb1 P.lt
      have Q1 := Q.below hb1 Q.lt
      clear c0 c1 c2 c3 c4 c5 c6 c7 c8 c9 c10 c11 c12 HC P Q hb0 hb1
      obtain ⟨c0, c1, c2, c3, c4, c5, c6, c7, c8, c9, c10, c11, c12⟩ := Whole.c13 (h := X.h) P1
      have hone := Lib.hid (vh_all X.h)
      go_wp2_with (refine wpList_store_row rfl 30 _ _ rfl (w.heap.size + 1) X.h.cells rfl rfl 30 _ Q1 vh_row rfl hone.out ?_)
      have g2 := below_setRow g1 (show w.heap.size ≤ w.heap.size + 1 by omega) X.h.cells
      exact bodyPost_ret (v := .tuple #[.agg X.h.cells, .int .i64 0]) (ret_val2 (p := 4) (q := 5) rfl rfl (Whole.setRow Q1 X.h.cells)) rfl (resS_of (X := X) rfl ((Vt.In.below g2 HT.out).up g2.size) (HXo.out.mono fun b q => .inl q) (fun _ => Vt.Same.rfl' HW.out) (fun q => absurd rfl q) g2)
    · rw [show X.chkV = (.z, (X.look 1 0).2) from if_pos y]
      obtain ⟨E, hE⟩ : ∃ E, (X.look 1 0).2 = E := ⟨_, rfl⟩
      rw [hE] at HC y ⊢
      have z := y
      have z1 : (E == 0) = false := beq_eq_false_iff_ne.2 y
      have z2 : (E != 0) = true := bne_iff_ne.2 y
      have HE : Hid (∀ w', Below w.heap.size w w' → ResS ((.z, E) : Vt × Int) SX w (.returned (.tuple #[.agg Vh.zero.cells, .int .i64 E])) w') := Lib.hid fun w' hb => resS_of (X := .z) rfl (Vt.z_in _ _) (Vt.z_off _) (fun q => absurd q z) (fun _ => rfl) hb
      clear hE y z hX hXo
      simp only [Vh.cells, Vh.zero] at hb0 P Q HC c0 c1 c2 c3 c4 c5 c6 c7 c8 c9 c10 c11 c12 ⊢
      go_enter Tryd.func31, Tryd.ntmps31
      go_wp2_with fail
      refine HC.out.mono ?_; rintro _ w1 ⟨rfl, hb1⟩
      have g1 := below_then hb0 hb1
      have Q1 := Q.below hb1 Q.lt
      clear c0 c1 c2 c3 c4 c5 c6 c7 c8 c9 c10 c11 c12 HC P Q hb0 hb1
      have hone := Lib.hid (vh_all Vh.zero)
      go_wp2_with (refine wpList_store_row rfl 30 _ _ rfl (w.heap.size + 1) Vh.zero.cells rfl rfl 30 _ Q1 vh_row rfl hone.out ?_)
      exact bodyPost_ret (v := .tuple #[.agg Vh.zero.cells, .int .i64 E]) (ret_val2 (p := 4) (q := 5) rfl rfl (Whole.setRow Q1 Vh.zero.cells)) rfl (HE.out _ (below_setRow g1 (by omega) _))
  · rw [show chkR (X, E) = (.z, E) from if_pos z]
    have z1 : (E == 0) = false := beq_eq_false_iff_ne.2 z
    have z2 : (E != 0) = true := bne_iff_ne.2 z
    have HE : Hid (∀ w', Below w.heap.size w w' → ResS ((.z, E) : Vt × Int) SX w (.returned (.tuple #[.agg Vh.zero.cells, .int .i64 E])) w') := Lib.hid fun w' hb => resS_of (X := .z) rfl (Vt.z_in _ _) (Vt.z_off _) (fun q => absurd q z) (fun _ => rfl) hb
    clear z hX hXo
    simp only [Vh.cells, Vh.zero] at hb0 P Q ⊢
    go_enter Tryd.func31, Tryd.ntmps31
    have hone := Lib.hid (vh_all Vh.zero)
    go_wp2_with (refine wpList_store_row rfl 30 _ _ rfl (w.heap.size + 1) Vh.zero.cells rfl rfl 30 _ Q vh_row rfl hone.out ?_)
    exact bodyPost_ret (v := .tuple #[.agg Vh.zero.cells, .int .i64 E]) (ret_val2 (p := 4) (q := 5) rfl rfl (Whole.setRow Q Vh.zero.cells)) rfl (HE.out _ (below_setRow hb0 (by omega) _))
end Go.Proofs.YtfkfboiblgoamaaDoor
/- The look of two trees that are the same: plain. -/
namespace Go.Proofs.YtfkfboiblgoamaaDoor

theorem keyE_congr {K K' : Nat → ByteArray} {i : Nat} (h : ∀ j, j ≤ i → K j = K' j) : keyE K i = keyE K' i := by
  unfold keyE
  have e : (∃ k, k < i ∧ K k = K i) ↔ (∃ k, k < i ∧ K' k = K' i) := by
    constructor
    · rintro ⟨k, h1, h2⟩; exact ⟨k, h1, by rw [← h k (by omega), ← h i (Nat.le_refl _)]; exact h2⟩
    · rintro ⟨k, h1, h2⟩; exact ⟨k, h1, by rw [h k (by omega), h i (Nat.le_refl _)]; exact h2⟩
  rw [h i (Nat.le_refl _)] at e ⊢
  by_cases c : ∃ k, k < i ∧ K k = K' i
  · simp only [if_pos c, if_pos (e.1 c)]
  · simp only [if_neg c, if_neg (fun q => c (e.2 q))]
theorem keysE_congr {K K' : Nat → ByteArray} : ∀ {n : Nat}, (∀ i, i < n → K i = K' i) → keysE K n = keysE K' n := by
  intro n
  induction n with
  | zero => intro _; rfl
  | succ n ih =>
    intro h
    have e1 := ih (fun i hi => h i (by omega))
    have e2 := keyE_congr (K := K) (K' := K') (i := n) (fun j hj => h j (by omega))
    show (if keysE K n ≠ 0 then keysE K n else keyE K n) = (if keysE K' n ≠ 0 then keysE K' n else keyE K' n)
    rw [e1, e2]
theorem foldE_congr {f g : Nat → Int → Int × Int} {s : Int} : ∀ {n : Nat}, (∀ i, i < n → ∀ t, f i t = g i t) → foldE f n s = foldE g n s := by
  intro n
  induction n with
  | zero => intro _; rfl
  | succ n ih =>
    intro h
    have e1 := ih (fun i hi => h i (by omega))
    show (if (foldE f n s).2 ≠ 0 then foldE f n s else f n (foldE f n s).1) = (if (foldE g n s).2 ≠ 0 then foldE g n s else g n (foldE g n s).1)
    rw [e1, h n (Nat.lt_succ_self n)]
theorem look_same : ∀ {T U : Vt} {d s : Int}, T.Same U → T.look d s = U.look d s := by
  intro T
  induction T with
  | nil => intro U d s h; exact h.elim
  | mk h Y L K F ihL ihF =>
    intro U d s hS
    cases U with
    | nil => exact absurd rfl hS.right
    | mk g Y' L' K' F' =>
      obtain ⟨-, hf, -, hL, hF⟩ := hS
      replace hf : h.flat g := hf
      have q1 : h.k = g.k := hf.1
      have q12 : h.ln = g.ln := hf.ln
      have q13 : h.fn = g.fn := hf.fn
      have e1 : oneE (.mk h Y L K F) = oneE (.mk g Y' L' K' F') := by
        have hk : keysE K h.fn = keysE K' g.fn := by rw [← q13]; exact keysE_congr (fun i hi => (hF i hi).1)
        have ho : h.own = g.own := by unfold Vh.own Vh.nz Vh.tz0; rw [hf.k, hf.b, hf.n, hf.d, hf.e, hf.tk, hf.td, hf.tn, hf.tz, hf.x, hf.bn, hf.ln, hf.fn]
        unfold oneE
        show (if h.own = false then (6 : Int) else if ¬ Dec.vd h.n h.d h.e ∨ (h.k = 3 ∧ ¬ Mom.Ok h.tk h.td h.tn h.tz) then 2 else if utfB h.x = false then 5 else if 65536 < h.x.size ∨ 65536 < h.bn then 10 else keysE K h.fn) =
          (if g.own = false then (6 : Int) else if ¬ Dec.vd g.n g.d g.e ∨ (g.k = 3 ∧ ¬ Mom.Ok g.tk g.td g.tn g.tz) then 2 else if utfB g.x = false then 5 else if 65536 < g.x.size ∨ 65536 < g.bn then 10 else keysE K' g.fn)
        simp only [hk, ho, hf.k, hf.n, hf.d, hf.e, hf.tk, hf.td, hf.tn, hf.tz, hf.x, hf.bn]
      unfold Vt.look
      rw [e1, q1]
      have e2 : foldE (fun i t => (F i).look (d + 1) t) h.fn (s + 1) = foldE (fun i t => (F' i).look (d + 1) t) g.fn (s + 1) := by
        rw [← q13]; exact foldE_congr (fun i hi t => ihF i (hF i hi).2)
      have e3 : foldE (fun i t => (L i).look (d + 1) t) h.ln (s + 1) = foldE (fun i t => (L' i).look (d + 1) t) g.ln (s + 1) := by
        rw [← q12]; exact foldE_congr (fun i hi t => ihL i (hL i hi))
      rw [e2, e3]
end Go.Proofs.YtfkfboiblgoamaaDoor
/- A checked result of a tree that is the same. -/
namespace Go.Proofs.YtfkfboiblgoamaaDoor
open Go.RowKit

theorem res_chk {Z V : Vt} {t0 : Nat} {w w' : World} {e : Ending} (h : Z.Same V) (hR : ResOut Z.chkV t0 w e w') : ResOut V.chkV t0 w e w' := by
  have hl : Z.look 1 0 = V.look 1 0 := look_same h
  unfold Vt.chkV at hR ⊢
  rw [hl] at hR
  by_cases q : (V.look 1 0).2 ≠ 0
  · rw [if_pos q] at hR ⊢; exact hR
  · rw [if_neg q] at hR ⊢
    obtain ⟨X, h1, h2, h3, h4, h5, h6⟩ := hR
    exact ⟨X, h1, h2, h3, fun _ => (h4 rfl).trans h, fun q => absurd rfl q, h6⟩
theorem Vt.size_atN {W : World} {top : Nat} {T : Vt} {S : Nat → Stp} (hT : T.In W top) : ∀ {n : Nat}, (T.atN S n).2 = 0 → (T.atN S n).1.size ≤ T.size := by
  intro n
  induction n with
  | zero => intro _; exact Nat.le_refl _
  | succ n ih =>
    intro h
    have h1 := Vt.atN_le h (Nat.le_succ n)
    have h2 := Vt.atN_find h (Nat.lt_succ_self n)
    rw [Vt.atN_next h1 h2]
    exact Nat.le_trans (Vt.size_part (by intro e; have q := Vt.In.atN hT S n; rw [e] at q; exact q.elim) h2) (ih h1)
theorem chkR_bad {E : Int} {Z : Vt} (h : E ≠ 0) : chkR (Z, E) = (.z, E) := by unfold chkR; rw [if_pos h]
theorem chkR_ok {Z : Vt} : chkR (Z, 0) = Z.chkV := by unfold chkR; rw [if_neg (fun q => q rfl)]
end Go.Proofs.YtfkfboiblgoamaaDoor
/- make with a capacity of its own: the block that it makes. -/
namespace Go.Proofs.YtfkfboiblgoamaaDoor
open Go.RowKit

theorem wpList_make_cap {P : Program} (w : World) {ops : Array Oper} {rest : List Oper} {o : Oper} {a : Act} {Q : Exit → Act → World → Prop}
    (hg : o.guard = none) (l c : Operand) (t : TypeId) (hop : o.op = Op.makeSlice t l c)
    (e : TypeId) (i : TypeInfo) (z : Value) (size : Nat) (h1 : P.underlying t = some (.slice e)) (h2 : P.info? e = some i) (h3 : i.zero = some z) (h4 : i.size = size)
    (kl kc : IntKind) (L C : Int) (n m : Nat) (hl : a.eval l = .int kl L) (hc : a.eval c = .int kc C) (hL : L = (n : Int)) (hC : C = (m : Int)) (hnm : n ≤ m) (b2 : i.bytes * m ≤ 281474976710656) (b3 : m ≤ maxLen)
    (hK : ∀ w' cur, Whole w' w.heap.size e cur → cur.size = m * size → w.grownBy w' none → wpList P ops Q rest (a.put o.dst (.slice (some ⟨w.heap.size, 0, none⟩) n m)) w') :
    wpList P ops Q (o :: rest) a w := by
  refine wpList_plain hg fun K hK' => ?_
  have h63' : (m : Int) ≤ 9223372036854775807 := by
    have h := b3
    simp [maxLen] at h
    omega
  have hb' : (i.bytes : Int) * (m : Int) ≤ 281474976710656 := by
    have h : ((i.bytes * m : Nat) : Int) ≤ 281474976710656 := by omega
    rwa [Int.natCast_mul] at h
  have hrun := run_make (P := P) w t e i z h1 h2 h3 kl kc n m (by omega) (by omega) hb' h63'
  simp only [Int.toNat_natCast] at hrun
  subst hL hC h4
  unfold Oper.wp
  simp [execOp, hop, hl, hc, hrun, Result.andThen]
  exact hK' _ _ (hK _ _ (Whole.new w e _) (size_madeCells _ _) (World.grownBy_alloc w _ none))
end Go.Proofs.YtfkfboiblgoamaaDoor
/- A row that is copied into a longer block. -/
namespace Go.Proofs.YtfkfboiblgoamaaDoor
open Go.RowKit

theorem row_owned {W : World} {g n m C base : Nat} {t : TypeId} {f : Nat → Array Value} {cur : Array Value} (hf : ∀ j, (f j).size = C) (hg : Whole W g t cur) (hs : cur.size = m * C) (hnm : n ≤ m) (hm : m ≤ maxLen) (hb : base ≤ g) :
    (W.setRow g (spl cur 0 (catN f n))).ownsRow base t C (.slice (some ⟨g, 0, none⟩) n m) n (catN f n) := by
  have hl := catN_len hf n
  have hle : n * C ≤ m * C := Nat.mul_le_mul_right C hnm
  have hcl : cur.toList.length = m * C := by rw [Array.length_toList]; exact hs
  refine ⟨hl, .inr ⟨g, m, spl cur 0 (catN f n), rfl, hb, hg.setRow _, hnm, hm, ?_, ?_⟩⟩
  · unfold spl
    simp
    omega
  · unfold spl
    simp
    rw [← hl]
    simp
end Go.Proofs.YtfkfboiblgoamaaDoor
