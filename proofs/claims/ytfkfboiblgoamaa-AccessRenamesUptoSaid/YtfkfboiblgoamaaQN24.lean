/- Laid together for one claim: VtRrm, VtArmM, VtArnM. -/
import Derived.Test.YtfkfboiblgoamaaQN23
import Derived.Test.YtfkfboiblgoamaaQN11
import Derived.Test.YtfkfboiblgoamaaQN17
/- The reference's Remove. -/
namespace Go.Proofs.Ytfkfboiblgoamaa
open Go.RowKit
set_option linter.unusedSimpArgs false
set_option linter.unusedVariables false

noncomputable def Vt.remV (T : Vt) (S : Nat → Stp) (n : Nat) : Vt × Int := if pathB S n = true ∧ n ≠ 0 then Vt.chgV (Vt.last3 .z) n S T else (.z, 1)
theorem last3_is (X : Vt) : LastIs 3 (Vt.last3 X) X := fun T s top w hT hX ht hg _ _ hn => last3_any hT hX ht (Vt.good_own hg (by rintro rfl; exact hT.elim)) hn

set_option maxHeartbeats 8000000 in
set_option maxRecDepth 100000 in
theorem rrem_bad {T : Vt} {p : Pth} {top : Nat} {w : World} (hT : T.In w top) (hp : p.In w top) (ht : top ≤ w.heap.size) (h : pathB p.S p.n = false) :
    Calls Try.prog 24 #[.agg T.h.cells, .slice p.a p.n p.c] w (ResOut (.z, 1) top w) := by
  have hb0 := ((Below.refl w.heap.size w).alloc (Nat.le_refl _) (.cells T.h.cells 30)).alloc (by simp) (.cells Vh.zero.cells 30)
  have P := (Whole.new w 30 T.h.cells).alloc (.cells Vh.zero.cells 30)
  have Q := Whole.new (w.alloc (.cells T.h.cells 30)) 30 Vh.zero.cells
  rw [World.size_alloc] at Q
  have HV := Lib.hid (fun (w1 : World) (hb : Below w.heap.size w w1) => rpvalid_any (Pth.In.below hp (hb.mono ht)) (Nat.le_trans ht hb.size))
  have HE : Hid (∀ w', Below w.heap.size w w' → ResOut ((.z, 1) : Vt × Int) top w (.returned (.tuple #[.agg Vh.zero.cells, .int .i64 1])) w') := Lib.hid fun w' hb => res_of (X := .z) rfl (Vt.z_in _ _) (Vt.z_off _) (fun h => absurd h (by decide)) (fun _ => rfl) hb
  rw [h] at HV
  clear h
  clear hT hp
  simp only [Vh.cells, Vh.zero] at hb0 P Q ⊢
  go_enter Try.func24, Try.ntmps24
  go_wp2_with fail
  refine (HV.out _ hb0).mono ?_; rintro _ w1 ⟨rfl, hb1⟩
  have g1 := below_then hb0 hb1
  have Q1 := Q.below hb1 Q.lt
  have hone := Lib.hid (vh_all Vh.zero)
  go_wp2_with (refine wpList_store_row rfl 30 _ _ rfl (w.heap.size + 1) Vh.zero.cells rfl rfl 30 _ Q1 vh_row rfl hone.out ?_)
  exact bodyPost_ret (v := .tuple #[.agg Vh.zero.cells, .int .i64 1]) (ret_val2 (p := 4) (q := 5) rfl rfl (Q1.setRow Vh.zero.cells)) rfl (HE.out _ (below_setRow g1 (Nat.le_succ _) _))

set_option maxHeartbeats 8000000 in
set_option maxRecDepth 100000 in
theorem rrem_nil {T : Vt} {p : Pth} {top : Nat} {w : World} (hT : T.In w top) (hp : p.In w top) (ht : top ≤ w.heap.size) (h : pathB p.S p.n = true) (h0 : p.n = 0) :
    Calls Try.prog 24 #[.agg T.h.cells, .slice p.a p.n p.c] w (ResOut (.z, 1) top w) := by
  have hb0 := ((Below.refl w.heap.size w).alloc (Nat.le_refl _) (.cells T.h.cells 30)).alloc (by simp) (.cells Vh.zero.cells 30)
  have P := (Whole.new w 30 T.h.cells).alloc (.cells Vh.zero.cells 30)
  have Q := Whole.new (w.alloc (.cells T.h.cells 30)) 30 Vh.zero.cells
  rw [World.size_alloc] at Q
  have HV := Lib.hid (fun (w1 : World) (hb : Below w.heap.size w w1) => rpvalid_any (Pth.In.below hp (hb.mono ht)) (Nat.le_trans ht hb.size))
  have HE : Hid (∀ w', Below w.heap.size w w' → ResOut ((.z, 1) : Vt × Int) top w (.returned (.tuple #[.agg Vh.zero.cells, .int .i64 1])) w') := Lib.hid fun w' hb => res_of (X := .z) rfl (Vt.z_in _ _) (Vt.z_off _) (fun h => absurd h (by decide)) (fun _ => rfl) hb
  rw [h, h0] at HV
  rw [h0]
  clear h h0
  clear hT hp
  simp only [Vh.cells, Vh.zero] at hb0 P Q ⊢
  go_enter Try.func24, Try.ntmps24
  go_wp2_with fail
  refine (HV.out _ hb0).mono ?_; rintro _ w1 ⟨rfl, hb1⟩
  have g1 := below_then hb0 hb1
  have Q1 := Q.below hb1 Q.lt
  have hone := Lib.hid (vh_all Vh.zero)
  go_wp2_with (refine wpList_store_row rfl 30 _ _ rfl (w.heap.size + 1) Vh.zero.cells rfl rfl 30 _ Q1 vh_row rfl hone.out ?_)
  exact bodyPost_ret (v := .tuple #[.agg Vh.zero.cells, .int .i64 1]) (ret_val2 (p := 4) (q := 5) rfl rfl (Q1.setRow Vh.zero.cells)) rfl (HE.out _ (below_setRow g1 (Nat.le_succ _) _))

set_option maxHeartbeats 8000000 in
set_option maxRecDepth 100000 in
theorem rrem_ok {T : Vt} {p : Pth} {top : Nat} {w : World} (hT : T.In w top) (hp : p.In w top) (ht : top ≤ w.heap.size) (hg : T.good) (hsz : T.size ≤ 65536) (h : pathB p.S p.n = true) {m : Nat} (h0 : p.n = m + 1) :
    Calls Try.prog 24 #[.agg T.h.cells, .slice p.a p.n p.c] w (ResOut (Vt.chgV (Vt.last3 .z) (m + 1) p.S T) top w) := by
  have hb0 := ((Below.refl w.heap.size w).alloc (Nat.le_refl _) (.cells T.h.cells 30)).alloc (by simp) (.cells Vh.zero.cells 30)
  have P := (Whole.new w 30 T.h.cells).alloc (.cells Vh.zero.cells 30)
  have Q := Whole.new (w.alloc (.cells T.h.cells 30)) 30 Vh.zero.cells
  rw [World.size_alloc] at Q
  have HV := Lib.hid (fun (w1 : World) (hb : Below w.heap.size w w1) => rpvalid_any (Pth.In.below hp (hb.mono ht)) (Nat.le_trans ht hb.size))
  have HC := Lib.hid (fun (w1 : World) (hb : Below w.heap.size w w1) => rch_any (last3_is .z) ⟨by decide, by decide⟩ m p T top w1 h0 (Vt.In.below (hb.mono ht) hT) (Vt.z_in _ _) (Pth.In.below hp (hb.mono ht)) (Nat.le_trans ht hb.size) hg hsz (pathB_ok h).2)
  obtain ⟨R, hR⟩ : ∃ R, Vt.chgV (Vt.last3 .z) (m + 1) p.S T = R := ⟨_, rfl⟩
  rw [hR] at HC ⊢
  rw [h] at HV
  have n1 : ((m : Int) + 1 == 0) = false := beq_eq_false_iff_ne.2 (by omega)
  have n2 : (((m + 1 : Nat) : Int) == 0) = false := beq_eq_false_iff_ne.2 (by omega)
  have n3 : (m + 1 == 0) = false := beq_eq_false_iff_ne.2 (by omega)
  rw [h0] at HC HV ⊢
  clear hR hT hp hg hsz h h0
  rw [show (Vt.z).h = Vh.zero from rfl] at HC
  simp only [Vh.cells, Vh.zero] at hb0 P Q HC ⊢
  go_enter Try.func24, Try.ntmps24
  go_wp2_with fail
  refine (HV.out _ hb0).mono ?_; rintro _ w1 ⟨rfl, hb1⟩
  have g1 := below_then hb0 hb1
  have P1 := P.below hb1 P.lt
  have Q1 := Q.below hb1 Q.lt
  obtain ⟨c0, c1, c2, c3, c4, c5, c6, c7, c8, c9, c10, c11, c12⟩ := Whole.c13 (h := T.h) P1
  clear P Q hb0 hb1
  go_wp2_with fail
  refine (HC.out _ g1).mono ?_; rintro _ w2 ⟨Z, rfl, hZ, hZo, hZ0, hZ1, hb2⟩
  have g2 := below_then g1 hb2
  have hw1 := g1.size
  have hQ1 := Q1.lt
  have Q2 := Whole.below Q1 hb2 Q1.lt
  have hone := Lib.hid (vh_all Z.h)
  have hZ2 := Lib.hid (hZ.stays hZo (W' := w2.setRow (w.heap.size + 1) Z.h.cells) (fun b hb => setRow_other _ _ _ _ (by omega)) (by rw [size_setRow]; exact Nat.le_refl _))
  have hZo2 : Hid (Z.Off (fun b => b < top ∨ w.heap.size ≤ b)) := Lib.hid (hZo.mono fun b hb => by omega)
  have HZ0 := Lib.hid hZ0
  have HZ1 := Lib.hid hZ1
  clear hZ hZo hZ0 hZ1 hb2 g1 P1 Q1 hQ1 c0 c1 c2 c3 c4 c5 c6 c7 c8 c9 c10 c11 c12
  go_wp2_with (refine wpList_store_row rfl 30 _ _ rfl (w.heap.size + 1) Z.h.cells rfl rfl 30 _ Q2 vh_row rfl hone.out ?_)
  exact bodyPost_ret (v := .tuple #[.agg Z.h.cells, .int .i64 R.2]) (ret_val2 (p := 4) (q := 5) rfl rfl (Whole.setRow Q2 Z.h.cells)) rfl ⟨Z, rfl, hZ2.out, hZo2.out, HZ0.out, HZ1.out, below_setRow g2 (by omega) _⟩

theorem rrem_any {T : Vt} {p : Pth} {top : Nat} {w : World} (hT : T.In w top) (hp : p.In w top) (ht : top ≤ w.heap.size) (hg : T.good) (hsz : T.size ≤ 65536) :
    Calls Try.prog 24 #[.agg T.h.cells, .slice p.a p.n p.c] w (ResOut (T.remV p.S p.n) top w) := by
  unfold Vt.remV
  cases h : pathB p.S p.n with
  | false => rw [if_neg (by simp)]; exact rrem_bad hT hp ht h
  | true =>
    cases hn : p.n with
    | zero => rw [if_neg (by simp), ← hn]; exact rrem_nil hT hp ht h hn
    | succ m => rw [if_pos (by simp), ← hn]; rw [show Vt.chgV (Vt.last3 .z) p.n p.S T = Vt.chgV (Vt.last3 .z) (m + 1) p.S T by rw [hn]]; exact rrem_ok hT hp ht hg hsz h hn
end Go.Proofs.Ytfkfboiblgoamaa
/- A value without a part: what both sides make; plain. -/
namespace Go.Proofs.Ytfkfboiblgoamaa
open Go.RowKit

theorem Vt.upto_same : ∀ {X U : Vt} {d : Nat}, X.Same U → U.upto d → X.upto d := by
  intro X
  induction X with
  | nil => intro U d h; exact h.elim
  | mk h Y L K F ihL ihF =>
    intro U d hs hu
    cases U with
    | nil => exact absurd rfl hs.1
    | mk h' Y' L' K' F' =>
      obtain ⟨_, hf, _, hl, hk⟩ := hs
      have e1 : h.ln = h'.ln := hf.ln
      have e2 : h.fn = h'.fn := hf.fn
      exact ⟨hu.1, fun i hi => ihL i (hl i hi) (hu.2.1 i (by omega)), fun i hi => ihF i (hk i hi).2 (hu.2.2 i (by omega))⟩
theorem Vt.upto_setL {T X : Vt} {i d : Nat} (hT : T.upto d) (hX : X.upto (d - 1)) : (T.setL i X).upto d := by
  cases T with
  | nil => exact trivial
  | mk h Y L K F =>
    refine ⟨hT.1, fun j hj => ?_, hT.2.2⟩
    show Vt.upto (if j = i then X else L j) _
    split
    · exact hX
    · exact hT.2.1 j hj
theorem Vt.upto_setF {T X : Vt} {i d : Nat} (hT : T.upto d) (hX : X.upto (d - 1)) : (T.setF i X).upto d := by
  cases T with
  | nil => exact trivial
  | mk h Y L K F =>
    refine ⟨hT.1, hT.2.1, fun j hj => ?_⟩
    show Vt.upto (if j = i then X else F j) _
    split
    · exact hX
    · exact hT.2.2 j hj
theorem Vt.upto_wo {T : Vt} {s : Stp} {d : Nat} (hT : T.upto d) : (T.wo s).upto d := by
  unfold Vt.wo
  cases T with
  | nil => split <;> exact trivial
  | mk h Y L K F =>
    split
    · refine ⟨hT.1, fun j hj => ?_, hT.2.2⟩
      have hj' : j < h.ln - 1 := hj
      show Vt.upto (if j < _ then L j else L (j + 1)) _
      split
      · exact hT.2.1 j (by omega)
      · exact hT.2.1 (j + 1) (by omega)
    · refine ⟨hT.1, hT.2.1, fun j hj => ?_⟩
      have hj' : j < h.fn - 1 := hj
      show Vt.upto (if j < _ then F j else F (j + 1)) _
      split
      · exact hT.2.2 j (by omega)
      · exact hT.2.2 (j + 1) (by omega)
theorem Vt.upto_chg {g : Vt → Vt} (hg : ∀ U d, U.upto d → (g U).upto d) : ∀ {n : Nat} {S : Nat → Stp} {T : Vt} {d : Nat}, (T.atN S n).2 = 0 → T.upto d → (Vt.chg g n S T).upto d := by
  intro n
  induction n with
  | zero => intro S T d _ h; exact hg T d h
  | succ n ih =>
    intro S T d h0 h
    have hf : (T.find (S 0)).2 = 0 := Vt.atN_find (k := 0) h0 (by omega)
    rw [Vt.atN_shift hf] at h0
    rw [Vt.chg]
    cases hx : (S 0).ix with
    | true =>
      obtain ⟨e, _, hi, _⟩ := Vt.part_ix hf hx
      rw [if_pos rfl]
      rw [e] at h0
      refine Vt.upto_setL h (ih h0 ?_)
      cases T with
      | nil => exact trivial
      | mk hh Y L K F => exact h.2.1 _ hi
    | false =>
      obtain ⟨e, _, hi, _, _⟩ := Vt.part_key hf hx
      rw [if_neg (by simp)]
      rw [e] at h0
      refine Vt.upto_setF h (ih h0 ?_)
      cases T with
      | nil => exact trivial
      | mk hh Y L K F => exact h.2.2 _ hi
theorem remV_ok {T : Vt} {S : Nat → Stp} {m : Nat} (hB : pathB S (m + 1) = true) (h0 : (T.atN S (m + 1)).2 = 0) : T.remV S (m + 1) = (Vt.chg (fun U => U.wo (S m)) m S T, 0) := by
  unfold Vt.remV
  rw [if_pos ⟨hB, by omega⟩]
  refine Vt.chgV_chg (Vt.atN_le h0 (by omega)) ?_
  unfold Vt.last3
  rw [if_pos (Vt.atN_find h0 (by omega))]
theorem remV_at {T : Vt} {S : Nat → Stp} {m : Nat} (hB : pathB S (m + 1) = true) (h0 : (T.atN S (m + 1)).2 ≠ 0) : T.remV S (m + 1) = (.z, (T.atN S (m + 1)).2) := by
  unfold Vt.remV
  rw [if_pos ⟨hB, by omega⟩]
  by_cases h1 : (T.atN S m).2 = 0
  · have h2 : ((T.atN S m).1.find (S m)).2 ≠ 0 := fun e => h0 (by rw [Vt.atN_next h1 e])
    have e3 : Vt.last3 .z (T.atN S m).1 (S m) = (.z, ((T.atN S m).1.find (S m)).2) := by unfold Vt.last3; rw [if_neg h2]
    rw [Vt.chgV_err h1 (by rw [e3]; exact h2) (by rw [e3]), e3, Vt.atN_bad h1 h2 (Nat.lt_succ_self _)]
  · rw [Vt.chgV_atN h1, Vt.atN_stays h1 (m + 1) (by omega)]
theorem remV_bad {T : Vt} {S : Nat → Stp} {n : Nat} (h : pathB S n = false ∨ n = 0) : T.remV S n = (.z, 1) := by
  unfold Vt.remV
  rw [if_neg]
  rintro ⟨a, b⟩
  rcases h with h | h
  · rw [h] at a; cases a
  · exact b h
end Go.Proofs.Ytfkfboiblgoamaa
/- A value with a field renamed: what both sides make; plain. -/
namespace Go.Proofs.Ytfkfboiblgoamaa
open Go.RowKit

theorem Vt.upto_ren {T : Vt} {s : Stp} {key : ByteArray} {d : Nat} (hT : T.upto d) : (T.ren s key).upto d := by
  unfold Vt.ren
  cases T with
  | nil => exact trivial
  | mk h Y L K F => exact hT
/-- What Rename answers. -/
noncomputable def Vt.renV (T : Vt) (S : Nat → Stp) (n : Nat) (key : ByteArray) : Vt × Int :=
  if pathB S n = true ∧ n ≠ 0 ∧ (S (n - 1)).ix = false ∧ pathB (fun _ => stK key) 1 = true then
    (if (T.atN S n).2 ≠ 0 then (.z, (T.atN S n).2)
     else if @decide (key ≠ (S (n - 1)).key ∧ fidx (T.atN S (n - 1)).1.K key (T.atN S (n - 1)).1.h.fn < (T.atN S (n - 1)).1.h.fn) (Classical.propDecidable _) = true then (.z, 8)
     else (Vt.chg (fun U => U.ren (S (n - 1)) key) (n - 1) S T, 0))
  else (.z, 1)
theorem renV_bad {T : Vt} {S : Nat → Stp} {n : Nat} {key : ByteArray} (h : pathB S n = false ∨ n = 0 ∨ (S (n - 1)).ix = true ∨ pathB (fun _ => stK key) 1 = false) : T.renV S n key = (.z, 1) := by
  unfold Vt.renV
  rw [if_neg]
  rintro ⟨a, b, c, d⟩
  rcases h with h | h | h | h
  · rw [h] at a; cases a
  · exact b h
  · rw [h] at c; cases c
  · rw [h] at d; cases d
theorem renV_at {T : Vt} {S : Nat → Stp} {m : Nat} {key : ByteArray} (hB : pathB S (m + 1) = true) (hix : (S m).ix = false) (hk : pathB (fun _ => stK key) 1 = true) (h0 : (T.atN S (m + 1)).2 ≠ 0) : T.renV S (m + 1) key = (.z, (T.atN S (m + 1)).2) := by
  unfold Vt.renV
  simp only [Nat.add_sub_cancel]
  rw [if_pos ⟨hB, by omega, hix, hk⟩, if_pos h0]
theorem renV_dup {T : Vt} {S : Nat → Stp} {m : Nat} {key : ByteArray} (hB : pathB S (m + 1) = true) (hix : (S m).ix = false) (hk : pathB (fun _ => stK key) 1 = true) (h0 : (T.atN S (m + 1)).2 = 0) (hd : key ≠ (S m).key ∧ fidx (T.atN S m).1.K key (T.atN S m).1.h.fn < (T.atN S m).1.h.fn) : T.renV S (m + 1) key = (.z, 8) := by
  unfold Vt.renV
  simp only [Nat.add_sub_cancel]
  rw [if_pos ⟨hB, by omega, hix, hk⟩, if_neg (by simp [h0])]
  exact if_pos (@decide_eq_true _ _ hd)
theorem renV_ok {T : Vt} {S : Nat → Stp} {m : Nat} {key : ByteArray} (hB : pathB S (m + 1) = true) (hix : (S m).ix = false) (hk : pathB (fun _ => stK key) 1 = true) (h0 : (T.atN S (m + 1)).2 = 0) (hd : ¬ (key ≠ (S m).key ∧ fidx (T.atN S m).1.K key (T.atN S m).1.h.fn < (T.atN S m).1.h.fn)) : T.renV S (m + 1) key = (Vt.chg (fun U => U.ren (S m) key) m S T, 0) := by
  unfold Vt.renV
  simp only [Nat.add_sub_cancel]
  rw [if_pos ⟨hB, by omega, hix, hk⟩, if_neg (by simp [h0])]
  exact if_neg (fun h => hd (@of_decide_eq_true _ _ h))
end Go.Proofs.Ytfkfboiblgoamaa
