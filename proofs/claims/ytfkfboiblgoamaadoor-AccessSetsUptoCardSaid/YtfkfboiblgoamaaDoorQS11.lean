/- Laid together for one claim: VtLookM. -/
import Derived.Test.YtfkfboiblgoamaaDoorQS06
import Derived.Test.YtfkfboiblgoamaaDoorQS10
/- Values: what is wrong with a value, and how many values there are (plain). -/
namespace Go.Proofs.YtfkfboiblgoamaaDoor
open Go.RowKit

/-- One after the other, till an error. -/
def foldE (f : Nat → Int → Int × Int) : Nat → Int → Int × Int
  | 0, s => (s, 0)
  | n + 1, s => if (foldE f n s).2 ≠ 0 then foldE f n s else f n (foldE f n s).1
theorem foldE_stays {f : Nat → Int → Int × Int} {s : Int} {n : Nat} (h : (foldE f n s).2 ≠ 0) : ∀ m, n ≤ m → foldE f m s = foldE f n s := by
  intro m hm
  induction m with
  | zero => rw [Nat.le_zero.1 hm]
  | succ m ih =>
    by_cases hn : n = m + 1
    · rw [hn]
    · have e := ih (by omega)
      show (if (foldE f m s).2 ≠ 0 then foldE f m s else f m (foldE f m s).1) = _
      rw [if_pos (by rw [e]; exact h), e]
theorem foldE_succ {f : Nat → Int → Int × Int} {s : Int} {n : Nat} (h : (foldE f n s).2 = 0) : foldE f (n + 1) s = f n (foldE f n s).1 := by
  show (if (foldE f n s).2 ≠ 0 then foldE f n s else f n (foldE f n s).1) = _
  rw [if_neg (by simp [h])]
theorem foldE_all {f : Nat → Int → Int × Int} {s : Int} : ∀ {n : Nat}, (foldE f n s).2 = 0 → ∀ i, i < n → (foldE f i s).2 = 0 ∧ foldE f (i + 1) s = f i (foldE f i s).1 := by
  intro n h i hi
  have h0 : (foldE f i s).2 = 0 := Classical.byContradiction fun q => q (by rw [← foldE_stays q n (by omega)]; exact h)
  exact ⟨h0, foldE_succ h0⟩
/-- What datakitref07.look answers: how many values have been visited, and what is wrong. -/
noncomputable def Vt.look : Vt → Int → Int → Int × Int
  | .nil, _, s => (s, 0)
  | .mk h Y L K F, d, s =>
    if 48 < d then (s, 9) else if 65536 ≤ s then (s, 10) else if oneE (.mk h Y L K F) ≠ 0 then (s, oneE (.mk h Y L K F))
    else if h.k = 7 then foldE (fun i t => (F i).look (d + 1) t) h.fn (s + 1) else foldE (fun i t => (L i).look (d + 1) t) h.ln (s + 1)
theorem Vt.look_eq {T : Vt} (hT : T ≠ .nil) (d s : Int) : T.look d s =
    if 48 < d then (s, 9) else if 65536 ≤ s then (s, 10) else if oneE T ≠ 0 then (s, oneE T) else foldE (fun i t => (T.kid i).look (d + 1) t) T.kn (s + 1) := by
  cases T with
  | nil => exact absurd rfl hT
  | mk h Y L K F =>
    by_cases k7 : h.k = 7
    · have e1 : (Vt.mk h Y L K F).kn = h.fn := if_pos k7
      have e2 : ∀ i, (Vt.mk h Y L K F).kid i = F i := fun i => if_pos k7
      rw [e1]
      simp only [e2, Vt.look, if_pos k7]
    · have e1 : (Vt.mk h Y L K F).kn = h.ln := if_neg k7
      have e2 : ∀ i, (Vt.mk h Y L K F).kid i = L i := fun i => if_neg k7
      rw [e1]
      simp only [e2, Vt.look, if_neg k7]
theorem foldE_bd {f : Nat → Int → Int × Int} {s : Int} (hs : s ≤ 65536) (hf : ∀ i t, t ≤ 65536 → t ≤ (f i t).1 ∧ (f i t).1 ≤ 65536) : ∀ n, s ≤ (foldE f n s).1 ∧ (foldE f n s).1 ≤ 65536 := by
  intro n
  induction n with
  | zero => exact ⟨Int.le_refl _, hs⟩
  | succ n ih =>
    show s ≤ (if (foldE f n s).2 ≠ 0 then foldE f n s else f n (foldE f n s).1).1 ∧ (if (foldE f n s).2 ≠ 0 then foldE f n s else f n (foldE f n s).1).1 ≤ 65536
    split
    · exact ih
    · have := hf n _ ih.2
      omega
theorem Vt.look_bd : ∀ (T : Vt) (d s : Int), s ≤ 65536 → s ≤ (T.look d s).1 ∧ (T.look d s).1 ≤ 65536 := by
  intro T
  induction T with
  | nil => intro d s hs; exact ⟨Int.le_refl _, hs⟩
  | mk h Y L K F ihL ihF =>
    intro d s hs
    unfold Vt.look
    split
    · exact ⟨Int.le_refl _, hs⟩
    split
    · exact ⟨Int.le_refl _, hs⟩
    split
    · exact ⟨Int.le_refl _, hs⟩
    split
    · have := foldE_bd (s := s + 1) (f := fun i t => (F i).look (d + 1) t) (by omega) (fun i t ht => ihF i (d + 1) t ht) h.fn
      omega
    · have := foldE_bd (s := s + 1) (f := fun i t => (L i).look (d + 1) t) (by omega) (fun i t ht => ihL i (d + 1) t ht) h.ln
      omega
/-- A value that is no deeper than so much. -/
def Vt.upto : Vt → Nat → Prop
  | .nil, _ => True
  | .mk h _ L _ F, d => 0 < d ∧ (∀ i, i < h.ln → (L i).upto (d - 1)) ∧ (∀ i, i < h.fn → (F i).upto (d - 1))
theorem Vt.upto_le : ∀ {T : Vt} {d e : Nat}, T.upto d → d ≤ e → T.upto e := by
  intro T
  induction T with
  | nil => intro d e _ _; trivial
  | mk h Y L K F ihL ihF =>
    intro d e hd he
    exact ⟨by have := hd.1; omega, fun i hi => ihL i (hd.2.1 i hi) (by omega), fun i hi => ihF i (hd.2.2 i hi) (by omega)⟩
/-- Every value in it is right by itself. -/
def Vt.good : Vt → Prop
  | .nil => True
  | .mk h Y L K F => oneE (.mk h Y L K F) = 0 ∧ (∀ i, i < h.ln → (L i).good) ∧ (∀ i, i < h.fn → (F i).good)
theorem Vh.own_parts {h : Vh} (ho : h.own = true) : 0 ≤ h.k ∧ h.k ≤ 7 ∧ (h.k ≠ 1 → h.b = false) ∧ (h.k ≠ 2 → h.n = false ∧ h.d.toList = [] ∧ h.e = 0) ∧ (h.k ≠ 3 → h.tk = 0 ∧ h.td = 0 ∧ h.tn = 0 ∧ h.tz = 0) ∧
    (h.k ≠ 4 → h.x.toList = []) ∧ (h.k ≠ 5 → h.bn = 0) ∧ (h.k ≠ 6 → h.ln = 0) ∧ (h.k ≠ 7 → h.fn = 0) := by
  unfold Vh.own ownB Vh.nz Vh.tz0 at ho
  simp only [Bool.and_eq_true, Bool.or_eq_true, decide_eq_true_eq, Bool.not_eq_true', List.isEmpty_iff] at ho
  obtain ⟨⟨⟨⟨⟨⟨⟨⟨h0, h1⟩, h2⟩, h3⟩, h4⟩, h5⟩, h6⟩, h7⟩, h8⟩ := ho
  refine ⟨h0, h1, fun q => h2.resolve_left q, fun q => ?_, fun q => ?_, fun q => h5.resolve_left q, fun q => h6.resolve_left q, fun q => h7.resolve_left q, fun q => h8.resolve_left q⟩
  · obtain ⟨⟨a, b⟩, c⟩ := h3.resolve_left q
    exact ⟨a, b, c⟩
  · obtain ⟨⟨⟨a, b⟩, c⟩, d⟩ := h4.resolve_left q
    exact ⟨a, b, c, d⟩
theorem oneE_own {T : Vt} (h : oneE T = 0) : T.h.own = true := by
  unfold oneE at h
  split at h
  · omega
  · rename_i q
    simpa using q
theorem look_ok_fold {f : Nat → Int → Int × Int} {g : Nat → Nat} {n : Nat} {s : Int} (h : (foldE f n s).2 = 0) (hf : ∀ i t, i < n → (f i t).2 = 0 → (f i t).1 = t + (g i : Nat)) : (foldE f n s).1 = s + (sumN g n : Nat) := by
  have hall := foldE_all h
  have key : ∀ k, k ≤ n → (foldE f k s).1 = s + (sumN g k : Nat) := by
    intro k
    induction k with
    | zero => intro _; simp [foldE, sumN]
    | succ k ih =>
      intro hk
      have e := (hall k (by omega)).2
      have e2 : (f k (foldE f k s).1).2 = 0 := by
        rw [← e]
        by_cases q : k + 1 < n
        · exact (hall (k + 1) q).1
        · obtain rfl : k + 1 = n := by omega
          exact h
      rw [e, hf k _ (by omega) e2, ih (by omega)]
      show _ = s + ((sumN g k + g k : Nat) : Int)
      omega
  exact key n (Nat.le_refl _)
theorem look_ok_each {f : Nat → Int → Int × Int} {n : Nat} {s : Int} (h : (foldE f n s).2 = 0) {i : Nat} (hi : i < n) : ∃ t, (f i t).2 = 0 := by
  have hall := foldE_all h
  refine ⟨(foldE f i s).1, ?_⟩
  rw [← (hall i hi).2]
  by_cases q : i + 1 < n
  · exact (hall (i + 1) q).1
  · obtain rfl : i + 1 = n := by omega
    exact h
/-- A value in which nothing is wrong. -/
theorem Vt.look_ok : ∀ {T : Vt} {d : Nat} {s : Int}, T.whole → (T.look d s).2 = 0 → T.good ∧ T.upto (49 - d) ∧ (T.look d s).1 = s + (T.size : Nat) := by
  intro T
  induction T with
  | nil => intro d s hw; exact hw.elim
  | mk h Y L K F ihL ihF =>
    intro d s hw hl
    obtain ⟨wL, wF⟩ := hw
    rw [Vt.look_eq (by intro e; cases e)] at hl ⊢
    have c1 : ¬ (48 : Int) < d := fun q => by rw [if_pos q] at hl; simp at hl
    rw [if_neg c1] at hl ⊢
    have c2 : ¬ (65536 : Int) ≤ s := fun q => by rw [if_pos q] at hl; simp at hl
    rw [if_neg c2] at hl ⊢
    have c3 : oneE (.mk h Y L K F) = 0 := Classical.byContradiction fun q => by rw [if_pos q] at hl; exact q hl
    rw [if_neg (by simp [c3])] at hl ⊢
    have ow := Vh.own_parts (oneE_own c3)
    rw [Vt.size_eq (by intro e; cases e)]
    have cast : ((d : Int) + 1) = ((d + 1 : Nat) : Int) := by omega
    have hsz := look_ok_fold (g := fun i => ((Vt.mk h Y L K F).kid i).size) hl (fun i t hi h0 => by
      rw [cast] at h0 ⊢
      by_cases k7 : h.k = 7
      · have e1 : (Vt.mk h Y L K F).kid i = F i := by unfold Vt.kid; rw [if_pos (show (Vt.mk h Y L K F).h.k = 7 from k7)]; rfl
        have e2 : (Vt.mk h Y L K F).kn = h.fn := by unfold Vt.kn; rw [if_pos (show (Vt.mk h Y L K F).h.k = 7 from k7)]; rfl
        rw [e1] at h0 ⊢
        exact (ihF i (wF i (by omega)) h0).2.2
      · have e1 : (Vt.mk h Y L K F).kid i = L i := by unfold Vt.kid; rw [if_neg (show ¬ (Vt.mk h Y L K F).h.k = 7 from k7)]; rfl
        have e2 : (Vt.mk h Y L K F).kn = h.ln := by unfold Vt.kn; rw [if_neg (show ¬ (Vt.mk h Y L K F).h.k = 7 from k7)]; rfl
        rw [e1] at h0 ⊢
        exact (ihL i (wL i (by omega)) h0).2.2)
    have hkid : ∀ i, i < (Vt.mk h Y L K F).kn → ((Vt.mk h Y L K F).kid i).good ∧ ((Vt.mk h Y L K F).kid i).upto (49 - d - 1) := by
      intro i hi
      obtain ⟨t, h0⟩ := look_ok_each hl hi
      rw [cast] at h0
      have e0 : 49 - d - 1 = 49 - (d + 1) := by omega
      rw [e0]
      by_cases k7 : h.k = 7
      · have e1 : (Vt.mk h Y L K F).kid i = F i := by unfold Vt.kid; rw [if_pos (show (Vt.mk h Y L K F).h.k = 7 from k7)]; rfl
        have e2 : (Vt.mk h Y L K F).kn = h.fn := by unfold Vt.kn; rw [if_pos (show (Vt.mk h Y L K F).h.k = 7 from k7)]; rfl
        rw [e1] at h0 ⊢
        have := ihF i (wF i (by omega)) h0
        exact ⟨this.1, this.2.1⟩
      · have e1 : (Vt.mk h Y L K F).kid i = L i := by unfold Vt.kid; rw [if_neg (show ¬ (Vt.mk h Y L K F).h.k = 7 from k7)]; rfl
        have e2 : (Vt.mk h Y L K F).kn = h.ln := by unfold Vt.kn; rw [if_neg (show ¬ (Vt.mk h Y L K F).h.k = 7 from k7)]; rfl
        rw [e1] at h0 ⊢
        have := ihL i (wL i (by omega)) h0
        exact ⟨this.1, this.2.1⟩
    have hLn : ∀ i, i < h.ln → (L i).good ∧ (L i).upto (49 - d - 1) := by
      intro i hi
      have k6 : h.k = 6 := Classical.byContradiction fun q => by have e : h.ln = 0 := ow.2.2.2.2.2.2.2.1 q; omega
      have k7 : ¬ h.k = 7 := by omega
      have e1 : (Vt.mk h Y L K F).kid i = L i := by unfold Vt.kid; rw [if_neg (show ¬ (Vt.mk h Y L K F).h.k = 7 from k7)]; rfl
      have e2 : (Vt.mk h Y L K F).kn = h.ln := by unfold Vt.kn; rw [if_neg (show ¬ (Vt.mk h Y L K F).h.k = 7 from k7)]; rfl
      rw [← e1]
      exact hkid i (by omega)
    have hFn : ∀ i, i < h.fn → (F i).good ∧ (F i).upto (49 - d - 1) := by
      intro i hi
      have k7 : h.k = 7 := Classical.byContradiction fun q => by have e : h.fn = 0 := ow.2.2.2.2.2.2.2.2 q; omega
      have e1 : (Vt.mk h Y L K F).kid i = F i := by unfold Vt.kid; rw [if_pos (show (Vt.mk h Y L K F).h.k = 7 from k7)]; rfl
      have e2 : (Vt.mk h Y L K F).kn = h.fn := by unfold Vt.kn; rw [if_pos (show (Vt.mk h Y L K F).h.k = 7 from k7)]; rfl
      rw [← e1]
      exact hkid i (by omega)
    refine ⟨⟨c3, fun i hi => (hLn i hi).1, fun i hi => (hFn i hi).1⟩, ⟨by omega, fun i hi => (hLn i hi).2, fun i hi => (hFn i hi).2⟩, ?_⟩
    rw [hsz]
    omega
end Go.Proofs.YtfkfboiblgoamaaDoor
