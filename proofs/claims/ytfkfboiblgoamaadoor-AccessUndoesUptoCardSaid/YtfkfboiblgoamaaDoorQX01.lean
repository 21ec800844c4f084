/- Laid together for a claim: VkGetM, VtRemV, VtArmM, VkUndoM. -/
import Derived.Test.YtfkfboiblgoamaaDoorQB26
import Derived.Test.YtfkfboiblgoamaaDoorQB15
import Derived.Test.YtfkfboiblgoamaaDoorQB23
import Derived.Test.YtfkfboiblgoamaaDoorQI02
/- What lies at a path of a value that was changed at a path: plain. -/
namespace Go.Proofs.YtfkfboiblgoamaaDoor
open Go.RowKit

theorem fidx_congr {K K' : Nat → ByteArray} {key : ByteArray} : ∀ {n : Nat}, (∀ i, i < n → K i = K' i) → fidx K key n = fidx K' key n := by
  intro n
  induction n with
  | zero => intro _; rfl
  | succ n ih =>
    intro h
    unfold fidx
    rw [ih (fun i hi => h i (by omega)), h n (Nat.lt_succ_self n)]
theorem find_same {T U : Vt} {s : Stp} (h : T.Same U) : T.find s = U.find s := by
  have fl := h.flat
  have e : fidx T.K s.key T.h.fn = fidx U.K s.key U.h.fn := by rw [fidx_congr (fun i hi => h.K hi), fl.fn]
  unfold Vt.find
  rw [e, fl.k, fl.ln, fl.fn]
theorem part_same {T U : Vt} {s : Stp} (h : T.Same U) (h0 : (T.find s).2 = 0) : (T.part (T.find s).1.toNat).Same (U.part (U.find s).1.toNat) := by
  have h1 : (U.find s).2 = 0 := by rw [← find_same h]; exact h0
  cases hx : s.ix with
  | true =>
    obtain ⟨a1, a2, a3, _⟩ := Vt.part_ix h0 hx
    obtain ⟨b1, _, _, _⟩ := Vt.part_ix h1 hx
    rw [a1, b1, ← find_same h]
    exact h.L a3
  | false =>
    obtain ⟨a1, a2, a3, _⟩ := Vt.part_key h0 hx
    obtain ⟨b1, _, _, _⟩ := Vt.part_key h1 hx
    rw [a1, b1, ← find_same h]
    exact h.F a3
theorem Vt.atN_fail {T : Vt} {S : Nat → Stp} {k : Nat} (h0 : (T.atN S k).2 = 0) (hb : ((T.atN S k).1.find (S k)).2 ≠ 0) : T.atN S (k + 1) = ((T.atN S k).1, ((T.atN S k).1.find (S k)).2) := by
  show (if (T.atN S k).2 ≠ 0 then _ else _) = _
  rw [if_neg (by simp [h0]), if_pos hb]
theorem atN_same {T U : Vt} {S : Nat → Stp} (h : T.Same U) : ∀ n, (T.atN S n).2 = (U.atN S n).2 ∧ (T.atN S n).1.Same (U.atN S n).1 := by
  intro n
  induction n with
  | zero => exact ⟨rfl, h⟩
  | succ n ih =>
    obtain ⟨e, hs⟩ := ih
    have ef := find_same (s := S n) hs
    by_cases c : (T.atN S n).2 = 0
    · have c' : (U.atN S n).2 = 0 := by rw [← e]; exact c
      by_cases d : ((T.atN S n).1.find (S n)).2 = 0
      · rw [Vt.atN_next c d, Vt.atN_next c' (by rw [← ef]; exact d)]
        exact ⟨rfl, part_same hs d⟩
      · rw [Vt.atN_fail c d, Vt.atN_fail c' (by rw [← ef]; exact d)]
        exact ⟨by rw [ef], hs⟩
    · rw [Vt.atN_stays c (n + 1) (Nat.le_succ _), Vt.atN_stays (by rw [← e]; exact c) (n + 1) (Nat.le_succ _)]
      exact ⟨e, hs⟩
theorem find_nil {s : Stp} : (Vt.nil.find s).2 ≠ 0 := by
  unfold Vt.find
  have k : Vt.nil.h.k = 0 := rfl
  rw [k]
  split <;> simp
theorem setP_find {T X : Vt} {i : Nat} {s : Stp} : (T.setP i X).find s = T.find s := by
  cases T with
  | nil => unfold Vt.setP; split <;> rfl
  | mk h Y L K F => unfold Vt.setP; split <;> rfl
theorem setP_part {T X : Vt} {s : Stp} (h0 : (T.find s).2 = 0) : (T.setP (T.find s).1.toNat X).part (T.find s).1.toNat = X := by
  cases T with
  | nil => exact absurd h0 find_nil
  | mk h Y L K F =>
    unfold Vt.setP Vt.part
    by_cases k6 : h.k = 6
    · have e : (Vt.mk h Y L K F).h.k = 6 := k6
      rw [if_pos e]
      show (if h.k = 6 then _ else _) = X
      rw [if_pos k6]
      exact if_pos rfl
    · have e : ¬ (Vt.mk h Y L K F).h.k = 6 := k6
      rw [if_neg e]
      show (if h.k = 6 then _ else _) = X
      rw [if_neg k6]
      exact if_pos rfl
theorem setP_other {T X : Vt} {i j : Nat} (hij : j ≠ i) : (T.setP i X).part j = T.part j := by
  cases T with
  | nil => unfold Vt.setP; split <;> rfl
  | mk h Y L K F =>
    unfold Vt.setP Vt.part
    by_cases k6 : h.k = 6
    · have e : (Vt.mk h Y L K F).h.k = 6 := k6
      rw [if_pos e, if_pos e]
      show (if h.k = 6 then _ else _) = _
      rw [if_pos k6]
      exact if_neg hij
    · have e : ¬ (Vt.mk h Y L K F).h.k = 6 := k6
      rw [if_neg e, if_neg e]
      show (if h.k = 6 then _ else _) = _
      rw [if_neg k6]
      exact if_neg hij
theorem setP_setP {T X Z : Vt} {i : Nat} : (T.setP i X).setP i Z = T.setP i Z := by
  cases T with
  | nil => unfold Vt.setP; split <;> rfl
  | mk h Y L K F =>
    unfold Vt.setP
    by_cases k6 : h.k = 6
    · have e : (Vt.mk h Y L K F).h.k = 6 := k6
      rw [if_pos e, if_pos e]
      show (if h.k = 6 then _ else _) = _
      rw [if_pos k6]
      show Vt.mk h Y _ K F = Vt.mk h Y _ K F
      congr 1
      funext j
      dsimp only
      split <;> rfl
    · have e : ¬ (Vt.mk h Y L K F).h.k = 6 := k6
      rw [if_neg e, if_neg e]
      show (if h.k = 6 then _ else _) = _
      rw [if_neg k6]
      show Vt.mk h Y L K _ = Vt.mk h Y L K _
      congr 1
      funext j
      dsimp only
      split <;> rfl
theorem setP_self {T : Vt} {i : Nat} : T.setP i (T.part i) = T := by
  cases T with
  | nil => unfold Vt.setP; split <;> rfl
  | mk h Y L K F =>
    unfold Vt.setP Vt.part
    by_cases k6 : h.k = 6
    · have e : (Vt.mk h Y L K F).h.k = 6 := k6
      rw [if_pos e, if_pos e]
      show Vt.mk h Y _ K F = Vt.mk h Y L K F
      congr 1
      funext j
      show (if j = i then L i else L j) = L j
      split
      · rename_i q; rw [q]
      · rfl
    · have e : ¬ (Vt.mk h Y L K F).h.k = 6 := k6
      rw [if_neg e, if_neg e]
      show Vt.mk h Y L K _ = Vt.mk h Y L K F
      congr 1
      funext j
      show (if j = i then F i else F j) = F j
      split
      · rename_i q; rw [q]
      · rfl
theorem setP_same2 {T U X Z : Vt} {i : Nat} (h : T.Same U) (hx : X.Same Z) : (T.setP i X).Same (U.setP i Z) := by
  have fl := h.flat
  cases T with
  | nil => exact h.elim
  | mk h1 Y L K F =>
  cases U with
  | nil => exact absurd rfl h.right
  | mk g Y' L' K' F' =>
    have ek : h1.k = g.k := fl.k
    unfold Vt.setP
    by_cases k6 : h1.k = 6
    · rw [if_pos (show (Vt.mk h1 Y L K F).h.k = 6 from k6), if_pos (show (Vt.mk g Y' L' K' F').h.k = 6 from ek ▸ k6)]
      refine ⟨(fun e => by cases e), fl, fun j hj => h.Y hj, fun j hj => ?_, fun j hj => ⟨h.K hj, h.F hj⟩⟩
      show Vt.Same (if j = i then X else L j) (if j = i then Z else L' j)
      split
      · exact hx
      · exact h.L hj
    · rw [if_neg (show ¬ (Vt.mk h1 Y L K F).h.k = 6 from k6), if_neg (show ¬ (Vt.mk g Y' L' K' F').h.k = 6 from fun q => k6 (ek.trans q))]
      refine ⟨(fun e => by cases e), fl, fun j hj => h.Y hj, fun j hj => h.L hj, fun j hj => ⟨h.K hj, ?_⟩⟩
      show Vt.Same (if j = i then X else F j) (if j = i then Z else F' j)
      split
      · exact hx
      · exact h.F hj
theorem chg_atN {f : Vt → Vt} : ∀ {n : Nat} {S : Nat → Stp} {T : Vt}, (T.atN S n).2 = 0 → (Vt.chg f n S T).atN S n = (f (T.atN S n).1, 0) := by
  intro n
  induction n with
  | zero => intro S T _; rfl
  | succ n ih =>
    intro S T h
    have h0 : (T.find (S 0)).2 = 0 := Vt.atN_find (k := 0) h (by omega)
    rw [Vt.chg_succ2 h0, Vt.atN_shift (by rw [setP_find]; exact h0), setP_find, setP_part h0, Vt.atN_shift h0]
    rw [Vt.atN_shift h0] at h
    exact ih h
theorem chg_same {f g : Vt → Vt} : ∀ {n : Nat} {S : Nat → Stp} {T U : Vt}, T.Same U → (T.atN S n).2 = 0 → (f (T.atN S n).1).Same (g (U.atN S n).1) → (Vt.chg f n S T).Same (Vt.chg g n S U) := by
  intro n
  induction n with
  | zero => intro S T U _ _ hf; exact hf
  | succ n ih =>
    intro S T U h h1 hf
    have h0 : (T.find (S 0)).2 = 0 := Vt.atN_find (k := 0) h1 (by omega)
    have h0' : (U.find (S 0)).2 = 0 := by rw [← find_same h]; exact h0
    rw [Vt.atN_shift h0, Vt.atN_shift h0'] at hf
    rw [Vt.atN_shift h0] at h1
    rw [Vt.chg_succ2 h0, Vt.chg_succ2 h0', ← find_same h]
    refine setP_same2 h ?_
    have q := ih (part_same h h0) h1 hf
    rw [← find_same h] at q
    exact q
theorem chg_chg {f g : Vt → Vt} : ∀ {n : Nat} {S : Nat → Stp} {T : Vt}, (T.atN S n).2 = 0 → Vt.chg g n S (Vt.chg f n S T) = Vt.chg (fun U => g (f U)) n S T := by
  intro n
  induction n with
  | zero => intro S T _; rfl
  | succ n ih =>
    intro S T h
    have h0 : (T.find (S 0)).2 = 0 := Vt.atN_find (k := 0) h (by omega)
    rw [Vt.chg_succ2 (f := f) h0, Vt.chg_succ2 (by rw [setP_find]; exact h0), setP_find, setP_part h0, setP_setP, Vt.chg_succ2 h0]
    rw [Vt.atN_shift h0] at h
    rw [ih h]
theorem whole_part {T : Vt} {s : Stp} (hw : T.whole) (h0 : (T.find s).2 = 0) : (T.part (T.find s).1.toNat).whole := (part_same (Vt.Same.rfl' hw) h0).whole
theorem chg_id {f : Vt → Vt} : ∀ {n : Nat} {S : Nat → Stp} {T : Vt}, T.whole → (T.atN S n).2 = 0 → (f (T.atN S n).1).Same (T.atN S n).1 → (Vt.chg f n S T).Same T := by
  intro n
  induction n with
  | zero => intro S T _ _ hf; exact hf
  | succ n ih =>
    intro S T hw h hf
    have h0 : (T.find (S 0)).2 = 0 := Vt.atN_find (k := 0) h (by omega)
    rw [Vt.atN_shift h0] at h hf
    rw [Vt.chg_succ2 h0]
    have q := setP_same2 (i := (T.find (S 0)).1.toNat) (Vt.Same.rfl' hw) (ih (whole_part hw h0) h hf)
    rw [setP_self] at q
    exact q
/-- A new field: found, and gone again. -/
theorem more_find {M X : Vt} {s : Stp} (hM : M.whole) (hix : s.ix = false) (h7 : (M.find s).2 = 7) : (M.moreF s.key X).find s = ((M.h.fn : Int), 0) ∧ (M.moreF s.key X).part M.h.fn = X ∧ ((M.moreF s.key X).wo s).Same M := by
  have k7 : M.h.k = 7 := by
    unfold Vt.find at h7
    rw [if_neg (by rw [hix]; decide)] at h7
    split at h7
    · cases h7
    · rename_i q; exact Classical.byContradiction q
  have hn : ¬ fidx M.K s.key M.h.fn < M.h.fn := by
    intro q
    unfold Vt.find at h7
    rw [if_neg (by rw [hix]; decide), if_neg (fun r => r k7), if_pos q] at h7
    cases h7
  cases M with
  | nil => exact hM.elim
  | mk h Y L K F =>
    have k7' : h.k = 7 := k7
    have hn' : ¬ fidx K s.key h.fn < h.fn := hn
    have hk : ∀ j, j < h.fn → K j ≠ s.key := fun j hj => (fidx_spec (K := K) (key := s.key) (n := h.fn)).2 j (by omega)
    have hi : fidx (fun j => if j < h.fn then K j else s.key) s.key (h.fn + 1) = h.fn :=
      fidx_first (fun j hj => by rw [if_pos hj]; exact hk j hj) (by rw [if_neg (Nat.lt_irrefl _)]) (Nat.lt_succ_self _)
    have hf : ((Vt.mk h Y L K F).moreF s.key X).find s = ((h.fn : Int), 0) := by
      show (if s.ix = true then _ else if h.k ≠ 7 then _ else if fidx (fun j => if j < h.fn then K j else s.key) s.key (h.fn + 1) < h.fn + 1 then (((fidx (fun j => if j < h.fn then K j else s.key) s.key (h.fn + 1) : Nat) : Int), (0 : Int)) else (0, 7)) = _
      rw [if_neg (by rw [hix]; decide), if_neg (fun r => r k7'), hi, if_pos (Nat.lt_succ_self _)]
    refine ⟨hf, ?_, ?_⟩
    · show (if h.k = 6 then _ else (if h.fn < h.fn then F h.fn else X)) = X
      rw [if_neg (by omega), if_neg (Nat.lt_irrefl _)]
    · unfold Vt.wo
      rw [if_neg (by rw [hix]; decide), hf]
      rw [Int.toNat_natCast]
      refine ⟨(fun e => by cases e), ⟨rfl, rfl, rfl, rfl, rfl, rfl, rfl, rfl, rfl, rfl, rfl, rfl, Nat.add_sub_cancel _ 1⟩, fun _ _ => rfl, fun j hj => Vt.Same.rfl' (hM.1 j hj), fun j hj => ?_⟩
      have hj' : j < h.fn := by have q : j < h.fn + 1 - 1 := hj; omega
      show (if j < h.fn then (if j < h.fn then K j else s.key) else _) = K j ∧ Vt.Same (if j < h.fn then (if j < h.fn then F j else X) else _) (F j)
      rw [if_pos hj', if_pos hj', if_pos hj', if_pos hj']
      exact ⟨rfl, Vt.Same.rfl' (hM.2 j hj')⟩
/-- A new element: found, and gone again. -/
theorem insL_find {M X : Vt} {s : Stp} (hM : M.whole) (hix : s.ix = true) (k6 : M.h.k = 6) (h0 : 0 ≤ s.n) (hn : s.n ≤ (M.h.ln : Int)) : (M.insL s.n.toNat X).find s = (s.n, 0) ∧ (M.insL s.n.toNat X).part s.n.toNat = X ∧ ((M.insL s.n.toNat X).wo s).Same M := by
  cases M with
  | nil => exact hM.elim
  | mk h Y L K F =>
    have k6' : h.k = 6 := k6
    have hn' : s.n ≤ (h.ln : Int) := hn
    have hf : ((Vt.mk h Y L K F).insL s.n.toNat X).find s = (s.n, 0) := by
      show (if s.ix = true then (if h.k ≠ 6 then _ else if s.n < 0 ∨ ((h.ln + 1 : Nat) : Int) ≤ s.n then _ else (s.n, (0 : Int))) else _) = _
      rw [if_pos hix, if_neg (fun r => r k6'), if_neg (by omega)]
    refine ⟨hf, ?_, ?_⟩
    · show (if h.k = 6 then (if s.n.toNat < s.n.toNat then _ else if s.n.toNat = s.n.toNat then X else _) else _) = X
      rw [if_pos k6', if_neg (Nat.lt_irrefl _), if_pos rfl]
    · unfold Vt.wo
      rw [if_pos hix, hf]
      refine ⟨(fun e => by cases e), ⟨rfl, rfl, rfl, rfl, rfl, rfl, rfl, rfl, rfl, rfl, rfl, Nat.add_sub_cancel _ 1, rfl⟩, fun _ _ => rfl, fun j hj => ?_, fun j hj => ⟨rfl, Vt.Same.rfl' (hM.2 j hj)⟩⟩
      have hj' : j < h.ln := by have q : j < h.ln + 1 - 1 := hj; omega
      show Vt.Same (if j < s.n.toNat then (if j < s.n.toNat then L j else if j = s.n.toNat then X else L (j - 1)) else (if j + 1 < s.n.toNat then L (j + 1) else if j + 1 = s.n.toNat then X else L (j + 1 - 1))) (L j)
      by_cases q : j < s.n.toNat
      · rw [if_pos q, if_pos q]; exact Vt.Same.rfl' (hM.1 j hj')
      · rw [if_neg q, if_neg (by omega), if_neg (by omega), Nat.add_sub_cancel]; exact Vt.Same.rfl' (hM.1 j hj')
theorem wo_same {U V : Vt} {s : Stp} (h : U.Same V) (h0 : (U.find s).2 = 0) : (U.wo s).Same (V.wo s) := by
  have fl := h.flat
  unfold Vt.wo
  rw [← find_same h]
  cases hx : s.ix with
  | true =>
    obtain ⟨_, _, hi, _⟩ := Vt.part_ix h0 hx
    rw [if_pos rfl, if_pos rfl]
    cases U with
    | nil => exact h.elim
    | mk h1 Y L K F =>
    cases V with
    | nil => exact absurd rfl h.right
    | mk g Y' L' K' F' =>
      have e : h1.ln = g.ln := fl.ln
      refine ⟨(fun e => by cases e), ⟨fl.k, fl.b, fl.n, fl.d, fl.e, fl.tk, fl.td, fl.tn, fl.tz, fl.x, fl.bn, by show h1.ln - 1 = g.ln - 1; rw [e], fl.fn⟩, fun j hj => h.Y hj, fun j hj => ?_, fun j hj => ⟨h.K hj, h.F hj⟩⟩
      have hj' : j < h1.ln - 1 := hj
      show Vt.Same (if j < _ then L j else L (j + 1)) (if j < _ then L' j else L' (j + 1))
      split
      · exact h.L (show j < h1.ln by omega)
      · exact h.L (show j + 1 < h1.ln by omega)
  | false =>
    rw [if_neg (by decide), if_neg (by decide)]
    cases U with
    | nil => exact h.elim
    | mk h1 Y L K F =>
    cases V with
    | nil => exact absurd rfl h.right
    | mk g Y' L' K' F' =>
      have e : h1.fn = g.fn := fl.fn
      refine ⟨(fun e => by cases e), ⟨fl.k, fl.b, fl.n, fl.d, fl.e, fl.tk, fl.td, fl.tn, fl.tz, fl.x, fl.bn, fl.ln, by show h1.fn - 1 = g.fn - 1; rw [e]⟩, fun j hj => h.Y hj, fun j hj => h.L hj, fun j hj => ?_⟩
      have hj' : j < h1.fn - 1 := hj
      show (if j < _ then K j else K (j + 1)) = (if j < _ then K' j else K' (j + 1)) ∧ Vt.Same (if j < _ then F j else F (j + 1)) (if j < _ then F' j else F' (j + 1))
      split
      · exact ⟨h.K (show j < h1.fn by omega), h.F (show j < h1.fn by omega)⟩
      · exact ⟨h.K (show j + 1 < h1.fn by omega), h.F (show j + 1 < h1.fn by omega)⟩
end Go.Proofs.YtfkfboiblgoamaaDoor
/- What Remove answers: plain. -/
namespace Go.Proofs.YtfkfboiblgoamaaDoor

noncomputable def Vt.remV (T : Vt) (S : Nat → Stp) (n : Nat) : Vt × Int := if pathB S n = true ∧ n ≠ 0 then Vt.chgV (Vt.last3 .z) n S T else (.z, 1)
end Go.Proofs.YtfkfboiblgoamaaDoor
/- A value without a part: what both sides make; plain. -/
namespace Go.Proofs.YtfkfboiblgoamaaDoor
open Go.RowKit

theorem Vt.upto_same : ∀ {X U : Vt} {d : Nat}, X.Same U → U.upto d → X.upto d := by
  intro X
  induction X with
  | nil => intro U d h; exact h.elim
  | mk h Y L K F ihL ihF =>
    intro U d hs hu
    cases U with
    | nil => exact absurd rfl hs.1
    | mk h' Y' L' K' F' =>
      obtain ⟨_, hf, _, hl, hk⟩ := hs
      have e1 : h.ln = h'.ln := hf.ln
      have e2 : h.fn = h'.fn := hf.fn
      exact ⟨hu.1, fun i hi => ihL i (hl i hi) (hu.2.1 i (by omega)), fun i hi => ihF i (hk i hi).2 (hu.2.2 i (by omega))⟩
theorem Vt.upto_setL {T X : Vt} {i d : Nat} (hT : T.upto d) (hX : X.upto (d - 1)) : (T.setL i X).upto d := by
  cases T with
  | nil => exact trivial
  | mk h Y L K F =>
    refine ⟨hT.1, fun j hj => ?_, hT.2.2⟩
    show Vt.upto (if j = i then X else L j) _
    split
    · exact hX
    · exact hT.2.1 j hj
theorem Vt.upto_setF {T X : Vt} {i d : Nat} (hT : T.upto d) (hX : X.upto (d - 1)) : (T.setF i X).upto d := by
  cases T with
  | nil => exact trivial
  | mk h Y L K F =>
    refine ⟨hT.1, hT.2.1, fun j hj => ?_⟩
    show Vt.upto (if j = i then X else F j) _
    split
    · exact hX
    · exact hT.2.2 j hj
theorem Vt.upto_wo {T : Vt} {s : Stp} {d : Nat} (hT : T.upto d) : (T.wo s).upto d := by
  unfold Vt.wo
  cases T with
  | nil => split <;> exact trivial
  | mk h Y L K F =>
    split
    · refine ⟨hT.1, fun j hj => ?_, hT.2.2⟩
      have hj' : j < h.ln - 1 := hj
      show Vt.upto (if j < _ then L j else L (j + 1)) _
      split
      · exact hT.2.1 j (by omega)
      · exact hT.2.1 (j + 1) (by omega)
    · refine ⟨hT.1, hT.2.1, fun j hj => ?_⟩
      have hj' : j < h.fn - 1 := hj
      show Vt.upto (if j < _ then F j else F (j + 1)) _
      split
      · exact hT.2.2 j (by omega)
      · exact hT.2.2 (j + 1) (by omega)
theorem Vt.upto_chg {g : Vt → Vt} (hg : ∀ U d, U.upto d → (g U).upto d) : ∀ {n : Nat} {S : Nat → Stp} {T : Vt} {d : Nat}, (T.atN S n).2 = 0 → T.upto d → (Vt.chg g n S T).upto d := by
  intro n
  induction n with
  | zero => intro S T d _ h; exact hg T d h
  | succ n ih =>
    intro S T d h0 h
    have hf : (T.find (S 0)).2 = 0 := Vt.atN_find (k := 0) h0 (by omega)
    rw [Vt.atN_shift hf] at h0
    rw [Vt.chg]
    cases hx : (S 0).ix with
    | true =>
      obtain ⟨e, _, hi, _⟩ := Vt.part_ix hf hx
      rw [if_pos rfl]
      rw [e] at h0
      refine Vt.upto_setL h (ih h0 ?_)
      cases T with
      | nil => exact trivial
      | mk hh Y L K F => exact h.2.1 _ hi
    | false =>
      obtain ⟨e, _, hi, _, _⟩ := Vt.part_key hf hx
      rw [if_neg (by simp)]
      rw [e] at h0
      refine Vt.upto_setF h (ih h0 ?_)
      cases T with
      | nil => exact trivial
      | mk hh Y L K F => exact h.2.2 _ hi
theorem remV_ok {T : Vt} {S : Nat → Stp} {m : Nat} (hB : pathB S (m + 1) = true) (h0 : (T.atN S (m + 1)).2 = 0) : T.remV S (m + 1) = (Vt.chg (fun U => U.wo (S m)) m S T, 0) := by
  unfold Vt.remV
  rw [if_pos ⟨hB, by omega⟩]
  refine Vt.chgV_chg (Vt.atN_le h0 (by omega)) ?_
  unfold Vt.last3
  rw [if_pos (Vt.atN_find h0 (by omega))]
theorem remV_at {T : Vt} {S : Nat → Stp} {m : Nat} (hB : pathB S (m + 1) = true) (h0 : (T.atN S (m + 1)).2 ≠ 0) : T.remV S (m + 1) = (.z, (T.atN S (m + 1)).2) := by
  unfold Vt.remV
  rw [if_pos ⟨hB, by omega⟩]
  by_cases h1 : (T.atN S m).2 = 0
  · have h2 : ((T.atN S m).1.find (S m)).2 ≠ 0 := fun e => h0 (by rw [Vt.atN_next h1 e])
    have e3 : Vt.last3 .z (T.atN S m).1 (S m) = (.z, ((T.atN S m).1.find (S m)).2) := by unfold Vt.last3; rw [if_neg h2]
    rw [Vt.chgV_err h1 (by rw [e3]; exact h2) (by rw [e3]), e3, Vt.atN_bad h1 h2 (Nat.lt_succ_self _)]
  · rw [Vt.chgV_atN h1, Vt.atN_stays h1 (m + 1) (by omega)]
theorem remV_bad {T : Vt} {S : Nat → Stp} {n : Nat} (h : pathB S n = false ∨ n = 0) : T.remV S n = (.z, 1) := by
  unfold Vt.remV
  rw [if_neg]
  rintro ⟨a, b⟩
  rcases h with h | h
  · rw [h] at a; cases a
  · exact b h
end Go.Proofs.YtfkfboiblgoamaaDoor
/- What Insert makes, and how Remove undoes it: plain. -/
namespace Go.Proofs.YtfkfboiblgoamaaDoor
open Go.RowKit

theorem atN_whole {T : Vt} {S : Nat → Stp} (hw : T.whole) (n : Nat) : (T.atN S n).1.whole := (atN_same (Vt.Same.rfl' hw) n).2.whole
theorem chkV_zero {T : Vt} (h : T.chkV.2 = 0) : (T.look 1 0).2 = 0 ∧ T.chkV = (T, 0) := by
  unfold Vt.chkV at h ⊢
  by_cases z : (T.look 1 0).2 ≠ 0
  · rw [if_pos z] at h; exact absurd h z
  · rw [if_neg z]; exact ⟨by omega, rfl⟩
/-- What a good Insert has made. -/
theorem insV_parts {T X : Vt} {S : Nat → Stp} {m : Nat} (hw : T.whole) (hB : pathB S (m + 1) = true) (h : (T.insV S (m + 1) X).2 = 0) :
    ∃ f : Vt → Vt, T.insV S (m + 1) X = (Vt.chg f m S T, 0) ∧ ((Vt.chg f m S T).look 1 0).2 = 0 ∧ (T.atN S m).2 = 0 ∧ ((f (T.atN S m).1).find (S m)).2 = 0 ∧ (f (T.atN S m).1).part ((f (T.atN S m).1).find (S m)).1.toNat = X ∧ ((f (T.atN S m).1).wo (S m)).Same (T.atN S m).1 := by
  rw [insV_suc hB] at h ⊢
  by_cases h2 : (T.atN S m).2 = 0
  · have hwM := atN_whole (S := S) hw m
    have hso := (pathB_ok hB).2 m (Nat.lt_succ_self m)
    by_cases h6 : ((T.atN S m).1.find (S m)).2 = 6
    · rw [ins_err h2 (E := 6) (by unfold Vt.last2; rw [if_pos h6]) (by decide), chkR_bad (by decide)] at h
      exact absurd h (by decide)
    · cases hix : (S m).ix with
      | false =>
        by_cases h0 : ((T.atN S m).1.find (S m)).2 = 0
        · rw [ins_err h2 (E := 8) (by unfold Vt.last2; rw [if_neg h6, if_neg (by rw [hix]; decide), if_pos h0]) (by decide), chkR_bad (by decide)] at h
          exact absurd h (by decide)
        · have h7 : ((T.atN S m).1.find (S m)).2 = 7 := by rcases find_rng (T.atN S m).1 (S m) with q | q | q <;> omega
          rw [ins_more h2 h7 hix, chkR_ok] at h ⊢
          obtain ⟨z1, z2⟩ := chkV_zero h
          obtain ⟨a1, a2, a3⟩ := more_find (X := X) hwM hix h7
          exact ⟨fun U => U.moreF (S m).key X, z2, z1, h2, by dsimp only; rw [a1], by dsimp only; rw [a1, Int.toNat_natCast]; exact a2, a3⟩
      | true =>
        have k6 : (T.atN S m).1.h.k = 6 := Classical.byContradiction fun q => h6 (by rw [find_k6 hix q])
        by_cases hl : (S m).n ≤ ((T.atN S m).1.h.ln : Int)
        · rw [ins_list h2 h6 hix hl, chkR_ok] at h ⊢
          obtain ⟨z1, z2⟩ := chkV_zero h
          obtain ⟨a1, a2, a3⟩ := insL_find (X := X) hwM hix k6 (by unfold stepOk at hso; rw [if_pos hix] at hso; exact hso.2.1) hl
          exact ⟨fun U => U.insL (S m).n.toNat X, z2, z1, h2, by dsimp only; rw [a1], by dsimp only; rw [a1]; exact a2, a3⟩
        · rw [ins_err h2 (E := 7) (by unfold Vt.last2; rw [if_neg h6, if_pos hix, if_neg hl]) (by decide), chkR_bad (by decide)] at h
          exact absurd h (by decide)
  · rw [Vt.chgV_atN h2, chkR_bad h2] at h
    exact absurd h h2
/-- What was inserted is found, and Remove undoes it. -/
theorem undo_parts {T X A : Vt} {S : Nat → Stp} {m : Nat} (hw : T.whole) (hB : pathB S (m + 1) = true) (h : (T.insV S (m + 1) X).2 = 0) (hA : A.Same (T.insV S (m + 1) X).1) :
    A.upto 48 ∧ (A.atN S (m + 1)).2 = 0 ∧ (A.atN S (m + 1)).1.Same X ∧ (A.remV S (m + 1)).2 = 0 ∧ (A.remV S (m + 1)).1.Same T := by
  obtain ⟨f, e, hlk, h2, hf1, hf2, hf3⟩ := insV_parts hw hB h
  rw [e] at hA
  have hA : A.Same (Vt.chg f m S T) := hA
  have c0 := chg_atN (f := f) h2
  have c1 : (Vt.chg f m S T).atN S (m + 1) = (X, 0) := by
    rw [Vt.atN_next (by rw [c0]) (by rw [c0]; exact hf1), c0]
    exact Prod.ext hf2 rfl
  obtain ⟨q1, q2⟩ := atN_same (S := S) hA (m + 1)
  rw [c1] at q1 q2
  have a1 : (A.atN S (m + 1)).2 = 0 := q1
  have am : (A.atN S m).2 = 0 := Vt.atN_le a1 (Nat.le_succ m)
  have af := Vt.atN_find a1 (Nat.lt_succ_self m)
  have hu := (Vt.look_ok (d := 1) (s := 0) hA.whole (by rw [look_same hA]; exact hlk)).2.1
  refine ⟨hu, a1, q2, by rw [remV_ok hB a1], ?_⟩
  rw [remV_ok hB a1]
  have s1 := chg_same (f := fun U => U.wo (S m)) (g := fun U => U.wo (S m)) hA am (wo_same (atN_same (S := S) hA m).2 af)
  rw [chg_chg h2] at s1
  exact s1.trans (chg_id hw h2 hf3)
end Go.Proofs.YtfkfboiblgoamaaDoor
