/- Laid together for a claim: VkGetM, VtApp, VtWkM, VtJoinM, VtWkG. -/
import Derived.Test.YtfkfboiblgoamaaDoorQB26
import Derived.Test.YtfkfboiblgoamaaDoorQB15
import Derived.Test.YtfkfboiblgoamaaDoorQB23
import Derived.OwnWalkIn
import Derived.Test.YtfkfboiblgoamaaDoorQB16
import Derived.Test.YtfkfboiblgoamaaDoorQB08
import Derived.Test.YtfkfboiblgoamaaDoorQB14
import Derived.Test.YtfkfboiblgoamaaDoorQB06
/- What lies at a path of a value that was changed at a path: plain. -/
namespace Go.Proofs.YtfkfboiblgoamaaDoor
open Go.RowKit

theorem fidx_congr {K K' : Nat → ByteArray} {key : ByteArray} : ∀ {n : Nat}, (∀ i, i < n → K i = K' i) → fidx K key n = fidx K' key n := by
  intro n
  induction n with
  | zero => intro _; rfl
  | succ n ih =>
    intro h
    unfold fidx
    rw [ih (fun i hi => h i (by omega)), h n (Nat.lt_succ_self n)]
theorem find_same {T U : Vt} {s : Stp} (h : T.Same U) : T.find s = U.find s := by
  have fl := h.flat
  have e : fidx T.K s.key T.h.fn = fidx U.K s.key U.h.fn := by rw [fidx_congr (fun i hi => h.K hi), fl.fn]
  unfold Vt.find
  rw [e, fl.k, fl.ln, fl.fn]
theorem part_same {T U : Vt} {s : Stp} (h : T.Same U) (h0 : (T.find s).2 = 0) : (T.part (T.find s).1.toNat).Same (U.part (U.find s).1.toNat) := by
  have h1 : (U.find s).2 = 0 := by rw [← find_same h]; exact h0
  cases hx : s.ix with
  | true =>
    obtain ⟨a1, a2, a3, _⟩ := Vt.part_ix h0 hx
    obtain ⟨b1, _, _, _⟩ := Vt.part_ix h1 hx
    rw [a1, b1, ← find_same h]
    exact h.L a3
  | false =>
    obtain ⟨a1, a2, a3, _⟩ := Vt.part_key h0 hx
    obtain ⟨b1, _, _, _⟩ := Vt.part_key h1 hx
    rw [a1, b1, ← find_same h]
    exact h.F a3
theorem Vt.atN_fail {T : Vt} {S : Nat → Stp} {k : Nat} (h0 : (T.atN S k).2 = 0) (hb : ((T.atN S k).1.find (S k)).2 ≠ 0) : T.atN S (k + 1) = ((T.atN S k).1, ((T.atN S k).1.find (S k)).2) := by
  show (if (T.atN S k).2 ≠ 0 then _ else _) = _
  rw [if_neg (by simp [h0]), if_pos hb]
theorem atN_same {T U : Vt} {S : Nat → Stp} (h : T.Same U) : ∀ n, (T.atN S n).2 = (U.atN S n).2 ∧ (T.atN S n).1.Same (U.atN S n).1 := by
  intro n
  induction n with
  | zero => exact ⟨rfl, h⟩
  | succ n ih =>
    obtain ⟨e, hs⟩ := ih
    have ef := find_same (s := S n) hs
    by_cases c : (T.atN S n).2 = 0
    · have c' : (U.atN S n).2 = 0 := by rw [← e]; exact c
      by_cases d : ((T.atN S n).1.find (S n)).2 = 0
      · rw [Vt.atN_next c d, Vt.atN_next c' (by rw [← ef]; exact d)]
        exact ⟨rfl, part_same hs d⟩
      · rw [Vt.atN_fail c d, Vt.atN_fail c' (by rw [← ef]; exact d)]
        exact ⟨by rw [ef], hs⟩
    · rw [Vt.atN_stays c (n + 1) (Nat.le_succ _), Vt.atN_stays (by rw [← e]; exact c) (n + 1) (Nat.le_succ _)]
      exact ⟨e, hs⟩
theorem find_nil {s : Stp} : (Vt.nil.find s).2 ≠ 0 := by
  unfold Vt.find
  have k : Vt.nil.h.k = 0 := rfl
  rw [k]
  split <;> simp
theorem setP_find {T X : Vt} {i : Nat} {s : Stp} : (T.setP i X).find s = T.find s := by
  cases T with
  | nil => unfold Vt.setP; split <;> rfl
  | mk h Y L K F => unfold Vt.setP; split <;> rfl
theorem setP_part {T X : Vt} {s : Stp} (h0 : (T.find s).2 = 0) : (T.setP (T.find s).1.toNat X).part (T.find s).1.toNat = X := by
  cases T with
  | nil => exact absurd h0 find_nil
  | mk h Y L K F =>
    unfold Vt.setP Vt.part
    by_cases k6 : h.k = 6
    · have e : (Vt.mk h Y L K F).h.k = 6 := k6
      rw [if_pos e]
      show (if h.k = 6 then _ else _) = X
      rw [if_pos k6]
      exact if_pos rfl
    · have e : ¬ (Vt.mk h Y L K F).h.k = 6 := k6
      rw [if_neg e]
      show (if h.k = 6 then _ else _) = X
      rw [if_neg k6]
      exact if_pos rfl
theorem setP_other {T X : Vt} {i j : Nat} (hij : j ≠ i) : (T.setP i X).part j = T.part j := by
  cases T with
  | nil => unfold Vt.setP; split <;> rfl
  | mk h Y L K F =>
    unfold Vt.setP Vt.part
    by_cases k6 : h.k = 6
    · have e : (Vt.mk h Y L K F).h.k = 6 := k6
      rw [if_pos e, if_pos e]
      show (if h.k = 6 then _ else _) = _
      rw [if_pos k6]
      exact if_neg hij
    · have e : ¬ (Vt.mk h Y L K F).h.k = 6 := k6
      rw [if_neg e, if_neg e]
      show (if h.k = 6 then _ else _) = _
      rw [if_neg k6]
      exact if_neg hij
theorem setP_setP {T X Z : Vt} {i : Nat} : (T.setP i X).setP i Z = T.setP i Z := by
  cases T with
  | nil => unfold Vt.setP; split <;> rfl
  | mk h Y L K F =>
    unfold Vt.setP
    by_cases k6 : h.k = 6
    · have e : (Vt.mk h Y L K F).h.k = 6 := k6
      rw [if_pos e, if_pos e]
      show (if h.k = 6 then _ else _) = _
      rw [if_pos k6]
      show Vt.mk h Y _ K F = Vt.mk h Y _ K F
      congr 1
      funext j
      dsimp only
      split <;> rfl
    · have e : ¬ (Vt.mk h Y L K F).h.k = 6 := k6
      rw [if_neg e, if_neg e]
      show (if h.k = 6 then _ else _) = _
      rw [if_neg k6]
      show Vt.mk h Y L K _ = Vt.mk h Y L K _
      congr 1
      funext j
      dsimp only
      split <;> rfl
theorem setP_self {T : Vt} {i : Nat} : T.setP i (T.part i) = T := by
  cases T with
  | nil => unfold Vt.setP; split <;> rfl
  | mk h Y L K F =>
    unfold Vt.setP Vt.part
    by_cases k6 : h.k = 6
    · have e : (Vt.mk h Y L K F).h.k = 6 := k6
      rw [if_pos e, if_pos e]
      show Vt.mk h Y _ K F = Vt.mk h Y L K F
      congr 1
      funext j
      show (if j = i then L i else L j) = L j
      split
      · rename_i q; rw [q]
      · rfl
    · have e : ¬ (Vt.mk h Y L K F).h.k = 6 := k6
      rw [if_neg e, if_neg e]
      show Vt.mk h Y L K _ = Vt.mk h Y L K F
      congr 1
      funext j
      show (if j = i then F i else F j) = F j
      split
      · rename_i q; rw [q]
      · rfl
theorem setP_same2 {T U X Z : Vt} {i : Nat} (h : T.Same U) (hx : X.Same Z) : (T.setP i X).Same (U.setP i Z) := by
  have fl := h.flat
  cases T with
  | nil => exact h.elim
  | mk h1 Y L K F =>
  cases U with
  | nil => exact absurd rfl h.right
  | mk g Y' L' K' F' =>
    have ek : h1.k = g.k := fl.k
    unfold Vt.setP
    by_cases k6 : h1.k = 6
    · rw [if_pos (show (Vt.mk h1 Y L K F).h.k = 6 from k6), if_pos (show (Vt.mk g Y' L' K' F').h.k = 6 from ek ▸ k6)]
      refine ⟨(fun e => by cases e), fl, fun j hj => h.Y hj, fun j hj => ?_, fun j hj => ⟨h.K hj, h.F hj⟩⟩
      show Vt.Same (if j = i then X else L j) (if j = i then Z else L' j)
      split
      · exact hx
      · exact h.L hj
    · rw [if_neg (show ¬ (Vt.mk h1 Y L K F).h.k = 6 from k6), if_neg (show ¬ (Vt.mk g Y' L' K' F').h.k = 6 from fun q => k6 (ek.trans q))]
      refine ⟨(fun e => by cases e), fl, fun j hj => h.Y hj, fun j hj => h.L hj, fun j hj => ⟨h.K hj, ?_⟩⟩
      show Vt.Same (if j = i then X else F j) (if j = i then Z else F' j)
      split
      · exact hx
      · exact h.F hj
theorem chg_atN {f : Vt → Vt} : ∀ {n : Nat} {S : Nat → Stp} {T : Vt}, (T.atN S n).2 = 0 → (Vt.chg f n S T).atN S n = (f (T.atN S n).1, 0) := by
  intro n
  induction n with
  | zero => intro S T _; rfl
  | succ n ih =>
    intro S T h
    have h0 : (T.find (S 0)).2 = 0 := Vt.atN_find (k := 0) h (by omega)
    rw [Vt.chg_succ2 h0, Vt.atN_shift (by rw [setP_find]; exact h0), setP_find, setP_part h0, Vt.atN_shift h0]
    rw [Vt.atN_shift h0] at h
    exact ih h
theorem chg_same {f g : Vt → Vt} : ∀ {n : Nat} {S : Nat → Stp} {T U : Vt}, T.Same U → (T.atN S n).2 = 0 → (f (T.atN S n).1).Same (g (U.atN S n).1) → (Vt.chg f n S T).Same (Vt.chg g n S U) := by
  intro n
  induction n with
  | zero => intro S T U _ _ hf; exact hf
  | succ n ih =>
    intro S T U h h1 hf
    have h0 : (T.find (S 0)).2 = 0 := Vt.atN_find (k := 0) h1 (by omega)
    have h0' : (U.find (S 0)).2 = 0 := by rw [← find_same h]; exact h0
    rw [Vt.atN_shift h0, Vt.atN_shift h0'] at hf
    rw [Vt.atN_shift h0] at h1
    rw [Vt.chg_succ2 h0, Vt.chg_succ2 h0', ← find_same h]
    refine setP_same2 h ?_
    have q := ih (part_same h h0) h1 hf
    rw [← find_same h] at q
    exact q
theorem chg_chg {f g : Vt → Vt} : ∀ {n : Nat} {S : Nat → Stp} {T : Vt}, (T.atN S n).2 = 0 → Vt.chg g n S (Vt.chg f n S T) = Vt.chg (fun U => g (f U)) n S T := by
  intro n
  induction n with
  | zero => intro S T _; rfl
  | succ n ih =>
    intro S T h
    have h0 : (T.find (S 0)).2 = 0 := Vt.atN_find (k := 0) h (by omega)
    rw [Vt.chg_succ2 (f := f) h0, Vt.chg_succ2 (by rw [setP_find]; exact h0), setP_find, setP_part h0, setP_setP, Vt.chg_succ2 h0]
    rw [Vt.atN_shift h0] at h
    rw [ih h]
theorem whole_part {T : Vt} {s : Stp} (hw : T.whole) (h0 : (T.find s).2 = 0) : (T.part (T.find s).1.toNat).whole := (part_same (Vt.Same.rfl' hw) h0).whole
theorem chg_id {f : Vt → Vt} : ∀ {n : Nat} {S : Nat → Stp} {T : Vt}, T.whole → (T.atN S n).2 = 0 → (f (T.atN S n).1).Same (T.atN S n).1 → (Vt.chg f n S T).Same T := by
  intro n
  induction n with
  | zero => intro S T _ _ hf; exact hf
  | succ n ih =>
    intro S T hw h hf
    have h0 : (T.find (S 0)).2 = 0 := Vt.atN_find (k := 0) h (by omega)
    rw [Vt.atN_shift h0] at h hf
    rw [Vt.chg_succ2 h0]
    have q := setP_same2 (i := (T.find (S 0)).1.toNat) (Vt.Same.rfl' hw) (ih (whole_part hw h0) h hf)
    rw [setP_self] at q
    exact q
/-- A new field: found, and gone again. -/
theorem more_find {M X : Vt} {s : Stp} (hM : M.whole) (hix : s.ix = false) (h7 : (M.find s).2 = 7) : (M.moreF s.key X).find s = ((M.h.fn : Int), 0) ∧ (M.moreF s.key X).part M.h.fn = X ∧ ((M.moreF s.key X).wo s).Same M := by
  have k7 : M.h.k = 7 := by
    unfold Vt.find at h7
    rw [if_neg (by rw [hix]; decide)] at h7
    split at h7
    · cases h7
    · rename_i q; exact Classical.byContradiction q
  have hn : ¬ fidx M.K s.key M.h.fn < M.h.fn := by
    intro q
    unfold Vt.find at h7
    rw [if_neg (by rw [hix]; decide), if_neg (fun r => r k7), if_pos q] at h7
    cases h7
  cases M with
  | nil => exact hM.elim
  | mk h Y L K F =>
    have k7' : h.k = 7 := k7
    have hn' : ¬ fidx K s.key h.fn < h.fn := hn
    have hk : ∀ j, j < h.fn → K j ≠ s.key := fun j hj => (fidx_spec (K := K) (key := s.key) (n := h.fn)).2 j (by omega)
    have hi : fidx (fun j => if j < h.fn then K j else s.key) s.key (h.fn + 1) = h.fn :=
      fidx_first (fun j hj => by rw [if_pos hj]; exact hk j hj) (by rw [if_neg (Nat.lt_irrefl _)]) (Nat.lt_succ_self _)
    have hf : ((Vt.mk h Y L K F).moreF s.key X).find s = ((h.fn : Int), 0) := by
      show (if s.ix = true then _ else if h.k ≠ 7 then _ else if fidx (fun j => if j < h.fn then K j else s.key) s.key (h.fn + 1) < h.fn + 1 then (((fidx (fun j => if j < h.fn then K j else s.key) s.key (h.fn + 1) : Nat) : Int), (0 : Int)) else (0, 7)) = _
      rw [if_neg (by rw [hix]; decide), if_neg (fun r => r k7'), hi, if_pos (Nat.lt_succ_self _)]
    refine ⟨hf, ?_, ?_⟩
    · show (if h.k = 6 then _ else (if h.fn < h.fn then F h.fn else X)) = X
      rw [if_neg (by omega), if_neg (Nat.lt_irrefl _)]
    · unfold Vt.wo
      rw [if_neg (by rw [hix]; decide), hf]
      rw [Int.toNat_natCast]
      refine ⟨(fun e => by cases e), ⟨rfl, rfl, rfl, rfl, rfl, rfl, rfl, rfl, rfl, rfl, rfl, rfl, Nat.add_sub_cancel _ 1⟩, fun _ _ => rfl, fun j hj => Vt.Same.rfl' (hM.1 j hj), fun j hj => ?_⟩
      have hj' : j < h.fn := by have q : j < h.fn + 1 - 1 := hj; omega
      show (if j < h.fn then (if j < h.fn then K j else s.key) else _) = K j ∧ Vt.Same (if j < h.fn then (if j < h.fn then F j else X) else _) (F j)
      rw [if_pos hj', if_pos hj', if_pos hj', if_pos hj']
      exact ⟨rfl, Vt.Same.rfl' (hM.2 j hj')⟩
/-- A new element: found, and gone again. -/
theorem insL_find {M X : Vt} {s : Stp} (hM : M.whole) (hix : s.ix = true) (k6 : M.h.k = 6) (h0 : 0 ≤ s.n) (hn : s.n ≤ (M.h.ln : Int)) : (M.insL s.n.toNat X).find s = (s.n, 0) ∧ (M.insL s.n.toNat X).part s.n.toNat = X ∧ ((M.insL s.n.toNat X).wo s).Same M := by
  cases M with
  | nil => exact hM.elim
  | mk h Y L K F =>
    have k6' : h.k = 6 := k6
    have hn' : s.n ≤ (h.ln : Int) := hn
    have hf : ((Vt.mk h Y L K F).insL s.n.toNat X).find s = (s.n, 0) := by
      show (if s.ix = true then (if h.k ≠ 6 then _ else if s.n < 0 ∨ ((h.ln + 1 : Nat) : Int) ≤ s.n then _ else (s.n, (0 : Int))) else _) = _
      rw [if_pos hix, if_neg (fun r => r k6'), if_neg (by omega)]
    refine ⟨hf, ?_, ?_⟩
    · show (if h.k = 6 then (if s.n.toNat < s.n.toNat then _ else if s.n.toNat = s.n.toNat then X else _) else _) = X
      rw [if_pos k6', if_neg (Nat.lt_irrefl _), if_pos rfl]
    · unfold Vt.wo
      rw [if_pos hix, hf]
      refine ⟨(fun e => by cases e), ⟨rfl, rfl, rfl, rfl, rfl, rfl, rfl, rfl, rfl, rfl, rfl, Nat.add_sub_cancel _ 1, rfl⟩, fun _ _ => rfl, fun j hj => ?_, fun j hj => ⟨rfl, Vt.Same.rfl' (hM.2 j hj)⟩⟩
      have hj' : j < h.ln := by have q : j < h.ln + 1 - 1 := hj; omega
      show Vt.Same (if j < s.n.toNat then (if j < s.n.toNat then L j else if j = s.n.toNat then X else L (j - 1)) else (if j + 1 < s.n.toNat then L (j + 1) else if j + 1 = s.n.toNat then X else L (j + 1 - 1))) (L j)
      by_cases q : j < s.n.toNat
      · rw [if_pos q, if_pos q]; exact Vt.Same.rfl' (hM.1 j hj')
      · rw [if_neg q, if_neg (by omega), if_neg (by omega), Nat.add_sub_cancel]; exact Vt.Same.rfl' (hM.1 j hj')
theorem wo_same {U V : Vt} {s : Stp} (h : U.Same V) (h0 : (U.find s).2 = 0) : (U.wo s).Same (V.wo s) := by
  have fl := h.flat
  unfold Vt.wo
  rw [← find_same h]
  cases hx : s.ix with
  | true =>
    obtain ⟨_, _, hi, _⟩ := Vt.part_ix h0 hx
    rw [if_pos rfl, if_pos rfl]
    cases U with
    | nil => exact h.elim
    | mk h1 Y L K F =>
    cases V with
    | nil => exact absurd rfl h.right
    | mk g Y' L' K' F' =>
      have e : h1.ln = g.ln := fl.ln
      refine ⟨(fun e => by cases e), ⟨fl.k, fl.b, fl.n, fl.d, fl.e, fl.tk, fl.td, fl.tn, fl.tz, fl.x, fl.bn, by show h1.ln - 1 = g.ln - 1; rw [e], fl.fn⟩, fun j hj => h.Y hj, fun j hj => ?_, fun j hj => ⟨h.K hj, h.F hj⟩⟩
      have hj' : j < h1.ln - 1 := hj
      show Vt.Same (if j < _ then L j else L (j + 1)) (if j < _ then L' j else L' (j + 1))
      split
      · exact h.L (show j < h1.ln by omega)
      · exact h.L (show j + 1 < h1.ln by omega)
  | false =>
    rw [if_neg (by decide), if_neg (by decide)]
    cases U with
    | nil => exact h.elim
    | mk h1 Y L K F =>
    cases V with
    | nil => exact absurd rfl h.right
    | mk g Y' L' K' F' =>
      have e : h1.fn = g.fn := fl.fn
      refine ⟨(fun e => by cases e), ⟨fl.k, fl.b, fl.n, fl.d, fl.e, fl.tk, fl.td, fl.tn, fl.tz, fl.x, fl.bn, fl.ln, by show h1.fn - 1 = g.fn - 1; rw [e]⟩, fun j hj => h.Y hj, fun j hj => h.L hj, fun j hj => ?_⟩
      have hj' : j < h1.fn - 1 := hj
      show (if j < _ then K j else K (j + 1)) = (if j < _ then K' j else K' (j + 1)) ∧ Vt.Same (if j < _ then F j else F (j + 1)) (if j < _ then F' j else F' (j + 1))
      split
      · exact ⟨h.K (show j < h1.fn by omega), h.F (show j < h1.fn by omega)⟩
      · exact ⟨h.K (show j + 1 < h1.fn by omega), h.F (show j + 1 < h1.fn by omega)⟩
end Go.Proofs.YtfkfboiblgoamaaDoor
/- An append of any slice, an empty one too, to what a call owns: which block it wrote; also within a round. -/
namespace Go.Proofs.YtfkfboiblgoamaaDoor
open Go.ChangeShapes Go.WideShapes Go.Joins Go.Deep Go.RowKit

theorem run_append_zero {P : Program} (w : World) (t ty e : TypeId) (i : TypeInfo) (ht : P.underlying t = some (.slice e)) (hi : P.info? e = some i) (b xa : Option Addr) (n c c' : Nat) (hnc : n ≤ c) :
    (Builtin.append_ #[t, t] ty #[.slice b n c, .slice xa 0 c']).run P w = .ok (.slice b n c) w := by
  cases b <;> cases xa <;> simp [Builtin.append_, run_underlying ht, sizeOf, typeInfo, hi, Builtin.lenOf, Builtin.firstCells, loadCells, loadCellsFrom, hnc, storeCells]
theorem run_append_any {P : Program} (w : World) (base : Nat) (t ty e : TypeId) (i : TypeInfo) (z : Value) (size bytes : Nat) (ht : P.underlying t = some (.slice e)) (hi : P.info? e = some i) (hz : i.zero = some z)
    (hsize : i.size = size) (hby : i.bytes = bytes) (hzs : z.cells.size = size) (hsz : 0 < size) (v : Value) (n : Nat) (xs : List Value) (hown : w.ownsRow base e size v n xs)
    (xa : Option Addr) (m c : Nat) (news : List Value) (hl : news.length = m * size) (hnews : 0 < m → ∃ ad, xa = some ad ∧ ∀ j u, news[j]? = some u → w.cell? (ad.add j) = some u) (h1 : ∀ u ∈ news, u.oneCell' = true)
    (h63 : n + m ≤ maxLen) (hbytes : (n + m) * bytes ≤ 140737488355328) (hbase : base ≤ w.heap.size) :
    ∃ v' w', (Builtin.append_ #[t, t] ty #[v, .slice xa m c]).run P w = .ok v' w' ∧ w'.ownsRow base e size v' (n + m) (xs ++ news) ∧ w.grownBy w' v.ownBlock ∧ (v'.ownBlock = v.ownBlock ∨ v'.ownBlock = some w.heap.size) := by
  by_cases hm : m = 0
  · subst hm
    have hn : news = [] := List.eq_nil_of_length_eq_zero (by simpa using hl)
    subst hn
    have hg : w.grownBy w v.ownBlock := ⟨rfl, rfl, rfl, Nat.le_refl _, fun _ _ _ => rfl⟩
    rw [List.append_nil, Nat.add_zero]
    rcases hown.2 with ⟨rfl, rfl⟩ | ⟨g, cap, cur, rfl, _, _, hnc, _⟩
    · exact ⟨_, w, run_append_zero w t ty e i ht hi none xa 0 0 c (Nat.le_refl _), hown, hg, .inl rfl⟩
    · exact ⟨_, w, run_append_zero w t ty e i ht hi (some ⟨g, 0, none⟩) xa n cap c hnc, hown, hg, .inl rfl⟩
  · obtain ⟨ad, rfl, hn⟩ := hnews (by omega)
    exact run_append_told (P := P) w base t ty e i z size bytes ht hi hz hsize hby hzs hsz v n xs hown ad m c news hl hn h1 h63 hbytes hbase (by omega)
theorem wpList_append_any {P : Program} (w : World) {ops : Array Oper} {rest : List Oper} {o : Oper} {a : Act} {Q : Exit → Act → World → Prop} (hgd : o.guard = none) (s x : Operand) (t : TypeId)
    (ho : o.op = .call { callee := .builtin .append, args := #[s, x], argTypes := #[t, t] })
    (base : Nat) (e : TypeId) (i : TypeInfo) (z : Value) (size bytes : Nat) (ht : P.underlying t = some (.slice e)) (hi : P.info? e = some i) (hz : i.zero = some z)
    (hsize : i.size = size) (hby : i.bytes = bytes) (hzs : z.cells.size = size) (hsz : 0 < size)
    (v : Value) (n : Nat) (xs : List Value) (hs : a.eval s = v) (hown : w.ownsRow base e size v n xs)
    (xa : Option Addr) (m c : Nat) (news : List Value) (hx : a.eval x = .slice xa m c) (hl : news.length = m * size) (hnews : 0 < m → ∃ ad, xa = some ad ∧ ∀ j u, news[j]? = some u → w.cell? (ad.add j) = some u) (h1 : ∀ u ∈ news, u.oneCell' = true)
    (h63 : n + m ≤ maxLen) (hbytes : (n + m) * bytes ≤ 140737488355328) (hbase : base ≤ w.heap.size)
    (h : ∀ v' w', w'.ownsRow base e size v' (n + m) (xs ++ news) → w.grownBy w' v.ownBlock → (v'.ownBlock = v.ownBlock ∨ v'.ownBlock = some w.heap.size) → wpList P ops Q rest (a.put o.dst v') w') : wpList P ops Q (o :: rest) a w := by
  refine wpList_plain hgd fun K hK => ?_
  obtain ⟨v', w', hr, h2, h3, h4⟩ := run_append_any (P := P) w base t o.type e i z size bytes ht hi hz hsize hby hzs hsz v n xs hown xa m c news hl hnews h1 h63 hbytes hbase
  unfold Oper.wp execOp
  simp only [ho, resolve, invoke, builtin, Sem.run_bind, Sem.run_pure, Result.andThen_ok, List.map_toArray, List.map_cons, List.map_nil, hs, hx, hr]
  exact hK _ _ (h v' w' h2 h3 h4)
theorem wpListIn_append_any {F : Fence} {nf : Nat} {P : Program} (w : World) {ops : Array Oper} {rest : List Oper} {o : Oper} {a : Act} {Q : Exit → Act → World → Prop} (hgd : o.guard = none) (s x : Operand) (t : TypeId)
    (ho : o.op = .call { callee := .builtin .append, args := #[s, x], argTypes := #[t, t] })
    (base : Nat) (e : TypeId) (i : TypeInfo) (z : Value) (size bytes : Nat) (ht : P.underlying t = some (.slice e)) (hi : P.info? e = some i) (hz : i.zero = some z)
    (hsize : i.size = size) (hby : i.bytes = bytes) (hzs : z.cells.size = size) (hsz : 0 < size)
    (v : Value) (n : Nat) (xs : List Value) (hs : a.eval s = v) (hown : w.ownsRow base e size v n xs)
    (xa : Option Addr) (m c : Nat) (news : List Value) (hx : a.eval x = .slice xa m c) (hl : news.length = m * size) (hnews : 0 < m → ∃ ad, xa = some ad ∧ ∀ j u, news[j]? = some u → w.cell? (ad.add j) = some u) (h1 : ∀ u ∈ news, u.oneCell' = true)
    (h63 : n + m ≤ maxLen) (hbytes : (n + m) * bytes ≤ 140737488355328) (hbase : base ≤ w.heap.size)
    (h : ∀ v' w', w'.ownsRow base e size v' (n + m) (xs ++ news) → w.grownBy w' v.ownBlock → (v'.ownBlock = v.ownBlock ∨ v'.ownBlock = some w.heap.size) → wpListIn F nf P ops Q rest (a.put o.dst v') w') : wpListIn F nf P ops Q (o :: rest) a w := by
  refine wpListIn_plain hgd fun K hK => ?_
  obtain ⟨v', w', hr, h2, h3, h4⟩ := run_append_any (P := P) w base t o.type e i z size bytes ht hi hz hsize hby hzs hsz v n xs hown xa m c news hl hnews h1 h63 hbytes hbase
  unfold Oper.wpIn
  refine ⟨?_, ?_⟩
  · simp [Oper.about, ho, resolve, Target.leads, Sem.run_pure]
  · rw [Oper.semAt_plain F _ _ (by rw [ho]; intro c hc'; cases hc')]
    simp [execOp, ho, resolve, invoke, builtin, hs, hx, hr, Result.andThen]
    exact hK _ _ (h v' w' h2 h3 h4)
end Go.Proofs.YtfkfboiblgoamaaDoor
/- All values in a value, with their paths, in order: plain. -/
namespace Go.Proofs.YtfkfboiblgoamaaDoor
open Go.RowKit

def stI (i : Nat) : Stp := ⟨true, ⟨#[]⟩, i⟩
def stK (key : ByteArray) : Stp := ⟨false, key, 0⟩
/-- All values in a value that stands at q, with their paths, in order. -/
def Vt.walk : Vt → List Stp → List (List Stp × Vt)
  | .nil, _ => []
  | .mk h Y L K F, q => (q, .mk h Y L K F) :: ((List.range h.ln).flatMap (fun i => (L i).walk (q ++ [stI i])) ++ (List.range h.fn).flatMap (fun i => (F i).walk (q ++ [stK (K i)])))
/-- The steps of a list, as a function. -/
def lst (l : List Stp) (i : Nat) : Stp := l.getD i default
theorem lst_cons (s : Stp) (l : List Stp) (i : Nat) : lst (s :: l) (i + 1) = lst l i := rfl
theorem lst_zero (s : Stp) (l : List Stp) : lst (s :: l) 0 = s := rfl
theorem lst_get {l : List Stp} {i : Nat} (h : i < l.length) : lst l i = l[i] := by unfold lst; simp [h]
theorem keysE_all {K : Nat → ByteArray} : ∀ {n : Nat}, keysE K n = 0 → ∀ i, i < n → keyE K i = 0 := by
  intro n
  induction n with
  | zero => intro _ i hi; exact absurd hi (Nat.not_lt_zero _)
  | succ n ih =>
    intro h i hi
    have h' : (if keysE K n ≠ 0 then keysE K n else keyE K n) = 0 := h
    by_cases q : keysE K n = 0
    · rw [if_neg (by simp [q])] at h'
      by_cases e : i = n
      · rw [e]; exact h'
      · exact ih q i (by omega)
    · rw [if_pos q] at h'
      exact absurd h' q
theorem keyE_parts {K : Nat → ByteArray} {i : Nat} (h : keyE K i = 0) : utfB (K i) = true ∧ (K i).size ≤ 1024 ∧ ∀ k, k < i → K k ≠ K i := by
  unfold keyE at h
  split at h
  · exact absurd h (by decide)
  rename_i h1
  split at h
  · exact absurd h (by decide)
  rename_i h2
  split at h
  · exact absurd h (by decide)
  rename_i h3
  exact ⟨by simpa using h1, by omega, fun k hk e => h3 ⟨k, hk, e⟩⟩
theorem oneE_keys {T : Vt} (h : oneE T = 0) : keysE T.K T.h.fn = 0 := by
  unfold oneE at h
  split at h
  · exact absurd h (by decide)
  split at h
  · exact absurd h (by decide)
  split at h
  · exact absurd h (by decide)
  split at h
  · exact absurd h (by decide)
  exact h
theorem good_key {h : Vh} {Y : Nat → Int} {L : Nat → Vt} {K : Nat → ByteArray} {F : Nat → Vt} (hg : (Vt.mk h Y L K F).good) {i : Nat} (hi : i < h.fn) : utfB (K i) = true ∧ (K i).size ≤ 1024 ∧ fidx K (K i) h.fn = i := by
  have hk := keysE_all (oneE_keys hg.1) i hi
  obtain ⟨a, b, c⟩ := keyE_parts hk
  exact ⟨a, b, fidx_first c rfl hi⟩
theorem good_lk {h : Vh} {Y : Nat → Int} {L : Nat → Vt} {K : Nat → ByteArray} {F : Nat → Vt} (hg : (Vt.mk h Y L K F).good) (hl : 0 < h.ln) : h.k = 6 :=
  Classical.byContradiction fun q => by have e : h.ln = 0 := (Vh.own_parts (oneE_own hg.1)).2.2.2.2.2.2.2.1 q; omega
theorem good_fk {h : Vh} {Y : Nat → Int} {L : Nat → Vt} {K : Nat → ByteArray} {F : Nat → Vt} (hg : (Vt.mk h Y L K F).good) (hl : 0 < h.fn) : h.k = 7 :=
  Classical.byContradiction fun q => by have e : h.fn = 0 := (Vh.own_parts (oneE_own hg.1)).2.2.2.2.2.2.2.2 q; omega
theorem find_stI {h : Vh} {Y : Nat → Int} {L : Nat → Vt} {K : Nat → ByteArray} {F : Nat → Vt} (hg : (Vt.mk h Y L K F).good) {i : Nat} (hi : i < h.ln) : (Vt.mk h Y L K F).find (stI i) = ((i : Int), 0) ∧ (Vt.mk h Y L K F).part i = L i := by
  have k6 := good_lk hg (by omega)
  exact ⟨find_at rfl k6 (fun q => by rcases q with q | q; { have : (stI i).n = (i : Int) := rfl; omega }; { have e1 : (Vt.mk h Y L K F).h.ln = h.ln := rfl; have e2 : (stI i).n = (i : Int) := rfl; omega }), if_pos k6⟩
theorem find_stK {h : Vh} {Y : Nat → Int} {L : Nat → Vt} {K : Nat → ByteArray} {F : Nat → Vt} (hg : (Vt.mk h Y L K F).good) {i : Nat} (hi : i < h.fn) : (Vt.mk h Y L K F).find (stK (K i)) = ((i : Int), 0) ∧ (Vt.mk h Y L K F).part i = F i := by
  have k7 := good_fk hg (by omega)
  have e := (good_key hg hi).2.2
  refine ⟨?_, if_neg (by rw [show (Vt.mk h Y L K F).h.k = 7 from k7]; decide)⟩
  have := find_key (T := Vt.mk h Y L K F) (s := stK (K i)) rfl k7 (by show fidx K (K i) h.fn < h.fn; omega)
  rw [this]
  show (((fidx K (K i) h.fn : Nat) : Int), (0 : Int)) = _
  rw [e]
/-- What comes in a walk is what its path leads to. -/
theorem Vt.walk_at : ∀ {T : Vt}, T.good → ∀ {d : Nat}, T.upto d → T.size ≤ 65536 → ∀ {q r : List Stp} {U : Vt}, (r, U) ∈ T.walk q → ∃ s : List Stp, r = q ++ s ∧ T.atN (lst s) s.length = (U, 0) ∧ s.length + 1 ≤ d ∧ ∀ x, x ∈ s → stepOk x := by
  intro T
  induction T with
  | nil => intro _ d _ _ q r U h; exact absurd h (by simp [Vt.walk])
  | mk h Y L K F ihL ihF =>
    intro hg d hu hsz q r U hm
    obtain ⟨hd, huL, huF⟩ := hu
    rw [Vt.walk] at hm
    rcases List.mem_cons.1 hm with e | hm
    · injection e with e1 e2
      subst e1 e2
      exact ⟨[], by simp, rfl, by simp; omega, fun x hx => absurd hx (by simp)⟩
    rcases List.mem_append.1 hm with hm | hm
    · obtain ⟨i, hi, hm⟩ := List.mem_flatMap.1 hm
      have hi' : i < h.ln := List.mem_range.1 hi
      have k6 := good_lk hg (by omega)
      have hle : h.ln ≤ (Vt.mk h Y L K F).size ∧ (L i).size ≤ (Vt.mk h Y L K F).size := by
        have e1 : (Vt.mk h Y L K F).kn = h.ln := if_neg (by rw [show (Vt.mk h Y L K F).h.k = 6 from k6]; decide)
        have e2 : (Vt.mk h Y L K F).kid i = L i := if_neg (by rw [show (Vt.mk h Y L K F).h.k = 6 from k6]; decide)
        have := Vt.size_kid (T := Vt.mk h Y L K F) (by intro e; cases e) (i := i) (by omega)
        have h2 := Vt.size_eq (T := Vt.mk h Y L K F) (by intro e; cases e)
        have h3 : h.ln ≤ sumN (fun i => ((Vt.mk h Y L K F).kid i).size) h.ln := by
          have : ∀ n, n ≤ sumN (fun i => ((Vt.mk h Y L K F).kid i).size) n := by
            intro n
            induction n with
            | zero => exact Nat.le_refl _
            | succ n ih =>
              have : 1 ≤ ((Vt.mk h Y L K F).kid n).size := by cases hq : (Vt.mk h Y L K F).kid n with | nil => exact Nat.le_refl _ | mk _ _ _ _ _ => unfold Vt.size; omega
              rw [sumN]; omega
          exact this _
        rw [e1] at h2
        rw [e2] at this
        omega
      obtain ⟨s, e, ha, hl, hs⟩ := ihL i (hg.2.1 i hi') (huL i hi') (by omega) hm
      obtain ⟨hf, hp⟩ := find_stI hg hi'
      refine ⟨stI i :: s, by rw [e]; simp, ?_, by simp only [List.length_cons]; omega, fun x hx => ?_⟩
      · rw [List.length_cons, Vt.atN_shift (S := lst (stI i :: s)) (by rw [lst_zero, hf]), lst_zero, hf]
        rw [show (((i : Int), (0 : Int)).1).toNat = i from Int.toNat_natCast i, hp]
        exact ha
      · rcases List.mem_cons.1 hx with rfl | hx
        · unfold stepOk
          rw [if_pos (show (stI i).ix = true from rfl)]
          exact ⟨by show ByteArray.toList ⟨#[]⟩ = []; rw [Lib.toList_data], by show (0 : Int) ≤ (i : Int); omega, by show (i : Int) ≤ 65536; omega⟩
        · exact hs x hx
    · obtain ⟨i, hi, hm⟩ := List.mem_flatMap.1 hm
      have hi' : i < h.fn := List.mem_range.1 hi
      have k7 := good_fk hg (by omega)
      have hle : (F i).size ≤ (Vt.mk h Y L K F).size := by
        have e1 : (Vt.mk h Y L K F).kn = h.fn := if_pos k7
        have e2 : (Vt.mk h Y L K F).kid i = F i := if_pos k7
        have := Vt.size_kid (T := Vt.mk h Y L K F) (by intro e; cases e) (i := i) (by omega)
        rw [e2] at this
        omega
      obtain ⟨s, e, ha, hl, hs⟩ := ihF i (hg.2.2 i hi') (huF i hi') (by omega) hm
      obtain ⟨hf, hp⟩ := find_stK hg hi'
      refine ⟨stK (K i) :: s, by rw [e]; simp, ?_, by simp only [List.length_cons]; omega, fun x hx => ?_⟩
      · rw [List.length_cons, Vt.atN_shift (S := lst (stK (K i) :: s)) (by rw [lst_zero, hf]), lst_zero, hf]
        rw [show (((i : Int), (0 : Int)).1).toNat = i from Int.toNat_natCast i, hp]
        exact ha
      · rcases List.mem_cons.1 hx with rfl | hx
        · unfold stepOk
          rw [if_neg (by simp [stK])]
          exact ⟨rfl, (good_key hg hi').2.1, (good_key hg hi').1⟩
        · exact hs x hx
theorem flat_len {α : Type} (f : Nat → List α) : ∀ n, ((List.range n).flatMap f).length = sumN (fun i => (f i).length) n := by
  intro n
  induction n with
  | zero => rfl
  | succ n ih => rw [List.range_succ, List.flatMap_append, List.length_append, ih, sumN]; simp
/-- As many come as there are values. -/
theorem Vt.walk_len : ∀ {T : Vt}, T.good → T.whole → ∀ q, (T.walk q).length = T.size := by
  intro T
  induction T with
  | nil => intro _ hw q; exact hw.elim
  | mk h Y L K F ihL ihF =>
    intro hg hw q
    rw [Vt.walk, List.length_cons, List.length_append, flat_len, flat_len]
    have e1 : sumN (fun i => ((L i).walk (q ++ [stI i])).length) h.ln = sumN (fun i => (L i).size) h.ln := sumN_congr fun i hi => ihL i (hg.2.1 i hi) (hw.1 i hi) _
    have e2 : sumN (fun i => ((F i).walk (q ++ [stK (K i)])).length) h.fn = sumN (fun i => (F i).size) h.fn := sumN_congr fun i hi => ihF i (hg.2.2 i hi) (hw.2 i hi) _
    rw [e1, e2]
    by_cases k7 : h.k = 7
    · have z : h.ln = 0 := (Vh.own_parts (oneE_own hg.1)).2.2.2.2.2.2.2.1 (by show h.k ≠ 6; omega)
      rw [Vt.size, if_pos k7, z]
      simp [sumN]; omega
    · have z : h.fn = 0 := (Vh.own_parts (oneE_own hg.1)).2.2.2.2.2.2.2.2 k7
      rw [Vt.size, if_neg k7, z]
      simp [sumN]; omega
end Go.Proofs.YtfkfboiblgoamaaDoor
/- Paths as lists of steps; datakitref09.Longer. -/
namespace Go.Proofs.YtfkfboiblgoamaaDoor
open Go.RowKit
set_option linter.unusedSimpArgs false
set_option linter.unusedVariables false

def Pth.val (p : Pth) : Value := .slice p.a p.n p.c
def Pth.steps (p : Pth) : List Stp := (List.range p.n).map p.S
theorem Pth.steps_len (p : Pth) : p.steps.length = p.n := by simp [Pth.steps]
theorem Pth.steps_get {p : Pth} {i : Nat} (h : i < p.n) : p.S i = lst p.steps i := by
  rw [lst_get (by rw [Pth.steps_len]; exact h)]
  simp [Pth.steps]
/-- A path in new memory. -/
def PthOut (q : List Stp) (w : World) (e : Ending) (w' : World) : Prop :=
  ∃ r : Pth, e = .returned (.slice r.a r.n r.c) ∧ r.In w' w'.heap.size ∧ r.steps = q ∧ (0 < r.n → w.heap.size ≤ r.b) ∧ Below w.heap.size w w'
theorem Tryd.infoStp : (Tryd.prog.info? 50).map (fun i => (i.zero, i.size, i.bytes)) = some (some (.agg #[.bool false, .string ⟨#[]⟩, .int .i64 0]), 3, 32) := by kernel_rfl
theorem stp_sz (s : Stp) : s.cells.size = 3 := rfl
theorem stp_one (s : Stp) : ∀ u ∈ s.cells.toList, u.oneCell' = true := by
  intro u hu
  simp only [Stp.cells, List.mem_cons, List.not_mem_nil, or_false] at hu
  rcases hu with rfl | rfl | rfl <;> rfl
/-- A row of steps that a call has made is a path. -/
theorem pth_of {w W : World} {v : Value} {q : List Stp} (hr : W.ownsRow w.heap.size 50 3 v q.length (catN (fun i => (lst q i).cells) q.length)) (hn : q.length ≤ 1048576) (hok : ∀ s, s ∈ q → s.ok) (hb : Below w.heap.size w W) : PthOut q w (.returned v) W := by
  obtain ⟨a, c, b, rfl, hcc, ha, hl⟩ := own_lies (fun i => stp_sz (lst q i)) hr
  refine ⟨⟨a, q.length, c, b, 0, lst q⟩, rfl, ⟨fun h => ⟨(ha h).1, (ha h).2.2⟩, ⟨hn, hcc⟩, fun i hi => ⟨?_, ?_⟩⟩, ?_, fun h => (ha h).2.1, hb⟩
  · show LiesAt W b (0 + i * 3) (lst q i).cells
    rw [Nat.zero_add]
    exact hl i hi
  · show (lst q i).ok
    rw [lst_get hi]
    exact hok _ (List.getElem_mem hi)
  · refine List.ext_getElem (by simp [Pth.steps]) fun i h1 h2 => ?_
    simp [Pth.steps, lst_get h2]
theorem catN_split {f : Nat → Array Value} {m n : Nat} {g h : Nat → Array Value} (hg : ∀ i, i < m → f i = g i) (hh : ∀ i, i < n → f (m + i) = h i) : catN f (m + n) = catN g m ++ catN h n := by
  rw [catN_append, catN_congr hg, catN_congr hh]
theorem lst_left {a b : List Stp} {i : Nat} (h : i < a.length) : lst (a ++ b) i = lst a i := by unfold lst; simp [List.getD_eq_getElem?_getD, List.getElem?_append_left h]
theorem lst_right {a b : List Stp} (i : Nat) : lst (a ++ b) (a.length + i) = lst b i := by unfold lst; rw [List.getD_eq_getElem?_getD, List.getD_eq_getElem?_getD, List.getElem?_append_right (Nat.le_add_right _ _), Nat.add_sub_cancel_left]
theorem ret_stp {fn : Func} {p : Tmp} (h : fn.results = #[.cell p 50]) {tmps : Array Value} {W : World} {B : Nat} {s : Stp} (hp : tmps.getD p undef = .pointer (some ⟨B, 0, none⟩)) (H : Whole W B 50 s.cells) :
    (results fn tmps).run Tryd.prog W = .ok (.agg s.cells) W :=
  results_cell_row h tmps W B 50 s.cells (0, 0) _ hp H Tryd.underlying50 rfl stp_size
theorem stp_all (s : Stp) : s.cells.all (·.oneCell') = true := by simp [Stp.cells, Value.oneCell']
set_option maxHeartbeats 4000000 in
set_option maxRecDepth 100000 in
theorem longer_any {p : Pth} {s : Stp} {top : Nat} {w : World} (hp : p.In w top) (hs : s.ok) (ht : top ≤ w.heap.size) (hn : p.n + 1 ≤ 1048576) :
    Calls Tryd.prog 50 #[.slice p.a p.n p.c, .agg s.cells] w (PthOut (p.steps ++ [s]) w) := by
  obtain ⟨i0, hi0, hz0, hz1, hz2⟩ := info_parts Tryd.infoStp
  have hokp : ∀ x, x ∈ p.steps ++ [s] → x.ok := fun x hx => by
    rcases List.mem_append.1 hx with hx | hx
    · obtain ⟨i, hi, rfl⟩ := List.mem_map.1 hx
      exact (hp.2.2 i (List.mem_range.1 hi)).2
    · rw [List.mem_singleton.1 hx]; exact hs
  have lp := p.steps_len
  have HE : Hid (∀ (v : Value) (W : World), W.ownsRow w.heap.size 50 3 v (p.n + 1) (catN (fun i => (p.S i).cells) p.n ++ s.cells.toList) → Below w.heap.size w W → PthOut (p.steps ++ [s]) w (.returned v) W) := Lib.hid fun v W ho hb => by
    refine pth_of ?_ (by rw [List.length_append]; simp; omega) hokp hb
    rw [List.length_append, lp, show [s].length = 1 from rfl, catN_split (g := fun i => (p.S i).cells) (h := fun _ => s.cells) (fun i hi => by rw [lst_left (by omega), ← Pth.steps_get hi]) (fun i hi => by obtain rfl : i = 0 := (by omega); rw [← lp, lst_right]; rfl)]
    exact ho
  have Hb0 := (Below.refl w.heap.size w).alloc (Nat.le_refl _) (.cells s.cells 50)
  have S0 := Whole.new w 50 s.cells
  have hown0 : ((w.alloc (.cells s.cells 50)).alloc (.cells #[] 50)).ownsRow w.heap.size 50 3 (.slice (some ⟨(w.alloc (.cells s.cells 50)).heap.size, 0, none⟩) 0 0) 0 [] :=
    ⟨rfl, .inr ⟨_, 0, #[], rfl, by simp, World.alloc_heap_new _ _, Nat.le_refl _, Nat.zero_le _, rfl, rfl⟩⟩
  have s1 := Lib.hid (fun (w1 : World) (hb : Below w.heap.size w w1) (h : 0 < p.n) => (⟨⟨p.b, p.o, none⟩, (hp.1 h).1, rowL_src (fun j => stp_sz (p.S j)) (fun j hj => (Pth.In.below hp (hb.mono ht)).2.2 j hj |>.1)⟩ : ∃ ad, p.a = some ad ∧ ∀ j u, (catN (fun j => (p.S j).cells) p.n)[j]? = some u → w1.cell? (ad.add j) = some u))
  have s2 := Lib.hid (catN_one (fun j => stp_one (p.S j)) p.n)
  have s0 := Lib.hid (catN_len (fun j => stp_sz (p.S j)) p.n)
  have s3 : Hid (0 + p.n ≤ maxLen) := Lib.hid (by unfold maxLen; omega)
  have s4 : Hid ((0 + p.n) * 32 ≤ 140737488355328) := Lib.hid (by omega)
  have t2 := Lib.hid (stp_one s)
  have t3 : Hid (p.n + 1 ≤ maxLen) := Lib.hid (by unfold maxLen; omega)
  have t4 : Hid ((p.n + 1) * 32 ≤ 140737488355328) := Lib.hid (by omega)
  clear hp hokp lp hn hs
  have HB1 := Hb0.alloc (by simp) (.cells #[] 50)
  have HS1 := Lib.hid HB1.size
  have O0 := Lib.hid hown0
  have S1 := S0.alloc (.cells #[] 50)
  clear hown0 Hb0 S0
  simp only [Stp.cells] at HB1 HS1 O0 S1 ⊢
  rw [World.size_alloc] at O0
  go_enter Tryd.func50, Tryd.ntmps50
  go_wp2_with (first | (at_builtin; refine wpList_append_any _ rfl _ _ 31 rfl w.heap.size 50 i0 _ 3 32 Tryd.underlying31 hi0 hz0 hz1 hz2 rfl (by decide) _ _ _ rfl O0.out p.a p.n p.c (catN (fun j => (p.S j).cells) p.n) rfl s0.out (s1.out _ HB1) s2.out s3.out s4.out HS1.out ?_))
  intro v1 w1 hown1 hgrow1 _
  have hb1 := HB1.grown hgrow1 HS1.out (fun g hg => (O0.out.lt g hg).1)
  obtain ⟨a1, c1, b1, rfl, -, -, -⟩ := own_lies (fun j => stp_sz (p.S j)) hown1
  have S2 := S1.kept hgrow1 (fun e => by have := (O0.out.lt _ e.symm).1; first | omega | (cases e; done) | (simp [Value.ownBlock] at e))
  have hs2 := S2.lt
  have hsz1 := Lib.hid (hb1.alloc hb1.size (.cells #[.bool s.ix, .string s.key, .int .i64 s.n] 50)).size
  have O1 := Lib.hid (own_below hown1 ((Below.refl _ w1).alloc (Nat.le_refl _) (.cells #[.bool s.ix, .string s.key, .int .i64 s.n] 50)))
  have t1 := Lib.hid (cells_new w1 50 s.cells)
  have gB := hb1.alloc hb1.size (.cells #[.bool s.ix, .string s.key, .int .i64 s.n] 50)
  clear s0 s1 s2 s3 s4 HS1 O0 hown1 hgrow1 S1 HB1 hb1
  obtain ⟨k0, k1, k2⟩ := Whole.b3 (s := s) S2
  simp only [Stp.cells] at t1 t2
  go_wp2_with (first | (at_builtin; refine wpList_append_any _ rfl _ _ 31 rfl w.heap.size 50 i0 _ 3 32 Tryd.underlying31 hi0 hz0 hz1 hz2 rfl (by decide) _ _ _ rfl O1.out (some ⟨w1.heap.size, 0, none⟩) 1 1 [.bool s.ix, .string s.key, .int .i64 s.n] rfl rfl (fun _ => ⟨_, rfl, t1.out⟩) t2.out t3.out t4.out hsz1.out ?_))
  intro v2 w2 hown2 hgrow2 _
  have hb2 := gB.grown hgrow2 hsz1.out (fun g hg => (O1.out.lt g hg).1)
  go_wp2
  go_ret
  exact HE.out _ _ hown2 hb2
end Go.Proofs.YtfkfboiblgoamaaDoor
/- What the reference's Get gives at the paths of a walk: plain. -/
namespace Go.Proofs.YtfkfboiblgoamaaDoor
open Go.RowKit

theorem Vt.atN_congr {T : Vt} {S S' : Nat → Stp} : ∀ {n : Nat}, (∀ i, i < n → S i = S' i) → T.atN S n = T.atN S' n := by
  intro n
  induction n with
  | zero => intro _; rfl
  | succ n ih =>
    intro h
    have e := ih (fun i hi => h i (by omega))
    show (if (T.atN S n).2 ≠ 0 then T.atN S n else if ((T.atN S n).1.find (S n)).2 ≠ 0 then ((T.atN S n).1, ((T.atN S n).1.find (S n)).2) else ((T.atN S n).1.part ((T.atN S n).1.find (S n)).1.toNat, 0)) = _
    rw [e, h n (Nat.lt_succ_self n)]
    rfl
/-- What the reference's Get gives at the k-th path. -/
theorem walk_getV {T : Vt} {p : Pth} {U : Vt} (hg : T.good) (hu : T.upto 48) (hsz : T.size ≤ 65536) (hm : (p.steps, U) ∈ T.walk []) : T.getV p.S p.n = (U, 0) ∧ ∃ n, T.atN p.S n = (U, 0) := by
  obtain ⟨s, h1, h2, h3, h4⟩ := Vt.walk_at hg hu hsz (q := []) hm
  rw [List.nil_append] at h1
  have hl : p.n = s.length := by rw [← p.steps_len, h1]
  have hS : ∀ i, i < p.n → p.S i = lst s i := fun i hi => by rw [Pth.steps_get hi, h1]
  have ha : T.atN p.S p.n = (U, 0) := by rw [Vt.atN_congr hS, hl]; exact h2
  have hB : pathB p.S p.n = true := pathB_yes ⟨by omega, fun i hi => by
    rw [hS i hi, lst_get (by omega)]
    exact h4 _ (List.getElem_mem _)⟩
  refine ⟨?_, _, ha⟩
  unfold Vt.getV Vt.get
  rw [if_pos hB, ha, if_pos rfl]
end Go.Proofs.YtfkfboiblgoamaaDoor
