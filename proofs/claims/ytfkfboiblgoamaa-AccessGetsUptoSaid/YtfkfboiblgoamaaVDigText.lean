/- Numerals: the text of digits in memory (printed by gen_dig2.py). -/
import Derived.Test.YtfkfboiblgoamaaVDigNum
import Derived.Test.YtfkfboiblgoamaaMemW
import Derived.OwnWalk
import Derived.Laws.IdiomStrings
import Derived.Deep.OwnRows
namespace Go.Proofs.Ytfkfboiblgoamaa
open Go.RowKit

/-! ### a block by a function -/
def fcells (n : Nat) (f : Nat → Value) : Array Value := ((List.range n).map f).toArray
theorem fcells_size (n : Nat) (f : Nat → Value) : (fcells n f).size = n := by simp [fcells]
theorem fcells_get {n : Nat} {f : Nat → Value} {i : Nat} (h : i < n) : (fcells n f)[i]? = some (f i) := by simp [fcells, h]
theorem fcells_congr {n : Nat} {f g : Nat → Value} (h : ∀ j, j < n → f j = g j) : fcells n f = fcells n g := by
  unfold fcells
  congr 1
  exact List.map_congr_left (fun j hj => h j (List.mem_range.1 hj))
theorem fcells_set (n : Nat) (f : Nat → Value) (i : Nat) (v : Value) : (fcells n f).setIfInBounds i v = fcells n (fun j => if j = i then v else f j) := by
  apply Array.ext
  · simp [fcells]
  · intro j h1 h2
    simp only [fcells, List.getElem_toArray, List.getElem_map, List.getElem_range]
    by_cases e : i = j
    · subst e; simp
    · simp [e, Ne.symm e]
theorem fcells_made (n : Nat) (z : Value) : madeCells #[z] n = fcells n (fun _ => z) := by
  apply Array.ext
  · simp [madeCells, fcells]
  · intro i h1 h2
    simp [madeCells, fcells, Nat.mod_one]
theorem Whole.fcell {W : World} {B : Nat} {t : TypeId} {n i : Nat} {f : Nat → Value} (h : Whole W B t (fcells n f)) (hi : i < n) : W.cell? ⟨B, i, none⟩ = some (f i) := (h.cell i).trans (fcells_get hi)
theorem Whole.fset {W : World} {B : Nat} {t : TypeId} {n i : Nat} {f g : Nat → Value} {v : Value} (h : Whole W B t (fcells n f)) (hv : g i = v) (hg : ∀ j, j < n → j ≠ i → g j = f j) : Whole (W.setCell ⟨B, i, none⟩ v) B t (fcells n g) := by
  have := h.set i v
  rw [fcells_set] at this
  rw [fcells_congr (g := fun j => if j = i then v else f j) (fun j hjn => by
    by_cases e : j = i
    · subst e; simp [hv]
    · simp [e, hg j hjn e])]
  exact this
theorem Try.infoByte : (Try.prog.info? 5).map (fun i => (i.zero, i.size, i.bytes)) = some (some (.int .u8 0), 1, 1) := by kernel_rfl
theorem Try.infoInt : (Try.prog.info? 3).map (fun i => (i.zero, i.size, i.bytes)) = some (some (.int .i64 0), 1, 8) := by kernel_rfl
theorem make_bytes {n : Nat} (h : n ≤ 100000000) (w : World) : (Instr.makeSlice 26 (.int .i64 (n : Int)) (.int .i64 (n : Int))).run Try.prog w = .ok (.slice (some ⟨w.heap.size, 0, none⟩) n n) (w.alloc (.cells (fcells n (fun _ => .int .u8 0)) 5)) := by
  rw [← fcells_made]
  exact run_make_row' (P := Try.prog) 26 5 (.int .u8 0) 1 Try.underlying26 Try.infoByte rfl .i64 .i64 n (by omega) (by omega) w
theorem make_ints {n : Nat} (h : n ≤ 100000000) (w : World) : (Instr.makeSlice 81 (.int .i64 (n : Int)) (.int .i64 (n : Int))).run Try.prog w = .ok (.slice (some ⟨w.heap.size, 0, none⟩) n n) (w.alloc (.cells (fcells n (fun _ => .int .i64 0)) 3)) := by
  rw [← fcells_made]
  exact run_make_row' (P := Try.prog) 81 3 (.int .i64 0) 8 Try.underlying81 Try.infoInt rfl .i64 .i64 n (by omega) (by omega) w

namespace Dig
/-- The bytes of digits, as far as they are laid, from the end. -/
def tx (v n i : Nat) (p : Nat) : Value := .int .u8 (if n - 1 - p < i then 48 + (dg v (n - 1 - p) : Int) else 0)
theorem digs_get {v n j : Nat} (h : j < n) : (digs v n)[j]? = some (ch (dg v (n - 1 - j))) := by unfold digs; simp [h]
theorem digs_len (v n : Nat) : (digs v n).length = n := by simp [digs]
end Dig
theorem conv_digs {W : World} {B v n : Nat} (h : Whole W B 5 (fcells n (Dig.tx v n n))) :
    (convert 26 9 (.slice (some ⟨B, 0, none⟩) n n)).run Try.prog W = .ok (.string (Dig.bs (Dig.digs v n))) W := by
  have k := run_convert_bytes_back (P := Try.prog) W 26 9 5 ⟨B, 0, none⟩ n (Dig.digs v n) Try.underlying26 Try.underlying5 Try.underlying9 (by
    intro j hj
    have hj' : j < n := by rw [Dig.digs_len] at hj; exact hj
    rw [show (Addr.add ⟨B, 0, none⟩ j) = ⟨B, j, none⟩ by cases j <;> simp [Addr.add]]
    refine (h.fcell hj').trans ?_
    have e := Dig.digs_get (v := v) hj'
    rw [List.getElem?_eq_getElem hj] at e
    have e2 := Option.some.inj e
    rw [e2, Dig.ch_nat (Dig.dg_lt _ _)]
    unfold Dig.tx
    rw [if_pos (by omega)]
    simp)
  rwa [Dig.digs_len] at k

/-! ### leading zeros -/
namespace Dig
theorem lead (x : ByteArray) : ∃ c, c ≤ x.size ∧ (∀ i (h : i < x.size), i < c → x[i].toNat = 48) ∧ (∀ h : c < x.size, x[c].toNat ≠ 48) ∧ strip (l x) = (l x).drop c := by
  have key : ∀ k : List UInt8, ∃ c, c ≤ k.length ∧ (∀ i (h : i < k.length), i < c → k[i].toNat = 48) ∧ (∀ h : c < k.length, k[c].toNat ≠ 48) ∧ strip k = k.drop c := by
    intro k
    induction k with
    | nil => exact ⟨0, Nat.le_refl _, fun i h _ => by simp at h, fun h => by simp at h, rfl⟩
    | cons a t ih =>
      obtain ⟨c, h1, h2, h3, h4⟩ := ih
      by_cases e : a.toNat = 48
      · have ea : a = 48 := UInt8.toNat_inj.1 e
        refine ⟨c + 1, by simp; omega, fun i hi hc => ?_, fun h => by simpa using h3 (by simpa using h), ?_⟩
        · cases i with
          | zero => exact e
          | succ i => simpa using h2 i (by simpa using hi) (by omega)
        · unfold strip at h4 ⊢
          rw [List.dropWhile_cons, if_pos (by rw [ea]; rfl), h4]; rfl
      · refine ⟨0, Nat.zero_le _, fun i _ hc => by omega, fun _ => by simpa using e, ?_⟩
        unfold strip
        rw [List.dropWhile_cons, if_neg (by intro g; exact e (by rw [beq_iff_eq.1 g]; rfl))]; rfl
  obtain ⟨c, h1, h2, h3, h4⟩ := key (l x)
  rw [l_len] at h1
  exact ⟨c, h1, fun i hi hc => h2 i (by rw [l_len]; exact hi) hc, fun h => h3 (by rw [l_len]; exact h), h4⟩
theorem drop_ext (x : ByteArray) (c : Nat) : x.extract c x.size = bs ((l x).drop c) := by
  apply ByteArray.ext
  rw [ByteArray.data_extract]
  apply Array.ext'
  simp [bs, l, List.extract_eq_take_drop]
  exact List.take_of_length_le (by rw [List.length_drop, Array.length_toList]; exact Nat.le_refl _)
end Dig
namespace Dig
/-- A result, unless it is too long. -/
def lim (v : Nat) : ByteArray × Int := if v < big 600 then (st v, 0) else (⟨#[]⟩, 2)
end Dig

end Go.Proofs.Ytfkfboiblgoamaa
