/- Values: bytes as a text. -/
import Derived.Test.YtfkfboiblgoamaaVtSame
import Derived.Test.YtfkfboiblgoamaaVtOwn
import Derived.Laws.BytesArg
namespace Go.Proofs.Ytfkfboiblgoamaa
open Go.RowKit

/-- The bytes of a value, as a text. -/
def Vt.bs (T : Vt) : ByteArray := strOfNums ((List.range T.h.bn).map T.Y)
theorem conv_bs {W : World} {top : Nat} {T : Vt} (hT : T.In W top) : (convert 26 9 (.slice T.h.ba T.h.bn T.h.bc)).run Try.prog W = .ok (.string T.bs) W := by
  cases T with
  | nil => exact hT.elim
  | mk h Y L K F =>
    obtain ⟨_, h1, h2, _⟩ := hT
    unfold Vt.bs
    simp only [Vt.h, Vt.Y]
    by_cases hz : h.bn = 0
    · rw [hz]
      have e0 : strOfNums ((List.range 0).map Y) = ByteArray.empty := rfl
      rw [e0]
      cases hb : h.ba with
      | none => exact run_convert_bytes_nil W 26 5 Try.underlying26 Try.underlying5 0 h.bc _ Try.underlying9
      | some a =>
        rw [run_convert_bytes_string W 26 9 5 _ 0 h.bc Try.underlying26 Try.underlying5 Try.underlying9,
          run_bytesToString W a 0 h.bc [] (by simp [loadCells, loadCellsFrom])]
        rfl
    · obtain ⟨hba, _⟩ := h1 (by omega)
      rw [hba]
      exact run_convert_bytes_arg W 26 5 Try.underlying26 Try.underlying5 h.bb h.bo h.bn h.bc _ (by simp) (fun i hi => by
        rw [(h2 i hi).1]
        simp [List.getD, hi]) _ Try.underlying9
theorem byte_inj {a b : Int} (a0 : 0 ≤ a) (a1 : a < 256) (b0 : 0 ≤ b) (b1 : b < 256) (h : UInt8.ofNat a.toNat = UInt8.ofNat b.toNat) : a = b := by
  have := congrArg UInt8.toNat h
  simp only [UInt8.toNat_ofNat'] at this
  omega
theorem bs_eq {W V : World} {t u : Nat} {T U : Vt} (hT : T.In W t) (hU : U.In V u) : T.bs = U.bs ↔ T.h.bn = U.h.bn ∧ ∀ i, i < T.h.bn → T.Y i = U.Y i := by
  have bT : ∀ i, i < T.h.bn → 0 ≤ T.Y i ∧ T.Y i < 256 := by
    cases T with
    | nil => exact hT.elim
    | mk h Y L K F => exact fun i hi => (hT.2.2.1 i hi).2
  have bU : ∀ i, i < U.h.bn → 0 ≤ U.Y i ∧ U.Y i < 256 := by
    cases U with
    | nil => exact hU.elim
    | mk h Y L K F => exact fun i hi => (hU.2.2.1 i hi).2
  constructor
  · intro h
    have h2 : T.bs.data.toList = U.bs.data.toList := by rw [h]
    unfold Vt.bs at h2
    rw [strOfNums_data, strOfNums_data] at h2
    have hl := congrArg List.length h2
    simp only [List.length_map, List.length_range] at hl
    refine ⟨hl, fun i hi => ?_⟩
    have h3 := congrArg (fun l => l[i]?) h2
    simp only [List.map_map, List.getElem?_map, List.getElem?_range hi, List.getElem?_range (show i < U.h.bn by omega), Option.map_some, Option.some.injEq, Function.comp] at h3
    have a := bT i hi
    have b := bU i (by omega)
    exact byte_inj a.1 a.2 b.1 b.2 h3
  · rintro ⟨h1, h2⟩
    unfold Vt.bs
    rw [← h1]
    congr 1
    exact List.map_congr_left fun i hi => h2 i (List.mem_range.1 hi)
theorem num_neq2 (a : Bool) (s : ByteArray) (e : Int) (a' : Bool) (s' : ByteArray) (e' : Int) (W : World) : (binOp .neq 23 (.agg #[.bool a, .string s, .int .i64 e]) (.agg #[.bool a', .string s', .int .i64 e'])).run Try.prog W = .ok (.bool (!(decide (a = a' ∧ s.toList = s'.toList ∧ e = e')))) W := by
  by_cases h1 : a = a'
  · subst h1
    by_cases h2 : s.toList = s'.toList
    · by_cases h3 : e = e'
      · subst h3
        simp [go_sem, h2]
      · simp [go_sem, h2, h3]
    · simp [go_sem, h2]
  · simp [go_sem, h1]
theorem tim_neq2 (a b c d a' b' c' d' : Int) (W : World) : (binOp .neq 25 (.agg #[.int .i64 a, .int .i64 b, .int .i64 c, .int .i64 d]) (.agg #[.int .i64 a', .int .i64 b', .int .i64 c', .int .i64 d'])).run Try.prog W = .ok (.bool (!(decide (a = a' ∧ b = b' ∧ c = c' ∧ d = d')))) W := by
  by_cases h1 : a = a'
  · by_cases h2 : b = b'
    · by_cases h3 : c = c'
      · by_cases h4 : d = d'
        · subst h1 h2 h3 h4
          simp [go_sem]
        · simp [go_sem, h1, h2, h3, h4]
      · simp [go_sem, h1, h2, h3]
    · simp [go_sem, h1, h2]
  · simp [go_sem, h1]
theorem ba_eq {s t : ByteArray} (h : s.toList = t.toList) : s = t := by
  rw [Lib.toList_data, Lib.toList_data] at h
  exact ByteArray.ext (Array.ext' h)
end Go.Proofs.Ytfkfboiblgoamaa
