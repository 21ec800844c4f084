/- UTF-8: cutting by characters, and the reference's boundaries. -/
import Derived.Test.YtfkfboiblgoamaaVUtfWalksD
import Derived.OwnWalk
import Derived.Maps.AppendAt
import Derived.Laws.AppendOwn
import Derived.Deep.QuietTactic
import Derived.BigQuiet
namespace Go.Proofs.Ytfkfboiblgoamaa
open Go.RowKit

/-! ### the reference's boundaries -/
def bounds (rs : List Int) (n : Nat) : List Value := (List.range n).map fun i => Value.int .i64 (Utf.off rs i)
theorem bounds_succ (rs : List Int) (n : Nat) : bounds rs (n + 1) = bounds rs n ++ [.int .i64 (Utf.off rs n)] := by unfold bounds; rw [List.range_succ, List.map_append]; rfl
theorem bounds_len (rs : List Int) (n : Nat) : (bounds rs n).length = n := by unfold bounds; simp
theorem bounds_get (rs : List Int) (n i : Nat) (h : i < n) : (bounds rs n)[i]? = some (.int .i64 (Utf.off rs i)) := by unfold bounds; simp [h]

theorem Try.infoInt : (Try.prog.info? 3).map (fun i => (i.zero, i.size, i.bytes)) = some (some (.int .i64 0), 1, 8) := by kernel_rfl

set_option maxHeartbeats 1000000 in
theorem boundaries_any {s : ByteArray} {rs : List Int} {rest : List UInt8} (h : Utf.Split s.data.toList rs rest) (hs : s.size ≤ 1048576) (w : World) :
    Calls Try.prog 57 #[.string s] w fun e w' =>
      ∃ v : Value, e = .returned (.tuple #[v, .bool (decide (rest.length = 0))]) ∧ w'.ownsRow w.heap.size 3 1 v (rs.length + 1) (bounds rs (rs.length + 1)) ∧ Below w.heap.size w w' := by
  obtain ⟨i0, hi, hz0, hz1, hz2⟩ := info_parts Try.infoInt
  have HE := (at_end h).1
  have hcl : rs.length ≤ s.size := by simpa using Utf.count_le h
  have HS : Hid (s.size ≤ maxLen) := Lib.hid (by unfold maxLen; omega)
  have HSP := Lib.hid h; clear h
  have HE' := Lib.hid HE; clear HE
  go_enter Try.func57, Try.ntmps57
  go_wp2
  go_loopw [4, 5] (fun v i wr => ∃ k : Nat, k ≤ rs.length ∧ i = .int .i64 (Utf.off rs k) ∧ wr.ownsRow w.heap.size 3 1 v (k + 1) (bounds rs (k + 1)) ∧ Below w.heap.size w wr) (fun _ i _ => s.size - (intOf i).toNat)
  case atStart =>
    exact ⟨0, by omega, rfl, World.ownsRow_lit w #[.int .i64 0] 1 (Nat.le_refl _) (by decide) (by decide), (Below.refl _ _).alloc (Nat.le_refl _) _⟩
  case round =>
    obtain ⟨k, hk, rfl, hown, hbr⟩ := hrel
    by_cases hlt : k < rs.length
    · have hlt' : Utf.off rs k < s.size := (at_char HSP.out k hlt).1
      have hw := Utf.wid_bd rs[k]
      have HO := Lib.hid (Utf.off_succ rs k hlt)
      have hle : Utf.off rs k + Utf.wid rs[k] ≤ s.size := by rw [← HO.out]; simpa using Utf.off_le HSP.out (k + 1)
      have t1 : ((Utf.wid rs[k] : Int) == 0) = false := by simp; omega
      have HC := Lib.hid (rdecode_char HSP.out HS.out k hlt)
      go_wp2_with (first | (go_at_call 66; refine (HC.out _).mono ?_; rintro e w2 ⟨rfl, hb2⟩; have hown2 := own_below hown hb2; have hsz2 := hb2.size; replace hbr := hbr.trans (hb2.mono hbr.size)) | (at_builtin; refine wpList_append_own _ rfl _ _ 81 rfl w.heap.size 3 i0 (.int .i64 0) 1 8 Try.underlying81 hi hz0 hz1 hz2 rfl (by decide) _ _ _ rfl (hown2.alloc _) ⟨w2.heap.size, 0, none⟩ 1 1 [.int .i64 (Utf.off rs k + Utf.wid rs[k])] rfl rfl ?c1 ?c2 ?c3 ?c4 ?c5 ?_))
      case c1 => exact cell_one_new _ _ _
      case c2 => simp [Value.oneCell']
      case c3 => unfold maxLen; omega
      case c4 => omega
      case c5 => have := hbr.size; simp; omega
      intro v' w3 hown3 hgrow _
      have hb3 := below_grown hbr hbr.size hown2 (Nat.le_refl _) hgrow
      rw [← Int.natCast_add, ← HO.out, ← bounds_succ] at hown3
      clear hown hown2 hgrow
      go_wp2
      go_roundw
      case rel => exact ⟨k + 1, by omega, by rw [HO.out]; go_num, hown3, hb3⟩
      case measure => simp [intOf]; omega
    · obtain rfl : k = rs.length := by omega
      by_cases hr : rest.length = 0
      · have hlt' : ¬ Utf.off rs rs.length < s.size := by have := HE'.out; omega
        have HR := Lib.hid hr; clear hr
        go_wp2
        go_ret2
        rw [decide_eq_true HR.out]
        exact ⟨_, rfl, hown, hbr⟩
      · have hlt' : Utf.off rs rs.length < s.size := by have := HE'.out; omega
        have HC := Lib.hid (rdecode_rest HSP.out HS.out (by omega))
        have HR := Lib.hid hr; clear hr
        go_wp2_with (go_at_call 66; refine (HC.out _).mono ?_; rintro e w2 ⟨rfl, hb2⟩; have hown2 := own_below hown hb2; replace hbr := hbr.trans (hb2.mono hbr.size))
        go_ret2
        rw [decide_eq_false HR.out]
        exact ⟨_, rfl, hown2, hbr⟩

theorem rvalid_any {s : ByteArray} {rs : List Int} {rest : List UInt8} (h : Utf.Split s.data.toList rs rest) (hs : s.size ≤ 1048576) (w : World) :
    Calls Try.prog 50 #[.string s] w fun e w' => e = .returned (.bool (decide (rest.length = 0))) ∧ Below w.heap.size w w' := by
  have HB := Lib.hid (boundaries_any h hs)
  clear h
  generalize decide (rest.length = 0) = b at *
  go_enter Try.func50, Try.ntmps50
  go_wp2_with fail
  refine (HB.out _).mono ?_; rintro e w1 ⟨v, rfl, hown, hb1⟩
  go_wp2_with fail
  go_ret
  exact ⟨rfl, hb1⟩
/-! ### Slice -/
theorem off_le_of {rs : List Int} {i j : Nat} (h : i ≤ j) : Utf.off rs i ≤ Utf.off rs j := by
  have := Utf.off_mono rs i (j - i)
  rwa [show i + (j - i) = j by omega] at this
theorem below_drewN' {B : Nat} {a w : World} (h : Below B a w) (n : Nat) : Below B a (w.drewN n) := ⟨h.os, h.tape, h.output, h.size, h.block⟩
end Go.Proofs.Ytfkfboiblgoamaa
