/- UTF-8: the iterator over the characters: its contract for every loop body. -/
import Derived.Test.YtjokidcjjfdkpaaUtfWalksE
import Derived.Test.YtjokidcjjfdkpaaMemBox
import Derived.RangeFuncNested
import Derived.RangeFuncBound
import Derived.RangeFuncCalls
import Derived.RangeFuncLeaves
import Derived.RangeFuncBox
import Derived.Shelf.Abstract
import Derived.Shelf.RegionOpen
import Derived.OwnWalkIn
import Derived.TacticsInMore
import Derived.LoopNIn
import Derived.LoopIn
namespace Go.Proofs.Ytjokidcjjfdkpaa
open Go.RowKit Go.Shelf
attribute [local go_sem] Oper.semAt_some

theorem runes_make (s : ByteArray) (w : World) : Calls Try.prog 37 #[.string s] w fun e w' => e = .returned (.func (.func 42) #[] #[.pointer (some ⟨w.heap.size, 0, none⟩)]) ∧ w' = w.alloc (.cells #[.string s] 9) := by
  have hmf : ∀ (fn : Fn) (first cap : Array Value) (w : World), (Instr.makeFunc fn first cap).run Try.prog w = .ok (.func fn first cap) w := fun _ _ _ _ => rfl
  go_enter Try.func37, Try.ntmps37
  go_wp2
  go_ret
  exact ⟨rfl, rfl⟩

set_option maxRecDepth 100000 in
set_option maxHeartbeats 1000000 in
theorem runes_in (n : Nat) (_hn : 1 ≤ n) (l Bn : Nat) {s : ByteArray} {rs : List Int} {rest : List UInt8} (h : Utf.Split s.data.toList rs rest) (hs : s.size ≤ 4096) (J Jx : List Int → World → Prop)
    (hY : ∀ pre x W, J pre W → pre.length < rs.length → YieldAt Fence.wide (n - 1) Try.prog l #[.int .i64 x] W fun e W' =>
      (e = .returned (.bool true) ∧ J (pre ++ [x]) W' ∧ KeepsCell Bn W W') ∨ (e = .returned (.bool false) ∧ Jx (pre ++ [x]) W'))
    (W : World) (hBn : W.cell? ⟨Bn, 0, none⟩ = some (.string s)) (h0 : J [] W) :
    CallsIn Fence.wide n Try.prog 42 #[.func (.yield l) #[] #[], .pointer (some ⟨Bn, 0, none⟩)] W fun e W' => (∃ v, e = .returned v) ∧
      ((∃ ys, ys = rs ∧ J ys W') ∨ (∃ pre, pre <+: rs ∧ Jx pre W')) := by
  have hcl : rs.length ≤ s.size := by simpa using Utf.count_le h
  have HE := Lib.hid (at_end h).1
  have HS : Hid (s.size ≤ maxLen) := Lib.hid (by unfold maxLen; omega)
  have HSP := Lib.hid h; clear h
  have HY := Lib.hid hY; clear hY
  refine callsIn_of_wp Try.func42 rfl trivial ?_ rfl
  simp only [Try.ntmps42, List.size_toArray, List.length_cons, List.length_nil, Nat.reduceAdd, Nat.reduceSub, Array.replicate_succ, Array.replicate_zero, List.push_toArray, List.append_toArray, List.nil_append, List.cons_append]
  gi_wp2
  gi_loopw [3] (fun p wr => ∃ k : Nat, k ≤ rs.length ∧ p = .int .i64 (Utf.off rs k) ∧ J (rs.take k) wr ∧ wr.cell? ⟨Bn, 0, none⟩ = some (.string s)) (fun p _ => s.size - (intOf p).toNat)
  case atStart => exact ⟨0, by omega, rfl, h0, hBn⟩
  case round =>
    obtain ⟨k, hk, rfl, hJ, hc⟩ := hrel
    by_cases hlt' : k < rs.length
    · have ho : Utf.off rs k < s.size := (at_char HSP.out k hlt').1
      have hw := Utf.wid_bd rs[k]
      have HO := Lib.hid (Utf.off_succ rs k hlt')
      have hle : Utf.off rs k + Utf.wid rs[k] ≤ s.size := by rw [← HO.out]; simpa using Utf.off_le HSP.out (k + 1)
      have t1 : ((Utf.wid rs[k] : Int) == 0) = false := by simp; omega
      have HC := Lib.hid (decode_char HSP.out HS.out k hlt')
      have HT : Hid (rs.take k ++ [rs[k]] = rs.take (k + 1)) := Lib.hid (List.take_succ_eq_append_getElem hlt').symm
      obtain ⟨fn, tmps, assign, body, hy, hR⟩ := HY.out (rs.take k) rs[k] wr hJ (by rw [List.length_take]; omega)
      rw [HT.out] at hR
      generalize Utf.wid rs[k] = wd at *
      generalize rs[k] = rr at *
      gi_wp2_with (refine ⟨trivial, ?_⟩; gi_at_call 21; refine (callsIn_wide.2 (HC.out _)).mono ?_; rintro e w' ⟨rfl, rfl⟩)
      refine hR.mono ?_
      rintro e W3 (⟨rfl, hJ3, hk3⟩ | ⟨rfl, hJx3⟩)
      · have hc3 : W3.cell? ⟨Bn, 0, none⟩ = some (.string s) := hk3 _ hc
        gi_wp2
        go_roundw
        case rel => exact ⟨k + 1, by omega, by rw [HO.out]; go_num, hJ3, hc3⟩
        case measure => simp [intOf]; omega
      · gi_wp2
        refine bodyPost_ret (results_none rfl _ _ _) rfl ?_
        exact ⟨⟨_, rfl⟩, .inr ⟨rs.take (k + 1), List.take_prefix _ _, hJx3⟩⟩
    · obtain rfl : k = rs.length := by omega
      rw [List.take_length] at hJ
      by_cases hr : rest.length = 0
      · have ho : ¬ Utf.off rs rs.length < s.size := by have := HE.out; omega
        clear hr
        gi_wp2
        go_end0
        exact ⟨⟨_, rfl⟩, .inl ⟨rs, rfl, hJ⟩⟩
      · have ho : Utf.off rs rs.length < s.size := by have := HE.out; omega
        have HC := Lib.hid (decode_rest HSP.out HS.out (by omega))
        clear hr
        gi_wp2_with (refine ⟨trivial, ?_⟩; gi_at_call 21; refine (callsIn_wide.2 (HC.out _)).mono ?_; rintro e w' ⟨rfl, rfl⟩)
        refine ⟨fun _ h => (by cases h), ?_⟩
        gi_wp2
        refine bodyPost_ret (results_none rfl _ _ _) rfl ?_
        exact ⟨⟨_, rfl⟩, .inl ⟨rs, rfl, hJ⟩⟩

/-- The iterator's contract: all characters, or a beginning of them, where a round has said no more. -/
theorem runes_stops (n : Nat) (hn : 1 ≤ n) (Bn : Nat) {s : ByteArray} {rs : List Int} {rest : List UInt8} (h : Utf.Split s.data.toList rs rest) (hs : s.size ≤ 4096) (w : World) (hB : Bn < w.heap.size)
    (hc : w.cell? ⟨Bn, 0, none⟩ = some (.string s)) :
    SeqStopsK Fence.wide n Try.prog 42 #[.pointer (some ⟨Bn, 0, none⟩)] (fun x : Int => #[Value.int .i64 x]) (KeepsCell Bn) (fun ys => ys = rs) (fun pre => pre <+: rs) rs.length w := fun l J Jx W hW _ _ hY h0 =>
  runes_in n hn l Bn h hs J Jx hY W ((hW.cell (p := ⟨Bn, 0, none⟩) hB).trans hc) h0
end Go.Proofs.Ytjokidcjjfdkpaa
