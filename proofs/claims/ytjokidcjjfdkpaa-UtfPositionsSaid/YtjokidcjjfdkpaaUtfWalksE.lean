/- UTF-8: cutting by characters, and the reference's boundaries. -/
import Derived.Test.YtjokidcjjfdkpaaUtfWalksD
import Derived.OwnWalk
import Derived.Maps.AppendAt
import Derived.Laws.AppendOwn
import Derived.Deep.QuietTactic
import Derived.BigQuiet
namespace Go.Proofs.Ytjokidcjjfdkpaa
open Go.RowKit

theorem skip_any {s : ByteArray} {rs : List Int} {rest : List UInt8} (h : Utf.Split s.data.toList rs rest) (hs : s.size ≤ maxLen) (i n : Nat) (hin : i + n ≤ rs.length) (w : World) :
    Calls Try.prog 39 #[.string s, .int .i64 (Utf.off rs i), .int .i64 n] w fun e w' => e = .returned (.int .i64 (Utf.off rs (i + n))) ∧ w = w' := by
  have hcl : rs.length ≤ s.size := by simpa using Utf.count_le h
  have hs' := hs
  unfold maxLen at hs'
  have HS := Lib.hid hs; clear hs
  have HSP := Lib.hid h; clear h
  go_enter Try.func39, Try.ntmps39
  go_wp2
  go_loop [1, 2] (fun a m => ∃ j : Nat, j ≤ n ∧ a = .int .i64 (Utf.off rs (i + (n - j))) ∧ m = .int .i64 j) (fun _ m => (intOf m).toNat)
  case atStart => exact ⟨n, Nat.le_refl _, by rw [Nat.sub_self]; rfl, rfl⟩
  case round =>
    obtain ⟨j, hj, rfl, rfl⟩ := hrel
    by_cases h0 : 0 < j
    · obtain ⟨k, rfl⟩ : ∃ k, j = k + 1 := ⟨j - 1, by omega⟩
      have hlt : i + (n - (k + 1)) < rs.length := by omega
      have hw := Utf.wid_bd rs[i + (n - (k + 1))]
      have HO := Lib.hid (Utf.off_succ rs (i + (n - (k + 1))) hlt)
      have hle : Utf.off rs (i + (n - (k + 1))) + Utf.wid rs[i + (n - (k + 1))] ≤ s.size := by rw [← HO.out]; simpa using Utf.off_le HSP.out (i + (n - (k + 1)) + 1)
      have HE : Hid (i + (n - (k + 1)) + 1 = i + (n - k)) := Lib.hid (by omega)
      have HC := Lib.hid (decode_char HSP.out HS.out (i + (n - (k + 1))) hlt)
      generalize Utf.wid rs[i + (n - (k + 1))] = wd at *
      generalize rs[i + (n - (k + 1))] = rr at *
      go_wp2_with (go_at_call 21; refine (HC.out _).mono ?_; rintro e w' ⟨rfl, rfl⟩)
      go_round
      case rel => exact ⟨k, by omega, by rw [← HE.out, HO.out]; go_num, rfl⟩
      case measure => simp [intOf]
    · obtain rfl : j = 0 := by omega
      go_wp2
      go_ret
      exact ⟨rfl, rfl⟩

/-! ### the reference's boundaries -/
def bounds (rs : List Int) (n : Nat) : List Value := (List.range n).map fun i => Value.int .i64 (Utf.off rs i)
theorem bounds_succ (rs : List Int) (n : Nat) : bounds rs (n + 1) = bounds rs n ++ [.int .i64 (Utf.off rs n)] := by unfold bounds; rw [List.range_succ, List.map_append]; rfl
theorem bounds_len (rs : List Int) (n : Nat) : (bounds rs n).length = n := by unfold bounds; simp
theorem bounds_get (rs : List Int) (n i : Nat) (h : i < n) : (bounds rs n)[i]? = some (.int .i64 (Utf.off rs i)) := by unfold bounds; simp [h]

theorem Try.infoInt : (Try.prog.info? 3).map (fun i => (i.zero, i.size, i.bytes)) = some (some (.int .i64 0), 1, 8) := by kernel_rfl

set_option maxHeartbeats 1000000 in
theorem boundaries_any {s : ByteArray} {rs : List Int} {rest : List UInt8} (h : Utf.Split s.data.toList rs rest) (hs : s.size ≤ 4096) (w : World) :
    Calls Try.prog 36 #[.string s] w fun e w' =>
      ∃ v : Value, e = .returned (.tuple #[v, .bool (decide (rest.length = 0))]) ∧ w'.ownsRow w.heap.size 3 1 v (rs.length + 1) (bounds rs (rs.length + 1)) ∧ Below w.heap.size w w' := by
  obtain ⟨i0, hi, hz0, hz1, hz2⟩ := info_parts Try.infoInt
  have HE := (at_end h).1
  have hcl : rs.length ≤ s.size := by simpa using Utf.count_le h
  have HS : Hid (s.size ≤ maxLen) := Lib.hid (by unfold maxLen; omega)
  have HSP := Lib.hid h; clear h
  have HE' := Lib.hid HE; clear HE
  go_enter Try.func36, Try.ntmps36
  go_wp2
  go_loopw [4, 5] (fun v i wr => ∃ k : Nat, k ≤ rs.length ∧ i = .int .i64 (Utf.off rs k) ∧ wr.ownsRow w.heap.size 3 1 v (k + 1) (bounds rs (k + 1)) ∧ Below w.heap.size w wr) (fun _ i _ => s.size - (intOf i).toNat)
  case atStart =>
    exact ⟨0, by omega, rfl, World.ownsRow_lit w #[.int .i64 0] 1 (Nat.le_refl _) (by decide) (by decide), (Below.refl _ _).alloc (Nat.le_refl _) _⟩
  case round =>
    obtain ⟨k, hk, rfl, hown, hbr⟩ := hrel
    by_cases hlt : k < rs.length
    · have hlt' : Utf.off rs k < s.size := (at_char HSP.out k hlt).1
      have hw := Utf.wid_bd rs[k]
      have HO := Lib.hid (Utf.off_succ rs k hlt)
      have hle : Utf.off rs k + Utf.wid rs[k] ≤ s.size := by rw [← HO.out]; simpa using Utf.off_le HSP.out (k + 1)
      have t1 : ((Utf.wid rs[k] : Int) == 0) = false := by simp; omega
      have HC := Lib.hid (rdecode_char HSP.out HS.out k hlt)
      go_wp2_with (first | (go_at_call 22; refine (HC.out _).mono ?_; rintro e w2 ⟨rfl, hb2⟩; have hown2 := own_below hown hb2; have hsz2 := hb2.size; replace hbr := hbr.trans (hb2.mono hbr.size)) | (at_builtin; refine wpList_append_own _ rfl _ _ 29 rfl w.heap.size 3 i0 (.int .i64 0) 1 8 Try.underlying29 hi hz0 hz1 hz2 rfl (by decide) _ _ _ rfl (hown2.alloc _) ⟨w2.heap.size, 0, none⟩ 1 1 [.int .i64 (Utf.off rs k + Utf.wid rs[k])] rfl rfl ?c1 ?c2 ?c3 ?c4 ?c5 ?_))
      case c1 => exact cell_one_new _ _ _
      case c2 => simp [Value.oneCell']
      case c3 => unfold maxLen; omega
      case c4 => omega
      case c5 => have := hbr.size; simp; omega
      intro v' w3 hown3 hgrow _
      have hb3 := below_grown hbr hbr.size hown2 (Nat.le_refl _) hgrow
      rw [← Int.natCast_add, ← HO.out, ← bounds_succ] at hown3
      clear hown hown2 hgrow
      go_wp2
      go_roundw
      case rel => exact ⟨k + 1, by omega, by rw [HO.out]; go_num, hown3, hb3⟩
      case measure => simp [intOf]; omega
    · obtain rfl : k = rs.length := by omega
      by_cases hr : rest.length = 0
      · have hlt' : ¬ Utf.off rs rs.length < s.size := by have := HE'.out; omega
        have HR := Lib.hid hr; clear hr
        go_wp2
        go_ret2
        rw [decide_eq_true HR.out]
        exact ⟨_, rfl, hown, hbr⟩
      · have hlt' : Utf.off rs rs.length < s.size := by have := HE'.out; omega
        have HC := Lib.hid (rdecode_rest HSP.out HS.out (by omega))
        have HR := Lib.hid hr; clear hr
        go_wp2_with (go_at_call 22; refine (HC.out _).mono ?_; rintro e w2 ⟨rfl, hb2⟩; have hown2 := own_below hown hb2; replace hbr := hbr.trans (hb2.mono hbr.size))
        go_ret2
        rw [decide_eq_false HR.out]
        exact ⟨_, rfl, hown2, hbr⟩

theorem rvalid_any {s : ByteArray} {rs : List Int} {rest : List UInt8} (h : Utf.Split s.data.toList rs rest) (hs : s.size ≤ 4096) (w : World) :
    Calls Try.prog 24 #[.string s] w fun e w' => e = .returned (.bool (decide (rest.length = 0))) ∧ Below w.heap.size w w' := by
  have HB := Lib.hid (boundaries_any h hs)
  clear h
  generalize decide (rest.length = 0) = b at *
  go_enter Try.func24, Try.ntmps24
  go_wp2_with fail
  refine (HB.out _).mono ?_; rintro e w1 ⟨v, rfl, hown, hb1⟩
  go_wp2_with fail
  go_ret
  exact ⟨rfl, hb1⟩
theorem rlen_any {s : ByteArray} {rs : List Int} {rest : List UInt8} (h : Utf.Split s.data.toList rs rest) (hs : s.size ≤ 4096) (w : World) :
    Calls Try.prog 26 #[.string s] w fun e w' => e = .returned (.tuple #[.int .i64 (lenN rs rest), .int .i64 (lenE rest)]) ∧ Below w.heap.size w w' := by
  have HB := Lib.hid (boundaries_any h hs)
  have hcl : rs.length ≤ s.size := by simpa using Utf.count_le h
  clear h
  unfold lenN lenE
  by_cases hr : rest.length = 0
  · rw [if_pos hr, if_pos hr]
    rw [decide_eq_true hr] at HB
    clear hr
    go_enter Try.func26, Try.ntmps26
    go_wp2_with fail
    refine (HB.out _).mono ?_; rintro e w1 ⟨v, rfl, hown, hb1⟩
    obtain ⟨g, cap, rfl, _, _⟩ := own_form hown (by omega)
    clear hown
    go_wp2_with fail
    go_ret2
    exact ⟨rfl, hb1⟩
  · rw [if_neg hr, if_neg hr]
    rw [decide_eq_false hr] at HB
    clear hr
    go_enter Try.func26, Try.ntmps26
    go_wp2_with fail
    refine (HB.out _).mono ?_; rintro e w1 ⟨v, rfl, hown, hb1⟩
    go_wp2_with fail
    go_ret2
    exact ⟨rfl, hb1⟩

/-! ### Slice -/
theorem off_le_of {rs : List Int} {i j : Nat} (h : i ≤ j) : Utf.off rs i ≤ Utf.off rs j := by
  have := Utf.off_mono rs i (j - i)
  rwa [show i + (j - i) = j by omega] at this
theorem slice_bad {s : ByteArray} {rs : List Int} {rest : List UInt8} (h : Utf.Split s.data.toList rs rest) (hs : s.size ≤ maxLen) (hr : rest.length ≠ 0) (a b : Int) (w : World) :
    Calls Try.prog 27 #[.string s, .int .i64 a, .int .i64 b] w fun e w' => e = .returned (.tuple #[.string ⟨#[]⟩, .int .i64 5]) ∧ w = w' := by
  have HL := Lib.hid (len_any h hs)
  unfold lenE at HL
  rw [if_neg hr] at HL
  clear h hr
  go_enter Try.func27, Try.ntmps27
  go_wp2_with fail
  refine (HL.out _).mono ?_; rintro e w' ⟨rfl, rfl⟩
  go_wp2_with fail
  go_ret2
  exact ⟨rfl, rfl⟩
theorem slice_range {s : ByteArray} {rs : List Int} {rest : List UInt8} (h : Utf.Split s.data.toList rs rest) (hs : s.size ≤ maxLen) (hr : rest.length = 0) (a b : Int) (hab : a < 0 ∨ b < a ∨ rs.length < b) (w : World) :
    Calls Try.prog 27 #[.string s, .int .i64 a, .int .i64 b] w fun e w' => e = .returned (.tuple #[.string ⟨#[]⟩, .int .i64 2]) ∧ w = w' := by
  have HL := Lib.hid (len_any h hs)
  unfold lenE lenN at HL
  rw [if_pos hr, if_pos hr] at HL
  clear h hr
  by_cases h1 : a < 0
  · go_enter Try.func27, Try.ntmps27
    go_wp2_with fail
    refine (HL.out _).mono ?_; rintro e w' ⟨rfl, rfl⟩
    go_wp2_with fail
    go_ret2
    exact ⟨rfl, rfl⟩
  · have d1 : decide (a < 0) = false := decide_eq_false h1
    by_cases h2 : b < a
    · clear hab
      go_enter Try.func27, Try.ntmps27
      go_wp2_with fail
      refine (HL.out _).mono ?_; rintro e w' ⟨rfl, rfl⟩
      go_wp2_with fail
      go_ret2
      exact ⟨rfl, rfl⟩
    · have d2 : decide (b < a) = false := decide_eq_false h2
      have h3 : rs.length < b := by omega
      clear hab
      go_enter Try.func27, Try.ntmps27
      go_wp2_with fail
      refine (HL.out _).mono ?_; rintro e w' ⟨rfl, rfl⟩
      go_wp2_with fail
      go_ret2
      exact ⟨rfl, rfl⟩
theorem slice_ok {s : ByteArray} {rs : List Int} {rest : List UInt8} (h : Utf.Split s.data.toList rs rest) (hs : s.size ≤ maxLen) (hr : rest.length = 0) (a b : Nat) (hab : a ≤ b) (hb : b ≤ rs.length) (w : World) :
    Calls Try.prog 27 #[.string s, .int .i64 a, .int .i64 b] w fun e w' => e = .returned (.tuple #[.string (s.extract (Utf.off rs a) (Utf.off rs b)), .int .i64 0]) ∧ w = w' := by
  have HL := Lib.hid (len_any h hs)
  unfold lenE lenN at HL
  rw [if_pos hr, if_pos hr] at HL
  have hcl : rs.length ≤ s.size := by simpa using Utf.count_le h
  have H1 := Lib.hid (skip_any h hs 0 a (by omega))
  have H2 := Lib.hid (skip_any h hs a (b - a) (by omega))
  rw [Nat.zero_add, Utf.off_zero] at H1
  rw [show a + (b - a) = b by omega, Int.ofNat_sub hab] at H2
  have ho := off_le_of (rs := rs) hab
  have hob : Utf.off rs b ≤ s.size := by simpa using Utf.off_le h b
  unfold maxLen at hs
  clear h hr
  go_enter Try.func27, Try.ntmps27
  go_wp2_with fail
  refine (HL.out _).mono ?_; rintro e w' ⟨rfl, rfl⟩
  go_wp2_with fail
  refine (H1.out _).mono ?_; rintro e w' ⟨rfl, rfl⟩
  go_wp2_with fail
  refine (H2.out _).mono ?_; rintro e w' ⟨rfl, rfl⟩
  go_wp2_with fail
  go_ret2
  exact ⟨rfl, rfl⟩

theorem rslice_bad {s : ByteArray} {rs : List Int} {rest : List UInt8} (h : Utf.Split s.data.toList rs rest) (hs : s.size ≤ 4096) (hr : rest.length ≠ 0) (a b : Int) (w : World) :
    Calls Try.prog 28 #[.string s, .int .i64 a, .int .i64 b] w fun e w' => e = .returned (.tuple #[.string ⟨#[]⟩, .int .i64 5]) ∧ Below w.heap.size w w' := by
  have HB := Lib.hid (boundaries_any h hs)
  rw [decide_eq_false hr] at HB
  clear h hr
  go_enter Try.func28, Try.ntmps28
  go_wp2_with fail
  refine (HB.out _).mono ?_; rintro e w1 ⟨v, rfl, hown, hb1⟩
  go_wp2_with fail
  go_ret2
  exact ⟨rfl, hb1⟩
theorem rslice_range {s : ByteArray} {rs : List Int} {rest : List UInt8} (h : Utf.Split s.data.toList rs rest) (hs : s.size ≤ 4096) (hr : rest.length = 0) (a b : Int) (hab : a < 0 ∨ b < a ∨ rs.length < b) (w : World) :
    Calls Try.prog 28 #[.string s, .int .i64 a, .int .i64 b] w fun e w' => e = .returned (.tuple #[.string ⟨#[]⟩, .int .i64 2]) ∧ Below w.heap.size w w' := by
  have HB := Lib.hid (boundaries_any h hs)
  rw [decide_eq_true hr] at HB
  clear h hr
  by_cases h1 : a < 0
  · go_enter Try.func28, Try.ntmps28
    go_wp2_with fail
    refine (HB.out _).mono ?_; rintro e w1 ⟨v, rfl, hown, hb1⟩
    obtain ⟨g, cap, rfl, _, _⟩ := own_form hown (by omega)
    clear hown
    go_wp2_with fail
    go_ret2
    exact ⟨rfl, hb1⟩
  · have d1 : decide (a < 0) = false := decide_eq_false h1
    by_cases h2 : b < a
    · clear hab
      go_enter Try.func28, Try.ntmps28
      go_wp2_with fail
      refine (HB.out _).mono ?_; rintro e w1 ⟨v, rfl, hown, hb1⟩
      obtain ⟨g, cap, rfl, _, _⟩ := own_form hown (by omega)
      clear hown
      go_wp2_with fail
      go_ret2
      exact ⟨rfl, hb1⟩
    · have d2 : decide (b < a) = false := decide_eq_false h2
      have h3 : rs.length + 1 ≤ b := by omega
      clear hab
      go_enter Try.func28, Try.ntmps28
      go_wp2_with fail
      refine (HB.out _).mono ?_; rintro e w1 ⟨v, rfl, hown, hb1⟩
      obtain ⟨g, cap, rfl, _, _⟩ := own_form hown (by omega)
      clear hown
      go_wp2_with fail
      go_ret2
      exact ⟨rfl, hb1⟩
theorem below_drewN' {B : Nat} {a w : World} (h : Below B a w) (n : Nat) : Below B a (w.drewN n) := ⟨h.os, h.tape, h.output, h.size, h.block⟩
theorem rslice_ok {s : ByteArray} {rs : List Int} {rest : List UInt8} (h : Utf.Split s.data.toList rs rest) (hs : s.size ≤ 4096) (hr : rest.length = 0) (a b : Nat) (hab : a ≤ b) (hb : b ≤ rs.length) (w : World) :
    Calls Try.prog 28 #[.string s, .int .i64 a, .int .i64 b] w fun e w' => e = .returned (.tuple #[.string (s.extract (Utf.off rs a) (Utf.off rs b)), .int .i64 0]) ∧ Below w.heap.size w w' := by
  have HB := Lib.hid (boundaries_any h hs)
  rw [decide_eq_true hr] at HB
  have ho := off_le_of (rs := rs) hab
  have hob : Utf.off rs b ≤ s.size := by simpa using Utf.off_le h b
  have hcl : rs.length ≤ s.size := by simpa using Utf.count_le h
  clear h hr
  go_enter Try.func28, Try.ntmps28
  go_wp2_with fail
  refine (HB.out _).mono ?_; rintro e w1 ⟨v, rfl, hown, hb1⟩
  obtain ⟨g, cap, rfl, _, _⟩ := own_form hown (by omega)
  have ca : w1.cell? ⟨g, a, none⟩ = some (.int .i64 (Utf.off rs a)) := by rw [hown.cellAt a (by omega), bounds_get _ _ _ (by omega)]
  have cb : w1.cell? ⟨g, b, none⟩ = some (.int .i64 (Utf.off rs b)) := by rw [hown.cellAt b (by omega), bounds_get _ _ _ (by omega)]
  clear hown
  have f1 : (0 : Int) ≤ a := by omega
  have f2 : (a : Int) < (rs.length : Int) + 1 := by omega
  have f3 : (0 : Int) ≤ b := by omega
  have f4 : (b : Int) < (rs.length : Int) + 1 := by omega
  go_wp2_with fail
  go_quiet (fail)
  go_wp2
  go_ret2
  exact ⟨rfl, below_drewN' hb1 _⟩
end Go.Proofs.Ytjokidcjjfdkpaa
