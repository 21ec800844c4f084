/- UTF-8: Position and Offset, the program's and the reference's, under one law each. -/
import Derived.Test.YtjokidcjjfdkpaaUtfPosR
import Derived.Deep.QuietTactic
import Derived.BigQuiet
namespace Go.Proofs.Ytjokidcjjfdkpaa
open Go.RowKit Go.Shelf

def OffIs (rs : List Int) (rest : List UInt8) (p1 p2 n e : Int) : Prop :=
  (rest.length ≠ 0 ∧ n = 0 ∧ e = 5) ∨ (rest.length = 0 ∧ ((∃ k, k ≤ rs.length ∧ posOf (rs.take k) = (p1, p2) ∧ n = Utf.off rs k ∧ e = 0) ∨
    ((∀ k, k ≤ rs.length → posOf (rs.take k) ≠ (p1, p2)) ∧ n = 0 ∧ e = 2)))

set_option maxHeartbeats 2000000 in
theorem roffset_any {s : ByteArray} {rs : List Int} {rest : List UInt8} (h : Utf.Split s.data.toList rs rest) (hs : s.size ≤ 4096) (p1 p2 : Int) (w : World) :
    Calls Try.prog 32 #[.string s, .agg #[.int .i64 p1, .int .i64 p2]] w fun e w' =>
      ∃ n r, OffIs rs rest p1 p2 n r ∧ e = .returned (.tuple #[.int .i64 n, .int .i64 r]) ∧ Below w.heap.size w w' := by
  have HB := Lib.hid (boundaries_any h hs)
  have hcl : rs.length ≤ s.size := by simpa using Utf.count_le h
  by_cases hr : rest.length = 0
  · rw [decide_eq_true hr] at HB
    have HP := Lib.hid (positions_any h hs hr)
    have HR := Lib.hid hr; clear hr h
    go_enter Try.func32, Try.ntmps32
    go_wp2_with fail
    refine (HB.out _).mono ?_; rintro e w1 ⟨v, rfl, hown0, hb1⟩
    obtain ⟨g, cap, rfl, _, hg⟩ := own_form hown0 (by omega)
    have HC1 : Hid (∀ i, i ≤ rs.length → w1.cell? ⟨g, i, none⟩ = some (.int .i64 (Utf.off rs i))) := Lib.hid (fun i hi => by rw [hown0.cellAt i (by omega), bounds_get _ _ _ (by omega)])
    clear hown0
    go_wp2_with fail
    refine (HP.out g cap _ hg HC1.out).mono ?_; rintro e w2 ⟨v2, rfl, hown2, hb2⟩
    obtain ⟨g2, cap2, rfl, _, hg2⟩ := own_form hown2 (by omega)
    have HC : Hid (∀ i, i ≤ rs.length → w2.cell? ⟨g, i, none⟩ = some (.int .i64 (Utf.off rs i))) := Lib.hid (fun i hi => (hb2.cell (p := ⟨g, i, none⟩) hg).trans (HC1.out i hi))
    have HD : Hid (∀ i, i ≤ rs.length → w2.cell? ⟨g2, i * 2, none⟩ = some (.int .i64 (posOf (rs.take i)).1) ∧ w2.cell? ⟨g2, i * 2 + 1, none⟩ = some (.int .i64 (posOf (rs.take i)).2)) :=
      Lib.hid (fun i hi => ⟨by rw [hown2.cellAt _ (by omega), (poses_get _ _ _ (by omega)).1], by rw [hown2.cellAt _ (by omega), (poses_get _ _ _ (by omega)).2]⟩)
    clear hown2 HC1
    have hw2 := ((Whole.new w 48 #[.int .i64 p1, .int .i64 p2]).below hb1 (by simp)).below hb2 (by have := hb1.size; simp at this; omega)
    have hbb : Below w.heap.size w w2 := ((Below.refl _ _).alloc (Nat.le_refl _) _).trans ((below_then hb1 hb2).mono (by simp))
    clear hb1 hb2
    have cw0 := hw2.c0
    have cw1 := hw2.c1
    go_wp2_with fail
    go_loopw [9] (fun i wr => ∃ k m : Nat, k ≤ rs.length + 1 ∧ i = .int .i64 k ∧ wr = w2.drewN m ∧ Hid (∀ j, j < k → posOf (rs.take j) ≠ (p1, p2))) (fun i _ => rs.length + 1 - (intOf i).toNat)
    case atStart => exact ⟨0, 0, by omega, rfl, rfl, Lib.hid fun j h => by omega⟩
    case round =>
      obtain ⟨k, m, hk, rfl, rfl, hno⟩ := hrel
      by_cases hlt : k < rs.length + 1
      · have c1 := HC.out k (by omega)
        obtain ⟨c2, c3⟩ := HD.out k (by omega)
        by_cases hf : ((posOf (rs.take k)).1, (posOf (rs.take k)).2) = (p1, p2)
        · have t1 : ∀ W, (binOp .eql 48 (.agg #[.int .i64 (posOf (rs.take k)).1, .int .i64 (posOf (rs.take k)).2]) (.agg #[.int .i64 p1, .int .i64 p2])).run Try.prog W = .ok (.bool true) W := fun W => by rw [pos_eql, decide_eq_true hf]
          have HF := Lib.hid hf; clear hf
          go_wp2_with fail
          go_quiet (fail)
          go_wp2
          go_ret2
          exact ⟨_, 0, .inr ⟨HR.out, .inl ⟨k, by omega, HF.out, rfl, rfl⟩⟩, rfl, below_drewN' hbb _⟩
        · have t1 : ∀ W, (binOp .eql 48 (.agg #[.int .i64 (posOf (rs.take k)).1, .int .i64 (posOf (rs.take k)).2]) (.agg #[.int .i64 p1, .int .i64 p2])).run Try.prog W = .ok (.bool false) W := fun W => by rw [pos_eql, decide_eq_false hf]
          have HF := Lib.hid hf; clear hf
          go_wp2_with fail
          go_quiet (fail)
          go_wp2
          go_roundw
          case rel => exact ⟨k + 1, _, by omega, by go_num, rfl, Lib.hid fun j hj => by
            rcases Nat.lt_or_ge j k with h | h
            · exact hno.out j h
            · obtain rfl : j = k := by omega
              exact HF.out⟩
          case measure => simp [intOf]; omega
      · obtain rfl : k = rs.length + 1 := by omega
        go_wp2_with fail
        go_ret2
        exact ⟨0, 2, .inr ⟨HR.out, .inr ⟨fun k hk => hno.out k (by omega), rfl, rfl⟩⟩, rfl, below_drewN' hbb _⟩
  · rw [decide_eq_false hr] at HB
    have HR := Lib.hid hr; clear hr h
    go_enter Try.func32, Try.ntmps32
    go_wp2_with fail
    refine (HB.out _).mono ?_; rintro e w1 ⟨v, rfl, hown0, hb1⟩
    clear hown0
    have hbb : Below w.heap.size w w1 := ((Below.refl _ _).alloc (Nat.le_refl _) _).trans (hb1.mono (by simp))
    go_wp2_with fail
    go_ret2
    exact ⟨0, 5, .inl ⟨HR.out, rfl, rfl⟩, rfl, hbb⟩

theorem position_any {s : ByteArray} {rs : List Int} {rest : List UInt8} (h : Utf.Split s.data.toList rs rest) (hs : s.size ≤ 4096) (a : Int) (w : World) :
    Calls Try.prog 29 #[.string s, .int .i64 a] w fun e w' =>
      ∃ x1 x2 r, PosIs rs rest a x1 x2 r ∧ e = .returned (.tuple #[.agg #[.int .i64 x1, .int .i64 x2], .int .i64 r]) ∧ Below w.heap.size w w' := by
  by_cases hr : rest.length = 0
  · by_cases ha : a = 0
    · subst ha
      refine (position_zero h (by unfold maxLen; omega) hr w).mono ?_
      rintro e w' ⟨rfl, hb⟩
      exact ⟨1, 1, 0, .inr ⟨hr, .inl ⟨0, Nat.zero_le _, rfl, rfl, rfl, rfl⟩⟩, rfl, hb⟩
    · refine (position_loop h hs hr a ha w).mono ?_
      rintro e w' ⟨hp, hb⟩
      rcases hp with ⟨k, k1, k2, k3, rfl⟩ | ⟨hno, rfl⟩
      · exact ⟨_, _, 0, .inr ⟨hr, .inl ⟨k, k2, k3, rfl, rfl, rfl⟩⟩, rfl, hb⟩
      · refine ⟨0, 0, 2, .inr ⟨hr, .inr ⟨fun k hk => ?_, rfl, rfl, rfl⟩⟩, rfl, hb⟩
        rcases Nat.eq_zero_or_pos k with rfl | hp
        · exact fun e => ha e.symm
        · exact hno k hp hk
  · refine (position_bad h (by unfold maxLen; omega) hr a w).mono ?_
    rintro e w' ⟨rfl, hb⟩
    exact ⟨0, 0, 5, .inl ⟨hr, rfl, rfl, rfl⟩, rfl, hb⟩
theorem offset_any {s : ByteArray} {rs : List Int} {rest : List UInt8} (h : Utf.Split s.data.toList rs rest) (hs : s.size ≤ 4096) (p1 p2 : Int) (w : World) :
    Calls Try.prog 31 #[.string s, .agg #[.int .i64 p1, .int .i64 p2]] w fun e w' =>
      ∃ n r, OffIs rs rest p1 p2 n r ∧ e = .returned (.tuple #[.int .i64 n, .int .i64 r]) ∧ Below w.heap.size w w' := by
  by_cases hr : rest.length = 0
  · by_cases ha : (p1, p2) = (1, 1)
    · cases ha
      refine (offset_one h (by unfold maxLen; omega) hr w).mono ?_
      rintro e w' ⟨rfl, hb⟩
      exact ⟨0, 0, .inr ⟨hr, .inl ⟨0, Nat.zero_le _, rfl, rfl, rfl⟩⟩, rfl, hb⟩
    · refine (offset_loop h hs hr p1 p2 ha w).mono ?_
      rintro e w' ⟨hp, hb⟩
      rcases hp with ⟨k, k1, k2, k3, rfl⟩ | ⟨hno, rfl⟩
      · exact ⟨_, 0, .inr ⟨hr, .inl ⟨k, k2, k3, rfl, rfl⟩⟩, rfl, hb⟩
      · refine ⟨0, 2, .inr ⟨hr, .inr ⟨fun k hk => ?_, rfl, rfl⟩⟩, rfl, hb⟩
        rcases Nat.eq_zero_or_pos k with rfl | hp
        · exact fun e => ha e.symm
        · exact hno k hp hk
  · refine (offset_bad h (by unfold maxLen; omega) hr p1 p2 w).mono ?_
    rintro e w' ⟨rfl, hb⟩
    exact ⟨0, 5, .inl ⟨hr, rfl, rfl⟩, rfl, hb⟩
end Go.Proofs.Ytjokidcjjfdkpaa
