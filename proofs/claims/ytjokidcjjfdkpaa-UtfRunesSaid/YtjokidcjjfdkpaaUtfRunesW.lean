/- UTF-8: what the law collects from the iterator. -/
import Derived.Test.YtjokidcjjfdkpaaUtfRange
import Derived.Test.YtjokidcjjfdkpaaMemBox
import Derived.RangeFuncWrites
import Derived.Maps.AppendAt
namespace Go.Proofs.Ytjokidcjjfdkpaa
open Go.RowKit Go.Shelf
attribute [local go_sem] Oper.semAt_some

/-- What comes until so many have come (0 < n), or all. -/
def lim (rs : List Int) (n : Int) : List Int := if 0 < n then rs.take n.toNat else rs

set_option maxRecDepth 100000 in
set_option maxHeartbeats 2000000 in
theorem all_any {s : ByteArray} {rs : List Int} {rest : List UInt8} (h : Utf.Split s.data.toList rs rest) (hs : s.size ≤ 4096) (n : Int) (hn0 : n ≠ 0) (w : World) :
    Calls Try.prog 18 #[.string s, .int .i64 n] w fun e w' =>
      ∃ v, e = .returned (.tuple #[v, .bool true]) ∧ w'.ownsRow w.heap.size 3 1 v (lim rs n).length ((lim rs n).map (Value.int .i64)) ∧ Below w.heap.size w w' := by
  obtain ⟨i0, hi, hz0, hz1, hz2⟩ := info_parts Try.infoInt
  have hcl : rs.length ≤ s.size := by simpa using Utf.count_le h
  have hq : ∀ (B : Nat) (W : World), (binOp .eql 62 (.func (.func 42) #[] #[.pointer (some ⟨B, 0, none⟩)]) .nilFunc).run Try.prog W = .ok (.bool false) W := fun _ _ => by kernel_rfl
  refine (callsIn_wide (n := 5)).1 ?_
  refine callsIn_of_wp_marks Try.func18 rfl trivial ?_ rfl
  simp only [Try.ntmps18, List.size_toArray, List.length_cons, List.length_nil, Nat.reduceAdd, Nat.reduceSub, Array.replicate_succ, Array.replicate_zero, List.push_toArray, List.append_toArray, List.nil_append, List.cons_append]
  gi_wp2_with (refine ⟨trivial, ?_⟩; gi_at_call 37; refine (callsIn_wide.2 (runes_make s _)).mono ?_; rintro e w' ⟨rfl, rfl⟩)
  have bN := Boxed.new w 3 (.int .i64 n)
  have bO := Boxed.new (w.alloc (.cells #[.int .i64 n] 3)) 29 (.slice none 0 0)
  have bS := Boxed.new ((w.alloc (.cells #[.int .i64 n] 3)).alloc (.cells #[.slice none 0 0] 29)) 9 (.string s)
  simp only [World.size_alloc] at bO bS
  have hB0 : Below w.heap.size w (((w.alloc (.cells #[.int .i64 n] 3)).alloc (.cells #[.slice none 0 0] 29)).alloc (.cells #[.string s] 9)) := (((Below.refl _ w).alloc (Nat.le_refl _) _).alloc (by simp) _).alloc (by simp; omega) _
  refine wpIn_rangeFunc_ownG rfl (by omega : 1 ≤ 5) (gf := 42) (lb := #[.pointer (some ⟨w.heap.size + 1 + 1, 0, none⟩)]) rfl trivial (enters_of Try.func42 (by kernel_rfl) rfl)
    (runes_stops 4 (by omega) (w.heap.size + 1 + 1) h hs _ (by simp) bS.cell) keepsCell_t keepsCell_b (Below.refl _ _) (fun _ => rfl)
    (fun pre W => ((∃ v, Boxed W (w.heap.size + 1) 29 v ∧ W.ownsRow (w.heap.size + 3) 3 1 v pre.length (pre.map (Value.int .i64)) ∧ True) ∧ Boxed W w.heap.size 3 (.int .i64 n)) ∧ Below w.heap.size w W ∧ (0 < n → (pre.length : Int) < n))
    (fun c pre W => ((∃ v, Boxed W (w.heap.size + 1) 29 v ∧ W.ownsRow (w.heap.size + 3) 3 1 v pre.length (pre.map (Value.int .i64)) ∧ True) ∧ Boxed W w.heap.size 3 (.int .i64 n)) ∧ Below w.heap.size w W ∧ (c = .exit 0 ∧ (pre.length : Int) = n))
    (OwnFrom.and (OwnFrom.and (Own.from (holdsRow_own (w.heap.size + 3) (w.heap.size + 1) 29 3 1 (fun pre : List Int => pre.length) (fun pre => pre.map (Value.int .i64)) (fun _ _ => True)) _) (Own.from (boxed_own w.heap.size 3 (fun _ => .int .i64 n)) _)) (OwnFrom.and (ownFrom_below (Nat.le_refl _) (by simp; omega)) (ownFrom_pure _ _)))
    (fun c => OwnFrom.and (OwnFrom.and (Own.from (holdsRow_own (w.heap.size + 3) (w.heap.size + 1) 29 3 1 (fun pre : List Int => pre.length) (fun pre => pre.map (Value.int .i64)) (fun _ _ => True)) _) (Own.from (boxed_own w.heap.size 3 (fun _ => .int .i64 n)) _)) (OwnFrom.and (ownFrom_below (Nat.le_refl _) (by simp; omega)) (ownFrom_pure _ _)))
    ⟨⟨⟨_, bO.alloc _, World.ownsRow_nil _ _ _ _, trivial⟩, (bN.alloc _).alloc _⟩, hB0, fun h0 => by simpa using h0⟩
    (fun x => { tmps := #[.string s, .int .i64 n, undef, .pointer (some ⟨w.heap.size, 0, none⟩), .slice none 0 0, .bool false, .pointer (some ⟨w.heap.size + 1, 0, none⟩), .func (.func 42) #[] #[.pointer (some ⟨w.heap.size + 1 + 1, 0, none⟩)], .int .i64 x, .string s, .func (.func 42) #[] #[.pointer (some ⟨w.heap.size + 1 + 1, 0, none⟩)], .func (.func 42) #[] #[.pointer (some ⟨w.heap.size + 1 + 1, 0, none⟩)], .bool false, .func (.func 42) #[] #[.pointer (some ⟨w.heap.size + 1 + 1, 0, none⟩)], .int .i64 x, undef, undef, undef, undef, undef, undef, undef, undef, undef], defers := [] }) ?assign ?body ?done ?stop
  case assign =>
    intro l x W K hK
    gi_wp2
    exact hK
  case body =>
    rintro l pre x W ⟨⟨⟨v, hv, hrow, _⟩, hbn⟩, hB, hlim⟩ hlt
    have hc := hv.cell
    have hsz := hB.size
    have hW3 : w.heap.size + 1 < W.heap.size := hv.lt
    by_cases hst : (pre.length : Int) + 1 = n
    · have t1 : (((pre.length : Int) + 1) == n) = true := by simpa using hst
      have HST := Lib.hid hst; clear hst
      gi_wp2_with (gi_at_builtin; refine wpListIn_append_own _ rfl _ _ 29 rfl (w.heap.size + 3) 3 i0 (.int .i64 0) 1 8 Try.underlying29 hi hz0 hz1 hz2 rfl (by decide) _ _ _ rfl (hrow.alloc _) ⟨W.heap.size, 0, none⟩ 1 1 [.int .i64 x] rfl rfl (cell_one_new _ _ _) (by simp [Value.oneCell']) (by unfold maxLen; omega) (by omega) (by simp; omega) ?_; intro v' w1 hown' hgrow _; obtain ⟨g', cap', rfl⟩ := ownsRow_succ hown'; obtain ⟨hv1, hv2, hr2, hk2, hb2, hoth⟩ := appended2 hv hrow hB.size (by omega) (by omega) (by omega) hown' hgrow; have hc1 := hv1.cell; have hf1 := hv1.frozen; have hn2 := (hoth w.heap.size _ _ (by omega) (by omega) hbn).2; have hnc := hn2.cell; have hvc := hv2.cell; have hkc := keepsCell_grown (u := .slice (some ⟨g', 0, none⟩) (pre.length + 1) cap') (C := w.heap.size + 1 + 1) (B := w.heap.size + 1) hrow hgrow (by omega) (by omega))
      exact ⟨hk2.from _, ⟨⟨_, hv2, by simpa using hr2, trivial⟩, hn2⟩, hB.trans hb2, rfl, by have := HST.out; simp; omega⟩
    · have t1 : (((pre.length : Int) + 1) == n) = false := by simpa using hst
      have HST := Lib.hid hst; clear hst
      gi_wp2_with (gi_at_builtin; refine wpListIn_append_own _ rfl _ _ 29 rfl (w.heap.size + 3) 3 i0 (.int .i64 0) 1 8 Try.underlying29 hi hz0 hz1 hz2 rfl (by decide) _ _ _ rfl (hrow.alloc _) ⟨W.heap.size, 0, none⟩ 1 1 [.int .i64 x] rfl rfl (cell_one_new _ _ _) (by simp [Value.oneCell']) (by unfold maxLen; omega) (by omega) (by simp; omega) ?_; intro v' w1 hown' hgrow _; obtain ⟨g', cap', rfl⟩ := ownsRow_succ hown'; obtain ⟨hv1, hv2, hr2, hk2, hb2, hoth⟩ := appended2 hv hrow hB.size (by omega) (by omega) (by omega) hown' hgrow; have hc1 := hv1.cell; have hf1 := hv1.frozen; have hn2 := (hoth w.heap.size _ _ (by omega) (by omega) hbn).2; have hnc := hn2.cell; have hvc := hv2.cell; have hkc := keepsCell_grown (u := .slice (some ⟨g', 0, none⟩) (pre.length + 1) cap') (C := w.heap.size + 1 + 1) (B := w.heap.size + 1) hrow hgrow (by omega) (by omega))
      exact ⟨hk2.from _, hkc, ⟨⟨_, hv2, by simpa using hr2, trivial⟩, hn2⟩, hB.trans hb2, fun h0 => by have := HST.out; have := hlim h0; simp; omega⟩
  case done =>
    rintro D ys W hD rfl ⟨⟨⟨v, hv, hrow, _⟩, _⟩, hB, hlim⟩ hK
    have hc := hv.cell
    have hl : lim ys n = ys := by
      unfold lim
      split
      · rename_i h0
        exact List.take_of_length_le (by have := hlim h0; omega)
      · rfl
    have HL := Lib.hid hl; clear hl
    gi_wp2
    refine ⟨by simp, .inl ⟨_, _, rfl, run_takeDeferred hK, ?_⟩⟩
    refine ⟨_, results_tmp2 rfl _ _ _, ?_⟩
    rw [HL.out]
    exact ⟨v, rfl, own_base (ownsRow_putObj hrow _ hK rfl) (by omega), hB.trans (belowK_b (w := w) (Nat.le_refl _) W D _ _ (by simp at hD; omega) hK rfl rfl)⟩
  case stop =>
    rintro D c pre W hD hpre ⟨⟨⟨v, hv, hrow, _⟩, _⟩, hB, rfl, hn⟩ hK
    have hc := hv.cell
    have hl : lim rs n = pre := by
      unfold lim
      have h0 : 0 < n := by omega
      rw [if_pos h0]
      have e : n.toNat = pre.length := by omega
      rw [e]
      exact (List.prefix_iff_eq_take.1 hpre).symm
    have HL := Lib.hid hl; clear hl
    gi_wp2
    refine ⟨by simp, .inl ⟨_, _, rfl, run_takeDeferred hK, ?_⟩⟩
    refine ⟨_, results_tmp2 rfl _ _ _, ?_⟩
    rw [HL.out]
    exact ⟨v, rfl, own_base (ownsRow_putObj hrow _ hK rfl) (by omega), hB.trans (belowK_b (w := w) (Nat.le_refl _) W D _ _ (by simp at hD; omega) hK rfl rfl)⟩
end Go.Proofs.Ytjokidcjjfdkpaa
