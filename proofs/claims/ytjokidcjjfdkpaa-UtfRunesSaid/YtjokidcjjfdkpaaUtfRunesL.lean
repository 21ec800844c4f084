/- UTF-8: the reference's Runes, and the walk of the law on the iterator. -/
import Derived.Test.YtjokidcjjfdkpaaUtfRunesW
import Derived.OpenShut
namespace Go.Proofs.Ytjokidcjjfdkpaa
open Go.RowKit

theorem ints_form {w : World} {base n : Nat} {v : Value} {xs : List Int} (h : w.ownsRow base 3 1 v n (xs.map (Value.int .i64))) :
    ∃ (g : Option Addr) (c : Nat), v = .slice g n c ∧ ∀ i (hi : i < xs.length), ∃ b, g = some ⟨b, 0, none⟩ ∧ w.cell? ⟨b, i, none⟩ = some (.int .i64 xs[i]) := by
  have hl := h.1
  rcases h.2 with ⟨rfl, h0⟩ | ⟨g, cap, cur, rfl, h1⟩
  · exact ⟨none, 0, by rw [h0], fun i hi => by simp at hl; omega⟩
  · refine ⟨_, _, rfl, fun i hi => ⟨g, rfl, ?_⟩⟩
    rw [h.cellAt i (by simp at hl; omega)]
    simp [hi]

set_option maxHeartbeats 1000000 in
theorem rrunes_any {s : ByteArray} {rs : List Int} {rest : List UInt8} (h : Utf.Split s.data.toList rs rest) (hs : s.size ≤ 4096) (w : World) :
    Calls Try.prog 17 #[.string s] w fun e w' =>
      ∃ v, e = .returned v ∧ w'.ownsRow w.heap.size 3 1 v rs.length (rs.map (Value.int .i64)) ∧ Below w.heap.size w w' := by
  obtain ⟨i0, hi, hz0, hz1, hz2⟩ := info_parts Try.infoInt
  have HB := Lib.hid (boundaries_any h hs)
  have hcl : rs.length ≤ s.size := by simpa using Utf.count_le h
  have HS : Hid (s.size ≤ maxLen) := Lib.hid (by unfold maxLen; omega)
  have HSP := Lib.hid h; clear h
  go_enter Try.func17, Try.ntmps17
  go_wp2_with fail
  refine (HB.out _).mono ?_; rintro e w1 ⟨v, rfl, hown0, hb1⟩
  obtain ⟨g, cap, rfl, _, hg⟩ := own_form hown0 (by omega)
  have HC0 : Hid (∀ i, i ≤ rs.length → w1.cell? ⟨g, i, none⟩ = some (.int .i64 (Utf.off rs i))) := Lib.hid (fun i hi => by rw [hown0.cellAt i (by omega), bounds_get _ _ _ (by omega)])
  clear hown0
  go_wp2_with fail
  go_loopw [5, 6] (fun v i wr => ∃ k : Nat, k ≤ rs.length ∧ i = .int .i64 k ∧ wr.ownsRow w1.heap.size 3 1 v k ((rs.take k).map (Value.int .i64)) ∧ Below w1.heap.size w1 wr) (fun _ i _ => rs.length - (intOf i).toNat)
  case atStart => exact ⟨0, by omega, rfl, World.ownsRow_nil _ _ _ _, Below.refl _ _⟩
  case round =>
    obtain ⟨k, hk, rfl, hown, hbr⟩ := hrel
    by_cases hlt : k < rs.length
    · have hc : wr.cell? ⟨g, k, none⟩ = some (.int .i64 (Utf.off rs k)) := (hbr.cell (p := ⟨g, k, none⟩) hg).trans (HC0.out k (by omega))
      have HC := Lib.hid (rdecode_char HSP.out HS.out k hlt)
      have HT : Hid (rs.take (k + 1) = rs.take k ++ [rs[k]]) := Lib.hid (List.take_succ_eq_append_getElem hlt)
      generalize Utf.wid rs[k] = wd at *
      generalize rs[k] = rr at *
      go_wp2_with (first | (go_at_call 22; refine (HC.out _).mono ?_; rintro e w2 ⟨rfl, hb2⟩; have hown2 := own_below hown hb2; have hsz2 := hb2.size; replace hbr := hbr.trans (hb2.mono hbr.size)) | (at_builtin; refine wpList_append_own _ rfl _ _ 29 rfl w1.heap.size 3 i0 (.int .i64 0) 1 8 Try.underlying29 hi hz0 hz1 hz2 rfl (by decide) _ _ _ rfl (hown2.alloc _) ⟨w2.heap.size, 0, none⟩ 1 1 [.int .i64 rr] rfl rfl ?c1 ?c2 ?c3 ?c4 ?c5 ?_))
      case c1 => exact cell_one_new _ _ _
      case c2 => simp [Value.oneCell']
      case c3 => unfold maxLen; omega
      case c4 => omega
      case c5 => have := hbr.size; simp; omega
      intro v' w3 hown3 hgrow _
      have hb3 := below_grown hbr hbr.size hown2 (Nat.le_refl _) hgrow
      clear hown hown2 hgrow hc
      go_wp2
      go_roundw
      case rel => exact ⟨k + 1, by omega, by go_num, by rw [HT.out]; simpa using hown3, hb3⟩
      case measure => simp [intOf]; omega
    · obtain rfl : k = rs.length := by omega
      rw [List.take_length] at hown
      go_wp2
      go_ret
      exact ⟨_, rfl, own_base hown hb1.size, below_then hb1 hbr⟩

/-! ### the law -/
theorem lim_len (rs : List Int) (n : Nat) : (lim rs (n + 1)).length = min rs.length (n + 1) := by
  unfold lim
  rw [if_pos (by omega), List.length_take, show ((n : Int) + 1).toNat = n + 1 by omega, Nat.min_comm]
theorem lim_get (rs : List Int) (n k : Nat) (h : k < (lim rs (n + 1)).length) (h' : k < rs.length) : (lim rs (n + 1))[k] = rs[k] := by
  have e : lim rs (n + 1) = rs.take (n + 1) := by
    unfold lim
    rw [if_pos (by omega), show ((n : Int) + 1).toNat = n + 1 by omega]
  simp only [e, List.getElem_take]

set_option maxRecDepth 100000 in
set_option maxHeartbeats 2000000 in
theorem runes_law (s : ByteArray) (n : Nat) (rs fs : List Int) (hs : s.size ≤ 4096) (hn : n ≤ 255) (hr : rs.length ≤ 4096) (hf : fs.length = min rs.length (n + 1)) (hg : ∀ k (h : k < fs.length) (h' : k < rs.length), fs[k] = rs[k])
    (h1 : ∀ w, Calls Try.prog 17 #[.string s] w fun e w' => ∃ v, e = .returned v ∧ w'.ownsRow w.heap.size 3 1 v rs.length (rs.map (Value.int .i64)) ∧ Below w.heap.size w w')
    (h2 : ∀ w, Calls Try.prog 18 #[.string s, .int .i64 (-1)] w fun e w' => ∃ v, e = .returned (.tuple #[v, .bool true]) ∧ w'.ownsRow w.heap.size 3 1 v rs.length (rs.map (Value.int .i64)) ∧ Below w.heap.size w w')
    (h3 : ∀ w, Calls Try.prog 18 #[.string s, .int .i64 ((n : Int) + 1)] w fun e w' => ∃ v, e = .returned (.tuple #[v, .bool true]) ∧ w'.ownsRow w.heap.size 3 1 v fs.length (fs.map (Value.int .i64)) ∧ Below w.heap.size w w') (w : World) :
    Calls Try.prog 4 #[.string s, .int .u8 n] w fun e w' => e = .returned (.bool true) ∧ Below w.heap.size w w' := by
  have H1 := Lib.hid h1; clear h1
  have H2 := Lib.hid h2; clear h2
  have H3 := Lib.hid h3; clear h3
  have HG := Lib.hid hg; clear hg
  have d1 : decide (4096 < (s.size : Int)) = false := decide_eq_false (by omega)
  have hf1 : fs.length ≤ rs.length := by omega
  have hb2 : ∃ L : Int, ((fs.length : Int) != L) = false ∧ ((rs.length ≤ n + 1 ∧ L = rs.length) ∨ (n + 1 < rs.length ∧ L = (n : Int) + 1)) := by
    rcases (show (rs.length ≤ n + 1 ∧ fs.length = rs.length) ∨ (n + 1 < rs.length ∧ fs.length = n + 1) by omega) with ⟨a, b⟩ | ⟨a, b⟩
    · exact ⟨_, by rw [b]; simp, .inl ⟨a, rfl⟩⟩
    · exact ⟨(n : Int) + 1, by rw [b]; simp, .inr ⟨a, rfl⟩⟩
  obtain ⟨L, t1, hL⟩ := hb2
  clear hf
  rcases hL with ⟨k1, rfl⟩ | ⟨k1, rfl⟩
  all_goals
    go_enter Try.func4, Try.ntmps4
    go_wp2_with fail
    refine (H1.out _).mono ?_; rintro e w1 ⟨v1, rfl, hown1, hb1⟩
    go_wp2_with fail
    refine (H2.out _).mono ?_; rintro e w2 ⟨v2, rfl, hown2, hb2⟩
    go_wp2_with fail
    refine (H3.out _).mono ?_; rintro e w3 ⟨v3, rfl, hown3, hb3⟩
    have hown1' := own_below (own_below hown1 hb2) hb3
    have hown2' := own_below hown2 hb3
    have hbb := below_then (below_then hb1 hb2) hb3
    clear hown1 hown2 hb1 hb2 hb3
    obtain ⟨g1, c1, rfl, q1⟩ := ints_form hown1'
    obtain ⟨g2, c2, rfl, q2⟩ := ints_form hown2'
    obtain ⟨g3, c3, rfl, q3⟩ := ints_form hown3
    clear hown1' hown2' hown3
    have Q1 := Lib.hid q1; clear q1
    have Q2 := Lib.hid q2; clear q2
    have Q3 := Lib.hid q3; clear q3
    go_wp2_with fail
    go_loopw [10] (fun i wr => ∃ k m : Nat, k ≤ rs.length ∧ i = .int .i64 k ∧ wr = w3.drewN m) (fun i _ => rs.length - (intOf i).toNat)
    case atStart => exact ⟨0, 0, by omega, rfl, rfl⟩
    case round =>
      obtain ⟨k, m, hk, rfl, rfl⟩ := hrel
      clear t1
      by_cases hlt : k < rs.length
      · obtain ⟨b1, rfl, e1⟩ := Q1.out k hlt
        obtain ⟨b2, rfl, e2⟩ := Q2.out k hlt
        have i1 : (0 : Int) ≤ k := by omega
        have i2 : (k : Int) < rs.length := by omega
        by_cases hf : k < fs.length
        · obtain ⟨b3, rfl, e3⟩ := Q3.out k hf
          rw [HG.out k hf hlt] at e3
          have i3 : (k : Int) < fs.length := by omega
          go_wp2_with fail
          go_quiet (fail)
          go_wp2
          go_roundw
          case rel => exact ⟨k + 1, _, by omega, by go_num, rfl⟩
          case measure => simp [intOf]; omega
        · have i3 : decide (k < fs.length) = false := decide_eq_false hf
          have i4 : (fs.length : Int) ≤ k := by omega
          go_wp2_with fail
          go_quiet (fail)
          go_wp2
          go_roundw
          case rel => exact ⟨k + 1, _, by omega, by go_num, rfl⟩
          case measure => simp [intOf]; omega
      · obtain rfl : k = rs.length := by omega
        go_wp2_with fail
        refine (utf_awake _).mono ?_; rintro e w4 ⟨rfl, hb4⟩
        go_wp2_with fail
        go_ret
        exact ⟨rfl, below_then hbb ((below_drewN' (Below.refl _ _) m).trans (hb4.mono (Nat.le_refl _)))⟩

theorem walk_UtfRunes (s : ByteArray) (n : Int) (hs : s.size ≤ maxLen) (hn : (Lit.int .u8 n).wf = true) (w : World) :
    Calls Try.prog 4 #[.string s, .int .u8 n] w fun e w' => e = .returned (.bool true) ∧ Below w.heap.size w w' := by
  obtain ⟨n0, n1⟩ := bounds_u8 hn
  by_cases h1 : 4096 < s.size
  · unfold maxLen at hs
    clear hn
    go_enter Try.func4, Try.ntmps4
    go_wp2_with fail
    refine (utf_awake _).mono ?_; rintro e w2 ⟨rfl, hb2⟩
    go_wp2_with fail
    go_ret
    exact ⟨rfl, hb2⟩
  · obtain ⟨rs, rest, h⟩ := Utf.split_ex s.data.toList
    obtain ⟨k, rfl⟩ := Int.eq_ofNat_of_zero_le n0
    have hcl : rs.length ≤ s.size := by simpa using Utf.count_le h
    have ha := fun w => all_any h (by omega) (-1) (by decide) w
    rw [show lim rs (-1) = rs by unfold lim; rw [if_neg (by decide)]] at ha
    exact runes_law s k rs (lim rs (k + 1)) (by omega) (by omega) (by omega) (lim_len rs k) (fun i h h' => lim_get rs k i h h') (fun w => rrunes_any h (by omega) w) ha (fun w => all_any h (by omega) _ (by omega) w) w
end Go.Proofs.Ytjokidcjjfdkpaa
