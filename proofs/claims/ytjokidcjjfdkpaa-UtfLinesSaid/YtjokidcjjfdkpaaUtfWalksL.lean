/- The lines of a string, the program's and the reference's; the walk of the law on them. -/
import Derived.Test.YtjokidcjjfdkpaaUtfWalksE
namespace Go.Proofs.Ytjokidcjjfdkpaa
open Go.RowKit

/-! ### plain: the lines after so many bytes, and where the next one begins -/
def lstep (s : ByteArray) : Nat → List ByteArray × Nat
  | 0 => ([], 0)
  | i + 1 => if h : i < s.size then (if s[i] = 10 then ((lstep s i).1 ++ [s.extract (lstep s i).2 (i + 1)], i + 1) else lstep s i) else lstep s i
def lns (s : ByteArray) : List ByteArray := if (lstep s s.size).2 < s.size then (lstep s s.size).1 ++ [s.extract (lstep s s.size).2 s.size] else (lstep s s.size).1
theorem lstep_yes {s : ByteArray} {i : Nat} (h : i < s.size) (hc : s[i] = 10) : lstep s (i + 1) = ((lstep s i).1 ++ [s.extract (lstep s i).2 (i + 1)], i + 1) := by
  show (if h : i < s.size then (if s[i] = 10 then _ else lstep s i) else lstep s i) = _
  rw [dif_pos h, if_pos hc]
theorem lstep_no {s : ByteArray} {i : Nat} (h : i < s.size) (hc : s[i] ≠ 10) : lstep s (i + 1) = lstep s i := by
  show (if h : i < s.size then (if s[i] = 10 then _ else lstep s i) else lstep s i) = _
  rw [dif_pos h, if_neg hc]
def joined (xs : List ByteArray) : List UInt8 := xs.flatMap fun x => x.data.toList
def EndsLine (x : ByteArray) : Prop := ∃ h : 0 < x.size, x[x.size - 1] = 10
structure LineState (s : ByteArray) (i : Nat) : Prop where
  le : (lstep s i).2 ≤ i
  join : joined (lstep s i).1 = s.data.toList.take (lstep s i).2
  ends : ∀ x ∈ (lstep s i).1, EndsLine x
theorem joined_snoc (xs : List ByteArray) (x : ByteArray) : joined (xs ++ [x]) = joined xs ++ x.data.toList := by unfold joined; simp
theorem cut_join (s : ByteArray) (f t : Nat) (h : f ≤ t) : s.data.toList.take f ++ (s.extract f t).data.toList = s.data.toList.take t := by
  rw [Lib.extract_data, ← List.take_add]; congr 1; omega
theorem line_state (s : ByteArray) : ∀ i, i ≤ s.size → LineState s i := by
  intro i
  induction i with
  | zero => intro _; exact ⟨Nat.le_refl _, rfl, fun x hx => by cases hx⟩
  | succ i ih =>
    intro hi
    have h := ih (by omega)
    have hl : i < s.size := by omega
    by_cases hc : s[i] = 10
    · have e := lstep_yes hl hc
      refine ⟨by rw [e]; exact Nat.le_refl _, ?_, ?_⟩
      · rw [e, joined_snoc, h.join]
        exact cut_join s _ _ (by have := h.le; omega)
      · rw [e]
        intro x hx
        rcases List.mem_append.1 hx with hx | hx
        · exact h.ends x hx
        · obtain rfl : x = s.extract (lstep s i).2 (i + 1) := by simpa using hx
          have hs := h.le
          have hz : (s.extract (lstep s i).2 (i + 1)).size = i + 1 - (lstep s i).2 := by rw [ByteArray.size_extract]; omega
          refine ⟨by omega, ?_⟩
          rw [ByteArray.getElem_extract]
          have : (lstep s i).2 + ((s.extract (lstep s i).2 (i + 1)).size - 1) = i := by omega
          simp only [this]
          exact hc
    · have e := lstep_no hl hc
      exact ⟨by rw [e]; have := h.le; omega, by rw [e]; exact h.join, by rw [e]; exact h.ends⟩
theorem lns_join (s : ByteArray) : joined (lns s) = s.data.toList := by
  have h := line_state s s.size (Nat.le_refl _)
  unfold lns
  split
  · rw [joined_snoc, h.join, cut_join s _ _ h.le]
    apply List.take_of_length_le; simp
  · rw [h.join]
    have := h.le
    apply List.take_of_length_le; simp; omega
theorem lns_some (s : ByteArray) : ∀ x ∈ lns s, 0 < x.size := by
  have h := line_state s s.size (Nat.le_refl _)
  intro x hx
  unfold lns at hx
  split at hx
  · rcases List.mem_append.1 hx with hx | hx
    · exact (h.ends x hx).1
    · obtain rfl : x = s.extract (lstep s s.size).2 s.size := by simpa using hx
      rw [ByteArray.size_extract]; omega
  · exact (h.ends x hx).1
theorem lns_ends (s : ByteArray) (i : Nat) (hi : i + 1 < (lns s).length) : EndsLine ((lns s)[i]'(by omega)) := by
  have h := line_state s s.size (Nat.le_refl _)
  have key : ∀ (xs : List ByteArray) (e : xs = lns s) (h1 : i + 1 < xs.length), EndsLine (xs[i]'(by omega)) := by
    intro xs e h1
    unfold lns at e
    split at e
    · subst e
      rw [List.getElem_append_left (by simp at h1; omega)]
      exact h.ends _ (List.getElem_mem _)
    · subst e
      exact h.ends _ (List.getElem_mem _)
  exact key _ rfl hi
theorem lstep_count (s : ByteArray) : ∀ i, (lstep s i).1.length ≤ i := by
  intro i
  induction i with
  | zero => exact Nat.le_refl _
  | succ i ih =>
    by_cases hl : i < s.size
    · by_cases hc : s[i] = 10
      · rw [lstep_yes hl hc]; simp; omega
      · rw [lstep_no hl hc]; omega
    · have : lstep s (i + 1) = lstep s i := by
        show (if h : i < s.size then _ else lstep s i) = _
        rw [dif_neg hl]
      rw [this]; omega
theorem lns_count (s : ByteArray) : (lns s).length ≤ s.size + 1 := by
  have := lstep_count s s.size
  unfold lns
  split
  · simp; omega
  · omega
/-- Where line i begins. -/
def lat (xs : List ByteArray) (i : Nat) : Nat := (joined (xs.take i)).length
theorem lat_succ (xs : List ByteArray) (i : Nat) (h : i < xs.length) : lat xs (i + 1) = lat xs i + xs[i].size := by
  unfold lat
  rw [List.take_succ_eq_append_getElem h, joined_snoc, List.length_append]
  simp
theorem lat_all (s : ByteArray) : lat (lns s) (lns s).length = s.size := by unfold lat; rw [List.take_length, lns_join]; simp
theorem joined_append (a b : List ByteArray) : joined (a ++ b) = joined a ++ joined b := by unfold joined; rw [List.flatMap_append]
theorem lat_cut (s : ByteArray) (i : Nat) (h : i < (lns s).length) : (s.extract (lat (lns s) i) (lat (lns s) i + (lns s)[i].size)).data.toList = (lns s)[i].data.toList ∧ lat (lns s) i + (lns s)[i].size ≤ s.size := by
  have e : s.data.toList = joined ((lns s).take i) ++ ((lns s)[i].data.toList ++ joined ((lns s).drop (i + 1))) := by
    conv => lhs; rw [← lns_join s]
    conv => lhs; rw [← List.take_append_drop i (lns s), List.drop_eq_getElem_cons h, joined_append]
    rfl
  have hl := congrArg List.length e
  have hsz : (lns s)[i].data.toList.length = (lns s)[i].size := by simp
  constructor
  · rw [Lib.extract_data, e]
    unfold lat
    rw [List.drop_left' rfl, Nat.add_sub_cancel_left, List.take_left' hsz]
  · simp only [List.length_append] at hl
    have : s.data.toList.length = s.size := by simp
    unfold lat; omega

/-! ### the walks -/
theorem Try.infoString : (Try.prog.info? 9).map (fun i => (i.zero, i.size, i.bytes)) = some (some (.string ⟨#[]⟩), 1, 16) := by kernel_rfl
def strs_ (xs : List ByteArray) : List Value := xs.map Value.string

set_option maxHeartbeats 1000000 in
theorem lines_any (s : ByteArray) (hs : s.size ≤ 4096) (w : World) :
    Calls Try.prog 19 #[.string s] w fun e w' => ∃ v : Value, e = .returned v ∧ w'.ownsRow w.heap.size 9 1 v (lns s).length (strs_ (lns s)) ∧ Below w.heap.size w w' := by
  obtain ⟨i0, hi, hz0, hz1, hz2⟩ := info_parts Try.infoString
  have HL : Hid (lns s = if (lstep s s.size).2 < s.size then (lstep s s.size).1 ++ [s.extract (lstep s s.size).2 s.size] else (lstep s s.size).1) := Lib.hid rfl
  go_enter Try.func19, Try.ntmps19
  go_wp2
  go_loopw [3, 4, 5] (fun v f i wr => ∃ k : Nat, k ≤ s.size ∧ i = .int .i64 k ∧ f = .int .i64 (lstep s k).2 ∧ wr.ownsRow w.heap.size 9 1 v (lstep s k).1.length (strs_ (lstep s k).1) ∧ Below w.heap.size w wr) (fun _ _ i _ => s.size - (intOf i).toNat)
  case atStart => exact ⟨0, by omega, rfl, rfl, World.ownsRow_nil _ _ _ _, Below.refl _ _⟩
  case round =>
    obtain ⟨k, hk, rfl, rfl, hown, hbr⟩ := hrel
    have hle := (line_state s k hk).le
    have hcnt := lstep_count s k
    by_cases hlt : k < s.size
    · by_cases hc : s[k] = 10
      · have HS := Lib.hid (lstep_yes hlt hc)
        have t1 : ((s[k].toNat : Int) == 10) = true := by rw [hc]; rfl
        clear hc
        go_wp2_with (at_builtin; refine wpList_append_own _ rfl _ _ 34 rfl w.heap.size 9 i0 (.string ⟨#[]⟩) 1 16 Try.underlying34 hi hz0 hz1 hz2 rfl (by decide) _ _ _ rfl (hown.alloc _) ⟨wr.heap.size, 0, none⟩ 1 1 [.string (s.extract (lstep s k).2 (k + 1))] rfl rfl ?c1 ?c2 ?c3 ?c4 ?c5 ?_)
        case c1 => exact cell_one_new _ _ _
        case c2 => simp [Value.oneCell']
        case c3 => unfold maxLen; omega
        case c4 => omega
        case c5 => have := hbr.size; simp; omega
        intro v' w3 hown3 hgrow _
        have hb3 := below_grown hbr hbr.size hown (Nat.le_refl _) hgrow
        clear hown hgrow
        go_wp2
        go_roundw
        case rel => exact ⟨k + 1, by omega, by go_num, by rw [HS.out]; go_num, by rw [HS.out]; simpa [strs_] using hown3, hb3⟩
        case measure => simp [intOf]; omega
      · have HS := Lib.hid (lstep_no hlt hc)
        have t1 : ((s[k].toNat : Int) == 10) = false := by
          simp only [beq_eq_false_iff_ne, ne_eq]
          intro e
          exact hc (UInt8.toNat_inj.1 (by show s[k].toNat = 10; omega))
        clear hc
        go_wp2
        go_roundw
        case rel => exact ⟨k + 1, by omega, by go_num, by rw [HS.out], by rw [HS.out]; exact hown, hbr⟩
        case measure => simp [intOf]; omega
    · obtain rfl : k = s.size := by omega
      by_cases hf : (lstep s s.size).2 < s.size
      · have HF := Lib.hid (HL.out.trans (if_pos hf))
        go_wp2_with (at_builtin; refine wpList_append_own _ rfl _ _ 34 rfl w.heap.size 9 i0 (.string ⟨#[]⟩) 1 16 Try.underlying34 hi hz0 hz1 hz2 rfl (by decide) _ _ _ rfl (hown.alloc _) ⟨wr.heap.size, 0, none⟩ 1 1 [.string (s.extract (lstep s s.size).2 s.size)] rfl rfl ?c1 ?c2 ?c3 ?c4 ?c5 ?_)
        case c1 => exact cell_one_new _ _ _
        case c2 => simp [Value.oneCell']
        case c3 => unfold maxLen; omega
        case c4 => omega
        case c5 => have := hbr.size; simp; omega
        intro v' w3 hown3 hgrow _
        have hb3 := below_grown hbr hbr.size hown (Nat.le_refl _) hgrow
        clear hown hgrow
        go_wp2
        go_ret
        refine ⟨_, rfl, ?_, hb3⟩
        rw [HF.out]; simpa [strs_] using hown3
      · have HF := Lib.hid (HL.out.trans (if_neg hf))
        go_wp2
        go_ret
        refine ⟨_, rfl, ?_, hbr⟩
        rw [HF.out]; exact hown
set_option maxHeartbeats 1000000 in
theorem rlines_any (s : ByteArray) (hs : s.size ≤ 4096) (w : World) :
    Calls Try.prog 20 #[.string s] w fun e w' => ∃ v : Value, e = .returned v ∧ w'.ownsRow w.heap.size 9 1 v (lns s).length (strs_ (lns s)) ∧ Below w.heap.size w w' := by
  obtain ⟨i0, hi, hz0, hz1, hz2⟩ := info_parts Try.infoString
  have HL : Hid (lns s = if (lstep s s.size).2 < s.size then (lstep s s.size).1 ++ [s.extract (lstep s s.size).2 s.size] else (lstep s s.size).1) := Lib.hid rfl
  go_enter Try.func20, Try.ntmps20
  go_wp2
  go_loopw [3, 4, 5] (fun v f i wr => ∃ k : Nat, k ≤ s.size ∧ i = .int .i64 k ∧ f = .int .i64 (lstep s k).2 ∧ wr.ownsRow w.heap.size 9 1 v (lstep s k).1.length (strs_ (lstep s k).1) ∧ Below w.heap.size w wr) (fun _ _ i _ => s.size - (intOf i).toNat)
  case atStart => exact ⟨0, by omega, rfl, rfl, World.ownsRow_nil _ _ _ _, Below.refl _ _⟩
  case round =>
    obtain ⟨k, hk, rfl, rfl, hown, hbr⟩ := hrel
    have hle := (line_state s k hk).le
    have hcnt := lstep_count s k
    by_cases hlt : k < s.size
    · by_cases hc : s[k] = 10
      · have HS := Lib.hid (lstep_yes hlt hc)
        have t1 : ((s[k].toNat : Int) == 10) = true := by rw [hc]; rfl
        clear hc
        go_wp2_with (at_builtin; refine wpList_append_own _ rfl _ _ 34 rfl w.heap.size 9 i0 (.string ⟨#[]⟩) 1 16 Try.underlying34 hi hz0 hz1 hz2 rfl (by decide) _ _ _ rfl (hown.alloc _) ⟨wr.heap.size, 0, none⟩ 1 1 [.string (s.extract (lstep s k).2 (k + 1))] rfl rfl ?c1 ?c2 ?c3 ?c4 ?c5 ?_)
        case c1 => exact cell_one_new _ _ _
        case c2 => simp [Value.oneCell']
        case c3 => unfold maxLen; omega
        case c4 => omega
        case c5 => have := hbr.size; simp; omega
        intro v' w3 hown3 hgrow _
        have hb3 := below_grown hbr hbr.size hown (Nat.le_refl _) hgrow
        clear hown hgrow
        go_wp2
        go_roundw
        case rel => exact ⟨k + 1, by omega, by go_num, by rw [HS.out]; go_num, by rw [HS.out]; simpa [strs_] using hown3, hb3⟩
        case measure => simp [intOf]; omega
      · have HS := Lib.hid (lstep_no hlt hc)
        have t1 : ((s[k].toNat : Int) == 10) = false := by
          simp only [beq_eq_false_iff_ne, ne_eq]
          intro e
          exact hc (UInt8.toNat_inj.1 (by show s[k].toNat = 10; omega))
        clear hc
        go_wp2
        go_roundw
        case rel => exact ⟨k + 1, by omega, by go_num, by rw [HS.out], by rw [HS.out]; exact hown, hbr⟩
        case measure => simp [intOf]; omega
    · obtain rfl : k = s.size := by omega
      by_cases hf : (lstep s s.size).2 < s.size
      · have HF := Lib.hid (HL.out.trans (if_pos hf))
        go_wp2_with (at_builtin; refine wpList_append_own _ rfl _ _ 34 rfl w.heap.size 9 i0 (.string ⟨#[]⟩) 1 16 Try.underlying34 hi hz0 hz1 hz2 rfl (by decide) _ _ _ rfl (hown.alloc _) ⟨wr.heap.size, 0, none⟩ 1 1 [.string (s.extract (lstep s s.size).2 s.size)] rfl rfl ?c1 ?c2 ?c3 ?c4 ?c5 ?_)
        case c1 => exact cell_one_new _ _ _
        case c2 => simp [Value.oneCell']
        case c3 => unfold maxLen; omega
        case c4 => omega
        case c5 => have := hbr.size; simp; omega
        intro v' w3 hown3 hgrow _
        have hb3 := below_grown hbr hbr.size hown (Nat.le_refl _) hgrow
        clear hown hgrow
        go_wp2
        go_ret
        refine ⟨_, rfl, ?_, hb3⟩
        rw [HF.out]; simpa [strs_] using hown3
      · have HF := Lib.hid (HL.out.trans (if_neg hf))
        go_wp2
        go_ret
        refine ⟨_, rfl, ?_, hbr⟩
        rw [HF.out]; exact hown

/-! ### the law -/
/-- What is known of a list of lines of s. -/
structure LinesOf (s : ByteArray) (xs : List ByteArray) : Prop where
  count : xs.length ≤ s.size + 1
  some_ : ∀ x ∈ xs, 0 < x.size
  ends : ∀ (i : Nat) (hi : i + 1 < xs.length), EndsLine (xs[i]'(by omega))
  cut : ∀ (i : Nat) (h : i < xs.length), (s.extract (lat xs i) (lat xs i + xs[i].size)).data.toList = xs[i].data.toList ∧ lat xs i + xs[i].size ≤ s.size
  all : lat xs xs.length = s.size
theorem lines_of (s : ByteArray) : LinesOf s (lns s) := ⟨lns_count s, lns_some s, lns_ends s, lat_cut s, lat_all s⟩
theorem strs_form {w : World} {base : Nat} {v : Value} {xs : List ByteArray} (h : w.ownsRow base 9 1 v xs.length (strs_ xs)) :
    ∃ (g : Option Addr) (c : Nat), v = .slice g xs.length c ∧ ∀ i (hi : i < xs.length), ∃ b, g = some ⟨b, 0, none⟩ ∧ w.cell? ⟨b, i, none⟩ = some (.string xs[i]) := by
  rcases h.2 with ⟨rfl, h0⟩ | ⟨g, cap, cur, rfl, h1⟩
  · exact ⟨none, 0, by rw [h0], fun i hi => by omega⟩
  · refine ⟨_, _, rfl, fun i hi => ⟨g, rfl, ?_⟩⟩
    rw [h.cellAt i (by omega)]
    simp [strs_, hi]

set_option maxRecDepth 100000 in
set_option maxHeartbeats 2000000 in
theorem lines_law (s : ByteArray) (xs : List ByteArray) (hs : s.size ≤ 4096) (hx : LinesOf s xs)
    (h1 : ∀ w, Calls Try.prog 19 #[.string s] w fun e w' => ∃ v : Value, e = .returned v ∧ w'.ownsRow w.heap.size 9 1 v xs.length (strs_ xs) ∧ Below w.heap.size w w')
    (h2 : ∀ w, Calls Try.prog 20 #[.string s] w fun e w' => ∃ v : Value, e = .returned v ∧ w'.ownsRow w.heap.size 9 1 v xs.length (strs_ xs) ∧ Below w.heap.size w w') (w : World) :
    Calls Try.prog 5 #[.string s] w fun e w' => e = .returned (.bool true) ∧ Below w.heap.size w w' := by
  have H1 := Lib.hid h1; clear h1
  have H2 := Lib.hid h2; clear h2
  have hn := hx.count
  have HX := Lib.hid hx; clear hx
  have d1 : decide (4096 < (s.size : Int)) = false := decide_eq_false (by omega)
  go_enter Try.func5, Try.ntmps5
  go_wp2_with fail
  refine (H1.out _).mono ?_; rintro e w1 ⟨v1, rfl, hown1, hb1⟩
  go_wp2_with fail
  refine (H2.out _).mono ?_; rintro e w2 ⟨v2, rfl, hown2, hb2⟩
  have hown1' := own_below hown1 hb2
  clear hown1
  have hbb := below_then hb1 hb2
  clear hb1 hb2
  obtain ⟨g1, c1, rfl, k1⟩ := strs_form hown1'
  obtain ⟨g2, c2, rfl, k2⟩ := strs_form hown2
  clear hown1' hown2
  have K1 := Lib.hid k1; clear k1
  have K2 := Lib.hid k2; clear k2
  go_wp2_with fail
  go_loop [5, 6] (fun a i => ∃ k : Nat, k ≤ xs.length ∧ i = .int .i64 k ∧ a = .int .i64 (lat xs k)) (fun _ i => xs.length - (intOf i).toNat)
  case atStart => exact ⟨0, by omega, rfl, rfl⟩
  case round =>
    obtain ⟨k, hk, rfl, rfl⟩ := hrel
    by_cases hlt : k < xs.length
    · obtain ⟨b1, rfl, hc1⟩ := K1.out k hlt
      obtain ⟨b2, rfl, hc2⟩ := K2.out k hlt
      have hpos := HX.out.some_ xs[k] (List.getElem_mem hlt)
      obtain ⟨hcut, hle⟩ := HX.out.cut k hlt
      have HT := Lib.hid (lat_succ xs k hlt)
      have hend : k + 1 < xs.length → EndsLine xs[k] := fun h => HX.out.ends k h
      generalize hxk : xs[k] = x at *
      have t1 : x.toList.isEmpty = false := by
        rw [Lib.toList_data]
        cases hh : x.data.toList with
        | nil => have : x.size = 0 := by rw [← ByteArray.size_data, ← Array.length_toList, hh]; rfl
                 omega
        | cons _ _ => rfl
      have t2 : (s.extract (lat xs k) (lat xs k + x.size)).toList = x.toList := by rw [Lib.toList_data, Lib.toList_data]; exact hcut
      have hx64 : x.size ≤ 4096 := by omega
      clear hcut hxk
      by_cases hl : k + 1 < xs.length
      · obtain ⟨_, he⟩ := hend hl
        have t3 : ((x[x.size - 1].toNat : Int) != 10) = false := by rw [he]; rfl
        clear he hend
        go_wp2
        go_round
        case rel => exact ⟨k + 1, by omega, by go_num, by rw [HT.out]; go_num⟩
        case measure => simp [intOf]; omega
      · clear hend
        go_wp2
        go_round
        case rel => exact ⟨k + 1, by omega, by go_num, by rw [HT.out]; go_num⟩
        case measure => simp [intOf]; omega
    · obtain rfl : k = xs.length := by omega
      have t1 : ((lat xs xs.length : Int) == s.size) = true := by rw [HX.out.all]; simp
      go_wp2_with fail
      refine (utf_awake _).mono ?_; rintro e w3 ⟨rfl, hb3⟩
      go_wp2_with fail
      go_ret
      exact ⟨rfl, below_then hbb hb3⟩

theorem walk_UtfLines (s : ByteArray) (hs : s.size ≤ maxLen) (w : World) :
    Calls Try.prog 5 #[.string s] w fun e w' => e = .returned (.bool true) ∧ Below w.heap.size w w' := by
  by_cases h1 : 4096 < s.size
  · unfold maxLen at hs
    go_enter Try.func5, Try.ntmps5
    go_wp2_with fail
    refine (utf_awake _).mono ?_; rintro e w2 ⟨rfl, hb2⟩
    go_wp2_with fail
    go_ret
    exact ⟨rfl, hb2⟩
  · exact lines_law s (lns s) (by omega) (lines_of s) (fun w => lines_any s (by omega) w) (fun w => rlines_any s (by omega) w) w
end Go.Proofs.Ytjokidcjjfdkpaa
