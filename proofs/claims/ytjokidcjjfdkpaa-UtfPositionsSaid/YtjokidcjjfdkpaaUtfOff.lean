/- UTF-8: the offset of a position. -/
import Derived.Test.YtjokidcjjfdkpaaUtfPos
namespace Go.Proofs.Ytjokidcjjfdkpaa
open Go.RowKit Go.Shelf
attribute [local go_sem] Oper.semAt_some

theorem offset_bad {s : ByteArray} {rs : List Int} {rest : List UInt8} (h : Utf.Split s.data.toList rs rest) (hs : s.size ≤ maxLen) (hr : rest.length ≠ 0) (p1 p2 : Int) (w : World) :
    Calls Try.prog 31 #[.string s, .agg #[.int .i64 p1, .int .i64 p2]] w fun e w' => e = .returned (.tuple #[.int .i64 0, .int .i64 5]) ∧ Below w.heap.size w w' := by
  have HV := Lib.hid (valid_any h hs)
  rw [decide_eq_false hr] at HV
  clear h hr
  go_enter Try.func31, Try.ntmps31
  go_wp2_with (go_at_call 23; refine (HV.out _).mono ?_; rintro e w' ⟨rfl, rfl⟩)
  exact bodyPost_ret (v := .tuple #[.int .i64 0, .int .i64 5]) (by simp [results, Try.results31, go_sem]) rfl ⟨rfl, (((Below.refl _ _).alloc (Nat.le_refl _) _).alloc (by simp) _).alloc (by simp; omega) _⟩
theorem offset_one {s : ByteArray} {rs : List Int} {rest : List UInt8} (h : Utf.Split s.data.toList rs rest) (hs : s.size ≤ maxLen) (hr : rest.length = 0) (w : World) :
    Calls Try.prog 31 #[.string s, .agg #[.int .i64 1, .int .i64 1]] w fun e w' => e = .returned (.tuple #[.int .i64 0, .int .i64 0]) ∧ Below w.heap.size w w' := by
  have HV := Lib.hid (valid_any h hs)
  rw [decide_eq_true hr] at HV
  clear h hr
  go_enter Try.func31, Try.ntmps31
  go_wp2_with (go_at_call 23; refine (HV.out _).mono ?_; rintro e w' ⟨rfl, rfl⟩)
  exact bodyPost_ret (v := .tuple #[.int .i64 0, .int .i64 0]) (by simp [results, Try.results31, go_sem]) rfl ⟨rfl, (((((Below.refl _ _).alloc (Nat.le_refl _) _).alloc (by simp) _).alloc (by simp; omega) _).alloc (by simp; omega) _).alloc (by simp; omega) _⟩
/-- What Offset comes to behind the loop. -/
def OffEnd (rs : List Int) (p1 p2 : Int) (e : Ending) : Prop :=
  (∃ k, 1 ≤ k ∧ k ≤ rs.length ∧ posOf (rs.take k) = (p1, p2) ∧ e = .returned (.tuple #[.int .i64 (Utf.off rs k), .int .i64 0])) ∨
  ((∀ k, 1 ≤ k → k ≤ rs.length → posOf (rs.take k) ≠ (p1, p2)) ∧ e = .returned (.tuple #[.int .i64 0, .int .i64 2]))

theorem pos_eql (x1 x2 y1 y2 : Int) (W : World) : (binOp .eql 48 (.agg #[.int .i64 x1, .int .i64 x2]) (.agg #[.int .i64 y1, .int .i64 y2])).run Try.prog W = .ok (.bool (decide ((x1, x2) = (y1, y2)))) W := by
  by_cases h1 : x1 = y1
  · by_cases h2 : x2 = y2
    · subst h1 h2
      rw [decide_eq_true rfl]
      simp [go_sem]
    · rw [decide_eq_false (fun e => h2 (congrArg Prod.snd e))]
      simp [go_sem, h1, h2]
  · rw [decide_eq_false (fun e => h1 (congrArg Prod.fst e))]
    simp [go_sem, h1]

set_option maxRecDepth 100000 in
set_option maxHeartbeats 2000000 in
theorem offset_loop {s : ByteArray} {rs : List Int} {rest : List UInt8} (h : Utf.Split s.data.toList rs rest) (hs : s.size ≤ 4096) (hr : rest.length = 0) (p1 p2 : Int) (hp12 : (p1, p2) ≠ (1, 1)) (w : World) :
    Calls Try.prog 31 #[.string s, .agg #[.int .i64 p1, .int .i64 p2]] w fun e w' => OffEnd rs p1 p2 e ∧ Below w.heap.size w w' := by
  have HV := Lib.hid (valid_any h (by unfold maxLen; omega))
  rw [decide_eq_true hr] at HV
  have hcl : rs.length ≤ s.size := by simpa using Utf.count_le h
  have hq1 : ∀ W, (binOp .eql 48 (.agg #[.int .i64 p1, .int .i64 p2]) (.agg #[.int .i64 1, .int .i64 1])).run Try.prog W = .ok (.bool false) W := fun W => by rw [pos_eql, decide_eq_false hp12]
  clear hp12 hr
  have HSP := Lib.hid h; clear h
  refine (callsIn_wide (n := 5)).1 ?_
  refine callsIn_of_wp_marks Try.func31 rfl trivial ?_ rfl
  simp only [Try.ntmps31, List.size_toArray, List.length_cons, List.length_nil, Nat.reduceAdd, Nat.reduceSub, Array.replicate_succ, Array.replicate_zero, List.push_toArray, List.append_toArray, List.nil_append, List.cons_append]
  gi_wp2_with (first | (refine ⟨trivial, ?_⟩; gi_at_call 23; refine (callsIn_wide.2 (HV.out _)).mono ?_; rintro e w' ⟨rfl, rfl⟩) | (refine ⟨trivial, ?_⟩; gi_at_call 37; refine (callsIn_wide.2 (runes_make s _)).mono ?_; rintro e w' ⟨rfl, rfl⟩))
  have b0 := Whole.new w 48 #[.int .i64 p1, .int .i64 p2]
  have b1 := Whole.new (w.alloc (.cells #[.int .i64 p1, .int .i64 p2] 48)) 3 #[.int .i64 0]
  have b2 := Whole.new ((w.alloc (.cells #[.int .i64 p1, .int .i64 p2] 48)).alloc (.cells #[.int .i64 0] 3)) 22 #[.int .i64 0]
  have b3 := Whole.new (((w.alloc (.cells #[.int .i64 p1, .int .i64 p2] 48)).alloc (.cells #[.int .i64 0] 3)).alloc (.cells #[.int .i64 0] 22)) 48 #[.int .i64 1, .int .i64 1]
  have b4 := Whole.new ((((w.alloc (.cells #[.int .i64 p1, .int .i64 p2] 48)).alloc (.cells #[.int .i64 0] 3)).alloc (.cells #[.int .i64 0] 22)).alloc (.cells #[.int .i64 1, .int .i64 1] 48)) 3 #[.int .i64 0]
  have b5 := Whole.new (((((w.alloc (.cells #[.int .i64 p1, .int .i64 p2] 48)).alloc (.cells #[.int .i64 0] 3)).alloc (.cells #[.int .i64 0] 22)).alloc (.cells #[.int .i64 1, .int .i64 1] 48)).alloc (.cells #[.int .i64 0] 3)) 9 #[.string s]
  simp only [World.size_alloc] at b1 b2 b3 b4 b5
  have hB0 : Below w.heap.size w ((((((w.alloc (.cells #[.int .i64 p1, .int .i64 p2] 48)).alloc (.cells #[.int .i64 0] 3)).alloc (.cells #[.int .i64 0] 22)).alloc (.cells #[.int .i64 1, .int .i64 1] 48)).alloc (.cells #[.int .i64 0] 3)).alloc (.cells #[.string s] 9)) :=
    ((((((Below.refl _ w).alloc (Nat.le_refl _) _).alloc (by simp) _).alloc (by simp; omega) _).alloc (by simp; omega) _).alloc (by simp; omega) _).alloc (by simp <;> omega) _
  refine wpIn_rangeFunc_ownG rfl (by omega : 1 ≤ 5) (gf := 42) (lb := #[.pointer (some ⟨w.heap.size + 1 + 1 + 1 + 1 + 1, 0, none⟩)]) rfl trivial (enters_of Try.func42 (by kernel_rfl) rfl)
    (runes_stops 4 (by omega) (w.heap.size + 1 + 1 + 1 + 1 + 1) HSP.out hs _ (by simp) (b5.cell 0)) keepsCell_t keepsCell_b (Below.refl _ _) (fun _ => rfl)
    (fun pre W => (Whole W (w.heap.size + 1 + 1 + 1) 48 #[.int .i64 (posOf pre).1, .int .i64 (posOf pre).2] ∧ Whole W (w.heap.size + 1 + 1 + 1 + 1) 3 #[.int .i64 (sumw pre)] ∧ Whole W w.heap.size 48 #[.int .i64 p1, .int .i64 p2] ∧ Whole W (w.heap.size + 1) 3 #[.int .i64 0] ∧ Whole W (w.heap.size + 1 + 1) 22 #[.int .i64 0]) ∧ Below w.heap.size w W ∧ (∀ k, 1 ≤ k → k ≤ pre.length → posOf (pre.take k) ≠ (p1, p2)))
    (fun c pre W => (Whole W (w.heap.size + 1) 3 #[.int .i64 (sumw pre)] ∧ Whole W (w.heap.size + 1 + 1) 22 #[.int .i64 0]) ∧ Below w.heap.size w W ∧ (c = .ret ∧ 1 ≤ pre.length ∧ posOf pre = (p1, p2)))
    (OwnFrom.and (OwnFrom.and (Own.from (whole_own _ _ _) _) (OwnFrom.and (Own.from (whole_own _ _ _) _) (OwnFrom.and (Own.from (whole_own _ _ _) _) (OwnFrom.and (Own.from (whole_own _ _ _) _) (Own.from (whole_own _ _ _) _))))) (OwnFrom.and (ownFrom_below (Nat.le_refl _) (by simp; omega)) (ownFrom_pure _ _)))
    (fun c => OwnFrom.and (OwnFrom.and (Own.from (whole_own _ _ _) _) (Own.from (whole_own _ _ _) _)) (OwnFrom.and (ownFrom_below (Nat.le_refl _) (by simp; omega)) (ownFrom_pure _ _)))
    ⟨⟨(b3.alloc _).alloc _, b4.alloc _, ((((b0.alloc _).alloc _).alloc _).alloc _).alloc _, (((b1.alloc _).alloc _).alloc _).alloc _, ((b2.alloc _).alloc _).alloc _⟩, hB0, fun k h1 h2 => by simp at h2; omega⟩
    (fun x => { tmps := #[.string s, .agg #[.int .i64 p1, .int .i64 p2], undef, .pointer (some ⟨w.heap.size, 0, none⟩), .pointer (some ⟨w.heap.size + 1, 0, none⟩), .pointer (some ⟨w.heap.size + 1 + 1, 0, none⟩), .pointer (some ⟨w.heap.size + 1 + 1 + 1, 0, none⟩), .pointer (some ⟨w.heap.size + 1 + 1 + 1 + 1, 0, none⟩), .int .i64 x, .string s, .bool true, .bool false, .agg #[.int .i64 1, .int .i64 1], .agg #[.int .i64 p1, .int .i64 p2], .agg #[.int .i64 1, .int .i64 1], .bool false, .string s, .func (.func 42) #[] #[.pointer (some ⟨w.heap.size + 1 + 1 + 1 + 1 + 1, 0, none⟩)], .int .i64 x, undef, undef, undef, undef, undef, undef, undef, undef, undef, undef, undef], defers := [] }) ?assign ?body ?done ?stop
  case assign =>
    intro l x W K hK
    gi_wp2
    exact hK
  case body =>
    rintro l pre x W ⟨⟨hp, hi, ha, hq, he⟩, hB, hno⟩ hlt
    have hmx : Try.prog.follows .mixedOrders = true := by kernel_rfl
    have ci := hi.cell 0
    have fi := hi.frozen 0
    simp only [List.getElem?_toArray, List.getElem?_cons_zero] at ci
    have sb := sumw_bd pre
    have wb := Utf.wid_bd x
    gi_wp2
    gi_region_with_o (refine ⟨trivial, ?_⟩; gi_at_call 34; refine (CallsIn.inRound l (callsIn_wide.2 (width_any _ _))).mono ?_; rintro e w' ⟨rfl, rfl⟩)
    all_goals
      have hi' := (hi.s (.int .i64 ((sumw pre : Int) + (Utf.wid x : Int)))).drew
      have hp' : Whole (W.setCell ⟨w.heap.size + 1 + 1 + 1 + 1, 0, none⟩ (.int .i64 ((sumw pre : Int) + (Utf.wid x : Int)))).drew (w.heap.size + 1 + 1 + 1) 48 #[.int .i64 (posOf pre).1, .int .i64 (posOf pre).2] := (hp.far (by simp <;> omega) _).drew
      have ha' : Whole (W.setCell ⟨w.heap.size + 1 + 1 + 1 + 1, 0, none⟩ (.int .i64 ((sumw pre : Int) + (Utf.wid x : Int)))).drew w.heap.size 48 #[.int .i64 p1, .int .i64 p2] := (ha.far (by simp <;> omega) _).drew
      have hq' : Whole (W.setCell ⟨w.heap.size + 1 + 1 + 1 + 1, 0, none⟩ (.int .i64 ((sumw pre : Int) + (Utf.wid x : Int)))).drew (w.heap.size + 1) 3 #[.int .i64 0] := (hq.far (by simp <;> omega) _).drew
      have he' : Whole (W.setCell ⟨w.heap.size + 1 + 1 + 1 + 1, 0, none⟩ (.int .i64 ((sumw pre : Int) + (Utf.wid x : Int)))).drew (w.heap.size + 1 + 1) 22 #[.int .i64 0] := (he.far (by simp <;> omega) _).drew
      have hkf' : KeepsFrom (w.heap.size + 1 + 1 + 1 + 1 + 1 + 1) W (W.setCell ⟨w.heap.size + 1 + 1 + 1 + 1, 0, none⟩ (.int .i64 ((sumw pre : Int) + (Utf.wid x : Int)))).drew := (keepsFrom_set _ (by omega)).trans (keepsFrom_below (Below.refl _ _).drew (Nat.le_refl _))
      have hkc' : KeepsCell (w.heap.size + 1 + 1 + 1 + 1 + 1) W (W.setCell ⟨w.heap.size + 1 + 1 + 1 + 1, 0, none⟩ (.int .i64 ((sumw pre : Int) + (Utf.wid x : Int)))).drew := keepsCell_t (keepsCell_set (by omega) _ _ _) (fun _ h => h)
      have hB' : Below w.heap.size w (W.setCell ⟨w.heap.size + 1 + 1 + 1 + 1, 0, none⟩ (.int .i64 ((sumw pre : Int) + (Utf.wid x : Int)))).drew := (hB.setCell (by simp <;> omega) _).drew
      have hwr : IntKind.i64.wrap ((sumw pre : Int) + (Utf.wid x : Int)) = (sumw pre : Int) + (Utf.wid x : Int) := by rw [IntKind.wrap_i64]; omega
      rw [hwr]
      clear hwr
      generalize (W.setCell ⟨w.heap.size + 1 + 1 + 1 + 1, 0, none⟩ (.int .i64 ((sumw pre : Int) + (Utf.wid x : Int)))).drew = W2 at *
      clear hi hp ha hq he ci fi hB
      obtain ⟨pb1, pb2, pb3, pb4⟩ := posOf_bd pre
      have HPO := Lib.hid (posOf_snoc pre x)
      have HSW := Lib.hid (sumw_snoc pre x)
      have HA := Lib.hid (after_any (posOf pre).1 (posOf pre).2 x)
      have HNO := Lib.hid hno; clear hno
      rw [← HPO.out] at HA
      have hsz := hB'.size
      have cp0 := hp'.c0
      have cp1 := hp'.c1
      generalize (posOf pre).1 = pl at *
      generalize (posOf pre).2 = pc at *
      by_cases hst : ((posOf (pre ++ [x])).1, (posOf (pre ++ [x])).2) = (p1, p2)
      · have tst : ∀ W, (binOp .eql 48 (.agg #[.int .i64 p1, .int .i64 p2]) (.agg #[.int .i64 (posOf (pre ++ [x])).1, .int .i64 (posOf (pre ++ [x])).2])).run Try.prog W = .ok (.bool true) W := fun W => by rw [pos_eql, decide_eq_true hst.symm]
        have HST := Lib.hid hst; clear hst
        gi_wp2_with (refine ⟨trivial, ?_⟩; gi_at_call 40; refine (CallsIn.inRound l (callsIn_wide.2 (HA.out _ (by omega) (by omega) (by omega) (by omega)))).mono ?_; rintro e w3 ⟨rfl, hb3⟩; have hi3 := hi'.below hb3 hi'.lt; have hp3 := hp'.below hb3 hp'.lt; have ha3 := ha'.below hb3 ha'.lt; have hq3 := hq'.below hb3 hq'.lt; have he3 := he'.below hb3 he'.lt; have ci3 := hi3.c; have cp30 := hp3.c0; have cp31 := hp3.c1; have fp3 := hp3.frozen; have ca30 := ha3.c0; have ca31 := ha3.c1; have cq3 := hq3.c; have fq3 := hq3.frozen; have ce3 := he3.c; have fe3 := he3.frozen)
        refine ⟨by simp only [World.size_alloc]; exact hkf'.trans ((keepsFrom_below hb3 (Nat.le_refl _)).trans ((keepsFrom_set _ (by omega)).trans ((keepsFrom_set _ (by omega)).trans ((keepsFrom_set _ (by omega)).trans (keepsFrom_set _ (by omega)))))), ⟨?_, ?_⟩, ?_, rfl, by simp, HST.out⟩
        · rw [HSW.out]; exact (((hq3.far (by simp <;> omega) _).far (by simp <;> omega) _).s _).far (by simp <;> omega) _
        · exact (((he3.far (by simp <;> omega) _).far (by simp <;> omega) _).far (by simp <;> omega) _).s _
        · exact ((((hB'.trans (hb3.mono hsz)).setCell (by simp <;> omega) _).setCell (by simp <;> omega) _).setCell (by simp <;> omega) _).setCell (by simp <;> omega) _
      · have tst : ∀ W, (binOp .eql 48 (.agg #[.int .i64 p1, .int .i64 p2]) (.agg #[.int .i64 (posOf (pre ++ [x])).1, .int .i64 (posOf (pre ++ [x])).2])).run Try.prog W = .ok (.bool false) W := fun W => by rw [pos_eql, decide_eq_false (fun h => hst h.symm)]
        have HST := Lib.hid hst; clear hst
        gi_wp2_with (refine ⟨trivial, ?_⟩; gi_at_call 40; refine (CallsIn.inRound l (callsIn_wide.2 (HA.out _ (by omega) (by omega) (by omega) (by omega)))).mono ?_; rintro e w3 ⟨rfl, hb3⟩; have hi3 := hi'.below hb3 hi'.lt; have hp3 := hp'.below hb3 hp'.lt; have ha3 := ha'.below hb3 ha'.lt; have hq3 := hq'.below hb3 hq'.lt; have he3 := he'.below hb3 he'.lt; have ci3 := hi3.c; have cp30 := hp3.c0; have cp31 := hp3.c1; have fp3 := hp3.frozen; have ca30 := ha3.c0; have ca31 := ha3.c1; have cq3 := hq3.c; have fq3 := hq3.frozen; have ce3 := he3.c; have fe3 := he3.frozen)
        refine ⟨by simp only [World.size_alloc]; exact hkf'.trans ((keepsFrom_below hb3 (Nat.le_refl _)).trans ((keepsFrom_set _ (by omega)).trans (keepsFrom_set _ (by omega)))), keepsCell_t hkc' (keepsCell_t (keepsCell_over hb3 (Nat.le_refl _)) (keepsCell_t (keepsCell_set (by omega) _ _ _) (keepsCell_set (by omega) _ _ _))), ⟨?_, ?_, ?_, ?_, ?_⟩, ?_, ?_⟩
        · exact hp3.s2 _ _
        · rw [HSW.out]; exact (hi3.far (by simp <;> omega) _).far (by simp <;> omega) _
        · exact (ha3.far (by simp <;> omega) _).far (by simp <;> omega) _
        · exact (hq3.far (by simp <;> omega) _).far (by simp <;> omega) _
        · exact (he3.far (by simp <;> omega) _).far (by simp <;> omega) _
        · exact (((hB'.trans (hb3.mono hsz)).setCell (by simp <;> omega) _).setCell (by simp <;> omega) _)
        · intro k k1 k2
          rcases Nat.lt_or_ge pre.length k with k3 | k3
          · obtain rfl : k = (pre ++ [x]).length := by simp at k2 ⊢; omega
            rw [List.take_length]; exact HST.out
          · rw [List.take_append_of_le_length k3]; exact HNO.out k k1 k3
  case done =>
    rintro D ys W hD rfl ⟨⟨hp, hi, ha, hq, he⟩, hB, hno⟩ hK
    simp only [World.size_alloc] at hD
    have HNO := Lib.hid hno; clear hno
    have cq := hq.c
    have fq := hq.frozen
    have ce := he.c
    have fe := he.frozen
    have hK2 : ((W.setCell ⟨w.heap.size + 1, 0, none⟩ (.int .i64 0)).setCell ⟨w.heap.size + 1 + 1, 0, none⟩ (.int .i64 2)).heap[D]? = some (.deferred (some [])) :=
      (Below.heap_setCell _ _ _ D (by simp; omega)).trans ((Below.heap_setCell _ _ _ D (by simp; omega)).trans hK)
    have hq2 := ((hq.s (.int .i64 0)).far (p := ⟨w.heap.size + 1 + 1, 0, none⟩) (by simp <;> omega) (.int .i64 2)).put hK2 rfl (.deferred none)
    have he2 := ((he.far (p := ⟨w.heap.size + 1, 0, none⟩) (by simp <;> omega) (.int .i64 0)).s (.int .i64 2)).put hK2 rfl (.deferred none)
    have hB2 := ((hB.setCell (p := ⟨w.heap.size + 1, 0, none⟩) (by simp <;> omega) (.int .i64 0)).setCell (p := ⟨w.heap.size + 1 + 1, 0, none⟩) (by simp <;> omega) (.int .i64 2)).trans (belowK_b (w := w) (Nat.le_refl _) _ D _ (.deferred none) (by omega) hK2 rfl rfl)
    gi_wp2
    refine ⟨by simp, .inl ⟨_, _, rfl, run_takeDeferred hK2, ?_⟩⟩
    refine ⟨.tuple #[.int .i64 0, .int .i64 2], ?_, .inr ⟨HNO.out, rfl⟩, hB2⟩
    generalize World.putObj _ D (.deferred none) = W9 at *
    simp [results, Try.results31, go_sem, hq2.c, he2.c]
  case stop =>
    rintro D c pre W hD hpre ⟨⟨hq, he⟩, hB, rfl, hn, hs⟩ hK
    have hq2 := hq.put hK rfl (.deferred none)
    have he2 := he.put hK rfl (.deferred none)
    have HPR := Lib.hid (List.prefix_iff_eq_take.1 hpre); have hlp := hpre.length_le; clear hpre
    have HS := Lib.hid hs; clear hs
    gi_wp2
    refine ⟨by simp, .inl ⟨_, _, rfl, run_takeDeferred hK, ?_⟩⟩
    refine ⟨.tuple #[.int .i64 (sumw pre), .int .i64 0], ?_, .inl ⟨pre.length, hn, hlp, ?_, ?_⟩, hB.trans (belowK_b (w := w) (Nat.le_refl _) W D _ _ (by simp at hD; omega) hK rfl rfl)⟩
    · generalize World.putObj _ D (.deferred none) = W9 at *
      simp [results, Try.results31, go_sem, hq2.c, he2.c]
    · rw [← HPR.out]; exact HS.out
    · unfold Utf.off; rw [← HPR.out]; rfl
end Go.Proofs.Ytjokidcjjfdkpaa
