/- The walks of the calendar's laws on weeks and on months. -/
import Derived.Test.YtleimfdeapiffaaCalWalksD
import Derived.Test.YtleimfdeapiffaaCalMathB
namespace Go.Proofs.Ytleimfdeapiffaa
open Go.RowKit

theorem wd_at (n : Int) (h : Cal.kn n) : ∃ p : Int, 1 ≤ p ∧ p ≤ 7 ∧ (p < 7 → n % 7 < 6) ∧ (∀ w, Calls Try.prog 17 #[.int .i64 n] w fun e w' => e = .returned (.tuple #[.int .i64 p, .int .i64 0]) ∧ w = w') :=
  ⟨n % 7 + 1, by omega, by omega, by omega, fun w => weekday_yes n w h.1 h.2⟩
theorem week_is {n y k : Int} (h : Cal.kn n) (hy : Cal.Yr (Cal.thu n) = y) (hk : Cal.wk (Cal.thu n) = k) (w : World) : Calls Try.prog 20 #[.int .i64 n] w fun e w' =>
    e = .returned (.tuple #[.int .i64 y, .int .i64 k, .int .i64 0]) ∧ Below w.heap.size w w' := by
  subst hy hk
  exact week_yes n w h
theorem day_is {y m d n : Int} (w : World) (hv : Cal.Vld y m d) (hn : Cal.num y m d = n) : Calls Try.prog 9 #[.int .i64 y, .int .i64 m, .int .i64 d] w fun e w' =>
    e = .returned (.tuple #[.int .i64 n, .int .i64 0]) ∧ Below w.heap.size w w' := by
  subst hn; exact day_yes y m d w hv

set_option maxRecDepth 100000 in
set_option maxHeartbeats 2000000 in
theorem weeks_in (n p y k b z j : Int) (h1 : 0 ≤ n) (h2 : n ≤ 3652051) (hp1 : 1 ≤ p) (hp7 : p ≤ 7) (k1 : 1 ≤ k) (k2 : k ≤ 53) (hj : Cal.kn j) (y1 : 1 ≤ y) (y2 : y ≤ 9999)
    (hw : ∀ w, Calls Try.prog 17 #[.int .i64 n] w fun e w' => e = .returned (.tuple #[.int .i64 p, .int .i64 0]) ∧ w = w')
    (hy : Cal.Yr (Cal.thu n) = y) (hk : Cal.wk (Cal.thu n) = k)
    (a x : Int) (ha : Cal.Yr (Cal.thu (n + 1)) = a) (hx : Cal.wk (Cal.thu (n + 1)) = x) (hax : p < 7 → (a != y) = false ∧ (x != k) = false)
    (hb : Cal.Yr (Cal.thu (n + 7)) = b) (hz : Cal.wk (Cal.thu (n + 7)) = z) (hbz : ((b != y) = false ∧ (z != k + 1) = false) ∨ ((b != y) = true ∧ (b != y + 1) = false ∧ (z != 1) = false ∧ 52 ≤ k))
    (hv : Cal.Vld y 1 4) (hn : Cal.num y 1 4 = j) (hyj : Cal.Yr (Cal.thu j) = y) (hkj : Cal.wk (Cal.thu j) = 1) (w : World) :
    Calls Try.prog 6 #[.int .i64 n] w fun e w' => e = .returned (.bool true) ∧ Below w.heap.size w w' := by
  have HW := Lib.hid hw; clear hw
  have H1 := Lib.hid (fun w => week_is ⟨h1, by omega⟩ hy hk w); clear hy hk
  have H2 := Lib.hid (fun w => week_is (n := n + 1) ⟨by omega, by omega⟩ ha hx w); clear ha hx
  have H3 := Lib.hid (fun w => week_is (n := n + 7) ⟨by omega, by omega⟩ hb hz w); clear hb hz
  have H4 := Lib.hid (fun w => day_is w hv hn); clear hv hn
  have H5 := Lib.hid (fun w => week_is hj hyj hkj w); clear hyj hkj hj
  by_cases hp : p < 7
  · obtain ⟨ax1, ax2⟩ := hax hp
    clear hax
    rcases hbz with ⟨b1, b2⟩ | ⟨b1, b2, b3, b4⟩
    all_goals
      go_enter Try.func6, Try.ntmps6
      go_wp2_with fail
      refine (HW.out _).mono ?_; rintro e w' ⟨rfl, rfl⟩
      go_wp2_with fail
      refine (H1.out _).mono ?_; rintro e w1 ⟨rfl, hb1⟩
      go_wp2_with fail
      refine (H2.out _).mono ?_; rintro e w2 ⟨rfl, hb2⟩; replace hb1 := hb1.trans (hb2.mono hb1.size); clear hb2
      go_wp2_with fail
      refine (H3.out _).mono ?_; rintro e w2 ⟨rfl, hb2⟩; replace hb1 := hb1.trans (hb2.mono hb1.size); clear hb2
      go_wp2_with fail
      refine (H4.out _).mono ?_; rintro e w2 ⟨rfl, hb2⟩; replace hb1 := hb1.trans (hb2.mono hb1.size); clear hb2
      go_wp2_with fail
      refine (H5.out _).mono ?_; rintro e w2 ⟨rfl, hb2⟩; replace hb1 := hb1.trans (hb2.mono hb1.size); clear hb2
      go_wp2_with fail
      refine (cal_awake _).mono ?_; rintro e w3 ⟨rfl, hb3⟩
      go_wp2_with fail
      go_ret
      exact ⟨rfl, hb1.trans (hb3.mono hb1.size)⟩
  · clear hax
    rcases hbz with ⟨b1, b2⟩ | ⟨b1, b2, b3, b4⟩
    all_goals
      go_enter Try.func6, Try.ntmps6
      go_wp2_with fail
      refine (HW.out _).mono ?_; rintro e w' ⟨rfl, rfl⟩
      go_wp2_with fail
      refine (H1.out _).mono ?_; rintro e w1 ⟨rfl, hb1⟩
      go_wp2_with fail
      refine (H2.out _).mono ?_; rintro e w2 ⟨rfl, hb2⟩; replace hb1 := hb1.trans (hb2.mono hb1.size); clear hb2
      go_wp2_with fail
      refine (H3.out _).mono ?_; rintro e w2 ⟨rfl, hb2⟩; replace hb1 := hb1.trans (hb2.mono hb1.size); clear hb2
      go_wp2_with fail
      refine (H4.out _).mono ?_; rintro e w2 ⟨rfl, hb2⟩; replace hb1 := hb1.trans (hb2.mono hb1.size); clear hb2
      go_wp2_with fail
      refine (H5.out _).mono ?_; rintro e w2 ⟨rfl, hb2⟩; replace hb1 := hb1.trans (hb2.mono hb1.size); clear hb2
      go_wp2_with fail
      refine (cal_awake _).mono ?_; rintro e w3 ⟨rfl, hb3⟩
      go_wp2_with fail
      go_ret
      exact ⟨rfl, hb1.trans (hb3.mono hb1.size)⟩

theorem walk_CalendarWeeks (n : Int) (_ : (Lit.int .i64 n).wf = true) (w : World) :
    Calls Try.prog 6 #[.int .i64 n] w fun e w' => e = .returned (.bool true) ∧ Below w.heap.size w w' := by
  by_cases h1 : n < 0
  · go_enter Try.func6, Try.ntmps6
    go_wp2_with fail
    refine (cal_awake _).mono ?_; rintro e w3 ⟨rfl, hb3⟩
    go_wp2_with fail
    go_ret
    exact ⟨rfl, hb3⟩
  · by_cases h2 : 3652051 < n
    · go_enter Try.func6, Try.ntmps6
      go_wp2_with fail
      refine (cal_awake _).mono ?_; rintro e w3 ⟨rfl, hb3⟩
      go_wp2_with fail
      go_ret
      exact ⟨rfl, hb3⟩
    · have hn : Cal.kn n := ⟨by omega, by omega⟩
      have hn7 : Cal.kn (n + 7) := ⟨by omega, by omega⟩
      obtain ⟨p, p1, p2, p3, hw⟩ := wd_at n hn
      have kt := Cal.kn_thu hn
      have kt7 := Cal.kn_thu hn7
      obtain ⟨t1, t7⟩ := Cal.thu_next n
      rw [t7] at kt7
      have hy := Cal.yr_bd kt
      have hk := Cal.wk_in kt
      obtain ⟨v, e1, k1, e2, e3⟩ := Cal.wk_first hy.1 hy.2.1
      refine weeks_in n p _ _ _ _ _ (by omega) (by omega) p1 p2 hk.1 hk.2 k1 hy.1 hy.2.1 hw rfl rfl _ _ rfl rfl ?_ rfl rfl ?_ v e1 e2 e3 w
      · intro hp
        rw [t1 (p3 hp)]; simp
      · rw [t7]
        rcases Cal.wk_next kt kt7 with ⟨a, b⟩ | ⟨a, b, c⟩
        · exact .inl (by rw [a, b]; simp)
        · refine .inr ⟨?_, ?_, ?_, c⟩
          · rw [a]; simp; omega
          · rw [a]; simp
          · rw [b]; simp

/-! ### months -/
theorem add_is {n k m e : Int} (hm : Cal.amN n k = m) (he : Cal.amE n k = e) (w : World) : Calls Try.prog 22 #[.int .i64 n, .int .i64 k] w fun e' w' =>
    e' = .returned (.tuple #[.int .i64 m, .int .i64 e]) ∧ Below w.heap.size w w' := by
  subst hm he
  exact add_any n k w
theorem date_is {n y m d : Int} (h : Cal.kn n) (hy : Cal.Yr n = y) (hm : Cal.Mo n = m) (hd : Cal.Da n = d) (w : World) : Calls Try.prog 16 #[.int .i64 n] w fun e w' =>
    e = .returned (.tuple #[.int .i64 y, .int .i64 m, .int .i64 d, .int .i64 0]) ∧ Below w.heap.size w w' := by
  subst hy hm hd
  exact date_at n w h

set_option maxRecDepth 100000 in
set_option maxHeartbeats 1000000 in
theorem months_out (n a b : Int) (h : n < 0 ∨ 3652058 < n) (w : World) :
    Calls Try.prog 8 #[.int .i64 n, .int .i64 a, .int .i64 b] w fun e w' => e = .returned (.bool true) ∧ Below w.heap.size w w' := by
  have hk : ¬ Cal.kn n := by unfold Cal.kn; omega
  have hm : Cal.amN n 0 = 0 := by unfold Cal.amN; rw [if_neg (fun x => hk x.1)]
  have he : Cal.amE n 0 = 2 := by unfold Cal.amE; rw [if_neg (fun x => hk x.1)]
  have H := Lib.hid (fun w => add_is hm he w); clear hm he hk
  rcases h with h | h
  · go_enter Try.func8, Try.ntmps8
    go_wp2_with fail
    refine (H.out _).mono ?_; rintro e w1 ⟨rfl, hb1⟩
    go_wp2_with fail
    refine (cal_awake _).mono ?_; rintro e w3 ⟨rfl, hb3⟩
    go_wp2_with fail
    go_ret
    exact ⟨rfl, hb1.trans (hb3.mono hb1.size)⟩
  · have hd : decide (n < 0) = false := by simp; omega
    go_enter Try.func8, Try.ntmps8
    go_wp2_with fail
    refine (H.out _).mono ?_; rintro e w1 ⟨rfl, hb1⟩
    go_wp2_with fail
    refine (cal_awake _).mono ?_; rintro e w3 ⟨rfl, hb3⟩
    go_wp2_with fail
    go_ret
    exact ⟨rfl, hb1.trans (hb3.mono hb1.size)⟩

/-- The numbers of months lie within the bounds, or not; b's first two tests. -/
inductive Far (a b : Int) : Prop
  | a1 (h : a < -200000) : Far a b
  | a2 (h0 : decide (a < -200000) = false) (h : 200000 < a) : Far a b
  | b1 (h0 : decide (a < -200000) = false) (h1 : decide (200000 < a) = false) (h : b < -200000) : Far a b
  | b2 (h0 : decide (a < -200000) = false) (h1 : decide (200000 < a) = false) (h2 : decide (b < -200000) = false) (h : 200000 < b) : Far a b

set_option maxRecDepth 100000 in
set_option maxHeartbeats 1000000 in
theorem months_far (n a b : Int) (hn : Cal.kn n) (h : Far a b) (w : World) :
    Calls Try.prog 8 #[.int .i64 n, .int .i64 a, .int .i64 b] w fun e w' => e = .returned (.bool true) ∧ Below w.heap.size w w' := by
  obtain ⟨hm, he⟩ := Cal.tot_zero hn
  have H := Lib.hid (fun w => add_is hm he w); clear hm he
  have H2 := Lib.hid (fun w => date_is hn rfl rfl rfl w)
  obtain ⟨n1, n2⟩ := hn
  cases h
  all_goals
    go_enter Try.func8, Try.ntmps8
    go_wp2_with fail
    refine (H.out _).mono ?_; rintro e w1 ⟨rfl, hb1⟩
    go_wp2_with fail
    refine (H2.out _).mono ?_; rintro e w2 ⟨rfl, hb2⟩; replace hb1 := hb1.trans (hb2.mono hb1.size); clear hb2
    go_wp2_with fail
    refine (cal_awake _).mono ?_; rintro e w3 ⟨rfl, hb3⟩
    go_wp2_with fail
    go_ret
    exact ⟨rfl, hb1.trans (hb3.mono hb1.size)⟩

set_option maxRecDepth 100000 in
set_option maxHeartbeats 1000000 in
theorem months_none (n a b : Int) (hn : Cal.kn n) (ha1 : -200000 ≤ a) (ha2 : a ≤ 200000) (hb1 : -200000 ≤ b) (hb2 : b ≤ 200000) (h : ¬ (12 ≤ Cal.tot n a ∧ Cal.tot n a < 120000)) (w : World) :
    Calls Try.prog 8 #[.int .i64 n, .int .i64 a, .int .i64 b] w fun e w' => e = .returned (.bool true) ∧ Below w.heap.size w w' := by
  obtain ⟨hm, he⟩ := Cal.tot_zero hn
  have H := Lib.hid (fun w => add_is hm he w); clear hm he
  have H2 := Lib.hid (fun w => date_is hn rfl rfl rfl w)
  have hm : Cal.amN n a = 0 := by unfold Cal.amN; rw [if_neg (fun x => h x.2)]
  have he : Cal.amE n a = 2 := by unfold Cal.amE; rw [if_neg (fun x => h x.2)]
  have H3 := Lib.hid (fun w => add_is hm he w); clear hm he h
  obtain ⟨n1, n2⟩ := hn
  go_enter Try.func8, Try.ntmps8
  go_wp2_with fail
  refine (H.out _).mono ?_; rintro e w1 ⟨rfl, hb1⟩
  go_wp2_with fail
  refine (H2.out _).mono ?_; rintro e w2 ⟨rfl, hb2⟩; replace hb1 := hb1.trans (hb2.mono hb1.size); clear hb2
  go_wp2_with fail
  refine (H3.out _).mono ?_; rintro e w2 ⟨rfl, hb2⟩; replace hb1 := hb1.trans (hb2.mono hb1.size); clear hb2
  go_wp2_with fail
  refine (cal_awake _).mono ?_; rintro e w3 ⟨rfl, hb3⟩
  go_wp2_with fail
  go_ret
  exact ⟨rfl, hb1.trans (hb3.mono hb1.size)⟩

/-- Whether a is no whole number of years, or the month is the same one. -/
theorem tmod12 (a : Int) : (a.tmod 12 == 0) = decide (a % 12 = 0) := by
  rw [Bool.eq_iff_iff]; simp
  rw [← Int.dvd_iff_tmod_eq_zero, Int.dvd_iff_emod_eq_zero]

set_option maxRecDepth 100000 in
set_option maxHeartbeats 2000000 in
theorem months_in (n a b y m d x y' m' d' z e : Int) (hn : Cal.kn n) (ha1 : -200000 ≤ a) (ha2 : a ≤ 200000) (hb1 : -200000 ≤ b) (hb2 : b ≤ 200000)
    (hy : Cal.Yr n = y) (hm : Cal.Mo n = m) (hd : Cal.Da n = d) (hx : Cal.amN n a = x) (hxe : Cal.amE n a = 0) (hxk : Cal.kn x) (hy' : Cal.Yr x = y') (hm' : Cal.Mo x = m') (hd' : Cal.Da x = d')
    (h1 : d' ≤ d) (h2 : d ≤ 28 → (d' != d) = false) (h3 : (a.tmod 12 == 0) = false ∨ ((a.tmod 12 == 0) = true ∧ (m' != m) = false))
    (z' e' : Int) (hz : Cal.amN x b = z) (he : Cal.amE x b = e) (hz' : Cal.amN n (a + b) = z') (he' : Cal.amE n (a + b) = e') (h4 : d ≤ 28 → (z == z') = true ∧ (e == e') = true) (w : World) :
    Calls Try.prog 8 #[.int .i64 n, .int .i64 a, .int .i64 b] w fun e w' => e = .returned (.bool true) ∧ Below w.heap.size w w' := by
  obtain ⟨hm0, he0⟩ := Cal.tot_zero hn
  have H := Lib.hid (fun w => add_is hm0 he0 w); clear hm0 he0
  have H2 := Lib.hid (fun w => date_is hn hy hm hd w); clear hy hm hd
  have H3 := Lib.hid (fun w => add_is hx hxe w); clear hx hxe
  have H4 := Lib.hid (fun w => date_is hxk hy' hm' hd' w); clear hy' hm' hd' hxk
  have H5 := Lib.hid (fun w => add_is hz he w); clear hz he
  have H6 := Lib.hid (fun w => add_is hz' he' w); clear hz' he'
  obtain ⟨n1, n2⟩ := hn
  by_cases hd28 : d ≤ 28
  · obtain ⟨q1, q2⟩ := h4 hd28
    have q3 := h2 hd28
    clear h4 h2
    rcases h3 with h3 | ⟨h3, h3'⟩
    all_goals
      go_enter Try.func8, Try.ntmps8
      go_wp2_with fail
      refine (H.out _).mono ?_; rintro e w1 ⟨rfl, hb1⟩
      go_wp2_with fail
      refine (H2.out _).mono ?_; rintro e w2 ⟨rfl, hb2⟩; replace hb1 := hb1.trans (hb2.mono hb1.size); clear hb2
      go_wp2_with fail
      refine (H3.out _).mono ?_; rintro e w2 ⟨rfl, hb2⟩; replace hb1 := hb1.trans (hb2.mono hb1.size); clear hb2
      go_wp2_with fail
      refine (H4.out _).mono ?_; rintro e w2 ⟨rfl, hb2⟩; replace hb1 := hb1.trans (hb2.mono hb1.size); clear hb2
      go_wp2_with fail
      refine (H5.out _).mono ?_; rintro e w2 ⟨rfl, hb2⟩; replace hb1 := hb1.trans (hb2.mono hb1.size); clear hb2
      go_wp2_with fail
      refine (H6.out _).mono ?_; rintro e w2 ⟨rfl, hb2⟩; replace hb1 := hb1.trans (hb2.mono hb1.size); clear hb2
      go_wp2_with fail
      refine (cal_awake _).mono ?_; rintro e w3 ⟨rfl, hb3⟩
      go_wp2_with fail
      go_ret
      exact ⟨rfl, hb1.trans (hb3.mono hb1.size)⟩
  · clear h4 h2
    rcases h3 with h3 | ⟨h3, h3'⟩
    all_goals
      go_enter Try.func8, Try.ntmps8
      go_wp2_with fail
      refine (H.out _).mono ?_; rintro e w1 ⟨rfl, hb1⟩
      go_wp2_with fail
      refine (H2.out _).mono ?_; rintro e w2 ⟨rfl, hb2⟩; replace hb1 := hb1.trans (hb2.mono hb1.size); clear hb2
      go_wp2_with fail
      refine (H3.out _).mono ?_; rintro e w2 ⟨rfl, hb2⟩; replace hb1 := hb1.trans (hb2.mono hb1.size); clear hb2
      go_wp2_with fail
      refine (H4.out _).mono ?_; rintro e w2 ⟨rfl, hb2⟩; replace hb1 := hb1.trans (hb2.mono hb1.size); clear hb2
      go_wp2_with fail
      refine (H5.out _).mono ?_; rintro e w2 ⟨rfl, hb2⟩; replace hb1 := hb1.trans (hb2.mono hb1.size); clear hb2
      go_wp2_with fail
      refine (H6.out _).mono ?_; rintro e w2 ⟨rfl, hb2⟩; replace hb1 := hb1.trans (hb2.mono hb1.size); clear hb2
      go_wp2_with fail
      refine (cal_awake _).mono ?_; rintro e w3 ⟨rfl, hb3⟩
      go_wp2_with fail
      go_ret
      exact ⟨rfl, hb1.trans (hb3.mono hb1.size)⟩

theorem walk_CalendarMonths (n a b : Int) (_ : (Lit.int .i64 n).wf = true) (_ : (Lit.int .i64 a).wf = true) (_ : (Lit.int .i64 b).wf = true) (w : World) :
    Calls Try.prog 8 #[.int .i64 n, .int .i64 a, .int .i64 b] w fun e w' => e = .returned (.bool true) ∧ Below w.heap.size w w' := by
  by_cases hn : Cal.kn n
  · by_cases hab : (-200000 ≤ a ∧ a ≤ 200000) ∧ -200000 ≤ b ∧ b ≤ 200000
    · obtain ⟨⟨a1, a2⟩, b1, b2⟩ := hab
      by_cases ht : 12 ≤ Cal.tot n a ∧ Cal.tot n a < 120000
      · obtain ⟨k, e0, _, _, _⟩ := Cal.am_date hn ht.1 ht.2
        obtain ⟨g1, g2, g3⟩ := Cal.am_day hn ht.1 ht.2
        refine months_in n a b _ _ _ _ _ _ _ _ _ hn a1 a2 b1 b2 rfl rfl rfl rfl e0 k rfl rfl rfl g1 (fun h => by rw [g2 h]; simp) ?_ _ _ rfl rfl rfl rfl (fun h => ?_) w
        · rw [tmod12]
          by_cases h12 : a % 12 = 0
          · exact .inr ⟨by simpa using h12, by rw [g3 h12]; simp⟩
          · exact .inl (by simpa using h12)
        · obtain ⟨q1, q2⟩ := Cal.am_add (b := b) hn ht.1 ht.2 h
          rw [q1, q2]; simp
      · exact months_none n a b hn a1 a2 b1 b2 ht w
    · refine months_far n a b hn ?_ w
      by_cases h1 : a < -200000
      · exact .a1 h1
      · have g1 : decide (a < -200000) = false := by simpa using h1
        by_cases h2 : 200000 < a
        · exact .a2 g1 h2
        · have g2 : decide (200000 < a) = false := by simpa using h2
          by_cases h3 : b < -200000
          · exact .b1 g1 g2 h3
          · exact .b2 g1 g2 (by simpa using h3) (by omega)
  · exact months_out n a b (not_kn hn) w
end Go.Proofs.Ytleimfdeapiffaa
