/- Times: the reference's Parse where what follows the date is no clock. -/
import Derived.Test.YthbjkibclbgjoaaMomRefH
namespace Go.Proofs.Ythbjkibclbgjoaa
open Go.RowKit

set_option maxHeartbeats 2000000 in
theorem rparse_noclk {x : ByteArray} (hx : x.size ≤ maxLen) (h : Mom.lk x Mom.dateF) (hs : 10 < x.size) (hb : Mom.bt x 10 = 84 ∨ Mom.bt x 10 = 116 ∨ Mom.bt x 10 = 32) (hc : (Mom.rClk ((x.extract 10 x.size).extract 1 (x.extract 10 x.size).size)).2.2.1 = false) (w : World) :
    Calls Try.prog 18 #[.string x] w fun e w' => e = .returned (.tuple #[Mom.ag Mom.tz, .int .i64 3]) ∧ Below w.heap.size w w' := by
  have HL := Lib.hid (like_any (f := Mom.dateF) hx)
  rw [decide_eq_true h] at HL
  unfold Mom.dateF at HL
  obtain ⟨h10, n1, n2, n3⟩ := date_nums h
  have HD := Lib.hid (rday_any (Mom.ryr x) (Mom.rmo x) (Mom.rda x))
  unfold Cal.dayN Cal.dayE at HD
  have N1 := Lib.hid n1
  have N2 := Lib.hid n2
  have N3 := Lib.hid n3
  clear n1 n2 n3 h
  have HN : Hid (∀ y v, Hid (Mom.numOk y v) → ∀ w, Calls Try.prog 45 #[.string y] w fun e w' => e = .returned (.int .i64 v) ∧ w = w') := Lib.hid (fun y v h w => num_is h.out w)
  have K := RK.new w
  obtain ⟨y, hy⟩ : ∃ y, x.extract 10 x.size = y := ⟨_, rfl⟩
  have ysz : y.size = x.size - 10 := by rw [← hy, ByteArray.size_extract]; omega
  have y0 : 0 < y.size := by omega
  have ye : y.toList.isEmpty = false := some_list y0
  have yb : ∀ i, Mom.bt y i = Mom.bt x (10 + i) := fun i => by rw [← hy]; exact Mom.bt_tail x 10 i (by omega)
  have yb0 := yb 0
  rw [Mom.bt_in y0] at yb0
  have hy1 : y.size ≤ maxLen := by omega
  have HC := Lib.hid (takeClock_any (x := y.extract 1 y.size) (by rw [ByteArray.size_extract]; omega))
  rw [hy] at hc
  have yl1 : (1 : Int) ≤ y.size := by omega
  have hb3 : ((y[0].toNat : Int) != 84) = false ∨ (((y[0].toNat : Int) != 84) = true ∧ ((y[0].toNat : Int) != 116) = false) ∨ (((y[0].toNat : Int) != 84) = true ∧ ((y[0].toNat : Int) != 116) = true ∧ ((y[0].toNat : Int) != 32) = false) := by
    rw [yb0]
    rcases hb with e | e | e
    · exact Or.inl (by rw [e]; rfl)
    · exact Or.inr (Or.inl (by rw [e]; exact ⟨rfl, rfl⟩))
    · exact Or.inr (Or.inr (by rw [e]; exact ⟨rfl, rfl, rfl⟩))
  generalize Mom.rClk (y.extract 1 y.size) = Z at *
  obtain ⟨cn, cr, cf, ci⟩ := Z
  dsimp only at hc
  subst hc
  unfold Mom.c4 at HC
  dsimp only at HC
  have yl : (0 : Int) < y.size := by omega
  clear yb yb0 hb ysz hy1
  have HY := Lib.hid hy
  clear hy
  have l1 : (4 : Int) ≤ x.size := by omega
  have l2 : (7 : Int) ≤ x.size := by omega
  have l3 : (10 : Int) ≤ x.size := by omega
  clear hs
  unfold maxLen at hx
  generalize (if Cal.Vld (Mom.ryr x) (Mom.rmo x) (Mom.rda x) then Cal.num (Mom.ryr x) (Mom.rmo x) (Mom.rda x) else 0) = dn at *
  generalize (if Cal.Vld (Mom.ryr x) (Mom.rmo x) (Mom.rda x) then (0 : Int) else 2) = de at *
  generalize Mom.ryr x = Y at *
  generalize Mom.rmo x = M at *
  generalize Mom.rda x = D at *
  unfold Mom.ag Mom.tz
  dsimp only
  rcases hb3 with v1 | ⟨v1, v2⟩ | ⟨v1, v2, v3⟩
  all_goals
    go_enter Try.func18, Try.ntmps18
    go_wp2_with fail
    refine (HL.out _).mono ?_; rintro e w1 ⟨rfl, hb1⟩
    replace K := K.call hb1
    clear hb1
    go_upto_region 8 with fail
    go_region_held3 (fun W => RK w W) (first | exact ⟨K.res, K.below.drew⟩ | assumption) (first | (go_at_call 45; refine (HN.out _ _ (by assumption) _).mono ?_; rintro e wx ⟨rfl, rfl⟩) | (go_at_call 44; refine (HD.out _).mono ?_; rintro e wy ⟨rfl, rfl⟩))
    go_upto_region 10 with fail
    rw [HY.out]
    have KD : RK w w1.drew := ⟨K.res, K.below.drew⟩
    clear K
    generalize w1.drew = W2 at *
    go_wp2_with fail
    refine (HC.out _).mono ?_; rintro e w3 ⟨rfl, hb3⟩
    replace KD := KD.call hb3
    clear hb3
    obtain ⟨z0, z1, z2, z3⟩ := KD.res.c4
    have zf := KD.res.frozen
    obtain ⟨hfin, hbf⟩ := KD.put Mom.tz
    unfold putT Mom.tz at hfin hbf
    go_wp2_with fail
    exact bodyPost_ret (v := .tuple #[.agg #[.int .i64 0, .int .i64 0, .int .i64 0, .int .i64 0], .int .i64 3]) (by simp [results, Try.results18, go_sem, hfin.c4]) rfl ⟨rfl, hbf⟩
end Go.Proofs.Ythbjkibclbgjoaa
