/- Times: the reference's Parse where no clock follows the date. -/
import Derived.Test.YthbjkibclbgjoaaMomRefG
namespace Go.Proofs.Ythbjkibclbgjoaa
open Go.RowKit

set_option maxHeartbeats 2000000 in
theorem rparse_sep {x : ByteArray} (hx : x.size ≤ maxLen) (h : Mom.lk x Mom.dateF) (hs : 10 < x.size) (hb : Mom.bt x 10 ≠ 84 ∧ Mom.bt x 10 ≠ 116 ∧ Mom.bt x 10 ≠ 32) (w : World) :
    Calls Try.prog 18 #[.string x] w fun e w' => e = .returned (.tuple #[Mom.ag Mom.tz, .int .i64 3]) ∧ Below w.heap.size w w' := by
  have HL := Lib.hid (like_any (f := Mom.dateF) hx)
  rw [decide_eq_true h] at HL
  unfold Mom.dateF at HL
  obtain ⟨h10, n1, n2, n3⟩ := date_nums h
  have HD := Lib.hid (rday_any (Mom.ryr x) (Mom.rmo x) (Mom.rda x))
  unfold Cal.dayN Cal.dayE at HD
  have N1 := Lib.hid n1
  have N2 := Lib.hid n2
  have N3 := Lib.hid n3
  clear n1 n2 n3 h
  have HN : Hid (∀ y v, Hid (Mom.numOk y v) → ∀ w, Calls Try.prog 45 #[.string y] w fun e w' => e = .returned (.int .i64 v) ∧ w = w') := Lib.hid (fun y v h w => num_is h.out w)
  have K := RK.new w
  obtain ⟨y, hy⟩ : ∃ y, x.extract 10 x.size = y := ⟨_, rfl⟩
  have ysz : y.size = x.size - 10 := by rw [← hy, ByteArray.size_extract]; omega
  have y0 : 0 < y.size := by omega
  have ye : y.toList.isEmpty = false := some_list y0
  have yb : ∀ i, Mom.bt y i = Mom.bt x (10 + i) := fun i => by rw [← hy]; exact Mom.bt_tail x 10 i (by omega)
  have yb0 := yb 0
  rw [Mom.bt_in y0] at yb0
  have u1 : ((y[0].toNat : Int) != 84) = true := by rw [yb0]; simpa using hb.1
  have u2 : ((y[0].toNat : Int) != 116) = true := by rw [yb0]; simpa using hb.2.1
  have u3 : ((y[0].toNat : Int) != 32) = true := by rw [yb0]; simpa using hb.2.2
  have yl : (0 : Int) < y.size := by omega
  clear yb yb0 hb ysz
  have HY := Lib.hid hy
  clear hy
  have l1 : (4 : Int) ≤ x.size := by omega
  have l2 : (7 : Int) ≤ x.size := by omega
  have l3 : (10 : Int) ≤ x.size := by omega
  clear hs
  unfold maxLen at hx
  generalize (if Cal.Vld (Mom.ryr x) (Mom.rmo x) (Mom.rda x) then Cal.num (Mom.ryr x) (Mom.rmo x) (Mom.rda x) else 0) = dn at *
  generalize (if Cal.Vld (Mom.ryr x) (Mom.rmo x) (Mom.rda x) then (0 : Int) else 2) = de at *
  generalize Mom.ryr x = Y at *
  generalize Mom.rmo x = M at *
  generalize Mom.rda x = D at *
  unfold Mom.ag Mom.tz
  dsimp only
  go_enter Try.func18, Try.ntmps18
  go_wp2_with fail
  refine (HL.out _).mono ?_; rintro e w1 ⟨rfl, hb1⟩
  replace K := K.call hb1
  clear hb1
  go_upto_region 8 with fail
  go_region_held3 (fun W => RK w W) (first | exact ⟨K.res, K.below.drew⟩ | assumption) (first | (go_at_call 45; refine (HN.out _ _ (by assumption) _).mono ?_; rintro e wx ⟨rfl, rfl⟩) | (go_at_call 44; refine (HD.out _).mono ?_; rintro e wy ⟨rfl, rfl⟩))
  go_upto_region 10 with fail
  rw [HY.out]
  have KD : RK w w1.drew := ⟨K.res, K.below.drew⟩
  clear K
  generalize w1.drew = W2 at *
  obtain ⟨z0, z1, z2, z3⟩ := KD.res.c4
  have zf := KD.res.frozen
  obtain ⟨hfin, hbf⟩ := KD.put Mom.tz
  unfold putT Mom.tz at hfin hbf
  go_wp2_with fail
  exact bodyPost_ret (v := .tuple #[.agg #[.int .i64 0, .int .i64 0, .int .i64 0, .int .i64 0], .int .i64 3]) (by simp [results, Try.results18, go_sem, hfin.c4]) rfl ⟨rfl, hbf⟩
end Go.Proofs.Ythbjkibclbgjoaa
