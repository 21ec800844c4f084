/- Times: the reference's Parse of a date alone. -/
import Derived.Test.YthbjkibclbgjoaaMomRefF
namespace Go.Proofs.Ythbjkibclbgjoaa
open Go.RowKit

def Mom.ryr (x : ByteArray) : Int := Mom.nv (x.extract 0 4) 4
def Mom.rmo (x : ByteArray) : Int := Mom.nv (x.extract 5 7) 2
def Mom.rda (x : ByteArray) : Int := Mom.nv (x.extract 8 10) 2
theorem date_nums {x : ByteArray} (h : Mom.lk x Mom.dateF) : 10 ≤ x.size ∧ Mom.numOk (x.extract 0 4) (Mom.ryr x) ∧ Mom.numOk (x.extract 5 7) (Mom.rmo x) ∧ Mom.numOk (x.extract 8 10) (Mom.rda x) := by
  have hx : 10 ≤ x.size := h.1
  have D : ∀ i, i < 10 → Mom.bt Mom.dateF i = 100 → Mom.isd x i := fun i hi hf => Mom.okc_d (h.2 i (by show i < 10; exact hi)) hf
  refine ⟨hx, Mom.numOk_ext (a := 0) (b := 4) (by omega) (by omega) (fun i p q => ?_), Mom.numOk_ext (a := 5) (b := 7) (by omega) (by omega) (fun i p q => ?_), Mom.numOk_ext (a := 8) (b := 10) (by omega) (by omega) (fun i p q => ?_)⟩
  · have e : i = 0 ∨ i = 1 ∨ i = 2 ∨ i = 3 := by omega
    rcases e with rfl | rfl | rfl | rfl <;> exact D _ (by omega) (by decide)
  · have e : i = 5 ∨ i = 6 := by omega
    rcases e with rfl | rfl <;> exact D _ (by omega) (by decide)
  · have e : i = 8 ∨ i = 9 := by omega
    rcases e with rfl | rfl <;> exact D _ (by omega) (by decide)

set_option maxHeartbeats 2000000 in
theorem rparse_day {x : ByteArray} (hx : x.size ≤ maxLen) (h : Mom.lk x Mom.dateF) (hs : x.size = 10) (w : World) :
    Calls Try.prog 18 #[.string x] w fun e w' =>
      e = .returned (.tuple #[Mom.ag (if Cal.Vld (Mom.ryr x) (Mom.rmo x) (Mom.rda x) then ⟨1, Cal.num (Mom.ryr x) (Mom.rmo x) (Mom.rda x), 0, 0⟩ else Mom.tz), .int .i64 (if Cal.Vld (Mom.ryr x) (Mom.rmo x) (Mom.rda x) then 0 else 2)]) ∧ Below w.heap.size w w' := by
  have HL := Lib.hid (like_any (f := Mom.dateF) hx)
  rw [decide_eq_true h] at HL
  unfold Mom.dateF at HL
  obtain ⟨h10, n1, n2, n3⟩ := date_nums h
  have HD := Lib.hid (rday_any (Mom.ryr x) (Mom.rmo x) (Mom.rda x))
  unfold Cal.dayN Cal.dayE at HD
  have N1 := Lib.hid n1
  have N2 := Lib.hid n2
  have N3 := Lib.hid n3
  clear n1 n2 n3 h
  have HN : Hid (∀ y v, Hid (Mom.numOk y v) → ∀ w, Calls Try.prog 45 #[.string y] w fun e w' => e = .returned (.int .i64 v) ∧ w = w') := Lib.hid (fun y v h w => num_is h.out w)
  have K := RK.new w
  obtain ⟨y, hy⟩ : ∃ y, x.extract 10 x.size = y := ⟨_, rfl⟩
  have ye : y.toList.isEmpty = true := none_list (by rw [← hy, ByteArray.size_extract]; omega)
  have HY := Lib.hid hy
  clear hy
  have l1 : (4 : Int) ≤ x.size := by omega
  have l2 : (7 : Int) ≤ x.size := by omega
  have l3 : (10 : Int) ≤ x.size := by omega
  clear hs
  unfold maxLen at hx
  by_cases hv : Cal.Vld (Mom.ryr x) (Mom.rmo x) (Mom.rda x)
  · rw [if_pos hv, if_pos hv] at HD
    rw [if_pos hv, if_pos hv]
    clear hv
    generalize Mom.ryr x = Y at *
    generalize Mom.rmo x = M at *
    generalize Mom.rda x = D at *
    generalize Cal.num Y M D = nd at *
    unfold Mom.ag
    dsimp only
    go_enter Try.func18, Try.ntmps18
    go_wp2_with fail
    refine (HL.out _).mono ?_; rintro e w1 ⟨rfl, hb1⟩
    replace K := K.call hb1
    clear hb1
    go_upto_region 8 with fail
    go_region_held3 (fun W => RK w W) (first | exact ⟨K.res, K.below.drew⟩ | assumption) (first | (go_at_call 45; refine (HN.out _ _ (by assumption) _).mono ?_; rintro e wx ⟨rfl, rfl⟩) | (go_at_call 44; refine (HD.out _).mono ?_; rintro e wy ⟨rfl, rfl⟩))
    go_upto_region 10 with fail
    rw [HY.out]
    have KD : RK w w1.drew := ⟨K.res, K.below.drew⟩
    clear K
    generalize w1.drew = W2 at *
    obtain ⟨z0, z1, z2, z3⟩ := KD.res.c4
    have zf := KD.res.frozen
    obtain ⟨hfin, hbf⟩ := KD.put ⟨1, nd, 0, 0⟩
    unfold putT at hfin hbf
    dsimp only at hfin hbf
    go_wp2_with fail
    exact bodyPost_ret (v := .tuple #[.agg #[.int .i64 1, .int .i64 nd, .int .i64 0, .int .i64 0], .int .i64 0]) (by simp [results, Try.results18, go_sem, hfin.c4]) rfl ⟨rfl, hbf⟩
  · rw [if_neg hv, if_neg hv] at HD
    rw [if_neg hv, if_neg hv]
    clear hv
    generalize Mom.ryr x = Y at *
    generalize Mom.rmo x = M at *
    generalize Mom.rda x = D at *
    unfold Mom.ag Mom.tz
    dsimp only
    go_enter Try.func18, Try.ntmps18
    go_wp2_with fail
    refine (HL.out _).mono ?_; rintro e w1 ⟨rfl, hb1⟩
    replace K := K.call hb1
    clear hb1
    go_upto_region 8 with fail
    go_region_held3 (fun W => RK w W) (first | exact ⟨K.res, K.below.drew⟩ | assumption) (first | (go_at_call 45; refine (HN.out _ _ (by assumption) _).mono ?_; rintro e wx ⟨rfl, rfl⟩) | (go_at_call 44; refine (HD.out _).mono ?_; rintro e wy ⟨rfl, rfl⟩))
    go_upto_region 10 with fail
    rw [HY.out]
    have KD : RK w w1.drew := ⟨K.res, K.below.drew⟩
    clear K
    generalize w1.drew = W2 at *
    obtain ⟨z0, z1, z2, z3⟩ := KD.res.c4
    have zf := KD.res.frozen
    obtain ⟨hfin, hbf⟩ := KD.put Mom.tz
    unfold putT Mom.tz at hfin hbf
    go_wp2_with fail
    exact bodyPost_ret (v := .tuple #[.agg #[.int .i64 0, .int .i64 0, .int .i64 0, .int .i64 0], .int .i64 2]) (by simp [results, Try.results18, go_sem, hfin.c4]) rfl ⟨rfl, hbf⟩
end Go.Proofs.Ythbjkibclbgjoaa
