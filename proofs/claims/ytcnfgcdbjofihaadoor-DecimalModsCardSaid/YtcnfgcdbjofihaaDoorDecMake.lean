/- Decimals: Make; the block of a result. -/
import Derived.Test.YtcnfgcdbjofihaaDoorDecRun
import Derived.Test.YtcnfgcdbjofihaaDoorMemW
namespace Go.Proofs.YtcnfgcdbjofihaaDoor
open Go.RowKit

theorem Whole.c3 {W : World} {B : Nat} {t : TypeId} {a b c : Value} (h : Whole W B t #[a, b, c]) : W.cell? ⟨B, 0, none⟩ = some a ∧ W.cell? ⟨B, 1, none⟩ = some b ∧ W.cell? ⟨B, 2, none⟩ = some c := ⟨h.cell 0, h.cell 1, h.cell 2⟩
theorem Whole.s3 {W : World} {B : Nat} {t : TypeId} {a b c : Value} (h : Whole W B t #[a, b, c]) (u v x : Value) : Whole (((W.setCell ⟨B, 0, none⟩ u).setCell ⟨B, 1, none⟩ v).setCell ⟨B, 2, none⟩ x) B t #[u, v, x] := ((h.set 0 u).set 1 v).set 2 x
def putD (W : World) (B : Nat) (d : Dec.Dc) : World := ((W.setCell ⟨B, 0, none⟩ (.bool d.neg)).setCell ⟨B, 1, none⟩ (.string (Dig.st d.m))).setCell ⟨B, 2, none⟩ (.int .i64 d.e)
/-- A result that is still empty. -/
structure DK (w W : World) : Prop where
  res : Whole W w.heap.size 23 #[.bool false, .string ⟨#[]⟩, .int .i64 0]
  below : Below w.heap.size w W
theorem DK.new (w : World) : DK w (w.alloc (.cells #[.bool false, .string ⟨#[]⟩, .int .i64 0] 23)) := ⟨Whole.new w _ _, (Below.refl _ _).alloc (Nat.le_refl _) _⟩
theorem DK.call {w W W' : World} (h : DK w W) (hb : Below W.heap.size W W') : DK w W' := ⟨h.res.below hb h.res.lt, below_then h.below hb⟩
theorem DK.put {w W : World} (h : DK w W) (a b c : Value) : Whole (((W.setCell ⟨w.heap.size, 0, none⟩ a).setCell ⟨w.heap.size, 1, none⟩ b).setCell ⟨w.heap.size, 2, none⟩ c) w.heap.size 23 #[a, b, c] ∧ Below w.heap.size w (((W.setCell ⟨w.heap.size, 0, none⟩ a).setCell ⟨w.heap.size, 1, none⟩ b).setCell ⟨w.heap.size, 2, none⟩ c) :=
  ⟨h.res.s3 _ _ _, ((h.below.setCell (p := ⟨w.heap.size, 0, none⟩) (Nat.le_refl _) _).setCell (p := ⟨w.heap.size, 1, none⟩) (Nat.le_refl _) _).setCell (p := ⟨w.heap.size, 2, none⟩) (Nat.le_refl _) _⟩
theorem triml_any {x : ByteArray} (hd : Dig.alld (Dig.l x)) (w : World) :
    Calls Tryd.prog 51 #[.string x, .string ⟨#[48]⟩] w fun e w' => e = .returned (.string (Dig.st (Dig.V x))) ∧ w = w' := by
  have H := Tryd.strings_TrimLeft_one x 48 (by decide)
  rw [Dig.trimLeftB_strip] at H
  refine (H w).mono ?_
  rintro e w' ⟨rfl, rfl⟩
  exact ⟨ret_st (Dig.st_strip hd), rfl⟩
namespace Dec
def makeR (neg : Bool) (x : ByteArray) (e : Int) : Dc × Int := if Dig.alld (Dig.l x) then normR neg (Dig.V x) e else (z0, 3)
theorem ag_z0 : ag z0 = .agg #[.bool false, .string ⟨#[]⟩, .int .i64 0] := by unfold ag z0 Dig.st; rw [Dig.num_zero]; rfl
end Dec

set_option maxHeartbeats 2000000 in
theorem make_bad (neg : Bool) {x : ByteArray} {j : Nat} (hx : x.size ≤ 1000000) (hj : j < x.size) (h : ∀ i (h : i < x.size), i < j → Dig.isd x[i]) (hn : ¬ Dig.isd x[j]) (y : Int) (w : World) :
    Calls Tryd.prog 14 #[.bool neg, .string x, .int .i64 y] w fun e w' => e = .returned (.tuple #[.agg #[.bool false, .string ⟨#[]⟩, .int .i64 0], .int .i64 3]) ∧ Below w.heap.size w w' := by
  have H := Lib.hid h; clear h
  have HN := Lib.hid hn; clear hn
  have K := DK.new w
  obtain ⟨z0, z1, z2⟩ := K.res.c3
  have zf := K.res.frozen
  have P := Lib.hid K.below
  clear K
  go_enter Tryd.func14, Tryd.ntmps14
  go_wp2_with fail
  go_loop [11] (fun i => ∃ k : Nat, k ≤ j ∧ i = .int .i64 k) (fun i => x.size - (intOf i).toNat)
  case atStart => exact ⟨0, by omega, rfl⟩
  case round =>
    obtain ⟨k, hk, rfl⟩ := hrel
    have hk1 : (0 : Int) ≤ k := by omega
    have hkx : k < x.size := by omega
    have hk2 : (k : Int) < x.size := by omega
    by_cases hkj : k < j
    · have e := H.out k hkx hkj
      unfold Dig.isd at e
      have d1 : decide ((x[k].toNat : Int) < 48) = false := decide_eq_false (by omega)
      have d2 : decide (57 < (x[k].toNat : Int)) = false := decide_eq_false (by omega)
      clear e
      go_wp2
      go_round
      case rel => exact ⟨k + 1, by omega, by go_num⟩
      case measure => simp [intOf]; omega
    · obtain rfl : k = j := by omega
      have e := HN.out
      unfold Dig.isd at e
      by_cases h48 : x[k].toNat < 48
      · have d1 : decide ((x[k].toNat : Int) < 48) = true := decide_eq_true (by omega)
        clear e hkj h48
        go_wp2
        exact bodyPost_ret (v := .tuple #[.agg #[.bool false, .string ⟨#[]⟩, .int .i64 0], .int .i64 3]) (by simp [results, Tryd.results14, go_sem]) rfl ⟨rfl, P.out⟩
      · have d1 : decide ((x[k].toNat : Int) < 48) = false := decide_eq_false (by omega)
        have d2 : decide (57 < (x[k].toNat : Int)) = true := decide_eq_true (by omega)
        clear e hkj h48
        go_wp2
        exact bodyPost_ret (v := .tuple #[.agg #[.bool false, .string ⟨#[]⟩, .int .i64 0], .int .i64 3]) (by simp [results, Tryd.results14, go_sem]) rfl ⟨rfl, P.out⟩
set_option maxHeartbeats 2000000 in
theorem make_ok (neg : Bool) {x : ByteArray} (hx : x.size ≤ 1000000) (hd : Dig.alld (Dig.l x)) (y : Int) (w : World) :
    Calls Tryd.prog 14 #[.bool neg, .string x, .int .i64 y] w fun e w' => e = .returned (.tuple #[Dec.ag (Dec.normR neg (Dig.V x) y).1, .int .i64 (Dec.normR neg (Dig.V x) y).2]) ∧ Below w.heap.size w w' := by
  have hq : Dig.Str x := ⟨hd, hx⟩
  have hvs : (Dig.st (Dig.V x)).size ≤ 1000000 := Nat.le_trans ((Dig.st_size _ _).2 (Dig.V_lt hq)) hq.size
  have HT := Lib.hid (triml_any hd)
  have HN := Lib.hid (norm_any neg hvs y)
  have H := Lib.hid ((Dig.alld_iff x).1 hd)
  generalize Dec.normR neg (Dig.V x) y = R at *
  obtain ⟨⟨n, m, e⟩, r⟩ := R
  unfold Dec.ag at HN ⊢
  dsimp only at HN ⊢
  clear hq hd
  generalize Dig.st (Dig.V x) = s at *
  generalize Dig.st m = q at *
  have K := DK.new w
  go_enter Tryd.func14, Tryd.ntmps14
  go_wp2_with fail
  go_loop [11] (fun i => ∃ k : Nat, k ≤ x.size ∧ i = .int .i64 k) (fun i => x.size - (intOf i).toNat)
  case atStart => exact ⟨0, by omega, rfl⟩
  case round =>
    obtain ⟨k, hk, rfl⟩ := hrel
    have hk1 : (0 : Int) ≤ k := by omega
    by_cases hkf : k = x.size
    · subst hkf
      go_wp2_with fail
      refine (HT.out _).mono ?_; rintro _ w' ⟨rfl, rfl⟩
      go_wp2_with fail
      refine (HN.out _).mono ?_; rintro _ w1 ⟨rfl, hb1⟩
      replace K := K.call hb1
      clear hb1
      obtain ⟨z0, z1, z2⟩ := K.res.c3
      have zf := K.res.frozen
      obtain ⟨hfin, hbf⟩ := K.put (.bool n) (.string q) (.int .i64 e)
      go_wp2_with fail
      exact bodyPost_ret (v := .tuple #[.agg #[.bool n, .string q, .int .i64 e], .int .i64 r]) (by simp [results, Tryd.results14, go_sem, hfin.c3]) rfl ⟨rfl, hbf⟩
    have hkx : k < x.size := by omega
    have hk2 : (k : Int) < x.size := by omega
    have e := H.out k hkx
    unfold Dig.isd at e
    have d1 : decide ((x[k].toNat : Int) < 48) = false := decide_eq_false (by omega)
    have d2 : decide (57 < (x[k].toNat : Int)) = false := decide_eq_false (by omega)
    clear e hkf
    go_wp2
    go_round
    case rel => exact ⟨k + 1, by omega, by go_num⟩
    case measure => simp [intOf]; omega
theorem make_any (neg : Bool) {x : ByteArray} (hx : x.size ≤ 1000000) (y : Int) (w : World) :
    Calls Tryd.prog 14 #[.bool neg, .string x, .int .i64 y] w fun e w' => e = .returned (.tuple #[Dec.ag (Dec.makeR neg x y).1, .int .i64 (Dec.makeR neg x y).2]) ∧ Below w.heap.size w w' := by
  unfold Dec.makeR
  rcases Dig.first_bad x x.size (Nat.le_refl _) with h | ⟨j, hj, _, h1, h2⟩
  · have hd := (Dig.alld_iff x).2 (fun i hi => h i hi hi)
    rw [if_pos hd]
    exact make_ok neg hx hd y w
  · rw [if_neg (fun g => h2 ((Dig.alld_iff x).1 g j hj))]
    rw [Dec.ag_z0]
    exact make_bad neg hx hj h1 h2 y w

set_option maxHeartbeats 2000000 in
theorem rmake_any (neg : Bool) {x : ByteArray} (hx : x.size ≤ 1000000) (y : Int) (hy : -9223372036854775808 ≤ y) (hy2 : y ≤ 9223372036854775807) (w : World) :
    Calls Tryd.prog 15 #[.bool neg, .string x, .int .i64 y] w fun e w' => e = .returned (.tuple #[Dec.ag (Dec.makeR neg x y).1, .int .i64 (Dec.makeR neg x y).2]) ∧ Below w.heap.size w w' := by
  have HA := Lib.hid (rdig_any (x := x) (by unfold maxLen; omega))
  unfold Dec.makeR
  by_cases hd : Dig.alld (Dig.l x)
  · rw [if_pos hd]
    rw [decide_eq_true hd] at HA
    have HN := Lib.hid (normal_any neg (q := x) ⟨hd, hx⟩ y hy hy2)
    generalize Dec.normR neg (Dig.V x) y = R at *
    obtain ⟨⟨n, m, e⟩, r⟩ := R
    unfold Dec.ag at HN ⊢
    dsimp only at HN ⊢
    clear hd
    generalize Dig.st m = q at *
    have K := DK.new w
    go_enter Tryd.func15, Tryd.ntmps15
    go_wp2_with fail
    refine (HA.out _).mono ?_; rintro _ w' ⟨rfl, rfl⟩
    go_wp2_with fail
    refine (HN.out _).mono ?_; rintro _ w1 ⟨rfl, hb1⟩
    replace K := K.call hb1
    clear hb1
    obtain ⟨z0, z1, z2⟩ := K.res.c3
    have zf := K.res.frozen
    obtain ⟨hfin, hbf⟩ := K.put (.bool n) (.string q) (.int .i64 e)
    go_wp2_with fail
    exact bodyPost_ret (v := .tuple #[.agg #[.bool n, .string q, .int .i64 e], .int .i64 r]) (by simp [results, Tryd.results15, go_sem, hfin.c3]) rfl ⟨rfl, hbf⟩
  · rw [if_neg hd, Dec.ag_z0]
    rw [decide_eq_false hd] at HA
    clear hd hy hy2
    have K := DK.new w
    obtain ⟨z0, z1, z2⟩ := K.res.c3
    have zf := K.res.frozen
    go_enter Tryd.func15, Tryd.ntmps15
    go_wp2_with fail
    refine (HA.out _).mono ?_; rintro _ w' ⟨rfl, rfl⟩
    go_wp2_with fail
    exact bodyPost_ret (v := .tuple #[.agg #[.bool false, .string ⟨#[]⟩, .int .i64 0], .int .i64 3]) (by simp [results, Tryd.results15, go_sem]) rfl ⟨rfl, K.below⟩
end Go.Proofs.YtcnfgcdbjofihaaDoor
