/- Values: what is wrong with one value (datakitref07.one). -/
import Derived.Test.YtfkfboiblgoamaaVtOwn
import Derived.Test.YtfkfboiblgoamaaVtKeys
import Derived.Test.YtfkfboiblgoamaaVDecValid
import Derived.Test.YtfkfboiblgoamaaVMomWalks
namespace Go.Proofs.Ytfkfboiblgoamaa
open Go.RowKit

theorem Whole.c13 {W : World} {B : Nat} {t : TypeId} {h : Vh} (H : Whole W B t h.cells) :
    W.cell? ⟨B, 0, none⟩ = some (.int .i64 h.k) ∧ W.cell? ⟨B, 1, none⟩ = some (.bool h.b) ∧ W.cell? ⟨B, 2, none⟩ = some (.bool h.n) ∧ W.cell? ⟨B, 3, none⟩ = some (.string h.d) ∧ W.cell? ⟨B, 4, none⟩ = some (.int .i64 h.e) ∧
    W.cell? ⟨B, 5, none⟩ = some (.int .i64 h.tk) ∧ W.cell? ⟨B, 6, none⟩ = some (.int .i64 h.td) ∧ W.cell? ⟨B, 7, none⟩ = some (.int .i64 h.tn) ∧ W.cell? ⟨B, 8, none⟩ = some (.int .i64 h.tz) ∧ W.cell? ⟨B, 9, none⟩ = some (.string h.x) ∧
    W.cell? ⟨B, 10, none⟩ = some (.slice h.ba h.bn h.bc) ∧ W.cell? ⟨B, 11, none⟩ = some (.slice h.la h.ln h.lc) ∧ W.cell? ⟨B, 12, none⟩ = some (.slice h.fa h.fn h.fc) :=
  ⟨H.cell 0, H.cell 1, H.cell 2, H.cell 3, H.cell 4, H.cell 5, H.cell 6, H.cell 7, H.cell 8, H.cell 9, H.cell 10, H.cell 11, H.cell 12⟩
/-- What is wrong with one value, but for the values in it. -/
noncomputable def oneE (T : Vt) : Int :=
  if T.h.own = false then 6
  else if ¬ Dec.vd T.h.n T.h.d T.h.e ∨ (T.h.k = 3 ∧ ¬ Mom.Ok T.h.tk T.h.td T.h.tn T.h.tz) then 2
  else if utfB T.h.x = false then 5
  else if 65536 < T.h.x.size ∨ 65536 < T.h.bn then 10
  else keysE T.K T.h.fn
theorem keys_any {T : Vt} {top : Nat} {w : World} (hT : T.In w top) (ht : top ≤ w.heap.size) :
    Calls Try.prog 65 #[.slice T.h.fa T.h.fn T.h.fc] w fun r w' => r = .returned (.int .i64 (keysE T.K T.h.fn)) ∧ Below w.heap.size w w' := by
  cases T with
  | nil => exact hT.elim
  | mk h Y L K F =>
    obtain ⟨h0, _, _, _, _, h5, h6⟩ := hT
    have hfn := h0.fn
    simp only [Vt.h, Vt.K]
    obtain ⟨k, b, n, d, e, tk, td, tn, tz, x, ba, bn, bc, la, ln, lc, fa, fn, fc, bb, bo, lb, lo, fb, fo⟩ := h
    dsimp only at h5 h6 hfn ⊢
    by_cases hz : fn = 0
    · subst hz
      exact keys_nil fa fc w
    · obtain ⟨rfl, hb⟩ := h5 (by omega)
      exact keys_some hfn w (by omega) (fun i hi => ⟨(h6 i hi).1, (h6 i hi).2.1⟩)
set_option maxHeartbeats 4000000 in
set_option maxRecDepth 100000 in
theorem one_any {T : Vt} {top : Nat} {w : World} (hT : T.In w top) (ht : top ≤ w.heap.size) :
    Calls Try.prog 55 #[.agg T.h.cells] w fun r w' => r = .returned (.int .i64 (oneE T)) ∧ Below w.heap.size w w' := by
  have hok : T.h.ok := by cases T with | nil => exact hT.elim | mk h Y L K F => exact hT.1
  have P := Whole.new w 30 T.h.cells
  have hb0 := (Below.refl w.heap.size w).alloc (Nat.le_refl _) (.cells T.h.cells 30)
  have HO := Lib.hid (own_any T.h hok.k)
  have hmx : (1048576 : Nat) ≤ maxLen := by unfold maxLen; omega
  have HV := Lib.hid (rdvalid_any T.h.n (Nat.le_trans hok.d hmx) T.h.e)
  have HM := Lib.hid (rtime_any T.h.tk T.h.td T.h.tn T.h.tz)
  have HU := Lib.hid (rutf_any hok.x)
  have HK := Lib.hid (fun (w1 : World) (h : Below w.heap.size w w1) => keys_any (T := T) (Vt.In.below (h.mono ht) hT) (Nat.le_trans ht h.size))
  obtain ⟨R, hR⟩ : ∃ R, oneE T = R := ⟨_, rfl⟩
  rw [hR]
  unfold oneE at hR
  have HR := Lib.hid hR
  have hk := hok.k
  have hxs := hok.x
  have hbs := hok.bn
  clear hR hok hT hmx
  simp only [Vh.cells] at HO hb0 ⊢
  generalize T.h.own = ow at *
  cases ow
  · have hR : R = 6 := by rw [← HR.out]; simp
    subst hR
    clear HR
    go_enter Try.func55, Try.ntmps55
    go_wp2_with fail
    refine (HO.out _).mono ?_; rintro _ w1 ⟨rfl, hb1⟩
    go_wp2
    go_ret
    exact ⟨rfl, below_then hb0 hb1⟩
  have hR : R = if ¬ Dec.vd T.h.n T.h.d T.h.e ∨ (T.h.k = 3 ∧ ¬ Mom.Ok T.h.tk T.h.td T.h.tn T.h.tz) then 2 else if utfB T.h.x = false then 5 else if 65536 < T.h.x.size ∨ 65536 < T.h.bn then 10 else keysE T.K T.h.fn := by rw [← HR.out]; simp
  have HR := Lib.hid hR
  clear hR
  have hPl := P.lt
  by_cases v : Dec.vd T.h.n T.h.d T.h.e
  case neg =>
    have hR : R = 2 := by rw [HR.out, if_pos (.inl v)]
    subst hR
    rw [decide_eq_false v] at HV
    clear HR v
    go_enter Try.func55, Try.ntmps55
    go_wp2_with fail
    refine (HO.out _).mono ?_; rintro _ w1 ⟨rfl, hb1⟩
    obtain ⟨c0, c1, c2, c3, c4, c5, c6, c7, c8, c9, c10, c11, c12⟩ := (P.below hb1 hPl).c13
    go_wp2_with fail
    refine (HV.out _).mono ?_; rintro _ w2 ⟨rfl, hb2⟩
    go_wp2
    go_ret
    exact ⟨rfl, below_then (below_then hb0 hb1) hb2⟩
  rw [decide_eq_true v] at HV
  by_cases q : T.h.k = 3 ∧ ¬ Mom.Ok T.h.tk T.h.td T.h.tn T.h.tz
  · have hR : R = 2 := by rw [HR.out, if_pos (.inr q)]
    subst hR
    rw [decide_eq_false q.2] at HM
    have d1 : (T.h.k == 3) = true := beq_iff_eq.2 q.1
    clear HR v q
    go_enter Try.func55, Try.ntmps55
    go_wp2_with fail
    refine (HO.out _).mono ?_; rintro _ w1 ⟨rfl, hb1⟩
    have P1 := P.below hb1 hPl
    have g1 := below_then hb0 hb1
    obtain ⟨c0, c1, c2, c3, c4, c5, c6, c7, c8, c9, c10, c11, c12⟩ := P1.c13
    go_wp2_with fail
    refine (HV.out _).mono ?_; rintro _ w2 ⟨rfl, hb2⟩
    have P2 := P1.below hb2 P1.lt
    have g2 := below_then g1 hb2
    clear c0 c1 c2 c3 c4 c5 c6 c7 c8 c9 c10 c11 c12
    obtain ⟨c0, c1, c2, c3, c4, c5, c6, c7, c8, c9, c10, c11, c12⟩ := P2.c13
    go_wp2_with fail
    refine (HM.out _).mono ?_; rintro _ w3 ⟨rfl, hb3⟩
    go_wp2
    go_ret
    exact ⟨rfl, below_then g2 hb3⟩
  have hR : R = if utfB T.h.x = false then 5 else if 65536 < T.h.x.size ∨ 65536 < T.h.bn then 10 else keysE T.K T.h.fn := by rw [HR.out, if_neg (by rintro (h | h); exact h v; exact q h)]
  clear HR
  have HR := Lib.hid hR
  clear hR
  generalize utfB T.h.x = ub at *
  by_cases k3 : T.h.k = 3
  · have d1 : (T.h.k == 3) = true := beq_iff_eq.2 k3
    have o : Mom.Ok T.h.tk T.h.td T.h.tn T.h.tz := Classical.byContradiction fun h => q ⟨k3, h⟩
    rw [decide_eq_true o] at HM
    clear v q o k3
    go_enter Try.func55, Try.ntmps55
    go_wp2_with fail
    refine (HO.out _).mono ?_; rintro _ w1 ⟨rfl, hb1⟩
    have P1 := P.below hb1 hPl
    have g1 := below_then hb0 hb1
    obtain ⟨c0, c1, c2, c3, c4, c5, c6, c7, c8, c9, c10, c11, c12⟩ := P1.c13
    go_wp2_with fail
    refine (HV.out _).mono ?_; rintro _ w2 ⟨rfl, hb2⟩
    have P2 := P1.below hb2 P1.lt
    have g2 := below_then g1 hb2
    clear c0 c1 c2 c3 c4 c5 c6 c7 c8 c9 c10 c11 c12
    obtain ⟨c0, c1, c2, c3, c4, c5, c6, c7, c8, c9, c10, c11, c12⟩ := P2.c13
    go_wp2_with fail
    refine (HM.out _).mono ?_; rintro _ w3 ⟨rfl, hb3⟩
    have P3 := P2.below hb3 P2.lt
    have g3 := below_then g2 hb3
    clear c0 c1 c2 c3 c4 c5 c6 c7 c8 c9 c10 c11 c12
    obtain ⟨c0, c1, c2, c3, c4, c5, c6, c7, c8, c9, c10, c11, c12⟩ := P3.c13
    go_wp2_with fail
    refine (HU.out _).mono ?_; rintro _ w4 ⟨rfl, hb4⟩
    have P4 := P3.below hb4 P3.lt
    have g4 := below_then g3 hb4
    clear c0 c1 c2 c3 c4 c5 c6 c7 c8 c9 c10 c11 c12
    obtain ⟨c0, c1, c2, c3, c4, c5, c6, c7, c8, c9, c10, c11, c12⟩ := P4.c13
    cases ub
    · have hR : R = 5 := by rw [HR.out]; simp
      subst hR
      clear HR
      go_wp2
      go_ret
      exact ⟨rfl, g4⟩
    by_cases zx : 65536 < T.h.x.size
    · have hR : R = 10 := by rw [HR.out]; simp [zx]
      have z1 : decide ((65536 : Int) < T.h.x.size) = true := decide_eq_true (by omega)
      subst hR
      clear HR zx HK HU HO HV hbs hk
      go_wp2
      go_ret
      exact ⟨rfl, g4⟩
    have z1 : decide ((65536 : Int) < T.h.x.size) = false := decide_eq_false (by omega)
    by_cases zb : 65536 < T.h.bn
    · have hR : R = 10 := by rw [HR.out]; simp [zb]
      have z2 : decide ((65536 : Int) < T.h.bn) = true := decide_eq_true (by omega)
      subst hR
      clear HR zx zb HK HU HO HV hxs hk
      go_wp2
      go_ret
      exact ⟨rfl, g4⟩
    have hR : R = keysE T.K T.h.fn := by rw [HR.out]; simp [zx, zb]
    have z2 : decide ((65536 : Int) < T.h.bn) = false := decide_eq_false (by omega)
    subst hR
    clear HR zx zb HU HO HV hk
    go_wp2_with fail
    refine (HK.out _ g4).mono ?_; rintro _ w5 ⟨rfl, hb5⟩
    go_wp2
    go_ret
    exact ⟨rfl, below_then g4 hb5⟩
  · have d1 : (T.h.k == 3) = false := beq_eq_false_iff_ne.2 k3
    clear v q HM k3
    go_enter Try.func55, Try.ntmps55
    go_wp2_with fail
    refine (HO.out _).mono ?_; rintro _ w1 ⟨rfl, hb1⟩
    have P1 := P.below hb1 hPl
    have g1 := below_then hb0 hb1
    obtain ⟨c0, c1, c2, c3, c4, c5, c6, c7, c8, c9, c10, c11, c12⟩ := P1.c13
    go_wp2_with fail
    refine (HV.out _).mono ?_; rintro _ w2 ⟨rfl, hb2⟩
    have P2 := P1.below hb2 P1.lt
    have g2 := below_then g1 hb2
    clear c0 c1 c2 c3 c4 c5 c6 c7 c8 c9 c10 c11 c12
    obtain ⟨c0, c1, c2, c3, c4, c5, c6, c7, c8, c9, c10, c11, c12⟩ := P2.c13
    go_wp2_with fail
    refine (HU.out _).mono ?_; rintro _ w4 ⟨rfl, hb4⟩
    have P4 := P2.below hb4 P2.lt
    have g4 := below_then g2 hb4
    clear c0 c1 c2 c3 c4 c5 c6 c7 c8 c9 c10 c11 c12
    obtain ⟨c0, c1, c2, c3, c4, c5, c6, c7, c8, c9, c10, c11, c12⟩ := P4.c13
    cases ub
    · have hR : R = 5 := by rw [HR.out]; simp
      subst hR
      clear HR
      go_wp2
      go_ret
      exact ⟨rfl, g4⟩
    by_cases zx : 65536 < T.h.x.size
    · have hR : R = 10 := by rw [HR.out]; simp [zx]
      have z1 : decide ((65536 : Int) < T.h.x.size) = true := decide_eq_true (by omega)
      subst hR
      clear HR zx HK HU HO HV hbs hk
      go_wp2
      go_ret
      exact ⟨rfl, g4⟩
    have z1 : decide ((65536 : Int) < T.h.x.size) = false := decide_eq_false (by omega)
    by_cases zb : 65536 < T.h.bn
    · have hR : R = 10 := by rw [HR.out]; simp [zb]
      have z2 : decide ((65536 : Int) < T.h.bn) = true := decide_eq_true (by omega)
      subst hR
      clear HR zx zb HK HU HO HV hxs hk
      go_wp2
      go_ret
      exact ⟨rfl, g4⟩
    have hR : R = keysE T.K T.h.fn := by rw [HR.out]; simp [zx, zb]
    have z2 : decide ((65536 : Int) < T.h.bn) = false := decide_eq_false (by omega)
    subst hR
    clear HR zx zb HU HO HV hk
    go_wp2_with fail
    refine (HK.out _ g4).mono ?_; rintro _ w5 ⟨rfl, hb5⟩
    go_wp2
    go_ret
    exact ⟨rfl, below_then g4 hb5⟩
end Go.Proofs.Ytfkfboiblgoamaa
