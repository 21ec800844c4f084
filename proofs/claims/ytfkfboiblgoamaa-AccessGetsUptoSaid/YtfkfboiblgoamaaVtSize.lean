/- Values: how many values there are in a value (datakitref07.Size), and which values the law asks for. -/
import Derived.Test.YtfkfboiblgoamaaVtLook
namespace Go.Proofs.Ytfkfboiblgoamaa
open Go.RowKit

def SizeIs (T : Vt) : Prop := ∀ (top : Nat) (w : World), T.In w top → top ≤ w.heap.size → T.size ≤ 65536 →
    Calls Try.prog 26 #[.agg T.h.cells] w fun r w' => r = .returned (.int .i64 T.size) ∧ Below w.heap.size w w'
set_option maxHeartbeats 4000000 in
set_option maxRecDepth 100000 in
theorem size_any : ∀ T : Vt, SizeIs T := by
  refine Vt.kids_ind (fun T hne ih => ?_) (fun _ _ h => h.elim)
  intro top w hT ht hsz
  have hb0 := (Below.refl w.heap.size w).alloc (Nat.le_refl _) (.cells T.h.cells 30)
  have P := Whole.new w 30 T.h.cells
  have hkn := Vt.kn_le hT
  have HI := Lib.hid hT
  have HKd := Lib.hid (fun (w1 : World) (hb : Below w.heap.size w w1) => kids_any (T := T) (Vt.In.below (hb.mono ht) hT) (Nat.le_trans ht hb.size))
  have HE := Lib.hid (Vt.size_eq hne)
  have HI2 := Lib.hid ih
  have HK := Lib.hid (fun i (hi : i < T.kn) => Vt.size_kid hne hi)
  have hsum : Hid (∀ k, k ≤ T.kn → 1 + sumN (fun i => (T.kid i).size) k ≤ 65536) := Lib.hid fun k hk => by
    have := sumN_mono (f := fun i => (T.kid i).size) hk
    have e := HE.out
    omega
  clear ih hne hT
  obtain ⟨Z, hZ⟩ : ∃ Z, T.size = Z := ⟨_, rfl⟩
  rw [hZ] at HE hsz HK ⊢
  clear hZ
  go_enter Try.func26, Try.ntmps26
  simp only [Vh.cells] at hb0 HKd ⊢
  go_wp2_with fail
  refine (HKd.out _ hb0).mono ?_; rintro _ w2 ⟨a, c, b, o, rfl, ha, hl, hb2⟩
  have g2 := below_then hb0 hb2
  clear P HKd hb0 hb2
  by_cases hz : T.kn = 0
  · have e := HE.out
    rw [hz] at e
    simp only [sumN] at e
    subst e
    rw [hz]
    clear ha hl HI2 HI hz hkn HE HK hsum
    go_wp2_with fail
    go_loopw [3, 5] (fun v i wr => v = .int .i64 1 ∧ i = .int .i64 0 ∧ Below w.heap.size w wr) (fun _ i _ => 0)
    case atStart => exact ⟨rfl, rfl, g2⟩
    case round =>
      obtain ⟨rfl, rfl, hbr⟩ := hrel
      go_wp2
      go_ret
      exact ⟨rfl, hbr⟩
  obtain ⟨rfl, hbl⟩ := ha (by omega)
  have HL := Lib.hid hl
  have HB := Lib.hid hbl
  clear hl hbl hz ha
  have hn2 : (T.kn : Int) ≤ 1048576 := by omega
  obtain ⟨n, hn⟩ : ∃ n, T.kn = n := ⟨_, rfl⟩
  rw [hn] at hkn HL HE hsum hn2 HK ⊢
  have HN := Lib.hid hn
  clear hn
  go_wp2_with fail
  go_loopw [3, 5] (fun v i wr => ∃ k : Nat, k ≤ n ∧ i = .int .i64 k ∧ v = .int .i64 ((1 + sumN (fun i => (T.kid i).size) k : Nat) : Int) ∧ Below w.heap.size w wr ∧ Below w2.heap.size w2 wr) (fun _ i _ => n - (intOf i).toNat)
  case atStart => exact ⟨0, by omega, rfl, rfl, g2, Below.refl _ _⟩
  case round =>
    clear g2
    obtain ⟨k, hk, rfl, rfl, hbr, hbx⟩ := hrel
    have hki : (0 : Int) ≤ k := by omega
    have q1 := hsum.out k hk
    have hS : 1 + sumN (fun i => (T.kid i).size) (k + 1) = 1 + sumN (fun i => (T.kid i).size) k + (T.kid k).size := by
      show 1 + (sumN (fun i => (T.kid i).size) k + (T.kid k).size) = _
      omega
    have q3 : k < n → 1 + sumN (fun i => (T.kid i).size) k + (T.kid k).size ≤ 65536 := fun h => by
      have := hsum.out (k + 1) (by omega)
      omega
    have HS := Lib.hid hS
    clear hS
    obtain ⟨t, ht'⟩ : ∃ t, 1 + sumN (fun i => (T.kid i).size) k = t := ⟨_, rfl⟩
    rw [ht'] at q1 q3 HS ⊢
    by_cases hkn' : k < n
    · have hl := (HL.out k hkn').below hbx HB.out
      obtain ⟨l0, l1, l2, l3, l4, l5, l6, l7, l8, l9, l10, l11, l12⟩ := hl.c13
      have hki2 : (k : Int) < n := by omega
      have q4 := q3 hkn'
      have hrec := HI2.out k (by rw [HN.out]; exact hkn') top wr (Vt.In.below (hbr.mono ht) (HI.out.kid (by rw [HN.out]; exact hkn'))) (Nat.le_trans ht hbr.size) (by omega)
      have HC := Lib.hid hrec
      clear hl hrec ht' q3
      obtain ⟨u, hu⟩ : ∃ u, (T.kid k).size = u := ⟨_, rfl⟩
      rw [hu] at HC HS q4
      clear hu
      generalize hG : (T.kid k).h = G at *
      clear hG
      have i1 : (t : Int) + u ≤ 65536 := by omega
      have i2 : (0 : Int) ≤ t := by omega
      have i3 : (0 : Int) ≤ u := by omega
      go_wp2_with fail
      refine HC.out.mono ?_; rintro _ w3 ⟨rfl, hb3⟩
      clear l0 l1 l2 l3 l4 l5 l6 l7 l8 l9 l10 l11 l12
      go_wp2
      go_roundw
      case rel => exact ⟨k + 1, by omega, by go_num, by rw [HS.out]; go_num, below_then hbr hb3, below_then hbx hb3⟩
      case measure => simp [intOf]; omega
    · obtain rfl : k = n := by omega
      have e : t = Z := by rw [← ht', HE.out]
      subst e
      clear HE hkn' ht' q3 HS
      go_wp2
      go_ret
      exact ⟨rfl, hbr⟩
/-- A value that the law asks for. -/
noncomputable def vldB (T : Vt) : Bool := decide ((T.look 1 0).2 = 0 ∧ T.size ≤ 300)
theorem look_size {T : Vt} (hw : T.whole) (h : (T.look 1 0).2 = 0) : T.size ≤ 65536 := by
  have h1 := (Vt.look_ok (d := 1) (s := 0) hw h).2.2
  have h2 := Vt.look_bd T 1 0 (by decide)
  have h3 : (T.look 1 0).1 = ((0 : Int) + T.size) := h1
  omega
theorem valid_parts {T : Vt} (hw : T.whole) (h : vldB T = true) : T.good ∧ T.upto 48 ∧ T.size ≤ 300 := by
  have h1 := of_decide_eq_true h
  have h2 := Vt.look_ok (d := 1) (s := 0) hw h1.1
  exact ⟨h2.1, h2.2.1, h1.2⟩
set_option maxHeartbeats 4000000 in
set_option maxRecDepth 100000 in
theorem lvalid_any {T : Vt} {top : Nat} {w : World} (hT : T.In w top) (ht : top ≤ w.heap.size) :
    Calls Try.prog 8 #[.agg T.h.cells] w fun r w' => r = .returned (.bool (vldB T)) ∧ Below w.heap.size w w' := by
  have hb0 := (Below.refl w.heap.size w).alloc (Nat.le_refl _) (.cells T.h.cells 30)
  have P := Whole.new w 30 T.h.cells
  have HC := Lib.hid (fun (w1 : World) (hb : Below w.heap.size w w1) => check_any (T := T) (Vt.In.below (hb.mono ht) hT) (Nat.le_trans ht hb.size))
  have HS := Lib.hid (fun (w1 : World) (hb : Below w.heap.size w w1) (hz : T.size ≤ 65536) => size_any T top w1 (Vt.In.below (hb.mono ht) hT) (Nat.le_trans ht hb.size) hz)
  have HW := Lib.hid (fun h => look_size hT.whole h)
  obtain ⟨R, hR⟩ : ∃ R, vldB T = R := ⟨_, rfl⟩
  rw [hR]
  unfold vldB at hR
  have HR := Lib.hid hR
  clear hR hT
  generalize (T.look 1 0).2 = e at *
  by_cases z : e = 0
  · have hz := HW.out z
    subst z
    have HS2 := Lib.hid (fun w1 hb => HS.out w1 hb hz)
    have hR : R = decide (T.size ≤ 300) := by rw [← HR.out]; simp
    clear HS HR
    generalize T.size = Z at *
    by_cases q : Z ≤ 300
    · have hR' : R = true := by rw [hR]; exact decide_eq_true q
      subst hR'
      clear hR HW
      have d1 : decide ((Z : Int) ≤ 300) = true := decide_eq_true (by omega)
      go_enter Try.func8, Try.ntmps8
      simp only [Vh.cells] at hb0 HC HS2 ⊢
      go_wp2_with fail
      refine (HC.out _ hb0).mono ?_; rintro _ w1 ⟨rfl, hb1⟩
      have g1 := below_then hb0 hb1
      obtain ⟨c0, c1, c2, c3, c4, c5, c6, c7, c8, c9, c10, c11, c12⟩ := (P.below hb1 P.lt).c13
      go_wp2_with fail
      refine (HS2.out _ g1).mono ?_; rintro _ w2 ⟨rfl, hb2⟩
      go_wp2
      go_ret
      exact ⟨rfl, below_then g1 hb2⟩
    · have hR' : R = false := by rw [hR]; exact decide_eq_false q
      subst hR'
      clear hR HW
      have d1 : decide ((Z : Int) ≤ 300) = false := decide_eq_false (by omega)
      go_enter Try.func8, Try.ntmps8
      simp only [Vh.cells] at hb0 HC HS2 ⊢
      go_wp2_with fail
      refine (HC.out _ hb0).mono ?_; rintro _ w1 ⟨rfl, hb1⟩
      have g1 := below_then hb0 hb1
      obtain ⟨c0, c1, c2, c3, c4, c5, c6, c7, c8, c9, c10, c11, c12⟩ := (P.below hb1 P.lt).c13
      go_wp2_with fail
      refine (HS2.out _ g1).mono ?_; rintro _ w2 ⟨rfl, hb2⟩
      go_wp2
      go_ret
      exact ⟨rfl, below_then g1 hb2⟩
  · have hR : R = false := by rw [← HR.out]; exact decide_eq_false (fun h => z h.1)
    subst hR
    have d1 : (e == 0) = false := beq_eq_false_iff_ne.2 z
    clear HR HW HS z
    go_enter Try.func8, Try.ntmps8
    simp only [Vh.cells] at hb0 HC ⊢
    go_wp2_with fail
    refine (HC.out _ hb0).mono ?_; rintro _ w1 ⟨rfl, hb1⟩
    go_wp2
    go_ret
    exact ⟨rfl, below_then hb0 hb1⟩
end Go.Proofs.Ytfkfboiblgoamaa
