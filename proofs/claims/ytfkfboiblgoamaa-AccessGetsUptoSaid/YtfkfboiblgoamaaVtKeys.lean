/- Values: what is wrong with keys (datakitref07.Keys). -/
import Derived.Test.YtfkfboiblgoamaaVtUtf
import Derived.Test.YtfkfboiblgoamaaMemW
import Derived.BigRegion
namespace Go.Proofs.Ytfkfboiblgoamaa
open Go.RowKit

set_option maxHeartbeats 4000000 in
set_option maxRecDepth 100000 in
theorem keys_some {b o n c : Nat} {K : Nat → ByteArray} (hn : n ≤ 1048576) (w : World) (hb : b < w.heap.size) (hK : ∀ i, i < n → w.cell? ⟨b, o + i * 14, none⟩ = some (.string (K i)) ∧ (K i).size ≤ 1048576) :
    Calls Try.prog 65 #[.slice (some ⟨b, o, none⟩) n c] w fun r w' => r = .returned (.int .i64 (keysE K n)) ∧ Below w.heap.size w w' := by
  have HK := Lib.hid hK
  have HB := Lib.hid hb
  clear hK hb
  obtain ⟨R, hR⟩ : ∃ R, keysE K n = R := ⟨_, rfl⟩
  rw [hR]
  have HR := Lib.hid hR
  clear hR
  have hn0 : (0 : Int) ≤ n := by omega
  have hn2 : (n : Int) ≤ 1048576 := by omega
  go_enter Try.func65, Try.ntmps65
  go_wp2_with fail
  go_loopw [3] (fun i wr => ∃ k : Nat, k ≤ n ∧ i = .int .i64 k ∧ keysE K k = 0 ∧ Below w.heap.size w wr) (fun i _ => n - (intOf i).toNat)
  case atStart => exact ⟨0, by omega, rfl, rfl, Below.refl _ _⟩
  case round =>
    obtain ⟨k, hk, rfl, hk0, hbr⟩ := hrel
    have hki : (0 : Int) ≤ k := by omega
    by_cases hkn : k < n
    · obtain ⟨l0, l1⟩ := HK.out k hkn
      have l2 := (hbr.cell (p := ⟨b, o + k * 14, none⟩) HB.out).trans l0
      have hki2 : (k : Int) < n := by omega
      have HU := Lib.hid (rutf_any l1)
      have hlt := Nat.lt_of_lt_of_le HB.out hbr.size
      by_cases u : utfB (K k) = true
      case neg =>
        have u2 : utfB (K k) = false := by simpa using u
        have hR : R = 5 := by rw [← HR.out, keysE_bad hk0 hkn (by unfold keyE; simp [u2])]; unfold keyE; simp [u2]
        subst hR
        rw [u2] at HU
        generalize K k = x at *
        clear u u2 hk0 l0 HR
        go_wp2_with fail
        refine (HU.out _).mono ?_; rintro _ w1 ⟨rfl, hb1⟩
        go_wp2
        go_ret
        exact ⟨rfl, below_then hbr hb1⟩
      rw [u] at HU
      have kE : keyE K k = if 1024 < (K k).size then 10 else if ∃ j, j < k ∧ K j = K k then 8 else 0 := by unfold keyE; simp [u]
      by_cases z : 1024 < (K k).size
      · have hR : R = 10 := by rw [← HR.out, keysE_bad hk0 hkn (by rw [kE, if_pos z]; decide), kE, if_pos z]
        subst hR
        clear kE hk0 l0 u HR
        generalize K k = x at *
        have z2 : decide ((1024 : Int) < x.size) = true := decide_eq_true (by omega)
        go_wp2_with fail
        refine (HU.out _).mono ?_; rintro _ w1 ⟨rfl, hb1⟩
        replace l2 := (hb1.cell (p := ⟨b, o + k * 14, none⟩) hlt).trans l2
        go_wp2
        go_ret
        exact ⟨rfl, below_then hbr hb1⟩
      rw [if_neg z] at kE
      have HE := Lib.hid kE
      have H0 := Lib.hid hk0
      clear kE hk0 u
      obtain ⟨x, hx⟩ : ∃ x, K k = x := ⟨_, rfl⟩
      rw [hx] at l0 l1 l2 HU z HE
      have HX := Lib.hid hx
      clear hx
      have z2 : decide ((1024 : Int) < x.size) = false := decide_eq_false (by omega)
      go_wp2_with fail
      refine (HU.out _).mono ?_; rintro _ w1 ⟨rfl, hb1⟩
      replace l2 := (hb1.cell (p := ⟨b, o + k * 14, none⟩) hlt).trans l2
      replace hbr := below_then hbr hb1
      clear hb1 HU z hlt
      go_wp2_with fail
      go_loopw [4] (fun i wr => ∃ j : Nat, j ≤ k ∧ i = .int .i64 j ∧ Hid (∀ t, t < j → K t ≠ x) ∧ Below w.heap.size w wr) (fun i _ => k - (intOf i).toNat)
      case atStart => exact ⟨0, by omega, rfl, Lib.hid (fun t h => absurd h (Nat.not_lt_zero _)), hbr⟩
      case round =>
        clear hbr l2
        obtain ⟨j, hj, rfl, HJ, hbr⟩ := hrel
        have l2 := (hbr.cell (p := ⟨b, o + k * 14, none⟩) HB.out).trans l0
        have hji : (0 : Int) ≤ j := by omega
        by_cases hjk : j < k
        · obtain ⟨m0, m1⟩ := HK.out j (by omega)
          have m2 := (hbr.cell (p := ⟨b, o + j * 14, none⟩) HB.out).trans m0
          have hji2 : (j : Int) < k := by omega
          have hji3 : (j : Int) < n := by omega
          by_cases e : K j = x
          · have d1 : ((K j).toList == x.toList) = true := by rw [e]; exact beq_self_eq_true _
            have hR : R = 8 := by
              have k8 : keyE K k = 8 := by rw [HE.out, if_pos ⟨j, hjk, e⟩]
              rw [← HR.out, keysE_bad H0.out hkn (by rw [k8]; decide), k8]
            subst hR
            clear HR HE H0 e m0 l0 hjk hkn
            generalize K j = y at *
            go_wp2_with fail
            go_region
            go_wp2
            go_ret
            exact ⟨rfl, hbr.drew⟩
          · have d1 : ((K j).toList == x.toList) = false := by
              rw [beq_eq_false_iff_ne]
              intro q
              apply e
              rw [Lib.toList_data, Lib.toList_data] at q
              exact ByteArray.ext (Array.ext' q)
            have HJ2 : Hid (∀ t, t < j + 1 → K t ≠ x) := Lib.hid (fun t ht => by
              by_cases q : t = j
              · rw [q]; exact e
              · exact HJ.out t (by omega))
            clear e m0 HJ hkn
            generalize K j = y at *
            go_wp2_with fail
            go_region
            go_wp2
            go_roundw
            case rel => exact ⟨j + 1, by omega, by go_num, HJ2, hbr.drew⟩
            case measure => simp [intOf]; omega
        · obtain rfl : j = k := by omega
          have hN : keysE K (j + 1) = 0 := keysE_next H0.out (by rw [HE.out, if_neg (fun ⟨t, ht, q⟩ => HJ.out t ht q)])
          clear HE H0 HJ
          go_wp2_with fail
          go_wp2
          go_roundw
          case rel => exact ⟨j + 1, by omega, by go_num, hN, hbr⟩
          case measure => simp [intOf]; omega
    · obtain rfl : k = n := by omega
      have hR : R = 0 := by rw [← HR.out, hk0]
      subst hR
      clear hkn hk0 HR
      go_wp2
      go_ret
      exact ⟨rfl, hbr⟩
theorem keys_nil {K : Nat → ByteArray} (a : Option Addr) (c : Nat) (w : World) :
    Calls Try.prog 65 #[.slice a 0 c] w fun r w' => r = .returned (.int .i64 (keysE K 0)) ∧ Below w.heap.size w w' := by
  show Calls Try.prog 65 #[.slice a 0 c] w fun r w' => r = .returned (.int .i64 0) ∧ Below w.heap.size w w'
  go_enter Try.func65, Try.ntmps65
  go_wp2_with fail
  go_loopw [3] (fun i wr => i = .int .i64 0 ∧ Below w.heap.size w wr) (fun i _ => 0)
  case atStart => exact ⟨rfl, Below.refl _ _⟩
  case round =>
    obtain ⟨rfl, hbr⟩ := hrel
    go_wp2
    go_ret
    exact ⟨rfl, hbr⟩
end Go.Proofs.Ytfkfboiblgoamaa
