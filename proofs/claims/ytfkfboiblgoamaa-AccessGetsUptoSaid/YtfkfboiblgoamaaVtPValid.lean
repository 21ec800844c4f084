/- Paths: which are valid (path.Valid, datakitref08.Valid). -/
import Derived.Test.YtfkfboiblgoamaaVtPath
import Derived.Test.YtfkfboiblgoamaaMemW
import Derived.Lib.Hide
namespace Go.Proofs.Ytfkfboiblgoamaa
open Go.RowKit

set_option maxHeartbeats 8000000 in
set_option maxRecDepth 100000 in
theorem pvalid_any {p : Pth} {top : Nat} {w : World} (hp : p.In w top) (ht : top ≤ w.heap.size) :
    Calls Try.prog 36 #[.slice p.a p.n p.c] w fun r w' => r = .returned (.bool (pathB p.S p.n)) ∧ Below w.heap.size w w' := by
  obtain ⟨a, n, c, b, o, S⟩ := p
  obtain ⟨ha, hn, hS⟩ := hp
  dsimp only at ha hn hS ⊢
  have HA : Hid (0 < n → a = some ⟨b, o, none⟩ ∧ b < w.heap.size) := Lib.hid fun q => ⟨(ha q).1, Nat.lt_of_lt_of_le (ha q).2 ht⟩
  have HS := Lib.hid hS
  clear ha hS
  obtain ⟨R, hR⟩ : ∃ R, pathB S n = R := ⟨_, rfl⟩
  rw [hR]
  have HR := Lib.hid hR
  clear hR
  have n0 : (0 : Int) ≤ n := by omega
  have n1 : (n : Int) ≤ 1048576 := by omega
  by_cases h48 : 48 < n
  · have hR : R = false := by rw [← HR.out]; exact pathB_no fun q => by have := q.1; omega
    subst hR
    have i48 : (48 : Int) < n := by omega
    clear HR HS HA
    go_enter Try.func36, Try.ntmps36
    go_wp2_with fail
    go_ret
    exact ⟨rfl, Below.refl _ _⟩
  have i48 : (n : Int) ≤ 48 := by omega
  have HN : Hid (∀ i, i < n → ¬ stepOk (S i) → R = false) := Lib.hid fun i hi q => by rw [← HR.out]; exact pathB_no fun h => q (h.2 i hi)
  have HY : Hid ((∀ i, i < n → stepOk (S i)) → R = true) := Lib.hid fun q => by rw [← HR.out]; exact pathB_yes ⟨by omega, q⟩
  clear HR
  go_enter Try.func36, Try.ntmps36
  go_wp2_with fail
  go_loopw [10] (fun i wr => ∃ k : Nat, k ≤ n ∧ i = .int .i64 k ∧ Hid (∀ t, t < k → stepOk (S t)) ∧ Below w.heap.size w wr) (fun i _ => n - (intOf i).toNat)
  case atStart => exact ⟨0, by omega, rfl, Lib.hid fun t h => absurd h (Nat.not_lt_zero _), Below.refl _ _⟩
  case round =>
    obtain ⟨k, hk, rfl, HK, hbr⟩ := hrel
    have hki : (0 : Int) ≤ k := by omega
    by_cases hkn : k < n
    · obtain ⟨e1, hlt⟩ := HA.out (by omega)
      subst e1
      have hki2 : (k : Int) < n := by omega
      obtain ⟨hl, hok⟩ := HS.out k hkn
      obtain ⟨l0, l1, l2⟩ := (hl.below hbr hlt).s3
      have hky := hok.key
      have hn1 := hok.n.1
      have hn2 := hok.n.2
      have HU := Lib.hid (putf_any hky)
      have HNk := Lib.hid (HN.out k hkn)
      have HK2 : Hid (stepOk (S k) → ∀ t, t < k + 1 → stepOk (S t)) := Lib.hid fun h t ht => by
        by_cases q : t = k
        · subst q; exact h
        · exact HK.out t (by omega)
      have hba := hbr.alloc hbr.size (.cells (S k).cells 59)
      clear hl hok HK
      have hlt2 := Nat.lt_of_lt_of_le hlt hbr.size
      generalize S k = s at *
      obtain ⟨ix, key, m⟩ := s
      dsimp only at l0 l1 l2 hky hn1 hn2 HU HNk HK2 hba
      cases ix
      all_goals simp only [Stp.cells] at hba
      · by_cases z : m = 0
        case neg =>
          have z1 : (m == 0) = false := beq_eq_false_iff_ne.2 z
          have z2 : (m != 0) = true := by simpa using z
          have hR : R = false := HNk.out fun q => by
            unfold stepOk at q
            rw [if_neg (by simp)] at q
            exact z q.1
          subst hR
          clear HNk HK2 HN HY HS
          clear HU z
          go_wp2_with fail
          go_ret
          exact ⟨rfl, hba⟩
        subst z
        by_cases z : 1024 < key.size
        · have z1 : decide ((1024 : Int) < key.size) = true := decide_eq_true (by omega)
          have hR : R = false := HNk.out fun q => by
            unfold stepOk at q
            rw [if_neg (by simp)] at q
            have q1 : key.size ≤ 1024 := q.2.1
            omega
          subst hR
          clear HNk HK2 HN HY HS
          clear HU z
          go_wp2_with fail
          go_ret
          exact ⟨rfl, hba⟩
        have z1 : decide ((1024 : Int) < key.size) = false := decide_eq_false (by omega)
        obtain ⟨u, hu⟩ : ∃ u, utfB key = u := ⟨_, rfl⟩
        rw [hu] at HU
        cases u
        · have Hu := Lib.hid hu
          clear hu z
          have hR : R = false := HNk.out fun q => by
            unfold stepOk at q
            rw [if_neg (by simp)] at q
            exact absurd q.2.2 (by rw [Hu.out]; decide)
          subst hR
          clear HNk HK2 HN HY HS
          go_wp2_with fail
          refine (HU.out _).mono ?_; rintro _ w2 ⟨rfl, rfl⟩
          go_wp2_with fail
          go_ret
          exact ⟨rfl, hba⟩
        · have HKn : Hid (∀ t, t < k + 1 → stepOk (S t)) := Lib.hid (HK2.out (by unfold stepOk; rw [if_neg (by simp)]; exact ⟨rfl, by dsimp only; omega, hu⟩))
          clear hu z HNk HK2
          go_wp2_with fail
          refine (HU.out _).mono ?_; rintro _ w2 ⟨rfl, rfl⟩
          clear l0 l1 l2
          go_wp2_with fail
          go_roundw
          case rel => exact ⟨k + 1, by omega, by go_num, HKn, hba⟩
          case measure => simp [intOf]; omega
      · clear HU
        by_cases z : key.toList = []
        case neg =>
          have z1 : key.toList.isEmpty = false := by simpa using z
          have hR : R = false := HNk.out fun q => by
            unfold stepOk at q
            rw [if_pos rfl] at q
            exact z q.1
          subst hR
          clear HNk HK2 HN HY HS
          clear z
          go_wp2_with fail
          go_ret
          exact ⟨rfl, hba⟩
        have z1 : key.toList.isEmpty = true := by simpa using z
        have HZ := Lib.hid z
        clear z
        by_cases y : m < 0
        · have y1 : decide (m < 0) = true := decide_eq_true y
          have hR : R = false := HNk.out fun q => by
            unfold stepOk at q
            rw [if_pos rfl] at q
            have q1 : 0 ≤ m := q.2.1
            omega
          subst hR
          clear HNk HK2 HN HY HS
          clear y
          go_wp2_with fail
          go_ret
          exact ⟨rfl, hba⟩
        have y1 : decide (m < 0) = false := decide_eq_false y
        by_cases x : 65536 < m
        · have x1 : decide (65536 < m) = true := decide_eq_true x
          have hR : R = false := HNk.out fun q => by
            unfold stepOk at q
            rw [if_pos rfl] at q
            have q1 : m ≤ 65536 := q.2.2
            omega
          subst hR
          clear HNk HK2 HN HY HS
          clear x
          go_wp2_with fail
          go_ret
          exact ⟨rfl, hba⟩
        have x1 : decide (65536 < m) = false := decide_eq_false x
        have HKn : Hid (∀ t, t < k + 1 → stepOk (S t)) := Lib.hid (HK2.out (by unfold stepOk; rw [if_pos rfl]; exact ⟨HZ.out, by dsimp only; omega, by dsimp only; omega⟩))
        clear HNk HK2
        go_wp2_with fail
        go_roundw
        case rel => exact ⟨k + 1, by omega, by go_num, HKn, hba⟩
        case measure => simp [intOf]; omega
    · obtain rfl : k = n := by omega
      have hR : R = true := HY.out HK.out
      subst hR
      clear HY HN HK HS hkn
      go_wp2
      go_ret
      exact ⟨rfl, hbr⟩

set_option maxHeartbeats 8000000 in
set_option maxRecDepth 100000 in
theorem rpvalid_any {p : Pth} {top : Nat} {w : World} (hp : p.In w top) (ht : top ≤ w.heap.size) :
    Calls Try.prog 33 #[.slice p.a p.n p.c] w fun r w' => r = .returned (.bool (pathB p.S p.n)) ∧ Below w.heap.size w w' := by
  obtain ⟨a, n, c, b, o, S⟩ := p
  obtain ⟨ha, hn, hS⟩ := hp
  dsimp only at ha hn hS ⊢
  have HA : Hid (0 < n → a = some ⟨b, o, none⟩ ∧ b < w.heap.size) := Lib.hid fun q => ⟨(ha q).1, Nat.lt_of_lt_of_le (ha q).2 ht⟩
  have HS := Lib.hid hS
  clear ha hS
  obtain ⟨R, hR⟩ : ∃ R, pathB S n = R := ⟨_, rfl⟩
  rw [hR]
  have HR := Lib.hid hR
  clear hR
  have n0 : (0 : Int) ≤ n := by omega
  have n1 : (n : Int) ≤ 1048576 := by omega
  by_cases h48 : 48 < n
  · have hR : R = false := by rw [← HR.out]; exact pathB_no fun q => by have := q.1; omega
    subst hR
    have i48 : (48 : Int) < n := by omega
    clear HR HS HA
    go_enter Try.func33, Try.ntmps33
    go_wp2_with fail
    go_ret
    exact ⟨rfl, Below.refl _ _⟩
  have i48 : (n : Int) ≤ 48 := by omega
  have HN : Hid (∀ i, i < n → ¬ stepOk (S i) → R = false) := Lib.hid fun i hi q => by rw [← HR.out]; exact pathB_no fun h => q (h.2 i hi)
  have HY : Hid ((∀ i, i < n → stepOk (S i)) → R = true) := Lib.hid fun q => by rw [← HR.out]; exact pathB_yes ⟨by omega, q⟩
  clear HR
  go_enter Try.func33, Try.ntmps33
  go_wp2_with fail
  go_loopw [3] (fun i wr => ∃ k : Nat, k ≤ n ∧ i = .int .i64 k ∧ Hid (∀ t, t < k → stepOk (S t)) ∧ Below w.heap.size w wr) (fun i _ => n - (intOf i).toNat)
  case atStart => exact ⟨0, by omega, rfl, Lib.hid fun t h => absurd h (Nat.not_lt_zero _), Below.refl _ _⟩
  case round =>
    obtain ⟨k, hk, rfl, HK, hbr⟩ := hrel
    have hki : (0 : Int) ≤ k := by omega
    by_cases hkn : k < n
    · obtain ⟨e1, hlt⟩ := HA.out (by omega)
      subst e1
      have hki2 : (k : Int) < n := by omega
      obtain ⟨hl, hok⟩ := HS.out k hkn
      obtain ⟨l0, l1, l2⟩ := (hl.below hbr hlt).s3
      have hky := hok.key
      have hn1 := hok.n.1
      have hn2 := hok.n.2
      have HU := Lib.hid (rutf_any hky)
      have HNk := Lib.hid (HN.out k hkn)
      have HK2 : Hid (stepOk (S k) → ∀ t, t < k + 1 → stepOk (S t)) := Lib.hid fun h t ht => by
        by_cases q : t = k
        · subst q; exact h
        · exact HK.out t (by omega)
      clear hl hok HK
      have hlt2 := Nat.lt_of_lt_of_le hlt hbr.size
      generalize S k = s at *
      obtain ⟨ix, key, m⟩ := s
      dsimp only at l0 l1 l2 hky hn1 hn2 HU HNk HK2
      cases ix
      · by_cases z : m = 0
        case neg =>
          have z1 : (m == 0) = false := beq_eq_false_iff_ne.2 z
          have z2 : (m != 0) = true := by simpa using z
          have hR : R = false := HNk.out fun q => by
            unfold stepOk at q
            rw [if_neg (by simp)] at q
            exact z q.1
          subst hR
          clear HNk HK2 HN HY HS
          clear HU z
          go_wp2_with fail
          go_ret
          exact ⟨rfl, hbr⟩
        subst z
        by_cases z : 1024 < key.size
        · have z1 : decide ((1024 : Int) < key.size) = true := decide_eq_true (by omega)
          have hR : R = false := HNk.out fun q => by
            unfold stepOk at q
            rw [if_neg (by simp)] at q
            have q1 : key.size ≤ 1024 := q.2.1
            omega
          subst hR
          clear HNk HK2 HN HY HS
          clear HU z
          go_wp2_with fail
          go_ret
          exact ⟨rfl, hbr⟩
        have z1 : decide ((1024 : Int) < key.size) = false := decide_eq_false (by omega)
        obtain ⟨u, hu⟩ : ∃ u, utfB key = u := ⟨_, rfl⟩
        rw [hu] at HU
        cases u
        · have Hu := Lib.hid hu
          clear hu z
          have hR : R = false := HNk.out fun q => by
            unfold stepOk at q
            rw [if_neg (by simp)] at q
            exact absurd q.2.2 (by rw [Hu.out]; decide)
          subst hR
          clear HNk HK2 HN HY HS
          go_wp2_with fail
          refine (HU.out _).mono ?_; rintro _ w2 ⟨rfl, hb2⟩
          go_wp2_with fail
          go_ret
          exact ⟨rfl, below_then hbr hb2⟩
        · have HKn : Hid (∀ t, t < k + 1 → stepOk (S t)) := Lib.hid (HK2.out (by unfold stepOk; rw [if_neg (by simp)]; exact ⟨rfl, by dsimp only; omega, hu⟩))
          clear hu z HNk HK2
          go_wp2_with fail
          refine (HU.out _).mono ?_; rintro _ w2 ⟨rfl, hb2⟩
          clear l0 l1 l2
          go_wp2_with fail
          go_roundw
          case rel => exact ⟨k + 1, by omega, by go_num, HKn, below_then hbr hb2⟩
          case measure => simp [intOf]; omega
      · clear HU
        by_cases z : key.toList = []
        case neg =>
          have z1 : key.toList.isEmpty = false := by simpa using z
          have hR : R = false := HNk.out fun q => by
            unfold stepOk at q
            rw [if_pos rfl] at q
            exact z q.1
          subst hR
          clear HNk HK2 HN HY HS
          clear z
          go_wp2_with fail
          go_ret
          exact ⟨rfl, hbr⟩
        have z1 : key.toList.isEmpty = true := by simpa using z
        have HZ := Lib.hid z
        clear z
        by_cases y : m < 0
        · have y1 : decide (m < 0) = true := decide_eq_true y
          have hR : R = false := HNk.out fun q => by
            unfold stepOk at q
            rw [if_pos rfl] at q
            have q1 : 0 ≤ m := q.2.1
            omega
          subst hR
          clear HNk HK2 HN HY HS
          clear y
          go_wp2_with fail
          go_ret
          exact ⟨rfl, hbr⟩
        have y1 : decide (m < 0) = false := decide_eq_false y
        by_cases x : 65536 < m
        · have x1 : decide (65536 < m) = true := decide_eq_true x
          have hR : R = false := HNk.out fun q => by
            unfold stepOk at q
            rw [if_pos rfl] at q
            have q1 : m ≤ 65536 := q.2.2
            omega
          subst hR
          clear HNk HK2 HN HY HS
          clear x
          go_wp2_with fail
          go_ret
          exact ⟨rfl, hbr⟩
        have x1 : decide (65536 < m) = false := decide_eq_false x
        have HKn : Hid (∀ t, t < k + 1 → stepOk (S t)) := Lib.hid (HK2.out (by unfold stepOk; rw [if_pos rfl]; exact ⟨HZ.out, by dsimp only; omega, by dsimp only; omega⟩))
        clear HNk HK2
        go_wp2_with fail
        go_roundw
        case rel => exact ⟨k + 1, by omega, by go_num, HKn, hbr⟩
        case measure => simp [intOf]; omega
    · obtain rfl : k = n := by omega
      have hR : R = true := HY.out HK.out
      subst hR
      clear HY HN HK HS hkn
      go_wp2
      go_ret
      exact ⟨rfl, hbr⟩

end Go.Proofs.Ytfkfboiblgoamaa
