/- Laid together for a claim: VtPValid, VtAt. -/
import Derived.Test.YtfkfboiblgoamaaDoorQB13
import Derived.Test.YtfkfboiblgoamaaDoorQB01
import Derived.Lib.Hide
import Derived.Test.YtfkfboiblgoamaaDoorQB15
import Derived.Deep.RegionHeld3
/- Paths: which are valid (path.Valid, datakitref08.Valid). -/
namespace Go.Proofs.YtfkfboiblgoamaaDoor
open Go.RowKit

set_option maxHeartbeats 8000000 in
set_option maxRecDepth 100000 in
theorem pvalid_any {p : Pth} {top : Nat} {w : World} (hp : p.In w top) (ht : top ≤ w.heap.size) :
    Calls Tryd.prog 21 #[.slice p.a p.n p.c] w fun r w' => r = .returned (.bool (pathB p.S p.n)) ∧ Below w.heap.size w w' := by
  obtain ⟨a, n, c, b, o, S⟩ := p
  obtain ⟨ha, ⟨hn, _, _⟩, hS⟩ := hp
  dsimp only at ha hn hS ⊢
  have HA : Hid (0 < n → a = some ⟨b, o, none⟩ ∧ b < w.heap.size) := Lib.hid fun q => ⟨(ha q).1, Nat.lt_of_lt_of_le (ha q).2 ht⟩
  have HS := Lib.hid hS
  clear ha hS
  obtain ⟨R, hR⟩ : ∃ R, pathB S n = R := ⟨_, rfl⟩
  rw [hR]
  have HR := Lib.hid hR
  clear hR
  have n0 : (0 : Int) ≤ n := by omega
  have n1 : (n : Int) ≤ 1048576 := by omega
  by_cases h48 : 48 < n
  · have hR : R = false := by rw [← HR.out]; exact pathB_no fun q => by have := q.1; omega
    subst hR
    have i48 : (48 : Int) < n := by omega
    clear HR HS HA
    go_enter Tryd.func21, Tryd.ntmps21
    go_wp2_with fail
    go_ret
    exact ⟨rfl, Below.refl _ _⟩
  have i48 : (n : Int) ≤ 48 := by omega
  have HN : Hid (∀ i, i < n → ¬ stepOk (S i) → R = false) := Lib.hid fun i hi q => by rw [← HR.out]; exact pathB_no fun h => q (h.2 i hi)
  have HY : Hid ((∀ i, i < n → stepOk (S i)) → R = true) := Lib.hid fun q => by rw [← HR.out]; exact pathB_yes ⟨by omega, q⟩
  clear HR
  go_enter Tryd.func21, Tryd.ntmps21
  go_wp2_with fail
  go_loopw [10] (fun i wr => ∃ k : Nat, k ≤ n ∧ i = .int .i64 k ∧ Hid (∀ t, t < k → stepOk (S t)) ∧ Below w.heap.size w wr) (fun i _ => n - (intOf i).toNat)
  case atStart => exact ⟨0, by omega, rfl, Lib.hid fun t h => absurd h (Nat.not_lt_zero _), Below.refl _ _⟩
  case round =>
    obtain ⟨k, hk, rfl, HK, hbr⟩ := hrel
    have hki : (0 : Int) ≤ k := by omega
    by_cases hkn : k < n
    · obtain ⟨e1, hlt⟩ := HA.out (by omega)
      subst e1
      have hki2 : (k : Int) < n := by omega
      obtain ⟨hl, hok⟩ := HS.out k hkn
      obtain ⟨l0, l1, l2⟩ := (hl.below hbr hlt).s3
      have hky := hok.key
      have hn1 := hok.n.1
      have hn2 := hok.n.2
      have HU := Lib.hid (putf_any hky)
      have HNk := Lib.hid (HN.out k hkn)
      have HK2 : Hid (stepOk (S k) → ∀ t, t < k + 1 → stepOk (S t)) := Lib.hid fun h t ht => by
        by_cases q : t = k
        · subst q; exact h
        · exact HK.out t (by omega)
      have hba := hbr.alloc hbr.size (.cells (S k).cells 50)
      clear hl hok HK
      have hlt2 := Nat.lt_of_lt_of_le hlt hbr.size
      generalize S k = s at *
      obtain ⟨ix, key, m⟩ := s
      dsimp only at l0 l1 l2 hky hn1 hn2 HU HNk HK2 hba
      cases ix
      all_goals simp only [Stp.cells] at hba
      · by_cases z : m = 0
        case neg =>
          have z1 : (m == 0) = false := beq_eq_false_iff_ne.2 z
          have z2 : (m != 0) = true := by simpa using z
          have hR : R = false := HNk.out fun q => by
            unfold stepOk at q
            rw [if_neg (by simp)] at q
            exact z q.1
          subst hR
          clear HNk HK2 HN HY HS
          clear HU z
          go_wp2_with fail
          go_ret
          exact ⟨rfl, hba⟩
        subst z
        by_cases z : 1024 < key.size
        · have z1 : decide ((1024 : Int) < key.size) = true := decide_eq_true (by omega)
          have hR : R = false := HNk.out fun q => by
            unfold stepOk at q
            rw [if_neg (by simp)] at q
            have q1 : key.size ≤ 1024 := q.2.1
            omega
          subst hR
          clear HNk HK2 HN HY HS
          clear HU z
          go_wp2_with fail
          go_ret
          exact ⟨rfl, hba⟩
        have z1 : decide ((1024 : Int) < key.size) = false := decide_eq_false (by omega)
        obtain ⟨u, hu⟩ : ∃ u, utfB key = u := ⟨_, rfl⟩
        rw [hu] at HU
        cases u
        · have Hu := Lib.hid hu
          clear hu z
          have hR : R = false := HNk.out fun q => by
            unfold stepOk at q
            rw [if_neg (by simp)] at q
            exact absurd q.2.2 (by rw [Hu.out]; decide)
          subst hR
          clear HNk HK2 HN HY HS
          go_wp2_with fail
          refine (HU.out _).mono ?_; rintro _ w2 ⟨rfl, rfl⟩
          go_wp2_with fail
          go_ret
          exact ⟨rfl, hba⟩
        · have HKn : Hid (∀ t, t < k + 1 → stepOk (S t)) := Lib.hid (HK2.out (by unfold stepOk; rw [if_neg (by simp)]; exact ⟨rfl, by dsimp only; omega, hu⟩))
          clear hu z HNk HK2
          go_wp2_with fail
          refine (HU.out _).mono ?_; rintro _ w2 ⟨rfl, rfl⟩
          clear l0 l1 l2
          go_wp2_with fail
          go_roundw
          case rel => exact ⟨k + 1, by omega, by go_num, HKn, hba⟩
          case measure => simp [intOf]; omega
      · clear HU
        by_cases z : key.toList = []
        case neg =>
          have z1 : key.toList.isEmpty = false := by simpa using z
          have hR : R = false := HNk.out fun q => by
            unfold stepOk at q
            rw [if_pos rfl] at q
            exact z q.1
          subst hR
          clear HNk HK2 HN HY HS
          clear z
          go_wp2_with fail
          go_ret
          exact ⟨rfl, hba⟩
        have z1 : key.toList.isEmpty = true := by simpa using z
        have HZ := Lib.hid z
        clear z
        by_cases y : m < 0
        · have y1 : decide (m < 0) = true := decide_eq_true y
          have hR : R = false := HNk.out fun q => by
            unfold stepOk at q
            rw [if_pos rfl] at q
            have q1 : 0 ≤ m := q.2.1
            omega
          subst hR
          clear HNk HK2 HN HY HS
          clear y
          go_wp2_with fail
          go_ret
          exact ⟨rfl, hba⟩
        have y1 : decide (m < 0) = false := decide_eq_false y
        by_cases x : 65536 < m
        · have x1 : decide (65536 < m) = true := decide_eq_true x
          have hR : R = false := HNk.out fun q => by
            unfold stepOk at q
            rw [if_pos rfl] at q
            have q1 : m ≤ 65536 := q.2.2
            omega
          subst hR
          clear HNk HK2 HN HY HS
          clear x
          go_wp2_with fail
          go_ret
          exact ⟨rfl, hba⟩
        have x1 : decide (65536 < m) = false := decide_eq_false x
        have HKn : Hid (∀ t, t < k + 1 → stepOk (S t)) := Lib.hid (HK2.out (by unfold stepOk; rw [if_pos rfl]; exact ⟨HZ.out, by dsimp only; omega, by dsimp only; omega⟩))
        clear HNk HK2
        go_wp2_with fail
        go_roundw
        case rel => exact ⟨k + 1, by omega, by go_num, HKn, hba⟩
        case measure => simp [intOf]; omega
    · obtain rfl : k = n := by omega
      have hR : R = true := HY.out HK.out
      subst hR
      clear HY HN HK HS hkn
      go_wp2
      go_ret
      exact ⟨rfl, hbr⟩

set_option maxHeartbeats 8000000 in
set_option maxRecDepth 100000 in
theorem rpvalid_any {p : Pth} {top : Nat} {w : World} (hp : p.In w top) (ht : top ≤ w.heap.size) :
    Calls Tryd.prog 30 #[.slice p.a p.n p.c] w fun r w' => r = .returned (.bool (pathB p.S p.n)) ∧ Below w.heap.size w w' := by
  obtain ⟨a, n, c, b, o, S⟩ := p
  obtain ⟨ha, ⟨hn, _, _⟩, hS⟩ := hp
  dsimp only at ha hn hS ⊢
  have HA : Hid (0 < n → a = some ⟨b, o, none⟩ ∧ b < w.heap.size) := Lib.hid fun q => ⟨(ha q).1, Nat.lt_of_lt_of_le (ha q).2 ht⟩
  have HS := Lib.hid hS
  clear ha hS
  obtain ⟨R, hR⟩ : ∃ R, pathB S n = R := ⟨_, rfl⟩
  rw [hR]
  have HR := Lib.hid hR
  clear hR
  have n0 : (0 : Int) ≤ n := by omega
  have n1 : (n : Int) ≤ 1048576 := by omega
  by_cases h48 : 48 < n
  · have hR : R = false := by rw [← HR.out]; exact pathB_no fun q => by have := q.1; omega
    subst hR
    have i48 : (48 : Int) < n := by omega
    clear HR HS HA
    go_enter Tryd.func30, Tryd.ntmps30
    go_wp2_with fail
    go_ret
    exact ⟨rfl, Below.refl _ _⟩
  have i48 : (n : Int) ≤ 48 := by omega
  have HN : Hid (∀ i, i < n → ¬ stepOk (S i) → R = false) := Lib.hid fun i hi q => by rw [← HR.out]; exact pathB_no fun h => q (h.2 i hi)
  have HY : Hid ((∀ i, i < n → stepOk (S i)) → R = true) := Lib.hid fun q => by rw [← HR.out]; exact pathB_yes ⟨by omega, q⟩
  clear HR
  go_enter Tryd.func30, Tryd.ntmps30
  go_wp2_with fail
  go_loopw [3] (fun i wr => ∃ k : Nat, k ≤ n ∧ i = .int .i64 k ∧ Hid (∀ t, t < k → stepOk (S t)) ∧ Below w.heap.size w wr) (fun i _ => n - (intOf i).toNat)
  case atStart => exact ⟨0, by omega, rfl, Lib.hid fun t h => absurd h (Nat.not_lt_zero _), Below.refl _ _⟩
  case round =>
    obtain ⟨k, hk, rfl, HK, hbr⟩ := hrel
    have hki : (0 : Int) ≤ k := by omega
    by_cases hkn : k < n
    · obtain ⟨e1, hlt⟩ := HA.out (by omega)
      subst e1
      have hki2 : (k : Int) < n := by omega
      obtain ⟨hl, hok⟩ := HS.out k hkn
      obtain ⟨l0, l1, l2⟩ := (hl.below hbr hlt).s3
      have hky := hok.key
      have hn1 := hok.n.1
      have hn2 := hok.n.2
      have HU := Lib.hid (rutf_any hky)
      have HNk := Lib.hid (HN.out k hkn)
      have HK2 : Hid (stepOk (S k) → ∀ t, t < k + 1 → stepOk (S t)) := Lib.hid fun h t ht => by
        by_cases q : t = k
        · subst q; exact h
        · exact HK.out t (by omega)
      clear hl hok HK
      have hlt2 := Nat.lt_of_lt_of_le hlt hbr.size
      generalize S k = s at *
      obtain ⟨ix, key, m⟩ := s
      dsimp only at l0 l1 l2 hky hn1 hn2 HU HNk HK2
      cases ix
      · by_cases z : m = 0
        case neg =>
          have z1 : (m == 0) = false := beq_eq_false_iff_ne.2 z
          have z2 : (m != 0) = true := by simpa using z
          have hR : R = false := HNk.out fun q => by
            unfold stepOk at q
            rw [if_neg (by simp)] at q
            exact z q.1
          subst hR
          clear HNk HK2 HN HY HS
          clear HU z
          go_wp2_with fail
          go_ret
          exact ⟨rfl, hbr⟩
        subst z
        by_cases z : 1024 < key.size
        · have z1 : decide ((1024 : Int) < key.size) = true := decide_eq_true (by omega)
          have hR : R = false := HNk.out fun q => by
            unfold stepOk at q
            rw [if_neg (by simp)] at q
            have q1 : key.size ≤ 1024 := q.2.1
            omega
          subst hR
          clear HNk HK2 HN HY HS
          clear HU z
          go_wp2_with fail
          go_ret
          exact ⟨rfl, hbr⟩
        have z1 : decide ((1024 : Int) < key.size) = false := decide_eq_false (by omega)
        obtain ⟨u, hu⟩ : ∃ u, utfB key = u := ⟨_, rfl⟩
        rw [hu] at HU
        cases u
        · have Hu := Lib.hid hu
          clear hu z
          have hR : R = false := HNk.out fun q => by
            unfold stepOk at q
            rw [if_neg (by simp)] at q
            exact absurd q.2.2 (by rw [Hu.out]; decide)
          subst hR
          clear HNk HK2 HN HY HS
          go_wp2_with fail
          refine (HU.out _).mono ?_; rintro _ w2 ⟨rfl, hb2⟩
          go_wp2_with fail
          go_ret
          exact ⟨rfl, below_then hbr hb2⟩
        · have HKn : Hid (∀ t, t < k + 1 → stepOk (S t)) := Lib.hid (HK2.out (by unfold stepOk; rw [if_neg (by simp)]; exact ⟨rfl, by dsimp only; omega, hu⟩))
          clear hu z HNk HK2
          go_wp2_with fail
          refine (HU.out _).mono ?_; rintro _ w2 ⟨rfl, hb2⟩
          clear l0 l1 l2
          go_wp2_with fail
          go_roundw
          case rel => exact ⟨k + 1, by omega, by go_num, HKn, below_then hbr hb2⟩
          case measure => simp [intOf]; omega
      · clear HU
        by_cases z : key.toList = []
        case neg =>
          have z1 : key.toList.isEmpty = false := by simpa using z
          have hR : R = false := HNk.out fun q => by
            unfold stepOk at q
            rw [if_pos rfl] at q
            exact z q.1
          subst hR
          clear HNk HK2 HN HY HS
          clear z
          go_wp2_with fail
          go_ret
          exact ⟨rfl, hbr⟩
        have z1 : key.toList.isEmpty = true := by simpa using z
        have HZ := Lib.hid z
        clear z
        by_cases y : m < 0
        · have y1 : decide (m < 0) = true := decide_eq_true y
          have hR : R = false := HNk.out fun q => by
            unfold stepOk at q
            rw [if_pos rfl] at q
            have q1 : 0 ≤ m := q.2.1
            omega
          subst hR
          clear HNk HK2 HN HY HS
          clear y
          go_wp2_with fail
          go_ret
          exact ⟨rfl, hbr⟩
        have y1 : decide (m < 0) = false := decide_eq_false y
        by_cases x : 65536 < m
        · have x1 : decide (65536 < m) = true := decide_eq_true x
          have hR : R = false := HNk.out fun q => by
            unfold stepOk at q
            rw [if_pos rfl] at q
            have q1 : m ≤ 65536 := q.2.2
            omega
          subst hR
          clear HNk HK2 HN HY HS
          clear x
          go_wp2_with fail
          go_ret
          exact ⟨rfl, hbr⟩
        have x1 : decide (65536 < m) = false := decide_eq_false x
        have HKn : Hid (∀ t, t < k + 1 → stepOk (S t)) := Lib.hid (HK2.out (by unfold stepOk; rw [if_pos rfl]; exact ⟨HZ.out, by dsimp only; omega, by dsimp only; omega⟩))
        clear HNk HK2
        go_wp2_with fail
        go_roundw
        case rel => exact ⟨k + 1, by omega, by go_num, HKn, hbr⟩
        case measure => simp [intOf]; omega
    · obtain rfl : k = n := by omega
      have hR : R = true := HY.out HK.out
      subst hR
      clear HY HN HK HS hkn
      go_wp2
      go_ret
      exact ⟨rfl, hbr⟩

end Go.Proofs.YtfkfboiblgoamaaDoor
/- Paths: where a path leads, walked (access.at, datakitref09.Get). -/
namespace Go.Proofs.YtfkfboiblgoamaaDoor
open Go.RowKit

/-- Where a path leads, and the error. -/
noncomputable def Vt.get (T : Vt) (S : Nat → Stp) (n : Nat) : Vt × Int := if (T.atN S n).2 = 0 then T.atN S n else (.nil, (T.atN S n).2)
theorem Vt.get_ok {T : Vt} {S : Nat → Stp} {n : Nat} (h : (T.get S n).2 = 0) : (T.atN S n).2 = 0 ∧ T.get S n = T.atN S n := by
  unfold Vt.get at h ⊢
  split at h
  · rename_i q
    exact ⟨q, by rw [if_pos q]⟩
  · rename_i q
    exact absurd h q
theorem Vt.get_bad {T : Vt} {S : Nat → Stp} {k n : Nat} (h0 : (T.atN S k).2 = 0) (hb : ((T.atN S k).1.find (S k)).2 ≠ 0) (hk : k < n) : T.get S n = (.nil, ((T.atN S k).1.find (S k)).2) := by
  have e := Vt.atN_bad h0 hb hk
  unfold Vt.get
  rw [if_neg (by rw [e]; exact hb), e]
noncomputable def Vt.getV (T : Vt) (S : Nat → Stp) (n : Nat) : Vt × Int := if pathB S n = true then T.get S n else (.nil, 1)
theorem v13_of {w W : World} {B b o : Nat} {G : Vh} {s : Stp} (P : Whole W B 30 G.cells) (L : LiesAt W b o s.cells) (hb : Below w.heap.size w W) : W.cell? ⟨B, 0, none⟩ = some (.int .i64 G.k) ∧ W.cell? ⟨B, 1, none⟩ = some (.bool G.b) ∧ W.cell? ⟨B, 2, none⟩ = some (.bool G.n) ∧ W.cell? ⟨B, 3, none⟩ = some (.string G.d) ∧ W.cell? ⟨B, 4, none⟩ = some (.int .i64 G.e) ∧ W.cell? ⟨B, 5, none⟩ = some (.int .i64 G.tk) ∧ W.cell? ⟨B, 6, none⟩ = some (.int .i64 G.td) ∧ W.cell? ⟨B, 7, none⟩ = some (.int .i64 G.tn) ∧ W.cell? ⟨B, 8, none⟩ = some (.int .i64 G.tz) ∧ W.cell? ⟨B, 9, none⟩ = some (.string G.x) ∧ W.cell? ⟨B, 10, none⟩ = some (.slice G.ba G.bn G.bc) ∧ W.cell? ⟨B, 11, none⟩ = some (.slice G.la G.ln G.lc) ∧ W.cell? ⟨B, 12, none⟩ = some (.slice G.fa G.fn G.fc) ∧ W.cell? ⟨b, o, none⟩ = some (.bool s.ix) ∧ W.cell? ⟨b, o + 1, none⟩ = some (.string s.key) ∧ W.cell? ⟨b, o + 2, none⟩ = some (.int .i64 s.n) ∧ Below w.heap.size w W :=
  ⟨P.cell 0, P.cell 1, P.cell 2, P.cell 3, P.cell 4, P.cell 5, P.cell 6, P.cell 7, P.cell 8, P.cell 9, P.cell 10, P.cell 11, P.cell 12, L.s3.1, L.s3.2.1, L.s3.2.2, hb⟩
set_option maxHeartbeats 8000000 in
set_option maxRecDepth 100000 in
theorem at_any {T : Vt} {p : Pth} {top : Nat} {w : World} (hT : T.In w top) (hp : p.In w top) (ht : top ≤ w.heap.size) :
    Calls Tryd.prog 23 #[.agg T.h.cells, .slice p.a p.n p.c] w fun r w' => r = .returned (.tuple #[.agg (T.get p.S p.n).1.h.cells, .int .i64 (T.get p.S p.n).2]) ∧ Below w.heap.size w w' := by
  obtain ⟨a, n, c, b, o, S⟩ := p
  obtain ⟨ha, ⟨hn, _, _⟩, hS⟩ := hp
  dsimp only at ha hn hS ⊢
  have HA : Hid (0 < n → a = some ⟨b, o, none⟩ ∧ b < w.heap.size) := Lib.hid fun q => ⟨(ha q).1, Nat.lt_of_lt_of_le (ha q).2 ht⟩
  have HS := Lib.hid hS
  have hb0 := ((Below.refl w.heap.size w).alloc (Nat.le_refl _) (.cells T.h.cells 30)).alloc (by simp) (.cells Vh.zero.cells 30)
  have P := (Whole.new w 30 T.h.cells).alloc (.cells Vh.zero.cells 30)
  have Q := Whole.new (w.alloc (.cells T.h.cells 30)) 30 Vh.zero.cells
  rw [World.size_alloc] at Q
  have HT := Lib.hid hT
  have HAN := Lib.hid (fun k => Vt.In.atN hT S k)
  obtain ⟨R, hR⟩ : ∃ R, T.get S n = R := ⟨_, rfl⟩
  rw [hR]
  have HR := Lib.hid hR
  clear hR ha hS hT
  obtain ⟨R1, R2⟩ := R
  dsimp only
  have n0 : (0 : Int) ≤ n := by omega
  have n1 : (n : Int) ≤ 1048576 := by omega
  simp only [Vh.cells, Vh.zero] at hb0 Q ⊢
  have hbB : w.heap.size ≤ w.heap.size := Nat.le_refl _
  go_enter Tryd.func23, Tryd.ntmps23
  go_wp2_with fail
  go_loopw [12] (fun i wr => ∃ (k : Nat) (U : Vt), k ≤ n ∧ i = .int .i64 k ∧ T.atN S k = (U, 0) ∧ Whole wr w.heap.size 30 U.h.cells ∧ Whole wr (w.heap.size + 1) 30 Vh.zero.cells ∧ Below w.heap.size w wr) (fun i _ => n - (intOf i).toNat)
  case atStart => exact ⟨0, T, by omega, rfl, rfl, P, Q, hb0⟩
  case round =>
    clear P Q hb0
    obtain ⟨k, U, hk, rfl, hU, P, Q, hbr⟩ := hrel
    have hki : (0 : Int) ≤ k := by omega
    have hUI : U.In w top := by have := HAN.out k; rw [hU] at this; exact this
    have hok : U.h.ok := by cases U with | nil => exact hUI.elim | mk h Y L K F => exact hUI.1
    have hsz := Whole.lt Q
    by_cases hkn : k < n
    · obtain ⟨e1, hlt⟩ := HA.out (by omega)
      subst e1
      have hki2 : (k : Int) < n := by omega
      obtain ⟨hl, hsk⟩ := HS.out k hkn
      have hl2 := hl.below hbr hlt
      obtain ⟨l0, l1, l2⟩ := hl2.s3
      have HUI := Lib.hid hUI
      have HUU := Lib.hid hU
      have HSk := Lib.hid hsk
      have HNx : Hid ((U.find (S k)).2 = 0 → T.atN S (k + 1) = (U.part (U.find (S k)).1.toNat, 0)) := Lib.hid fun h => by
        have := Vt.atN_next (T := T) (S := S) (k := k) (by rw [hU]) (by rw [hU]; exact h)
        rw [this, hU]
      have HBd : Hid ((U.find (S k)).2 ≠ 0 → (R1, R2) = (Vt.nil, (U.find (S k)).2)) := Lib.hid fun h => by
        rw [← HR.out, Vt.get_bad (k := k) (by rw [hU]) (by rw [hU]; exact h) hkn, hU]
      have hba := hbr.alloc hbr.size (.cells (S k).cells 50)
      have HC := Lib.hid (find_any (T := U) (s := S k) (w := wr.alloc (.cells (S k).cells 50)) (Vt.In.below (hba.mono ht) hUI) (Nat.le_trans ht hba.size) hsk.n)
      have PS := Whole.new wr 50 (S k).cells
      have PA := Whole.alloc P (.cells (S k).cells 50)
      have QA := Whole.alloc Q (.cells (S k).cells 50)
      clear hl hl2 hsk hU hUI
      generalize S k = s at *
      by_cases h0 : (U.find s).2 = 0
      case neg =>
        have hr := HBd.out h0
        rw [Prod.mk.injEq] at hr
        obtain ⟨hr1, hr2⟩ := hr
        rw [← hr2] at h0 HC
        have z1 : (R2 == 0) = false := beq_eq_false_iff_ne.2 h0
        have z2 : (R2 != 0) = true := by simpa using h0
        have HR1 := Lib.hid hr1
        clear HBd HNx h0 HR hr1 hr2
        generalize (U.find s).1 = I at *
        simp only [Stp.cells] at hba HC PA QA PS
        obtain ⟨c0, c1, c2, c3, c4, c5, c6, c7, c8, c9, c10, c11, c12⟩ := Whole.c13 (h := U.h) PA
        go_wp2_with fail
        refine HC.out.mono ?_; rintro _ w2 ⟨rfl, hb2⟩
        have Q2 := QA.below hb2 QA.lt
        have g2 := below_then hba hb2
        have hone := Lib.hid (vh_all Vh.zero)
        clear c0 c1 c2 c3 c4 c5 c6 c7 c8 c9 c10 c11 c12 l0 l1 l2
        go_wp2_with (refine wpList_store_row rfl 30 _ _ rfl (w.heap.size + 1) Vh.zero.cells rfl rfl 30 _ Q2 vh_row rfl hone.out ?_)
        exact bodyPost_ret (v := .tuple #[.agg Vh.zero.cells, .int .i64 R2]) (ret_val2 (p := 4) (q := 5) rfl rfl (Q2.setRow Vh.zero.cells)) rfl ⟨by rw [HR1.out]; rfl, below_setRow g2 (Nat.le_succ _) _⟩
      obtain ⟨i, ei, hc⟩ := Vt.find_ok h0
      have hnx := HNx.out h0
      rw [ei, Int.toNat_natCast] at hnx
      have HNx2 := Lib.hid hnx
      rw [ei, h0] at HC
      clear ei h0 HNx HBd hnx
      have i0 : (0 : Int) ≤ i := by omega
      have hUb := Lib.hid (fun (W : World) (hb : Below w.heap.size w W) => Vt.In.below (hb.mono ht) HUI.out)
      cases U with
      | nil => exact HUI.out.elim
      | mk h Y L K F =>
      dsimp only [Vt.h] at hc P PA HC hok
      have hln := hok.ln
      have hfn := hok.fn
      simp only [Stp.cells] at hba HC PA QA PS
      obtain ⟨c0, c1, c2, c3, c4, c5, c6, c7, c8, c9, c10, c11, c12⟩ := Whole.c13 (h := h) PA
      rcases hc with ⟨hix, k6, hi, -⟩ | ⟨hix, k7, hi, -⟩
      · obtain ⟨ix, key, m⟩ := s
        dsimp only at hix
        subst hix
        have epart : (Vt.mk h Y L K F).part i = L i := if_pos k6
        rw [epart] at HNx2
        clear epart k6
        have i1 : (i : Int) < h.ln := by omega
        go_wp2_with fail
        refine HC.out.mono ?_; rintro _ w2 ⟨rfl, hb2⟩
        have P2 := PA.below hb2 PA.lt
        have Q2 := QA.below hb2 QA.lt
        have S2 := PS.below hb2 PS.lt
        have g2 := below_then hba hb2
        have hI2 := hUb.out w2 g2
        obtain ⟨e1, hlt2⟩ := hI2.2.2.2.1 (show 0 < h.ln by omega)
        have hel := (hI2.2.2.2.2.1 i hi).1
        clear c0 c1 c2 c3 c4 c5 c6 c7 c8 c9 c10 c11 c12 l0 l1 l2 hI2
        obtain ⟨c0, c1, c2, c3, c4, c5, c6, c7, c8, c9, c10, c11, c12⟩ := Whole.c13 (h := h) P2
        obtain ⟨q0, q1, q2⟩ := Whole.b3 (s := ⟨true, key, m⟩) S2
        dsimp only at q0 q1 q2
        rw [e1] at c11
        obtain ⟨l0, l1, l2, l3, l4, l5, l6, l7, l8, l9, l10, l11, l12⟩ := hel.c13
        have hone := Lib.hid (vh_all (L i).h)
        have HB2 : Hid (w.heap.size + 1 < w2.heap.size) := Lib.hid (Whole.lt Q2)
        clear hel e1 c0 c1 c2 c3 c4 c5 c6 c7 c8 c9 c10 c12
        generalize hG : (L i).h = G at *
        have HG := Lib.hid hG
        clear hG
        go_wp2_with (refine wpList_store_row rfl 30 _ _ rfl w.heap.size G.cells rfl rfl 30 _ P2 vh_row rfl hone.out ?_)
        go_roundw
        case rel => exact ⟨k + 1, L i, by omega, by go_num, HNx2.out, by rw [HG.out]; exact P2.setRow G.cells, Q2.farRow (by omega) _, below_setRow g2 (Nat.le_refl _) _⟩
        case measure => simp [intOf]; omega
      · obtain ⟨ix, key, m⟩ := s
        dsimp only at hix
        subst hix
        have epart : (Vt.mk h Y L K F).part i = F i := if_neg (show ¬ h.k = 6 by rw [k7]; decide)
        rw [epart] at HNx2
        clear epart k7
        have i1 : (i : Int) < h.fn := by omega
        go_wp2_with fail
        refine HC.out.mono ?_; rintro _ w2 ⟨rfl, hb2⟩
        have P2 := PA.below hb2 PA.lt
        have Q2 := QA.below hb2 QA.lt
        have S2 := PS.below hb2 PS.lt
        have g2 := below_then hba hb2
        have hI2 := hUb.out w2 g2
        obtain ⟨e1, hlt2⟩ := hI2.2.2.2.2.2.1 (show 0 < h.fn by omega)
        have hel := (hI2.2.2.2.2.2.2 i hi).2.2.1
        clear c0 c1 c2 c3 c4 c5 c6 c7 c8 c9 c10 c11 c12 l0 l1 l2 hI2
        obtain ⟨c0, c1, c2, c3, c4, c5, c6, c7, c8, c9, c10, c11, c12⟩ := Whole.c13 (h := h) P2
        obtain ⟨q0, q1, q2⟩ := Whole.b3 (s := ⟨false, key, m⟩) S2
        dsimp only at q0 q1 q2
        rw [e1] at c12
        obtain ⟨l0, l1, l2, l3, l4, l5, l6, l7, l8, l9, l10, l11, l12⟩ := hel.c13
        have hone := Lib.hid (vh_all (F i).h)
        clear hel e1 c0 c1 c2 c3 c4 c5 c6 c7 c8 c9 c10 c11
        generalize hG : (F i).h = G at *
        have HG := Lib.hid hG
        clear hG
        go_wp2_with (refine wpList_store_row rfl 30 _ _ rfl w.heap.size G.cells rfl rfl 30 _ P2 vh_row rfl hone.out ?_)
        go_roundw
        case rel => exact ⟨k + 1, F i, by omega, by go_num, HNx2.out, by rw [HG.out]; exact P2.setRow G.cells, Q2.farRow (by omega) _, below_setRow g2 (Nat.le_refl _) _⟩
        case measure => simp [intOf]; omega
    · obtain rfl : k = n := by omega
      have hr : R1 = U ∧ R2 = 0 := by
        have := HR.out
        unfold Vt.get at this
        rw [if_pos (by rw [hU]), hU, Prod.mk.injEq] at this
        exact ⟨this.1.symm, this.2.symm⟩
      obtain ⟨rfl, rfl⟩ := hr
      have hone := Lib.hid (vh_all R1.h)
      obtain ⟨c0, c1, c2, c3, c4, c5, c6, c7, c8, c9, c10, c11, c12⟩ := Whole.c13 (h := R1.h) P
      clear HR HS HAN hkn hUI hU HA HT
      go_wp2_with (refine wpList_store_row rfl 30 _ _ rfl (w.heap.size + 1) R1.h.cells rfl rfl 30 _ Q vh_row rfl hone.out ?_)
      exact bodyPost_ret (v := .tuple #[.agg R1.h.cells, .int .i64 0]) (ret_val2 (p := 4) (q := 5) rfl rfl (Q.setRow R1.h.cells)) rfl ⟨rfl, below_setRow hbr (Nat.le_succ _) _⟩

set_option maxHeartbeats 8000000 in
set_option maxRecDepth 100000 in
theorem rget_any {T : Vt} {p : Pth} {top : Nat} {w : World} (hT : T.In w top) (hp : p.In w top) (ht : top ≤ w.heap.size) :
    Calls Tryd.prog 17 #[.agg T.h.cells, .slice p.a p.n p.c] w fun r w' => r = .returned (.tuple #[.agg (T.getV p.S p.n).1.h.cells, .int .i64 (T.getV p.S p.n).2]) ∧ Below w.heap.size w w' := by
  obtain ⟨a, n, c, b, o, S⟩ := p
  have HV := Lib.hid (fun (w1 : World) (hb : Below w.heap.size w w1) => rpvalid_any (Pth.In.below hp (hb.mono ht)) (Nat.le_trans ht hb.size))
  obtain ⟨ha, ⟨hn, _, _⟩, hS⟩ := hp
  dsimp only at ha hn hS HV ⊢
  have HA : Hid (0 < n → a = some ⟨b, o, none⟩ ∧ b < w.heap.size) := Lib.hid fun q => ⟨(ha q).1, Nat.lt_of_lt_of_le (ha q).2 ht⟩
  have HS := Lib.hid hS
  have hb0 := ((Below.refl w.heap.size w).alloc (Nat.le_refl _) (.cells T.h.cells 30)).alloc (by simp) (.cells Vh.zero.cells 30)
  have P := (Whole.new w 30 T.h.cells).alloc (.cells Vh.zero.cells 30)
  have Q := Whole.new (w.alloc (.cells T.h.cells 30)) 30 Vh.zero.cells
  rw [World.size_alloc] at Q
  have HT := Lib.hid hT
  have HAN := Lib.hid (fun k => Vt.In.atN hT S k)
  obtain ⟨R, hR⟩ : ∃ R, T.getV S n = R := ⟨_, rfl⟩
  rw [hR]
  have HR := Lib.hid hR
  clear hR ha hS hT
  obtain ⟨R1, R2⟩ := R
  dsimp only
  have n0 : (0 : Int) ≤ n := by omega
  have n1 : (n : Int) ≤ 1048576 := by omega
  simp only [Vh.cells, Vh.zero] at hb0 Q ⊢
  have hbB : w.heap.size ≤ w.heap.size := Nat.le_refl _
  obtain ⟨B, hB⟩ : ∃ B, pathB S n = B := ⟨_, rfl⟩
  rw [hB] at HV
  unfold Vt.getV at HR
  rw [hB] at HR
  clear hB
  cases B
  · have hr := HR.out
    rw [if_neg (by decide), Prod.mk.injEq] at hr
    obtain ⟨rfl, rfl⟩ := hr
    have hone := Lib.hid (vh_all Vh.zero)
    clear HR HT HAN HS HA
    go_enter Tryd.func17, Tryd.ntmps17
    go_wp2_with fail
    refine (HV.out _ hb0).mono ?_; rintro _ w1 ⟨rfl, hb1⟩
    have Q1 := Q.below hb1 Q.lt
    go_wp2_with (refine wpList_store_row rfl 30 _ _ rfl (w.heap.size + 1) Vh.zero.cells rfl rfl 30 _ Q1 vh_row rfl hone.out ?_)
    exact bodyPost_ret (v := .tuple #[.agg Vh.zero.cells, .int .i64 1]) (ret_val2 (p := 4) (q := 5) rfl rfl (Q1.setRow Vh.zero.cells)) rfl ⟨rfl, below_setRow (below_then hb0 hb1) (Nat.le_succ _) _⟩
  have HR2 : Hid (T.get S n = (R1, R2)) := Lib.hid (by rw [← HR.out, if_pos rfl])
  clear HR
  have HR := HR2
  clear HR2
  go_enter Tryd.func17, Tryd.ntmps17
  go_wp2_with fail
  refine (HV.out _ hb0).mono ?_; rintro _ w1 ⟨rfl, hb1⟩
  replace P := P.below hb1 P.lt
  replace Q := Q.below hb1 Q.lt
  replace hb0 := below_then hb0 hb1
  clear hb1 HV
  go_wp2_with fail
  go_loopw [6] (fun i wr => ∃ (k : Nat) (U : Vt), k ≤ n ∧ i = .int .i64 k ∧ T.atN S k = (U, 0) ∧ Whole wr w.heap.size 30 U.h.cells ∧ Whole wr (w.heap.size + 1) 30 Vh.zero.cells ∧ Below w.heap.size w wr) (fun i _ => n - (intOf i).toNat)
  case atStart => exact ⟨0, T, by omega, rfl, rfl, P, Q, hb0⟩
  case round =>
    clear P Q hb0
    obtain ⟨k, U, hk, rfl, hU, P, Q, hbr⟩ := hrel
    have hki : (0 : Int) ≤ k := by omega
    have hUI : U.In w top := by have := HAN.out k; rw [hU] at this; exact this
    have hok : U.h.ok := by cases U with | nil => exact hUI.elim | mk h Y L K F => exact hUI.1
    have hsz := Whole.lt Q
    by_cases hkn : k < n
    · obtain ⟨e1, hlt⟩ := HA.out (by omega)
      subst e1
      have hki2 : (k : Int) < n := by omega
      obtain ⟨hl, hsk⟩ := HS.out k hkn
      have hl2 := hl.below hbr hlt
      obtain ⟨l0, l1, l2⟩ := hl2.s3
      have HUI := Lib.hid hUI
      have HUU := Lib.hid hU
      have HSk := Lib.hid hsk
      have HNx : Hid ((U.find (S k)).2 = 0 → T.atN S (k + 1) = (U.part (U.find (S k)).1.toNat, 0)) := Lib.hid fun h => by
        have := Vt.atN_next (T := T) (S := S) (k := k) (by rw [hU]) (by rw [hU]; exact h)
        rw [this, hU]
      have HBd : Hid ((U.find (S k)).2 ≠ 0 → (R1, R2) = (Vt.nil, (U.find (S k)).2)) := Lib.hid fun h => by
        rw [← HR.out, Vt.get_bad (k := k) (by rw [hU]) (by rw [hU]; exact h) hkn, hU]
      have HLs := Lib.hid (fun (W : World) (hb : Below w.heap.size w W) => hl.below hb hlt)
      have HC := Lib.hid (fun (W : World) (hb : Below w.heap.size w W) => rfind_any (T := U) (s := S k) (w := W) (Vt.In.below (hb.mono ht) hUI) (Nat.le_trans ht hb.size) hsk.n)
      have HPt := Lib.hid (fun (h0 : (U.find (S k)).2 = 0) (W : World) (hb : Below w.heap.size w W) => part_any (T := U) (s := S k) (w := W) (Vt.In.below (hb.mono ht) hUI) (Nat.le_trans ht hb.size) h0)
      clear hl hl2 hsk hU hUI l0 l1 l2
      generalize S k = s at *
      have hPlt := Whole.lt P
      by_cases h0 : (U.find s).2 = 0
      case neg =>
        have hr := HBd.out h0
        rw [Prod.mk.injEq] at hr
        obtain ⟨hr1, hr2⟩ := hr
        rw [← hr2] at h0 HC
        have z1 : (R2 == 0) = false := beq_eq_false_iff_ne.2 h0
        have z2 : (R2 != 0) = true := by simpa using h0
        have HR1 := Lib.hid hr1
        clear HBd HNx h0 HR hr1 hr2 HPt
        generalize (U.find s).1 = I at *
        go_wp2_with fail
        go_region_held3 (fun W => W.cell? ⟨w.heap.size, 0, none⟩ = some (.int .i64 U.h.k) ∧ W.cell? ⟨w.heap.size, 1, none⟩ = some (.bool U.h.b) ∧ W.cell? ⟨w.heap.size, 2, none⟩ = some (.bool U.h.n) ∧ W.cell? ⟨w.heap.size, 3, none⟩ = some (.string U.h.d) ∧ W.cell? ⟨w.heap.size, 4, none⟩ = some (.int .i64 U.h.e) ∧ W.cell? ⟨w.heap.size, 5, none⟩ = some (.int .i64 U.h.tk) ∧ W.cell? ⟨w.heap.size, 6, none⟩ = some (.int .i64 U.h.td) ∧ W.cell? ⟨w.heap.size, 7, none⟩ = some (.int .i64 U.h.tn) ∧ W.cell? ⟨w.heap.size, 8, none⟩ = some (.int .i64 U.h.tz) ∧ W.cell? ⟨w.heap.size, 9, none⟩ = some (.string U.h.x) ∧ W.cell? ⟨w.heap.size, 10, none⟩ = some (.slice U.h.ba U.h.bn U.h.bc) ∧ W.cell? ⟨w.heap.size, 11, none⟩ = some (.slice U.h.la U.h.ln U.h.lc) ∧ W.cell? ⟨w.heap.size, 12, none⟩ = some (.slice U.h.fa U.h.fn U.h.fc) ∧ W.cell? ⟨b, o + k * 3, none⟩ = some (.bool s.ix) ∧ W.cell? ⟨b, o + k * 3 + 1, none⟩ = some (.string s.key) ∧ W.cell? ⟨b, o + k * 3 + 2, none⟩ = some (.int .i64 s.n) ∧ Below w.heap.size w W) (first | exact v13_of (Whole.drew P) (HLs.out _ (Below.drew hbr)) (Below.drew hbr) | exact v13_of P2 L2 g2)
          (first
            | (go_at_call 39
               refine (HC.out _ (Below.drew hbr)).mono ?_
               rintro _ w2 ⟨rfl, hb2⟩
               have P2 := Whole.below (Whole.drew P) hb2 hPlt
               have g2 := below_then (Below.drew hbr) hb2
               have L2 := HLs.out _ g2)
            | fail)
        have Q2 := Whole.below (Whole.drew Q) hb2 (Whole.lt Q)
        have hone := Lib.hid (vh_all Vh.zero)
        clear P2 L2 P Q
        go_wp2_with (refine wpList_store_row rfl 30 _ _ rfl (w.heap.size + 1) Vh.zero.cells rfl rfl 30 _ Q2 vh_row rfl hone.out ?_)
        exact bodyPost_ret (v := .tuple #[.agg Vh.zero.cells, .int .i64 R2]) (ret_val2 (p := 4) (q := 5) rfl rfl (Q2.setRow Vh.zero.cells)) rfl ⟨by rw [HR1.out]; rfl, below_setRow g2 (Nat.le_succ _) _⟩
      have HNx2 := Lib.hid (HNx.out h0)
      have HPt2 := Lib.hid (HPt.out h0)
      rw [h0] at HC
      have HPI := Lib.hid (Vt.In.part HUI.out h0)
      have hI : ∃ i : Nat, (U.find s).1 = i := by
        obtain ⟨i, ei, _⟩ := Vt.find_ok h0
        exact ⟨i, ei⟩
      clear h0 HNx HBd HPt
      generalize hG : U.part (U.find s).1.toNat = V at *
      generalize (U.find s).1 = I at *
      clear hI
      go_wp2_with fail
      go_region_held3 (fun W => W.cell? ⟨w.heap.size, 0, none⟩ = some (.int .i64 U.h.k) ∧ W.cell? ⟨w.heap.size, 1, none⟩ = some (.bool U.h.b) ∧ W.cell? ⟨w.heap.size, 2, none⟩ = some (.bool U.h.n) ∧ W.cell? ⟨w.heap.size, 3, none⟩ = some (.string U.h.d) ∧ W.cell? ⟨w.heap.size, 4, none⟩ = some (.int .i64 U.h.e) ∧ W.cell? ⟨w.heap.size, 5, none⟩ = some (.int .i64 U.h.tk) ∧ W.cell? ⟨w.heap.size, 6, none⟩ = some (.int .i64 U.h.td) ∧ W.cell? ⟨w.heap.size, 7, none⟩ = some (.int .i64 U.h.tn) ∧ W.cell? ⟨w.heap.size, 8, none⟩ = some (.int .i64 U.h.tz) ∧ W.cell? ⟨w.heap.size, 9, none⟩ = some (.string U.h.x) ∧ W.cell? ⟨w.heap.size, 10, none⟩ = some (.slice U.h.ba U.h.bn U.h.bc) ∧ W.cell? ⟨w.heap.size, 11, none⟩ = some (.slice U.h.la U.h.ln U.h.lc) ∧ W.cell? ⟨w.heap.size, 12, none⟩ = some (.slice U.h.fa U.h.fn U.h.fc) ∧ W.cell? ⟨b, o + k * 3, none⟩ = some (.bool s.ix) ∧ W.cell? ⟨b, o + k * 3 + 1, none⟩ = some (.string s.key) ∧ W.cell? ⟨b, o + k * 3 + 2, none⟩ = some (.int .i64 s.n) ∧ Below w.heap.size w W) (first | exact v13_of (Whole.drew P) (HLs.out _ (Below.drew hbr)) (Below.drew hbr) | exact v13_of P2 L2 g2)
          (first
            | (go_at_call 39
               refine (HC.out _ (Below.drew hbr)).mono ?_
               rintro _ w2 ⟨rfl, hb2⟩
               have P2 := Whole.below (Whole.drew P) hb2 hPlt
               have g2 := below_then (Below.drew hbr) hb2
               have L2 := HLs.out _ g2)
            | fail)
      have Q2 := Whole.below (Whole.drew Q) hb2 (Whole.lt Q)
      obtain ⟨c0, c1, c2, c3, c4, c5, c6, c7, c8, c9, c10, c11, c12⟩ := Whole.c13 (h := U.h) P2
      clear L2 P Q
      go_wp2_with fail
      refine (HPt2.out _ g2).mono ?_; rintro _ w3 ⟨rfl, hb3⟩
      have P3 := Whole.below P2 hb3 (Whole.lt P2)
      have Q3 := Whole.below Q2 hb3 (Whole.lt Q2)
      have g3 := below_then g2 hb3
      have hone := Lib.hid (vh_all V.h)
      clear c0 c1 c2 c3 c4 c5 c6 c7 c8 c9 c10 c11 c12 P2 Q2 g2
      go_wp2_with (refine wpList_store_row rfl 30 _ _ rfl w.heap.size V.h.cells rfl rfl 30 _ P3 vh_row rfl hone.out ?_)
      go_roundw
      case rel => exact ⟨k + 1, V, by omega, by go_num, HNx2.out, P3.setRow V.h.cells, Q3.farRow (by omega) _, below_setRow g3 (Nat.le_refl _) _⟩
      case measure => simp [intOf]; omega
    · obtain rfl : k = n := by omega
      have hr : R1 = U ∧ R2 = 0 := by
        have := HR.out
        unfold Vt.get at this
        rw [if_pos (by rw [hU]), hU, Prod.mk.injEq] at this
        exact ⟨this.1.symm, this.2.symm⟩
      obtain ⟨rfl, rfl⟩ := hr
      have hone := Lib.hid (vh_all R1.h)
      obtain ⟨c0, c1, c2, c3, c4, c5, c6, c7, c8, c9, c10, c11, c12⟩ := Whole.c13 (h := R1.h) P
      clear HR HS HAN hkn hUI hU HA HT
      go_wp2_with (refine wpList_store_row rfl 30 _ _ rfl (w.heap.size + 1) R1.h.cells rfl rfl 30 _ Q vh_row rfl hone.out ?_)
      exact bodyPost_ret (v := .tuple #[.agg R1.h.cells, .int .i64 0]) (ret_val2 (p := 4) (q := 5) rfl rfl (Q.setRow R1.h.cells)) rfl ⟨rfl, below_setRow hbr (Nat.le_succ _) _⟩

end Go.Proofs.YtfkfboiblgoamaaDoor
