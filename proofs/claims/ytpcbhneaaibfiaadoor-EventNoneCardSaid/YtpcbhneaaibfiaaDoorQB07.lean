/- Laid together for a claim: VDigWalks, VDigNum, VDigText, VDigShift, VDecValid, VCalMath, VCalWalks. -/
import Derived.Test.YtpcbhneaaibfiaaDoorQB06
import Derived.Test.YtpcbhneaaibfiaaDoorProg
import Derived.Below
import Derived.Outline
import Derived.LoopTactic
import Derived.LoopN
import Derived.WalkLawsBesides
import Derived.WalkSpells
import Derived.Laws.IdiomStrings
import Derived.Lib.Strings
import Derived.Lib.TrimByte
import Derived.Lib.Repeat
import Derived.Lib.Hide
import Derived.Test.YtpcbhneaaibfiaaDoorQB04
import Derived.OwnWalk
import Derived.Deep.OwnRows
import Derived.WalkKit
/- Numerals: digits alone, and what is a numeral (printed by gen_dig1.py). -/
namespace Go.Proofs.YtpcbhneaaibfiaaDoor
open Go.RowKit

namespace Dig
def l (x : ByteArray) : List UInt8 := x.data.toList
theorem l_len (x : ByteArray) : (l x).length = x.size := by unfold l; rw [Array.length_toList]; rfl
theorem l_get {x : ByteArray} {i : Nat} (h : i < x.size) : (l x)[i]'(by rw [l_len]; exact h) = x[i] := rfl
theorem alld_iff (x : ByteArray) : alld (l x) ↔ ∀ i (h : i < x.size), isd x[i] := by
  constructor
  · intro h i hi
    exact h _ (by rw [← l_get hi]; exact List.getElem_mem _)
  · intro h b hb
    obtain ⟨i, hi, rfl⟩ := List.getElem_of_mem hb
    exact h i (by rw [← l_len]; exact hi)
instance (x : List UInt8) : Decidable (alld x) := by unfold alld; infer_instance
def bs (l : List UInt8) : ByteArray := ⟨l.toArray⟩
theorem bs_size (k : List UInt8) : (bs k).size = k.length := by simp [bs, ByteArray.size]
theorem l_bs (k : List UInt8) : l (bs k) = k := by simp [l, bs]
theorem bs_l (x : ByteArray) : bs (l x) = x := by simp [l, bs]
theorem first_bad (x : ByteArray) : ∀ n : Nat, n ≤ x.size → (∀ i (h : i < x.size), i < n → isd x[i]) ∨ ∃ j, ∃ h : j < x.size, j < n ∧ (∀ i (h : i < x.size), i < j → isd x[i]) ∧ ¬ isd x[j] := by
  intro n
  induction n with
  | zero => intro _; exact Or.inl (fun i _ hi => by omega)
  | succ n ih =>
    intro hn
    rcases ih (by omega) with h | ⟨j, hj, h0, h1, h2⟩
    · by_cases hd : isd (x[n]'(by omega))
      · refine Or.inl (fun i hi hin => ?_)
        rcases Nat.lt_or_ge i n with g | g
        · exact h i hi g
        · obtain rfl : i = n := by omega
          exact hd
      · exact Or.inr ⟨n, by omega, by omega, h, hd⟩
    · exact Or.inr ⟨j, hj, by omega, h1, h2⟩
end Dig


set_option maxHeartbeats 1000000 in
theorem rdig_go {x : ByteArray} {j : Nat} (hx : x.size ≤ maxLen) (hj : j ≤ x.size) (h : ∀ i (h : i < x.size), i < j → Dig.isd x[i]) (hn : ∀ h : j < x.size, ¬ Dig.isd x[j]) (w : World) :
    Calls Tryd.prog 92 #[.string x] w fun e w' => e = .returned (.bool (decide (j = x.size))) ∧ w = w' := by
  have H := Lib.hid h; clear h
  have HN := Lib.hid hn; clear hn
  obtain ⟨R, hR⟩ : ∃ r, decide (j = x.size) = r := ⟨_, rfl⟩
  rw [hR]
  have HR := Lib.hid hR; clear hR
  unfold maxLen at hx
  go_enter Tryd.func92, Tryd.ntmps92
  go_wp2_with fail
  go_loop [3] (fun i => ∃ k : Nat, k ≤ j ∧ i = .int .i64 k) (fun i => x.size - (intOf i).toNat)
  case atStart => exact ⟨0, by omega, rfl⟩
  case round =>
    obtain ⟨k, hk, rfl⟩ := hrel
    have hk1 : (0 : Int) ≤ k := by omega
    by_cases hkf : k = x.size
    · have hR2 : R = true := by rw [← HR.out]; exact decide_eq_true (by omega)
      subst hR2
      subst hkf
      go_wp2
      go_ret
      exact ⟨rfl, rfl⟩
    have hkx : k < x.size := by omega
    have hk2 : (k : Int) < x.size := by omega
    have hd : Dig.isd x[k] ↔ (48 ≤ x[k].toNat ∧ x[k].toNat ≤ 57) := Iff.rfl
    by_cases h1 : x[k].toNat < 48
    · have hkj : j = k := by
        rcases Nat.lt_or_ge k j with g | g
        · have := hd.1 (H.out k hkx g); omega
        · omega
      have hR2 : R = false := by rw [← HR.out]; exact decide_eq_false (by omega)
      subst hR2
      have d1 : decide ((x[k].toNat : Int) < 48) = true := decide_eq_true (by omega)
      clear hd hkj hkf
      go_wp2
      go_ret
      exact ⟨rfl, rfl⟩
    by_cases h2 : 57 < x[k].toNat
    · have hkj : j = k := by
        rcases Nat.lt_or_ge k j with g | g
        · have := hd.1 (H.out k hkx g); omega
        · omega
      have hR2 : R = false := by rw [← HR.out]; exact decide_eq_false (by omega)
      subst hR2
      have d1 : decide ((x[k].toNat : Int) < 48) = false := decide_eq_false (by omega)
      have d2 : decide (57 < (x[k].toNat : Int)) = true := decide_eq_true (by omega)
      clear hd hkj hkf
      go_wp2
      go_ret
      exact ⟨rfl, rfl⟩
    have hkj : k < j := by
      rcases Nat.lt_or_ge k j with g | g
      · exact g
      · obtain rfl : k = j := by omega
        exact absurd (hd.2 (by omega)) (HN.out hkx)
    have d1 : decide ((x[k].toNat : Int) < 48) = false := decide_eq_false (by omega)
    have d2 : decide (57 < (x[k].toNat : Int)) = false := decide_eq_false (by omega)
    clear hd hkf
    go_wp2
    go_round
    case rel => exact ⟨k + 1, by omega, by go_num⟩
    case measure => simp [intOf]; omega
theorem rdig_any {x : ByteArray} (hx : x.size ≤ maxLen) (w : World) :
    Calls Tryd.prog 92 #[.string x] w fun e w' => e = .returned (.bool (decide (Dig.alld (Dig.l x)))) ∧ w = w' := by
  rcases Dig.first_bad x x.size (Nat.le_refl _) with h | ⟨j, hj, _, h1, h2⟩
  · rw [decide_eq_true ((Dig.alld_iff x).2 (fun i hi => h i hi hi))]
    have := rdig_go hx (Nat.le_refl _) h (fun g => absurd g (Nat.lt_irrefl _)) w
    rwa [decide_eq_true rfl] at this
  · rw [decide_eq_false (fun g => h2 ((Dig.alld_iff x).1 g j hj))]
    have := rdig_go hx (Nat.le_of_lt hj) h1 (fun _ => h2) w
    rwa [decide_eq_false (by omega)] at this


/-! ### numerals -/
namespace Dig
/-- A numeral. -/
def vld (x : ByteArray) : Prop := x.size ≤ 600 ∧ alld (l x) ∧ (x.size = 0 ∨ ∀ h : 0 < x.size, x[0].toNat ≠ 48)
instance (x : ByteArray) : Decidable (vld x) := by
  unfold vld
  exact instDecidableAnd (dq := instDecidableAnd (dq := instDecidableOr (dq := if h : 0 < x.size then (if g : x[0].toNat = 48 then isFalse (fun k => k h g) else isTrue (fun _ => g)) else isTrue (fun k => absurd k h))))
theorem nil_of {x : ByteArray} (h : x.size = 0) : x.toList.isEmpty = true := by
  rw [Lib.toList_data]
  have : x.data.toList.length = 0 := by rw [Array.length_toList]; exact h
  simp [List.eq_nil_of_length_eq_zero this]
theorem some_of {x : ByteArray} (h : 0 < x.size) : x.toList.isEmpty = false := by
  rw [Lib.toList_data]
  cases g : x.data.toList with
  | nil => have : x.size = 0 := by rw [← ByteArray.size_data, ← Array.length_toList, g]; rfl
           omega
  | cons _ _ => rfl
end Dig


set_option maxHeartbeats 1000000 in
theorem rdigs_any {x : ByteArray} (hx : x.size ≤ maxLen) (w : World) :
    Calls Tryd.prog 81 #[.string x] w fun e w' => e = .returned (.bool (decide (Dig.vld x))) ∧ w = w' := by
  have HA := Lib.hid (rdig_any hx)
  obtain ⟨R, hR⟩ : ∃ r, decide (Dig.vld x) = r := ⟨_, rfl⟩
  rw [hR]
  by_cases h6 : x.size ≤ 600
  case neg =>
    have : R = false := by rw [← hR]; exact decide_eq_false (fun g => h6 g.1)
    subst this
    have d1 : decide ((x.size : Int) ≤ 600) = false := decide_eq_false (by omega)
    clear hR h6 hx
    go_enter Tryd.func81, Tryd.ntmps81
    go_wp2
    go_ret
    exact ⟨rfl, rfl⟩
  have d1 : decide ((x.size : Int) ≤ 600) = true := decide_eq_true (by omega)
  by_cases ha : Dig.alld (Dig.l x)
  case neg =>
    have : R = false := by rw [← hR]; exact decide_eq_false (fun g => ha g.2.1)
    subst this
    rw [decide_eq_false ha] at HA
    clear hR h6 hx ha
    go_enter Tryd.func81, Tryd.ntmps81
    go_wp2_with fail
    refine (HA.out _).mono ?_; rintro e w' ⟨rfl, rfl⟩
    go_wp2
    go_ret
    exact ⟨rfl, rfl⟩
  rw [decide_eq_true ha] at HA
  by_cases h0 : x.size = 0
  · have : R = true := by rw [← hR]; exact decide_eq_true ⟨h6, ha, Or.inl h0⟩
    subst this
    have e0 := Dig.nil_of h0
    have d2 : ((x.size : Int) == 0) = true := beq_iff_eq.2 (by omega)
    clear hR h6 hx ha h0
    go_enter Tryd.func81, Tryd.ntmps81
    go_wp2_with fail
    refine (HA.out _).mono ?_; rintro e w' ⟨rfl, rfl⟩
    go_wp2
    go_ret
    exact ⟨rfl, rfl⟩
  have hp : 0 < x.size := by omega
  have hp2 : (0 : Int) < x.size := by omega
  have e0 := Dig.some_of hp
  have d2 : ((x.size : Int) == 0) = false := beq_eq_false_iff_ne.2 (by omega)
  by_cases hb : x[0].toNat = 48
  · have : R = false := by
      rw [← hR]
      refine decide_eq_false (fun g => ?_)
      rcases g.2.2 with k | k
      · exact h0 k
      · exact k hp hb
    subst this
    have d3 : ((x[0].toNat : Int) != 48) = false := by simp [hb]
    clear hR h6 hx ha h0 hb
    go_enter Tryd.func81, Tryd.ntmps81
    go_wp2_with fail
    refine (HA.out _).mono ?_; rintro e w' ⟨rfl, rfl⟩
    go_wp2
    go_ret
    exact ⟨rfl, rfl⟩
  · have : R = true := by rw [← hR]; exact decide_eq_true ⟨h6, ha, Or.inr (fun _ => hb)⟩
    subst this
    have d3 : ((x[0].toNat : Int) != 48) = true := by simp; omega
    clear hR h6 hx ha h0 hb
    go_enter Tryd.func81, Tryd.ntmps81
    go_wp2_with fail
    refine (HA.out _).mono ?_; rintro e w' ⟨rfl, rfl⟩
    go_wp2
    go_ret
    exact ⟨rfl, rfl⟩

end Go.Proofs.YtpcbhneaaibfiaaDoor
/- Numerals: strip, digit, limited: of the program and of the reference. -/
namespace Go.Proofs.YtpcbhneaaibfiaaDoor
open Go.RowKit

namespace Dig
def V (x : ByteArray) : Nat := val (l x)
/-- Digits alone, and not far too many. -/
structure Str (x : ByteArray) : Prop where
  d : alld (l x)
  size : x.size ≤ 1000000
theorem Str.max {x : ByteArray} (h : Str x) : x.size ≤ maxLen := by have := h.size; unfold maxLen; omega
theorem Str.isd {x : ByteArray} (h : Str x) {i : Nat} (hi : i < x.size) : 48 ≤ x[i].toNat ∧ x[i].toNat ≤ 57 := (alld_iff x).1 h.d i hi
/-- The string of a number. -/
def st (n : Nat) : ByteArray := bs (num n)
theorem l_st (n : Nat) : l (st n) = num n := l_bs _
theorem V_st (n : Nat) : V (st n) = n := by unfold V; rw [l_st, val_num]
/-- A power of ten. -/
def big (k : Nat) : Nat := 10 ^ k
theorem V_lt {x : ByteArray} (h : Str x) : V x < big x.size := by have := val_lt h.d; rwa [l_len] at this
theorem st_size (n k : Nat) : (st n).size ≤ k ↔ n < big k := by unfold st; rw [bs_size]; exact num_len n k
theorem big_le {a b : Nat} (h : a ≤ b) : big a ≤ big b := Nat.pow_le_pow_right (by omega) h
theorem st_str {n : Nat} (h : n < big 1000000) : Str (st n) := ⟨by rw [l_st]; exact num_alld n, (st_size n _).2 h⟩
theorem st_strip {x : ByteArray} (h : alld (l x)) : bs (strip (l x)) = st (V x) := by unfold st V; rw [strip_num h]
theorem st_inj {a b : Nat} (h : st a = st b) : a = b := by rw [← V_st a, h, V_st]
theorem list_dg {k : List UInt8} : alld k → ∀ i (h : i < k.length), (k[k.length - 1 - i]'(by omega)).toNat = 48 + dg (val k) i := by
  induction k using list_snoc with
  | h0 => intro _ i h; simp at h
  | h1 k b ih =>
    intro hd i h
    obtain ⟨h1, h2⟩ := alld_snoc hd
    unfold isd at h2
    rw [List.length_append, List.length_singleton] at h
    rw [val_snoc]
    cases i with
    | zero =>
      rw [List.getElem_append_right (by simp)]
      simp only [List.length_append, List.length_singleton, Nat.add_sub_cancel, Nat.sub_zero, Nat.sub_self, List.getElem_singleton]
      unfold dg
      rw [Nat.pow_zero, Nat.div_one]
      omega
    | succ i =>
      have := ih h1 i (by omega)
      rw [dg_succ, show (10 * val k + (b.toNat - 48)) / 10 = val k by omega, ← this]
      rw [List.getElem_append_left (by simp; omega)]
      congr 2
      simp
      omega
theorem str_dg {x : ByteArray} (h : Str x) {i : Nat} (hi : i < x.size) : (x[x.size - 1 - i]'(by omega)).toNat = 48 + dg (V x) i := by
  have := list_dg h.d i (by rw [l_len]; exact hi)
  show _ = 48 + dg (val (l x)) i
  rw [← this]
  congr 1
theorem str_dg0 {x : ByteArray} (h : Str x) {i : Nat} (hi : x.size ≤ i) : dg (V x) i = 0 :=
  dg_zero (show V x < big i from Nat.lt_of_lt_of_le (V_lt h) (big_le hi))
theorem vld_str {x : ByteArray} (h : vld x) : Str x := ⟨h.2.1, by have := h.1; omega⟩
theorem vld_st {x : ByteArray} (h : vld x) : x = st (V x) ∧ V x < big 600 := by
  have hs : strip (l x) = l x := by
    rcases h.2.2 with k | k
    · have : l x = [] := List.eq_nil_of_length_eq_zero (by rw [l_len]; exact k)
      rw [this]; rfl
    · cases hl : l x with
      | nil => rfl
      | cons a t =>
        have h0 : 0 < x.size := by rw [← l_len, hl]; simp
        have e : x[0] = a := by
          have := l_get h0
          rw [← this]
          simp [hl]
        have hne : (a == 48) = false := beq_eq_false_iff_ne.2 (fun e2 => k h0 (by rw [e, e2]; rfl))
        unfold strip
        rw [List.dropWhile_cons, if_neg (by rw [hne]; decide)]
  refine ⟨?_, ?_⟩
  · have := st_strip h.2.1
    rw [hs, bs_l] at this
    exact this
  · have := V_lt (vld_str h)
    have h6 := h.1
    exact Nat.lt_of_lt_of_le this (big_le h6)
theorem st_vld {n : Nat} (h : n < big 600) : vld (st n) := by
  have hs := (st_size n 600).2 h
  refine ⟨hs, by rw [l_st]; exact num_alld n, ?_⟩
  rcases Nat.eq_zero_or_pos (st n).size with k | k
  · exact Or.inl k
  · refine Or.inr (fun h0 e => ?_)
    have h1 := num_strip n
    have e2 : (st n)[0] = (num n)[0]'(by unfold st at k; rw [bs_size] at k; exact k) := rfl
    rw [e2] at e
    cases hn : num n with
    | nil => unfold st at k; rw [bs_size, hn] at k; simp at k
    | cons a t =>
      simp only [hn, List.getElem_cons_zero] at e
      have ea : a = 48 := UInt8.toNat_inj.1 e
      rw [hn] at h1
      unfold strip at h1
      rw [List.dropWhile_cons, if_pos (by rw [ea]; rfl)] at h1
      have := congrArg List.length h1
      have := (List.dropWhile_suffix (l := t) (fun b => b == 48)).length_le
      simp at *
      omega
theorem trimLeftB_strip (k : List UInt8) : Go.Lib.trimLeftB k 48 = strip k := by
  unfold strip
  first | rfl | (unfold Go.Lib.trimLeftB; rfl)
end Dig

theorem ret_int {a b : Int} (h : a = b) : Ending.returned (Value.int .i64 a) = .returned (.int .i64 b) := by rw [h]
theorem ret_st {a b : ByteArray} (h : a = b) : Ending.returned (Value.string a) = .returned (.string b) := by rw [h]
end Go.Proofs.YtpcbhneaaibfiaaDoor
/- Numerals: the text of digits in memory (printed by gen_dig2.py). -/
namespace Go.Proofs.YtpcbhneaaibfiaaDoor
open Go.RowKit

/-! ### a block by a function -/
def fcells (n : Nat) (f : Nat → Value) : Array Value := ((List.range n).map f).toArray
theorem fcells_size (n : Nat) (f : Nat → Value) : (fcells n f).size = n := by simp [fcells]
theorem fcells_get {n : Nat} {f : Nat → Value} {i : Nat} (h : i < n) : (fcells n f)[i]? = some (f i) := by simp [fcells, h]
theorem fcells_congr {n : Nat} {f g : Nat → Value} (h : ∀ j, j < n → f j = g j) : fcells n f = fcells n g := by
  unfold fcells
  congr 1
  exact List.map_congr_left (fun j hj => h j (List.mem_range.1 hj))
theorem fcells_set (n : Nat) (f : Nat → Value) (i : Nat) (v : Value) : (fcells n f).setIfInBounds i v = fcells n (fun j => if j = i then v else f j) := by
  apply Array.ext
  · simp [fcells]
  · intro j h1 h2
    simp only [fcells, List.getElem_toArray, List.getElem_map, List.getElem_range]
    by_cases e : i = j
    · subst e; simp
    · simp [e, Ne.symm e]
theorem fcells_made (n : Nat) (z : Value) : madeCells #[z] n = fcells n (fun _ => z) := by
  apply Array.ext
  · simp [madeCells, fcells]
  · intro i h1 h2
    simp [madeCells, fcells, Nat.mod_one]
theorem Whole.fcell {W : World} {B : Nat} {t : TypeId} {n i : Nat} {f : Nat → Value} (h : Whole W B t (fcells n f)) (hi : i < n) : W.cell? ⟨B, i, none⟩ = some (f i) := (h.cell i).trans (fcells_get hi)
theorem Whole.fset {W : World} {B : Nat} {t : TypeId} {n i : Nat} {f g : Nat → Value} {v : Value} (h : Whole W B t (fcells n f)) (hv : g i = v) (hg : ∀ j, j < n → j ≠ i → g j = f j) : Whole (W.setCell ⟨B, i, none⟩ v) B t (fcells n g) := by
  have := h.set i v
  rw [fcells_set] at this
  rw [fcells_congr (g := fun j => if j = i then v else f j) (fun j hjn => by
    by_cases e : j = i
    · subst e; simp [hv]
    · simp [e, hg j hjn e])]
  exact this
theorem Tryd.infoByte : (Tryd.prog.info? 5).map (fun i => (i.zero, i.size, i.bytes)) = some (some (.int .u8 0), 1, 1) := by kernel_rfl
theorem make_bytes {n : Nat} (h : n ≤ 100000000) (w : World) : (Instr.makeSlice 26 (.int .i64 (n : Int)) (.int .i64 (n : Int))).run Tryd.prog w = .ok (.slice (some ⟨w.heap.size, 0, none⟩) n n) (w.alloc (.cells (fcells n (fun _ => .int .u8 0)) 5)) := by
  rw [← fcells_made]
  exact run_make_row' (P := Tryd.prog) 26 5 (.int .u8 0) 1 Tryd.underlying26 Tryd.infoByte rfl .i64 .i64 n (by omega) (by omega) w
theorem make_ints {n : Nat} (h : n ≤ 100000000) (w : World) : (Instr.makeSlice 111 (.int .i64 (n : Int)) (.int .i64 (n : Int))).run Tryd.prog w = .ok (.slice (some ⟨w.heap.size, 0, none⟩) n n) (w.alloc (.cells (fcells n (fun _ => .int .i64 0)) 3)) := by
  rw [← fcells_made]
  exact run_make_row' (P := Tryd.prog) 111 3 (.int .i64 0) 8 Tryd.underlying111 Tryd.infoInt rfl .i64 .i64 n (by omega) (by omega) w

namespace Dig
/-- The bytes of digits, as far as they are laid, from the end. -/
def tx (v n i : Nat) (p : Nat) : Value := .int .u8 (if n - 1 - p < i then 48 + (dg v (n - 1 - p) : Int) else 0)
theorem digs_get {v n j : Nat} (h : j < n) : (digs v n)[j]? = some (ch (dg v (n - 1 - j))) := by unfold digs; simp [h]
theorem digs_len (v n : Nat) : (digs v n).length = n := by simp [digs]
end Dig
theorem conv_digs {W : World} {B v n : Nat} (h : Whole W B 5 (fcells n (Dig.tx v n n))) :
    (convert 26 9 (.slice (some ⟨B, 0, none⟩) n n)).run Tryd.prog W = .ok (.string (Dig.bs (Dig.digs v n))) W := by
  have k := run_convert_bytes_back (P := Tryd.prog) W 26 9 5 ⟨B, 0, none⟩ n (Dig.digs v n) Tryd.underlying26 Tryd.underlying5 Tryd.underlying9 (by
    intro j hj
    have hj' : j < n := by rw [Dig.digs_len] at hj; exact hj
    rw [show (Addr.add ⟨B, 0, none⟩ j) = ⟨B, j, none⟩ by cases j <;> simp [Addr.add]]
    refine (h.fcell hj').trans ?_
    have e := Dig.digs_get (v := v) hj'
    rw [List.getElem?_eq_getElem hj] at e
    have e2 := Option.some.inj e
    rw [e2, Dig.ch_nat (Dig.dg_lt _ _)]
    unfold Dig.tx
    rw [if_pos (by omega)]
    simp)
  rwa [Dig.digs_len] at k

/-! ### leading zeros -/
namespace Dig
theorem lead (x : ByteArray) : ∃ c, c ≤ x.size ∧ (∀ i (h : i < x.size), i < c → x[i].toNat = 48) ∧ (∀ h : c < x.size, x[c].toNat ≠ 48) ∧ strip (l x) = (l x).drop c := by
  have key : ∀ k : List UInt8, ∃ c, c ≤ k.length ∧ (∀ i (h : i < k.length), i < c → k[i].toNat = 48) ∧ (∀ h : c < k.length, k[c].toNat ≠ 48) ∧ strip k = k.drop c := by
    intro k
    induction k with
    | nil => exact ⟨0, Nat.le_refl _, fun i h _ => by simp at h, fun h => by simp at h, rfl⟩
    | cons a t ih =>
      obtain ⟨c, h1, h2, h3, h4⟩ := ih
      by_cases e : a.toNat = 48
      · have ea : a = 48 := UInt8.toNat_inj.1 e
        refine ⟨c + 1, by simp; omega, fun i hi hc => ?_, fun h => by simpa using h3 (by simpa using h), ?_⟩
        · cases i with
          | zero => exact e
          | succ i => simpa using h2 i (by simpa using hi) (by omega)
        · unfold strip at h4 ⊢
          rw [List.dropWhile_cons, if_pos (by rw [ea]; rfl), h4]; rfl
      · refine ⟨0, Nat.zero_le _, fun i _ hc => by omega, fun _ => by simpa using e, ?_⟩
        unfold strip
        rw [List.dropWhile_cons, if_neg (by intro g; exact e (by rw [beq_iff_eq.1 g]; rfl))]; rfl
  obtain ⟨c, h1, h2, h3, h4⟩ := key (l x)
  rw [l_len] at h1
  exact ⟨c, h1, fun i hi hc => h2 i (by rw [l_len]; exact hi) hc, fun h => h3 (by rw [l_len]; exact h), h4⟩
theorem drop_ext (x : ByteArray) (c : Nat) : x.extract c x.size = bs ((l x).drop c) := by
  apply ByteArray.ext
  rw [ByteArray.data_extract]
  apply Array.ext'
  simp [bs, l, List.extract_eq_take_drop]
  exact List.take_of_length_le (by rw [List.length_drop, Array.length_toList]; exact Nat.le_refl _)
end Dig
namespace Dig
/-- A result, unless it is too long. -/
def lim (v : Nat) : ByteArray × Int := if v < big 600 then (st v, 0) else (⟨#[]⟩, 2)
end Dig

end Go.Proofs.YtpcbhneaaibfiaaDoor
/- Numerals: shifts and final zeros. -/
namespace Go.Proofs.YtpcbhneaaibfiaaDoor
open Go.RowKit

namespace Dig
def noughts (n : Nat) : ByteArray := bs (List.replicate n 48)
theorem noughts_size (n : Nat) : (noughts n).size = n := by unfold noughts; rw [bs_size, List.length_replicate]
theorem trimRightB_rev (k : List UInt8) : Go.Lib.trimRightB k 48 = (strip k.reverse).reverse := by
  unfold strip
  first | rfl | (unfold Go.Lib.trimRightB; rfl)
theorem trail (x : ByteArray) : ∃ c, c ≤ x.size ∧ (∀ i (h : i < x.size), i < c → (x[x.size - 1 - i]'(by omega)).toNat = 48) ∧ (∀ h : c < x.size, (x[x.size - 1 - c]'(by omega)).toNat ≠ 48) ∧ (Go.Lib.trimRightB (l x) 48).length = x.size - c := by
  obtain ⟨c, h1, h2, h3, h4⟩ := lead (bs (l x).reverse)
  have hs : (bs (l x).reverse).size = x.size := by rw [bs_size, List.length_reverse, l_len]
  have g : ∀ i (h : i < x.size), (bs (l x).reverse)[i]'(by rw [hs]; exact h) = x[x.size - 1 - i]'(by omega) := fun i h => by
    rw [← l_get (x := bs (l x).reverse) (by rw [hs]; exact h), ← l_get (x := x) (by omega)]
    simp only [l_bs]
    rw [List.getElem_reverse]
    simp only [l_len]
  refine ⟨c, by omega, fun i hi hc => ?_, fun h => ?_, ?_⟩
  · rw [← g i hi]; exact h2 i (by omega) hc
  · rw [← g c h]; exact h3 (by omega)
  · rw [trimRightB_rev, List.length_reverse]
    rw [l_bs] at h4
    rw [h4, List.length_drop, List.length_reverse, l_len]
def zc (x : ByteArray) : Nat := x.size - (Go.Lib.trimRightB (l x) 48).length
theorem repeat_one (n : Nat) : Go.Lib.repeatL [48] n = List.replicate n 48 := by
  induction n with
  | zero => rfl
  | succ n ih => show [48] ++ Go.Lib.repeatL [48] n = _; rw [ih]; rfl
end Dig
set_option maxHeartbeats 1000000 in
theorem rzeros_any {x : ByteArray} (hx : x.size ≤ 1000000) (w : World) :
    Calls Tryd.prog 82 #[.string x] w fun e w' => e = .returned (.int .i64 (Dig.zc x)) ∧ w = w' := by
  obtain ⟨c, h1, h2, h3, h4⟩ := Dig.trail x
  have hz : Dig.zc x = c := by unfold Dig.zc; omega
  rw [hz]
  have H := Lib.hid h2
  have HN := Lib.hid h3
  clear h2 h3 h4 hz
  go_enter Tryd.func82, Tryd.ntmps82
  go_wp2_with fail
  go_loop [3] (fun i => ∃ k : Nat, k ≤ c ∧ i = .int .i64 k) (fun i => x.size - (intOf i).toNat)
  case atStart => exact ⟨0, by omega, rfl⟩
  case round =>
    obtain ⟨k, hk, rfl⟩ := hrel
    have hk1 : (0 : Int) ≤ k := by omega
    by_cases hkx : k < x.size
    · have hk2 : (k : Int) < x.size := by omega
      obtain ⟨m, hm, hmx⟩ : ∃ m : Nat, m = x.size - 1 - k ∧ m < x.size := ⟨_, rfl, by omega⟩
      have em : (x.size : Int) - 1 - k = m := by omega
      have hm1 : (m : Int) < x.size := by omega
      have hm0 : (0 : Int) ≤ m := by omega
      by_cases hkc : k < c
      · have e := H.out k hkx hkc
        have e2 : x[m].toNat = 48 := by subst hm; exact e
        have d1 : ((x[m].toNat : Int) == 48) = true := beq_iff_eq.2 (by omega)
        clear e e2 hm
        go_wp2
        go_round
        case rel => exact ⟨k + 1, by omega, by go_num⟩
        case measure => simp [intOf]; omega
      · obtain rfl : k = c := by omega
        have e := HN.out hkx
        have e2 : x[m].toNat ≠ 48 := by subst hm; exact e
        have d1 : ((x[m].toNat : Int) == 48) = false := beq_eq_false_iff_ne.2 (by omega)
        clear e e2 hm hkc
        go_wp2
        go_ret
        exact ⟨rfl, rfl⟩
    · have d1 : decide (k < x.size) = false := decide_eq_false (by omega)
      obtain rfl : k = c := by omega
      clear hkx
      go_wp2
      go_ret
      exact ⟨rfl, rfl⟩
end Go.Proofs.YtpcbhneaaibfiaaDoor
/- Decimals: Valid; the comparison of two decimals. -/
namespace Go.Proofs.YtpcbhneaaibfiaaDoor
open Go.RowKit

theorem dec_eql (a b : Bool) (s t : ByteArray) (e f : Int) (W : World) : (binOp .eql 23 (.agg #[.bool a, .string s, .int .i64 e]) (.agg #[.bool b, .string t, .int .i64 f])).run Tryd.prog W = .ok (.bool (decide ((a, s, e) = (b, t, f)))) W := by
  by_cases h1 : a = b
  · by_cases h2 : s = t
    · by_cases h3 : e = f
      · subst h1 h2 h3
        rw [decide_eq_true rfl]
        simp [go_sem]
      · rw [decide_eq_false (fun k => h3 (by simpa using congrArg (·.2.2) k))]
        simp [go_sem, h1, h2, h3]
    · have h2' : (s.toList == t.toList) = false := by
        rw [beq_eq_false_iff_ne]
        intro k
        apply h2
        rw [Lib.toList_data, Lib.toList_data] at k
        exact ByteArray.ext (Array.ext' k)
      rw [decide_eq_false (fun k => h2 (by simpa using congrArg (·.2.1) k))]
      simp [go_sem, h1, h2']
  · rw [decide_eq_false (fun k => h1 (by simpa using congrArg (·.1) k))]
    simp [go_sem, h1]
namespace Dec
/-- A valid decimal. -/
def vd (n : Bool) (s : ByteArray) (e : Int) : Prop := if s.size = 0 then n = false ∧ e = 0 else Dig.vld s ∧ s.size ≤ 120 ∧ Dig.zc s = 0 ∧ -400 ≤ e ∧ e ≤ 400
instance (n : Bool) (s : ByteArray) (e : Int) : Decidable (vd n s e) := by unfold vd; infer_instance
theorem size_zero {s : ByteArray} (h : s.size = 0) : s = ⟨#[]⟩ := by
  apply ByteArray.ext
  exact Array.eq_empty_of_size_eq_zero h
end Dec

set_option maxHeartbeats 4000000 in
theorem rdvalid_any (n : Bool) {s : ByteArray} (hs : s.size ≤ maxLen) (e : Int) (w : World) :
    Calls Tryd.prog 72 #[.agg #[.bool n, .string s, .int .i64 e]] w fun r w' => r = .returned (.bool (decide (Dec.vd n s e))) ∧ Below w.heap.size w w' := by
  have hb := (Below.refl w.heap.size w).alloc (Nat.le_refl _) (.cells #[.bool n, .string s, .int .i64 e] 23)
  by_cases h0 : s.size = 0
  · obtain rfl := Dec.size_zero h0
    have hvd : Dec.vd n ⟨#[]⟩ e ↔ (n = false ∧ e = 0) := by unfold Dec.vd; rw [if_pos h0]
    cases n
    · obtain ⟨R, hR⟩ : ∃ R, decide (e = 0) = R := ⟨_, rfl⟩
      have e1 : decide (Dec.vd false ⟨#[]⟩ e) = R := by
        rw [← hR]
        exact decide_eq_decide.2 ⟨fun k => (hvd.1 k).2, fun k => hvd.2 ⟨rfl, k⟩⟩
      have e2 : (e == 0) = R := by rw [← hR]; rfl
      rw [e1]
      clear hvd e1 h0 hs hR
      go_enter Tryd.func72, Tryd.ntmps72
      go_wp2
      go_ret
      exact ⟨rfl, hb⟩
    · rw [decide_eq_false (fun k => by have := (hvd.1 k).1; cases this)]
      clear hvd h0 hs
      go_enter Tryd.func72, Tryd.ntmps72
      go_wp2
      go_ret
      exact ⟨rfl, hb⟩
  have ne := Dig.some_of (x := s) (by omega)
  have HV := Lib.hid (rdigs_any hs)
  have hvd : Dec.vd n s e ↔ (Dig.vld s ∧ s.size ≤ 120 ∧ Dig.zc s = 0 ∧ -400 ≤ e ∧ e ≤ 400) := by unfold Dec.vd; rw [if_neg h0]
  by_cases h2 : s.size ≤ 120
  case neg =>
    rw [decide_eq_false (fun k => h2 (hvd.1 k).2.1)]
    have d2 : decide ((s.size : Int) ≤ 120) = false := decide_eq_false (by omega)
    clear hvd h0 hs h2
    go_enter Tryd.func72, Tryd.ntmps72
    go_wp2
    go_ret
    exact ⟨rfl, hb⟩
  have d2 : decide ((s.size : Int) ≤ 120) = true := decide_eq_true (by omega)
  by_cases h1 : Dig.vld s
  case neg =>
    rw [decide_eq_false h1] at HV
    rw [decide_eq_false (fun k => h1 (hvd.1 k).1)]
    clear hvd h1 h0 hs h2
    go_enter Tryd.func72, Tryd.ntmps72
    go_wp2_with fail
    refine (HV.out _).mono ?_; rintro _ w1 ⟨rfl, rfl⟩
    go_wp2
    go_ret
    exact ⟨rfl, hb⟩
  rw [decide_eq_true h1] at HV
  have HZ := Lib.hid (rzeros_any (x := s) (by omega))
  have hz0 : (0 : Int) ≤ Dig.zc s := by omega
  have hzl : Dig.zc s ≤ 1000000 := by unfold Dig.zc; omega
  by_cases h3 : Dig.zc s = 0
  case neg =>
    rw [decide_eq_false (fun k => h3 (hvd.1 k).2.2.1)]
    generalize Dig.zc s = z at *
    have d3 : ((z : Int) == 0) = false := by rw [beq_eq_false_iff_ne]; omega
    clear hvd h1 h0 hs h2 h3
    go_enter Tryd.func72, Tryd.ntmps72
    go_wp2_with fail
    refine (HV.out _).mono ?_; rintro _ w1 ⟨rfl, rfl⟩
    go_wp2_with fail
    refine (HZ.out _).mono ?_; rintro _ w1 ⟨rfl, rfl⟩
    go_wp2
    go_ret
    exact ⟨rfl, hb⟩
  rw [h3] at HZ
  by_cases h4 : -400 ≤ e
  case neg =>
    rw [decide_eq_false (fun k => h4 (hvd.1 k).2.2.2.1)]
    have d4 : decide (-400 ≤ e) = false := decide_eq_false h4
    clear hvd h1 h0 hs h2 h3 h4 hz0 hzl
    go_enter Tryd.func72, Tryd.ntmps72
    go_wp2_with fail
    refine (HV.out _).mono ?_; rintro _ w1 ⟨rfl, rfl⟩
    go_wp2_with fail
    refine (HZ.out _).mono ?_; rintro _ w1 ⟨rfl, rfl⟩
    go_wp2
    go_ret
    exact ⟨rfl, hb⟩
  have d4 : decide (-400 ≤ e) = true := decide_eq_true h4
  obtain ⟨R, hR⟩ : ∃ R, decide (e ≤ 400) = R := ⟨_, rfl⟩
  have e5 : decide (Dec.vd n s e) = R := by
    rw [← hR]
    exact decide_eq_decide.2 ⟨fun k => (hvd.1 k).2.2.2.2, fun k => hvd.2 ⟨h1, h2, h3, h4, k⟩⟩
  rw [e5]
  clear hvd h1 h0 hs h2 h3 h4 hz0 hzl e5
  go_enter Tryd.func72, Tryd.ntmps72
  go_wp2_with fail
  refine (HV.out _).mono ?_; rintro _ w1 ⟨rfl, rfl⟩
  go_wp2_with fail
  refine (HZ.out _).mono ?_; rintro _ w1 ⟨rfl, rfl⟩
  go_wp2
  go_ret
  exact ⟨rfl, hb⟩
end Go.Proofs.YtpcbhneaaibfiaaDoor
/- Plain mathematics of the calendar: leap years, days of months, the number of a date. No program in sight. -/
namespace Go.Proofs.YtpcbhneaaibfiaaDoor.Cal

def lp (y : Int) : Int := if y % 4 = 0 ∧ (y % 100 ≠ 0 ∨ y % 400 = 0) then 1 else 0
def dim (y m : Int) : Int := if m = 2 then 28 + lp y else if m = 4 ∨ m = 6 ∨ m = 9 ∨ m = 11 then 30 else 31
def mon (y m : Int) : Int := if 1 ≤ y ∧ y ≤ 9999 ∧ 1 ≤ m ∧ m ≤ 12 then dim y m else 0
def dby (y : Int) : Int := 365 * (y - 1) + (y - 1) / 4 - (y - 1) / 100 + (y - 1) / 400
def cum (y m : Int) : Int :=
  if m ≤ 1 then 0 else if m = 2 then 31 else lp y + (if m = 3 then 59 else if m = 4 then 90 else if m = 5 then 120 else if m = 6 then 151
    else if m = 7 then 181 else if m = 8 then 212 else if m = 9 then 243 else if m = 10 then 273 else if m = 11 then 304 else if m = 12 then 334 else 365)
def num (y m d : Int) : Int := dby y + cum y m + d - 1
def yok (y : Int) : Prop := 1 ≤ y ∧ y ≤ 9999
def Vld (y m d : Int) : Prop := 1 ≤ y ∧ y ≤ 9999 ∧ 1 ≤ m ∧ m ≤ 12 ∧ 1 ≤ d ∧ d ≤ dim y m
def leap (y : Int) : Bool := decide (1 ≤ y ∧ y ≤ 9999 ∧ lp y = 1)

theorem lp_01 (y : Int) : 0 ≤ lp y ∧ lp y ≤ 1 := by unfold lp; split <;> omega
theorem dim_lo (y m : Int) : 28 ≤ dim y m ∧ dim y m ≤ 31 := by
  have := lp_01 y
  unfold dim; split <;> (try split) <;> omega
theorem mon_bd (y m : Int) : 0 ≤ mon y m ∧ mon y m ≤ 31 := by
  have := dim_lo y m
  unfold mon; split <;> omega
theorem mon_in {y m : Int} (a : 1 ≤ y) (b : y ≤ 9999) (c : 1 ≤ m) (d : m ≤ 12) : mon y m = dim y m := by unfold mon; rw [if_pos ⟨a, b, c, d⟩]
theorem mon_pos {y m d : Int} (h : 1 ≤ d) (h' : d ≤ mon y m) : Vld y m d := by
  unfold mon at h'
  split at h'
  · rename_i k; exact ⟨k.1, k.2.1, k.2.2.1, k.2.2.2, h, h'⟩
  · omega
theorem vld_mon {y m d : Int} (h : Vld y m d) : 1 ≤ d ∧ d ≤ mon y m := by
  obtain ⟨a, b, c, d, e, f⟩ := h
  rw [mon_in a b c d]; exact ⟨e, f⟩
theorem dby_one : dby 1 = 0 := by decide
theorem dby_max : dby 10000 = 3652059 := by decide
theorem dby_succ (y : Int) (_h : 1 ≤ y) : dby (y + 1) = dby y + 365 + lp y := by
  unfold dby lp; split <;> omega
theorem dby_mono (a b : Int) (h : a ≤ b) : dby a ≤ dby b := by unfold dby; omega
theorem dby_bd (y : Int) (h : 1 ≤ y) (h' : y ≤ 10000) : 0 ≤ dby y ∧ dby y ≤ 3652059 := by
  have h1 := dby_mono 1 y h
  have h2 := dby_mono y 10000 h'
  rw [dby_one] at h1; rw [dby_max] at h2; exact ⟨h1, h2⟩
theorem cum_one (y : Int) : cum y 1 = 0 := by simp [cum]
theorem cum_end (y : Int) : cum y 13 = 365 + lp y := by simp [cum]; omega
theorem cum_succ (y m : Int) (h : 1 ≤ m) (h' : m ≤ 12) : cum y (m + 1) = cum y m + dim y m := by
  have e : m = 1 ∨ m = 2 ∨ m = 3 ∨ m = 4 ∨ m = 5 ∨ m = 6 ∨ m = 7 ∨ m = 8 ∨ m = 9 ∨ m = 10 ∨ m = 11 ∨ m = 12 := by omega
  rcases e with rfl | rfl | rfl | rfl | rfl | rfl | rfl | rfl | rfl | rfl | rfl | rfl <;> simp [cum, dim] <;> omega
theorem cum_mono (y : Int) (k : Nat) : ∀ m : Int, 1 ≤ m → m + k ≤ 13 → cum y m ≤ cum y (m + k) := by
  induction k with
  | zero => intro m _ _; simp
  | succ k ih =>
    intro m h h'
    have h1 := ih m h (by omega)
    have h2 := cum_succ y (m + k) (by omega) (by omega)
    have h3 := dim_lo y (m + k)
    rw [show m + ((k + 1 : Nat) : Int) = m + k + 1 from by omega, h2]; omega
theorem cum_le (y m b : Int) (h : 1 ≤ m) (h' : m ≤ b) (h'' : b ≤ 13) : cum y m ≤ cum y b := by
  have := cum_mono y (b - m).toNat m h (by omega)
  rwa [show m + ((b - m).toNat : Int) = b from by omega] at this
theorem cum_bd (y m : Int) (h : 1 ≤ m) (h' : m ≤ 13) : 0 ≤ cum y m ∧ cum y m ≤ 366 := by
  have h1 := cum_le y 1 m (by omega) h h'
  have h2 := cum_le y m 13 h h' (by omega)
  have h3 := lp_01 y
  rw [cum_one] at h1; rw [cum_end] at h2; omega
theorem num_lt {y m d : Int} (h : Vld y m d) : dby y + cum y m ≤ num y m d ∧ num y m d < dby y + cum y (m + 1) ∧ num y m d < dby (y + 1) ∧ dby y ≤ num y m d := by
  obtain ⟨a, b, c, d, e, f⟩ := h
  have h1 := cum_succ y m c d
  have h2 := cum_le y (m + 1) 13 (by omega) (by omega) (by omega)
  have h3 := dby_succ y a
  have h4 := cum_bd y m c (by omega)
  rw [cum_end] at h2
  unfold num; omega
theorem num_bd {y m d : Int} (h : Vld y m d) : 0 ≤ num y m d ∧ num y m d ≤ 3652058 := by
  have h1 := num_lt h
  obtain ⟨a, b, _⟩ := h
  have h2 := dby_bd y a (by omega)
  have h3 := dby_bd (y + 1) (by omega) (by omega)
  omega
theorem num_inj {y m d a b c : Int} (h : Vld y m d) (k : Vld a b c) (e : num y m d = num a b c) : y = a ∧ m = b ∧ d = c := by
  have h1 := num_lt h
  have k1 := num_lt k
  have hy : y = a := by
    rcases Int.lt_trichotomy y a with l | l | l
    · have := dby_mono (y + 1) a (by omega); omega
    · exact l
    · have := dby_mono (a + 1) y (by omega); omega
  subst hy
  obtain ⟨_, _, m1, m2, _, _⟩ := h
  obtain ⟨_, _, b1, b2, _, _⟩ := k
  have hm : m = b := by
    rcases Int.lt_trichotomy m b with l | l | l
    · have := cum_le y (m + 1) b (by omega) (by omega) (by omega); omega
    · exact l
    · have := cum_le y (b + 1) m (by omega) (by omega) (by omega); omega
  subst hm
  unfold num at e
  exact ⟨rfl, rfl, by omega⟩
theorem num_of (n y k : Int) : num y k (n - dby y - cum y k + 1) = n := by unfold num; omega
theorem vld_of (n y k : Int) (a : 1 ≤ y) (b : y ≤ 9999) (m1 : 1 ≤ k) (m2 : k ≤ 12) (c : 0 ≤ n - dby y - cum y k) (d : n - dby y - cum y k < dim y k) : Vld y k (n - dby y - cum y k + 1) :=
  ⟨a, b, m1, m2, by omega, by omega⟩
theorem dby_guess (n : Int) (h : 0 ≤ n) : dby (n / 366 + 1) ≤ n := by unfold dby; omega
theorem guess_bd (n : Int) (h : 0 ≤ n) (h' : n ≤ 3652058) : 1 ≤ n / 366 + 1 ∧ n / 366 + 1 ≤ 9999 := by omega

/-! ### the date of a number -/
theorem ex_year (n : Int) (h : 0 ≤ n) (k : Nat) (hk : n < dby ((k : Int) + 1)) : ∃ y : Int, 1 ≤ y ∧ y ≤ k ∧ dby y ≤ n ∧ n < dby (y + 1) := by
  induction k with
  | zero => simp [dby] at hk; omega
  | succ k ih =>
    by_cases c : n < dby ((k : Int) + 1)
    · obtain ⟨y, a, b, e, f⟩ := ih c
      exact ⟨y, a, by omega, e, f⟩
    · exact ⟨(k : Int) + 1, by omega, by omega, by omega, by simpa using hk⟩
theorem ex_month (y r : Int) (h : 0 ≤ r) (k : Nat) (hk : r < cum y ((k : Int) + 1)) : ∃ m : Int, 1 ≤ m ∧ m ≤ k ∧ cum y m ≤ r ∧ r < cum y (m + 1) := by
  induction k with
  | zero => simp [cum] at hk; omega
  | succ k ih =>
    by_cases c : r < cum y ((k : Int) + 1)
    · obtain ⟨m, a, b, e, f⟩ := ih c
      exact ⟨m, a, by omega, e, f⟩
    · exact ⟨(k : Int) + 1, by omega, by omega, by omega, by simpa using hk⟩
theorem ex_date (n : Int) (h : 0 ≤ n) (h' : n ≤ 3652058) : ∃ p : Int × Int × Int, Vld p.1 p.2.1 p.2.2 ∧ num p.1 p.2.1 p.2.2 = n := by
  obtain ⟨y, y1, y2, y3, y4⟩ := ex_year n h 9999 (by have := dby_max; show n < dby 10000; omega)
  have hs := dby_succ y y1
  obtain ⟨m, m1, m2, m3, m4⟩ := ex_month y (n - dby y) (by omega) 12 (by have := cum_end y; show n - dby y < cum y 13; omega)
  have hm := cum_succ y m m1 (by omega)
  exact ⟨(y, m, n - dby y - cum y m + 1), vld_of n y m y1 (by omega) m1 (by omega) (by omega) (by omega), num_of n y m⟩
def kn (n : Int) : Prop := 0 ≤ n ∧ n ≤ 3652058
instance (n : Int) : Decidable (kn n) := by unfold kn; infer_instance
instance (y m d : Int) : Decidable (Vld y m d) := by unfold Vld; infer_instance
noncomputable def dt (n : Int) : Int × Int × Int := Classical.epsilon fun p : Int × Int × Int => Vld p.1 p.2.1 p.2.2 ∧ num p.1 p.2.1 p.2.2 = n
noncomputable def Yr (n : Int) : Int := (dt n).1
noncomputable def Mo (n : Int) : Int := (dt n).2.1
noncomputable def Da (n : Int) : Int := (dt n).2.2
theorem dt_vld {n : Int} (h : kn n) : Vld (Yr n) (Mo n) (Da n) := (Classical.epsilon_spec (ex_date n h.1 h.2)).1
theorem dt_num {n : Int} (h : kn n) : num (Yr n) (Mo n) (Da n) = n := (Classical.epsilon_spec (ex_date n h.1 h.2)).2
theorem kn_num {y m d : Int} (h : Vld y m d) : kn (num y m d) := num_bd h
theorem dt_of {n y m d : Int} (h : Vld y m d) (e : num y m d = n) : Yr n = y ∧ Mo n = m ∧ Da n = d := by
  have k : kn n := e ▸ num_bd h
  exact num_inj (dt_vld k) h ((dt_num k).trans e.symm)
theorem dt_bd {n : Int} (h : kn n) : 1 ≤ Yr n ∧ Yr n ≤ 9999 ∧ 1 ≤ Mo n ∧ Mo n ≤ 12 ∧ 1 ≤ Da n ∧ Da n ≤ 31 := by
  obtain ⟨a, b, c, d, e, f⟩ := dt_vld h
  have := dim_lo (Yr n) (Mo n)
  exact ⟨a, b, c, d, e, by omega⟩

/-! ### the functions of the chapter -/
def dayN (y m d : Int) : Int := if Vld y m d then num y m d else 0
def dayE (y m d : Int) : Int := if Vld y m d then 0 else 2
noncomputable def dtY (n : Int) : Int := if kn n then Yr n else 0
noncomputable def dtM (n : Int) : Int := if kn n then Mo n else 0
noncomputable def dtD (n : Int) : Int := if kn n then Da n else 0
def knE (n : Int) : Int := if kn n then 0 else 2
def wdN (n : Int) : Int := if kn n then n % 7 + 1 else 0
def thu (n : Int) : Int := n - n % 7 + 3
noncomputable def wkY (n : Int) : Int := if kn n then Yr (thu n) else 0
noncomputable def wkW (n : Int) : Int := if kn n then (thu n - dby (Yr (thu n))) / 7 + 1 else 0
theorem kn_thu {n : Int} (h : kn n) : kn (thu n) := by unfold kn thu at *; omega
def low (a b : Int) : Int := if a ≤ b then a else b
noncomputable def tot (n k : Int) : Int := 12 * Yr n + Mo n - 1 + k
noncomputable def amN (n k : Int) : Int := if kn n ∧ 12 ≤ tot n k ∧ tot n k < 120000 then num (tot n k / 12) (tot n k % 12 + 1) (low (Da n) (dim (tot n k / 12) (tot n k % 12 + 1))) else 0
noncomputable def amE (n k : Int) : Int := if kn n ∧ 12 ≤ tot n k ∧ tot n k < 120000 then 0 else 2
theorem am_vld {n k : Int} (h : kn n) (h1 : 12 ≤ tot n k) (h2 : tot n k < 120000) : Vld (tot n k / 12) (tot n k % 12 + 1) (low (Da n) (dim (tot n k / 12) (tot n k % 12 + 1))) := by
  have b := dt_bd h
  have d := dim_lo (tot n k / 12) (tot n k % 12 + 1)
  refine ⟨by omega, by omega, by omega, by omega, ?_, ?_⟩ <;> unfold low <;> split <;> omega
end Go.Proofs.YtpcbhneaaibfiaaDoor.Cal
/- The leaf functions of the calendar, the program's and the reference's: what each returns. -/
namespace Go.Proofs.YtpcbhneaaibfiaaDoor
open Go.RowKit

end Go.Proofs.YtpcbhneaaibfiaaDoor
