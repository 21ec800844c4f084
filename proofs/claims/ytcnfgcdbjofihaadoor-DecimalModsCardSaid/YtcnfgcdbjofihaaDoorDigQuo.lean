/- Numerals: quotients in memory (printed by gen_dig5.py). -/
import Derived.Test.YtcnfgcdbjofihaaDoorDigCmp
namespace Go.Proofs.YtcnfgcdbjofihaaDoor
open Go.RowKit

namespace Dig
/-- The digits of a quotient, the first ones laid. -/
def qx (v n i j : Nat) : Value := .int .u8 (if j < i then 48 + (dg v (n - 1 - j) : Int) else 0)
theorem qx_zero (v n : Nat) : fcells n (qx v n 0) = fcells n (fun _ => .int .u8 0) := fcells_congr (fun j _ => by unfold qx; rw [if_neg (by omega)])
theorem qx_all (v n : Nat) : fcells n (qx v n n) = fcells n (tx v n n) := fcells_congr (fun j hj => by unfold qx tx; rw [if_pos hj, if_pos (by omega)])
/-- The number of the first digits. -/
def pre (A n i : Nat) : Nat := A / 10 ^ (n - i)
theorem pre_zero {A n : Nat} (h : A < big n) : pre A n 0 = 0 := Nat.div_eq_of_lt h
theorem pre_end (A n : Nat) : pre A n n = A := by unfold pre; rw [Nat.sub_self, Nat.pow_zero, Nat.div_one]
theorem pre_step (A : Nat) {n i : Nat} (h : i < n) : pre A n (i + 1) = 10 * pre A n i + dg A (n - 1 - i) := by
  unfold pre
  rw [pre_succ A (n - (i + 1)), show n - (i + 1) + 1 = n - i by omega, show n - (i + 1) = n - 1 - i by omega]
theorem quo_at (A B : Nat) {n i : Nat} (hB : 0 < B) (h : i < n) : (10 * (pre A n i % B) + dg A (n - 1 - i)) / B = dg (A / B) (n - 1 - i) := by
  rw [quo_dg hB (dg_lt _ _), ← pre_step A h, ← div_dg]
  unfold pre
  rw [show n - (i + 1) = n - 1 - i by omega]
theorem rem_at (A B : Nat) {n i : Nat} (h : i < n) : (10 * (pre A n i % B) + dg A (n - 1 - i)) % B = pre A n (i + 1) % B := by
  rw [rem_step, ← pre_step A h]
theorem one_len {a : ByteArray} {i : Nat} (h : i < a.size) : (a.extract i (i + 1)).size = 1 := by rw [ByteArray.size_extract]; omega
theorem l_app (x y : ByteArray) : l (x ++ y) = l x ++ l y := by unfold l; simp [ByteArray.data_append]
theorem l_one {a : ByteArray} {i : Nat} (h : i < a.size) : l (a.extract i (i + 1)) = [a[i]] := by
  unfold l
  rw [ByteArray.data_extract]
  apply List.ext_getElem
  · simp
    have : a.data.size = a.size := rfl
    omega
  · intro j h1 h2
    simp at h2
    subst h2
    simp
    rfl
theorem app_str {a : ByteArray} (ha : Str a) {i r : Nat} (h : i < a.size) : alld (l (st r ++ a.extract i (i + 1))) ∧ V (st r ++ a.extract i (i + 1)) = 10 * r + dg (V a) (a.size - 1 - i) := by
  have e := str_dg ha (i := a.size - 1 - i) (by omega)
  have ei : a.size - 1 - (a.size - 1 - i) = i := by omega
  simp only [ei] at e
  unfold V
  rw [l_app, l_st, l_one h]
  refine ⟨fun b hb => ?_, ?_⟩
  · rcases List.mem_append.1 hb with k | k
    · exact num_alld r b k
    · rw [List.mem_singleton.1 k]; exact ha.isd h
  · rw [val_snoc, val_num, e]
    show 10 * r + (48 + dg (V a) (a.size - 1 - i) - 48) = _
    unfold V
    omega
theorem cmp_ge {a b : Nat} (h : b ≤ a) : 0 ≤ cmp a b := by unfold cmp; rw [if_neg (by omega)]; split <;> omega
theorem cmp_le1 (a b : Nat) : -1 ≤ cmp a b ∧ cmp a b ≤ 1 := by unfold cmp; split; omega; split <;> omega
theorem cmp_no {a b : Nat} (h : a < b) : cmp a b = -1 := by unfold cmp; rw [if_pos h]
theorem big_succ (k : Nat) : big (k + 1) = big k * 10 := Nat.pow_succ ..
theorem lt_big {x B k : Nat} (h : x < 10 * B) (hB : B < big k) (hk : k + 1 ≤ 1000000) : x < big 1000000 := by
  have := big_le hk
  have e := big_succ k
  omega
end Dig
theorem qx_put {W : World} {D v i n : Nat} {u : Int} (h : Whole W D 5 (fcells n (Dig.qx v n i))) (hu : 48 + (Dig.dg v (n - 1 - i) : Int) = u) : Whole (W.setCell ⟨D, i, none⟩ (.int .u8 u)) D 5 (fcells n (Dig.qx v n (i + 1))) := by
  refine h.fset ?_ ?_
  · unfold Dig.qx; rw [if_pos (by omega), hu]
  · intro j _ hj
    unfold Dig.qx
    by_cases g : j < i
    · rw [if_pos g, if_pos (by omega)]
    · rw [if_neg g, if_neg (by omega)]
theorem u8_of {a b : Int} (h : a = b) : Value.int .u8 a = .int .u8 b := by rw [h]
theorem str_of {a b : ByteArray} (h : a = b) : Value.string a = .string b := by rw [h]


set_option maxHeartbeats 4000000 in
theorem rquo_any {a : ByteArray} {B : Nat} (sa : Dig.Str a) (hBb : B < Dig.big 900000) (hB : 0 < B) (w : World) :
    Calls Tryd.prog 79 #[.string a, .string (Dig.st B)] w fun e w' => e = .returned (.tuple #[.string (Dig.st (Dig.V a / B)), .string (Dig.st (Dig.V a % B)), .int .i64 0]) ∧ Below w.heap.size w w' := by
  have za := sa.size
  have sb : Dig.Str (Dig.st B) := Dig.st_str (Nat.lt_of_lt_of_le hBb (Dig.big_le (by omega)))
  have HS : Hid (∀ x v, Hid (Dig.alld (Dig.l x) ∧ x.size ≤ 4000000 ∧ Dig.V x = v) → ∀ w, Calls Tryd.prog 85 #[.string x] w fun e w' => e = .returned (.string (Dig.st v)) ∧ w = w') := Lib.hid (fun x v h w => by
    have := rstrip_any (x := x) (by have := h.out.2.1; unfold maxLen; omega) w
    rwa [Dig.st_strip h.out.1, h.out.2.2] at this)
  have HC : Hid (∀ x, Hid (x < 10 * B) → ∀ w, Calls Tryd.prog 75 #[.string (Dig.st x), .string (Dig.st B)] w fun e w' => e = .returned (.int .i64 (Dig.cmp x B)) ∧ w = w') := Lib.hid (fun x h w => rcmp_any (Dig.st_str (Dig.lt_big h.out hBb (by omega))) sb w)
  have HM : Hid (∀ x, Hid (x < 10 * B ∧ B ≤ x) → ∀ w, Calls Tryd.prog 76 #[.string (Dig.st x), .string (Dig.st B)] w fun e w' => e = .returned (.string (Dig.st (x - B))) ∧ Below w.heap.size w w') := Lib.hid (fun x h w => by
    have := rless_any (Dig.st_str (Dig.lt_big h.out.1 hBb (by omega))) sb (by rw [Dig.V_st, Dig.V_st]; exact h.out.2) w
    rwa [Dig.V_st, Dig.V_st] at this)
  have hsize : (Dig.st B).size ≤ 900000 := (Dig.st_size B _).2 hBb
  have ne : (Dig.st B).toList.isEmpty = false := Dig.some_of (by
    have := Dig.st_len B
    have h1 : (Dig.num B).length ≠ 0 := fun k => by have := Dig.num_nil.1 (List.eq_nil_of_length_eq_zero k); omega
    omega)
  have HR : Hid (∀ x, x < B → (Dig.st x).size ≤ 900000) := Lib.hid (fun x hx => (Dig.st_size x _).2 (Nat.lt_trans hx hBb))
  have HAP := Lib.hid (fun (i r : Nat) (h : i < a.size) => Dig.app_str sa (i := i) (r := r) h)
  have HQA := Lib.hid (fun (i : Nat) (h : i < a.size) => Dig.quo_at (Dig.V a) B hB h)
  have HRA := Lib.hid (fun (i : Nat) (h : i < a.size) => Dig.rem_at (Dig.V a) B (n := a.size) h)
  have HP0 := Lib.hid (Dig.pre_zero (Dig.V_lt sa))
  have HL := Lib.hid (show Dig.V a / B < Dig.big a.size from Nat.lt_of_le_of_lt (Nat.div_le_self _ _) (Dig.V_lt sa))
  have DL := Lib.hid (fun i => Dig.dg_lt (Dig.V a) i)
  generalize Dig.V a = A at *
  have hb0 : (Dig.st B).size ≤ 900000 := hsize
  obtain ⟨y, hy⟩ : ∃ y, Dig.st B = y := ⟨_, rfl⟩
  rw [hy] at HC HM ne hb0
  rw [hy]
  clear hy hsize sb sa hBb
  have hmk := make_bytes (n := a.size) (by omega) w
  have hw1 := Whole.new w 5 (fcells a.size (fun _ => .int .u8 0))
  have hb1 := (Below.refl w.heap.size w).alloc (Nat.le_refl _) (.cells (fcells a.size (fun _ => .int .u8 0)) 5)
  have hn0 : (0 : Int) ≤ a.size := by omega
  have hBp := Lib.hid hB
  clear hB
  go_enter Tryd.func79, Tryd.ntmps79
  go_wp2_with fail
  go_loopw [8, 9] (fun r i wr => ∃ k : Nat, k ≤ a.size ∧ i = .int .i64 k ∧ r = .string (Dig.st (Dig.pre A a.size k % B)) ∧ Whole wr w.heap.size 5 (fcells a.size (Dig.qx (A / B) a.size k)) ∧ Below w.heap.size w wr) (fun _ i _ => a.size - (intOf i).toNat)
  case atStart => exact ⟨0, Nat.zero_le _, rfl, by rw [HP0.out, Nat.zero_mod]; exact str_of (by unfold Dig.st; rw [Dig.num_zero]; rfl), by rw [Dig.qx_zero]; exact hw1, hb1⟩
  case round =>
    clear hmk hw1 hb1
    obtain ⟨i, hi, rfl, rfl, hwo, hbo⟩ := hrel
    have hi0 : (0 : Int) ≤ i := by omega
    by_cases hin : i < a.size
    · have hin2 : (i : Int) < a.size := by omega
      have hin3 : (i : Int) + 1 ≤ a.size := by omega
      have hrm := Nat.mod_lt (Dig.pre A a.size i) hBp.out
      have HA := HAP.out i (Dig.pre A a.size i % B) hin
      have QA := Lib.hid (HQA.out i hin)
      have RA := Lib.hid (HRA.out i hin)
      have hd := DL.out (a.size - 1 - i)
      have hrs := HR.out _ hrm
      have hus := Dig.one_len hin
      generalize Dig.dg A (a.size - 1 - i) = d at *
      generalize Dig.pre A a.size i % B = r0 at *
      have HX : Hid (Dig.alld (Dig.l (Dig.st r0 ++ a.extract i (i + 1))) ∧ (Dig.st r0 ++ a.extract i (i + 1)).size ≤ 4000000 ∧ Dig.V (Dig.st r0 ++ a.extract i (i + 1)) = 10 * r0 + d) := Lib.hid ⟨HA.1, by rw [ByteArray.size_append, hus]; omega, HA.2⟩
      clear HA
      have hX : 10 * r0 + d < 10 * B := by omega
      generalize 10 * r0 + d = X at *
      have hq9 : X / B < 10 := Nat.div_lt_of_lt_mul (by omega)
      obtain ⟨u, hu⟩ : ∃ u, a.extract i (i + 1) = u := ⟨_, rfl⟩
      rw [hu] at HX hus
      have hus2 : u.size ≤ 1 := by omega
      generalize Dig.st r0 = s at *
      have hsl : ∀ W, (Instr.slice 9 (.string a) (some (.int .i64 (i : Int))) (some (.int .i64 ((i : Int) + 1))) none).run Tryd.prog W = .ok (.string u) W := fun W => by
        rw [run_slice_string W 9 a .i64 .i64 i ((i : Int) + 1) Tryd.underlying9 hi0 (by omega) (by omega), ← hu]
        rfl
      have happ : ¬ 9223372036854775807 < s.size + u.size := by omega
      clear hd hrm hus hu hin3
      go_wp2_with fail
      refine (HS.out _ _ (by assumption) _).mono ?_; rintro _ w' ⟨rfl, rfl⟩
      clear happ hrs hus2 HX hsl
      go_wp2_with fail
      go_loopw [8, 10] (fun r m wr => ∃ q : Nat, q * B ≤ X ∧ m = .int .i64 (0 + (q : Int)) ∧ r = .string (Dig.st (X - q * B)) ∧ Whole wr w.heap.size 5 (fcells a.size (Dig.qx (A / B) a.size i)) ∧ Below w.heap.size w wr) (fun _ m _ => 100 - (intOf m).toNat)
      case atStart => exact ⟨0, by omega, by exact int_of (by omega), str_of (by rw [Nat.zero_mul, Nat.sub_zero]), hwo, hbo⟩
      case round =>
        clear hwo hbo
        obtain ⟨q, hq, rfl, rfl, hwr, hbr⟩ := hrel
        have hq2 : q ≤ X / B := (Nat.le_div_iff_mul_le hBp.out).2 hq
        have hq0 : (0 : Int) ≤ q := by omega
        by_cases hlt : X - q * B < B
        · have HQ : Hid (X / B = q ∧ X % B = X - q * B) := Lib.hid (by
            have := hBp.out
            have e : X = B * q + (X - q * B) := by rw [Nat.mul_comm B q]; omega
            constructor
            · rw [e, Nat.mul_add_div this, Nat.div_eq_of_lt hlt]; rfl
            · conv => lhs; rw [e]
              rw [Nat.mul_add_mod, Nat.mod_eq_of_lt hlt])
          have HC1 := Lib.hid (HC.out (X - q * B) (Lib.hid (by omega)))
          rw [Dig.cmp_no hlt] at HC1
          have c1 := hwr.fcell hin
          have cf := hwr.frozen i
          have HP := Lib.hid (fun u hu => qx_put (u := u) hwr hu)
          have HBB := Lib.hid (fun (u : Value) => hbr.setCell (p := ⟨w.heap.size, i, none⟩) (Nat.le_refl _) u)
          have hq3 : (q : Int) < 10 := by omega
          clear hwr hbr hq hlt hX
          generalize X - q * B = rr at *
          go_wp2_with fail
          refine (HC1.out _).mono ?_; rintro _ w' ⟨rfl, rfl⟩
          go_wp2
          go_roundw
          case rel => exact ⟨i + 1, by omega, by go_num, str_of (by rw [← RA.out, HQ.out.2]), HP.out _ (by rw [← QA.out, HQ.out.1]), HBB.out _⟩
          case measure => simp [intOf]; omega
        · have HC1 := Lib.hid (HC.out (X - q * B) (Lib.hid (by omega)))
          have hge := Dig.cmp_ge (a := X - q * B) (b := B) (by omega)
          have hle := Dig.cmp_le1 (X - q * B) B
          generalize Dig.cmp (X - q * B) B = c at *
          have HM1 := Lib.hid (HM.out (X - q * B) (Lib.hid ⟨by omega, by omega⟩))
          have HE : Hid (X - q * B - B = X - (q + 1) * B ∧ (q + 1) * B ≤ X) := Lib.hid (by rw [Nat.add_mul, Nat.one_mul]; omega)
          have hq4 : q + 1 ≤ X / B := (Nat.le_div_iff_mul_le hBp.out).2 HE.out.2
          have hq3 : (q : Int) < 10 := by omega
          clear hq hlt hX
          generalize X - q * B = rr at *
          go_wp2_with fail
          refine (HC1.out _).mono ?_; rintro _ w' ⟨rfl, rfl⟩
          go_wp2_with fail
          refine (HM1.out _).mono ?_; rintro _ w' ⟨rfl, hbm⟩
          have hwr2 := hwr.below hbm hwr.lt
          have hbr2 := below_then hbr hbm
          clear hwr hbr hbm
          go_wp2
          go_roundw
          case rel => exact ⟨q + 1, HE.out.2, int_of (by omega), str_of (by rw [HE.out.1]), hwr2, hbr2⟩
          case measure => simp [intOf]; omega
    · obtain rfl : i = a.size := by omega
      rw [Dig.qx_all] at hwo
      have hc := conv_digs hwo
      have HX : Hid (Dig.alld (Dig.l (Dig.bs (Dig.digs (A / B) a.size))) ∧ (Dig.bs (Dig.digs (A / B) a.size)).size ≤ 4000000 ∧ Dig.V (Dig.bs (Dig.digs (A / B) a.size)) = A / B) := Lib.hid ⟨by rw [Dig.l_bs]; exact Dig.digs_alld _ _, by rw [Dig.bs_size, Dig.digs_len]; omega, by unfold Dig.V; rw [Dig.l_bs]; exact Dig.digs_val _ _ HL.out⟩
      rw [Dig.pre_end]
      clear hwo
      go_wp2_with fail
      refine (HS.out _ _ (by assumption) _).mono ?_; rintro _ w' ⟨rfl, rfl⟩
      go_wp2
      go_ret3
      exact ⟨rfl, hbo⟩

end Go.Proofs.YtcnfgcdbjofihaaDoor
