/- Numerals: shifts and final zeros. -/
import Derived.Test.YtcnfgcdbjofihaaDoorDigText
namespace Go.Proofs.YtcnfgcdbjofihaaDoor
open Go.RowKit

namespace Dig
def noughts (n : Nat) : ByteArray := bs (List.replicate n 48)
theorem noughts_size (n : Nat) : (noughts n).size = n := by unfold noughts; rw [bs_size, List.length_replicate]
theorem trimRightB_rev (k : List UInt8) : Go.Lib.trimRightB k 48 = (strip k.reverse).reverse := by
  unfold strip
  first | rfl | (unfold Go.Lib.trimRightB; rfl)
theorem trail (x : ByteArray) : ∃ c, c ≤ x.size ∧ (∀ i (h : i < x.size), i < c → (x[x.size - 1 - i]'(by omega)).toNat = 48) ∧ (∀ h : c < x.size, (x[x.size - 1 - c]'(by omega)).toNat ≠ 48) ∧ (Go.Lib.trimRightB (l x) 48).length = x.size - c := by
  obtain ⟨c, h1, h2, h3, h4⟩ := lead (bs (l x).reverse)
  have hs : (bs (l x).reverse).size = x.size := by rw [bs_size, List.length_reverse, l_len]
  have g : ∀ i (h : i < x.size), (bs (l x).reverse)[i]'(by rw [hs]; exact h) = x[x.size - 1 - i]'(by omega) := fun i h => by
    rw [← l_get (x := bs (l x).reverse) (by rw [hs]; exact h), ← l_get (x := x) (by omega)]
    simp only [l_bs]
    rw [List.getElem_reverse]
    simp only [l_len]
  refine ⟨c, by omega, fun i hi hc => ?_, fun h => ?_, ?_⟩
  · rw [← g i hi]; exact h2 i (by omega) hc
  · rw [← g c h]; exact h3 (by omega)
  · rw [trimRightB_rev, List.length_reverse]
    rw [l_bs] at h4
    rw [h4, List.length_drop, List.length_reverse, l_len]
def zc (x : ByteArray) : Nat := x.size - (Go.Lib.trimRightB (l x) 48).length
theorem repeat_one (n : Nat) : Go.Lib.repeatL [48] n = List.replicate n 48 := by
  induction n with
  | zero => rfl
  | succ n ih => show [48] ++ Go.Lib.repeatL [48] n = _; rw [ih]; rfl
end Dig
theorem repeat_any {n : Nat} (h : n ≤ 1000000) (w : World) :
    Calls Tryd.prog 58 #[.string ⟨#[48]⟩, .int .i64 n] w fun e w' => e = .returned (.string (Dig.noughts n)) ∧ Below w.heap.size w w' := by
  have := Tryd.strings_Repeat ⟨#[48]⟩ n w (by omega) (by rw [show (⟨#[48]⟩ : ByteArray).size = 1 from rfl]; omega)
  rw [show (⟨#[48]⟩ : ByteArray).data.toList = [48] from rfl, Dig.repeat_one] at this
  exact this

set_option maxHeartbeats 1000000 in
theorem zeros_any {x : ByteArray} (hx : x.size ≤ 1000000) (w : World) :
    Calls Tryd.prog 55 #[.string x] w fun e w' => e = .returned (.int .i64 (Dig.zc x)) ∧ w = w' := by
  have H := Lib.hid (fun w => Tryd.strings_TrimRight_one x 48 (by decide) w (by omega))
  obtain ⟨c, h1, _, _, h4⟩ := Dig.trail x
  have hz : Dig.zc x = c := by unfold Dig.zc; omega
  rw [hz]
  have ht : (Dig.bs (Go.Lib.trimRightB (Dig.l x) 48)).size = x.size - c := by rw [Dig.bs_size]; exact h4
  rw [show (⟨(Go.Lib.trimRightB x.data.toList 48).toArray⟩ : ByteArray) = Dig.bs (Go.Lib.trimRightB (Dig.l x) 48) from rfl] at H
  generalize Dig.bs (Go.Lib.trimRightB (Dig.l x) 48) = y at *
  have hy : (x.size : Int) - y.size = c := by omega
  have hy2 : y.size ≤ x.size := by omega
  clear h1 h4 hz ht
  go_enter Tryd.func55, Tryd.ntmps55
  go_wp2_with fail
  refine (H.out _).mono ?_; rintro _ w' ⟨rfl, rfl⟩
  go_wp2
  go_ret
  exact ⟨ret_int (by omega), rfl⟩
set_option maxHeartbeats 1000000 in
theorem rzeros_any {x : ByteArray} (hx : x.size ≤ 1000000) (w : World) :
    Calls Tryd.prog 57 #[.string x] w fun e w' => e = .returned (.int .i64 (Dig.zc x)) ∧ w = w' := by
  obtain ⟨c, h1, h2, h3, h4⟩ := Dig.trail x
  have hz : Dig.zc x = c := by unfold Dig.zc; omega
  rw [hz]
  have H := Lib.hid h2
  have HN := Lib.hid h3
  clear h2 h3 h4 hz
  go_enter Tryd.func57, Tryd.ntmps57
  go_wp2_with fail
  go_loop [3] (fun i => ∃ k : Nat, k ≤ c ∧ i = .int .i64 k) (fun i => x.size - (intOf i).toNat)
  case atStart => exact ⟨0, by omega, rfl⟩
  case round =>
    obtain ⟨k, hk, rfl⟩ := hrel
    have hk1 : (0 : Int) ≤ k := by omega
    by_cases hkx : k < x.size
    · have hk2 : (k : Int) < x.size := by omega
      obtain ⟨m, hm, hmx⟩ : ∃ m : Nat, m = x.size - 1 - k ∧ m < x.size := ⟨_, rfl, by omega⟩
      have em : (x.size : Int) - 1 - k = m := by omega
      have hm1 : (m : Int) < x.size := by omega
      have hm0 : (0 : Int) ≤ m := by omega
      by_cases hkc : k < c
      · have e := H.out k hkx hkc
        have e2 : x[m].toNat = 48 := by subst hm; exact e
        have d1 : ((x[m].toNat : Int) == 48) = true := beq_iff_eq.2 (by omega)
        clear e e2 hm
        go_wp2
        go_round
        case rel => exact ⟨k + 1, by omega, by go_num⟩
        case measure => simp [intOf]; omega
      · obtain rfl : k = c := by omega
        have e := HN.out hkx
        have e2 : x[m].toNat ≠ 48 := by subst hm; exact e
        have d1 : ((x[m].toNat : Int) == 48) = false := beq_eq_false_iff_ne.2 (by omega)
        clear e e2 hm hkc
        go_wp2
        go_ret
        exact ⟨rfl, rfl⟩
    · have d1 : decide (k < x.size) = false := decide_eq_false (by omega)
      obtain rfl : k = c := by omega
      clear hkx
      go_wp2
      go_ret
      exact ⟨rfl, rfl⟩
set_option maxHeartbeats 1000000 in
theorem noughts_any {n : Nat} (h : n ≤ 1000000) (w : World) :
    Calls Tryd.prog 63 #[.int .i64 n] w fun e w' => e = .returned (.string (Dig.noughts n)) ∧ Below w.heap.size w w' := by
  have hmk := make_bytes (n := n) (by omega) w
  have hw1 := Whole.new w 5 (fcells n (fun _ => .int .u8 0))
  have hb1 := (Below.refl w.heap.size w).alloc (Nat.le_refl _) (.cells (fcells n (fun _ => .int .u8 0)) 5)
  have hn0 : (0 : Int) ≤ n := by omega
  go_enter Tryd.func63, Tryd.ntmps63
  go_wp2_with fail
  go_loopw [4] (fun i wr => ∃ k : Nat, k ≤ n ∧ i = .int .i64 k ∧ Whole wr w.heap.size 5 (fcells n (fun j => .int .u8 (if j < k then 48 else 0))) ∧ Below w.heap.size w wr) (fun i _ => n - (intOf i).toNat)
  case atStart => exact ⟨0, Nat.zero_le _, rfl, by rw [fcells_congr (f := fun j => .int .u8 (if j < 0 then 48 else 0)) (g := fun _ => .int .u8 0) (fun j _ => by rw [if_neg (by omega)])]; exact hw1, hb1⟩
  case round =>
    clear hmk hw1 hb1
    obtain ⟨k, hk, rfl, hwr, hbr⟩ := hrel
    have hk0 : (0 : Int) ≤ k := by omega
    by_cases hkn : k < n
    · have hkn2 : (k : Int) < n := by omega
      have c1 := hwr.fcell hkn
      have cf := hwr.frozen k
      have HP : Hid (Whole (_root_.Go.World.setCell _ ⟨w.heap.size, k, none⟩ (.int .u8 48)) w.heap.size 5 (fcells n (fun j => .int .u8 (if j < k + 1 then 48 else 0)))) := Lib.hid (hwr.fset (by rw [if_pos (by omega)]) (fun j _ hj => by
        by_cases g : j < k
        · rw [if_pos g, if_pos (by omega)]
        · rw [if_neg g, if_neg (by omega)]))
      clear hwr
      go_wp2
      go_roundw
      case rel => exact ⟨k + 1, by omega, by go_num, HP.out, hbr.setCell (Nat.le_refl _) _⟩
      case measure => simp [intOf]; omega
    · obtain rfl : k = n := by omega
      have hc := run_convert_bytes_back (P := Tryd.prog) _ 91 9 5 ⟨w.heap.size, 0, none⟩ k (List.replicate k 48) Tryd.underlying91 Tryd.underlying5 Tryd.underlying9 (by
        intro j hj
        rw [List.length_replicate] at hj
        rw [show (Addr.add ⟨w.heap.size, 0, none⟩ j) = ⟨w.heap.size, j, none⟩ by cases j <;> simp [Addr.add]]
        refine (hwr.fcell hj).trans ?_
        rw [if_pos hj]
        simp)
      rw [List.length_replicate] at hc
      go_wp2
      go_ret
      exact ⟨rfl, hbr⟩
end Go.Proofs.YtcnfgcdbjofihaaDoor
