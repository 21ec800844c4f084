/- Numerals: the text of digits in memory (printed by gen_dig2.py). -/
import Derived.Test.YtcnfgcdbjofihaaDoorDigNum
import Derived.Test.YtcnfgcdbjofihaaDoorMemW
import Derived.OwnWalk
import Derived.Laws.IdiomStrings
import Derived.Deep.OwnRows
namespace Go.Proofs.YtcnfgcdbjofihaaDoor
open Go.RowKit

/-! ### a block by a function -/
def fcells (n : Nat) (f : Nat → Value) : Array Value := ((List.range n).map f).toArray
theorem fcells_size (n : Nat) (f : Nat → Value) : (fcells n f).size = n := by simp [fcells]
theorem fcells_get {n : Nat} {f : Nat → Value} {i : Nat} (h : i < n) : (fcells n f)[i]? = some (f i) := by simp [fcells, h]
theorem fcells_congr {n : Nat} {f g : Nat → Value} (h : ∀ j, j < n → f j = g j) : fcells n f = fcells n g := by
  unfold fcells
  congr 1
  exact List.map_congr_left (fun j hj => h j (List.mem_range.1 hj))
theorem fcells_set (n : Nat) (f : Nat → Value) (i : Nat) (v : Value) : (fcells n f).setIfInBounds i v = fcells n (fun j => if j = i then v else f j) := by
  apply Array.ext
  · simp [fcells]
  · intro j h1 h2
    simp only [fcells, List.getElem_toArray, List.getElem_map, List.getElem_range]
    by_cases e : i = j
    · subst e; simp
    · simp [e, Ne.symm e]
theorem fcells_made (n : Nat) (z : Value) : madeCells #[z] n = fcells n (fun _ => z) := by
  apply Array.ext
  · simp [madeCells, fcells]
  · intro i h1 h2
    simp [madeCells, fcells, Nat.mod_one]
theorem Whole.fcell {W : World} {B : Nat} {t : TypeId} {n i : Nat} {f : Nat → Value} (h : Whole W B t (fcells n f)) (hi : i < n) : W.cell? ⟨B, i, none⟩ = some (f i) := (h.cell i).trans (fcells_get hi)
theorem Whole.fset {W : World} {B : Nat} {t : TypeId} {n i : Nat} {f g : Nat → Value} {v : Value} (h : Whole W B t (fcells n f)) (hv : g i = v) (hg : ∀ j, j < n → j ≠ i → g j = f j) : Whole (W.setCell ⟨B, i, none⟩ v) B t (fcells n g) := by
  have := h.set i v
  rw [fcells_set] at this
  rw [fcells_congr (g := fun j => if j = i then v else f j) (fun j hjn => by
    by_cases e : j = i
    · subst e; simp [hv]
    · simp [e, hg j hjn e])]
  exact this
theorem Tryd.infoByte : (Tryd.prog.info? 5).map (fun i => (i.zero, i.size, i.bytes)) = some (some (.int .u8 0), 1, 1) := by kernel_rfl
theorem Tryd.infoInt : (Tryd.prog.info? 3).map (fun i => (i.zero, i.size, i.bytes)) = some (some (.int .i64 0), 1, 8) := by kernel_rfl
theorem make_bytes {n : Nat} (h : n ≤ 100000000) (w : World) : (Instr.makeSlice 91 (.int .i64 (n : Int)) (.int .i64 (n : Int))).run Tryd.prog w = .ok (.slice (some ⟨w.heap.size, 0, none⟩) n n) (w.alloc (.cells (fcells n (fun _ => .int .u8 0)) 5)) := by
  rw [← fcells_made]
  exact run_make_row' (P := Tryd.prog) 91 5 (.int .u8 0) 1 Tryd.underlying91 Tryd.infoByte rfl .i64 .i64 n (by omega) (by omega) w
theorem make_ints {n : Nat} (h : n ≤ 100000000) (w : World) : (Instr.makeSlice 101 (.int .i64 (n : Int)) (.int .i64 (n : Int))).run Tryd.prog w = .ok (.slice (some ⟨w.heap.size, 0, none⟩) n n) (w.alloc (.cells (fcells n (fun _ => .int .i64 0)) 3)) := by
  rw [← fcells_made]
  exact run_make_row' (P := Tryd.prog) 101 3 (.int .i64 0) 8 Tryd.underlying101 Tryd.infoInt rfl .i64 .i64 n (by omega) (by omega) w

namespace Dig
/-- The bytes of digits, as far as they are laid, from the end. -/
def tx (v n i : Nat) (p : Nat) : Value := .int .u8 (if n - 1 - p < i then 48 + (dg v (n - 1 - p) : Int) else 0)
theorem digs_get {v n j : Nat} (h : j < n) : (digs v n)[j]? = some (ch (dg v (n - 1 - j))) := by unfold digs; simp [h]
theorem digs_len (v n : Nat) : (digs v n).length = n := by simp [digs]
end Dig
theorem conv_digs {W : World} {B v n : Nat} (h : Whole W B 5 (fcells n (Dig.tx v n n))) :
    (convert 91 9 (.slice (some ⟨B, 0, none⟩) n n)).run Tryd.prog W = .ok (.string (Dig.bs (Dig.digs v n))) W := by
  have k := run_convert_bytes_back (P := Tryd.prog) W 91 9 5 ⟨B, 0, none⟩ n (Dig.digs v n) Tryd.underlying91 Tryd.underlying5 Tryd.underlying9 (by
    intro j hj
    have hj' : j < n := by rw [Dig.digs_len] at hj; exact hj
    rw [show (Addr.add ⟨B, 0, none⟩ j) = ⟨B, j, none⟩ by cases j <;> simp [Addr.add]]
    refine (h.fcell hj').trans ?_
    have e := Dig.digs_get (v := v) hj'
    rw [List.getElem?_eq_getElem hj] at e
    have e2 := Option.some.inj e
    rw [e2, Dig.ch_nat (Dig.dg_lt _ _)]
    unfold Dig.tx
    rw [if_pos (by omega)]
    simp)
  rwa [Dig.digs_len] at k

/-! ### leading zeros -/
namespace Dig
theorem lead (x : ByteArray) : ∃ c, c ≤ x.size ∧ (∀ i (h : i < x.size), i < c → x[i].toNat = 48) ∧ (∀ h : c < x.size, x[c].toNat ≠ 48) ∧ strip (l x) = (l x).drop c := by
  have key : ∀ k : List UInt8, ∃ c, c ≤ k.length ∧ (∀ i (h : i < k.length), i < c → k[i].toNat = 48) ∧ (∀ h : c < k.length, k[c].toNat ≠ 48) ∧ strip k = k.drop c := by
    intro k
    induction k with
    | nil => exact ⟨0, Nat.le_refl _, fun i h _ => by simp at h, fun h => by simp at h, rfl⟩
    | cons a t ih =>
      obtain ⟨c, h1, h2, h3, h4⟩ := ih
      by_cases e : a.toNat = 48
      · have ea : a = 48 := UInt8.toNat_inj.1 e
        refine ⟨c + 1, by simp; omega, fun i hi hc => ?_, fun h => by simpa using h3 (by simpa using h), ?_⟩
        · cases i with
          | zero => exact e
          | succ i => simpa using h2 i (by simpa using hi) (by omega)
        · unfold strip at h4 ⊢
          rw [List.dropWhile_cons, if_pos (by rw [ea]; rfl), h4]; rfl
      · refine ⟨0, Nat.zero_le _, fun i _ hc => by omega, fun _ => by simpa using e, ?_⟩
        unfold strip
        rw [List.dropWhile_cons, if_neg (by intro g; exact e (by rw [beq_iff_eq.1 g]; rfl))]; rfl
  obtain ⟨c, h1, h2, h3, h4⟩ := key (l x)
  rw [l_len] at h1
  exact ⟨c, h1, fun i hi hc => h2 i (by rw [l_len]; exact hi) hc, fun h => h3 (by rw [l_len]; exact h), h4⟩
theorem drop_ext (x : ByteArray) (c : Nat) : x.extract c x.size = bs ((l x).drop c) := by
  apply ByteArray.ext
  rw [ByteArray.data_extract]
  apply Array.ext'
  simp [bs, l, List.extract_eq_take_drop]
  exact List.take_of_length_le (by rw [List.length_drop, Array.length_toList]; exact Nat.le_refl _)
end Dig
set_option maxHeartbeats 1000000 in
theorem rstrip_any {x : ByteArray} (hx : x.size ≤ maxLen) (w : World) :
    Calls Tryd.prog 85 #[.string x] w fun e w' => e = .returned (.string (Dig.bs (Dig.strip (Dig.l x)))) ∧ w = w' := by
  obtain ⟨c, hc, h1, h2, h3⟩ := Dig.lead x
  rw [h3, ← Dig.drop_ext]
  have H := Lib.hid h1; clear h1 h3
  have HN := Lib.hid h2; clear h2
  unfold maxLen at hx
  go_enter Tryd.func85, Tryd.ntmps85
  go_wp2_with fail
  go_loop [3] (fun i => ∃ k : Nat, k ≤ c ∧ i = .int .i64 k) (fun i => x.size - (intOf i).toNat)
  case atStart => exact ⟨0, by omega, rfl⟩
  case round =>
    obtain ⟨k, hk, rfl⟩ := hrel
    have hk1 : (0 : Int) ≤ k := by omega
    by_cases hkc : k < c
    · have hkx : k < x.size := by omega
      have hk2 : (k : Int) < x.size := by omega
      have e := H.out k hkx hkc
      have d1 : ((x[k].toNat : Int) == 48) = true := beq_iff_eq.2 (by omega)
      clear e
      go_wp2
      go_round
      case rel => exact ⟨k + 1, by omega, by go_num⟩
      case measure => simp [intOf]; omega
    · obtain rfl : k = c := by omega
      by_cases hkx : k < x.size
      · have hk2 : (k : Int) < x.size := by omega
        have e := HN.out hkx
        have d1 : ((x[k].toNat : Int) == 48) = false := beq_eq_false_iff_ne.2 (by omega)
        clear e hkc
        go_wp2
        go_ret
        exact ⟨rfl, rfl⟩
      · have d1 : decide ((k : Int) < x.size) = false := decide_eq_false (by omega)
        clear hkc
        go_wp2
        go_ret
        exact ⟨rfl, rfl⟩


set_option maxHeartbeats 2000000 in
theorem text_any {v n B : Nat} (hv : v < Dig.big n) (hn : n ≤ 4000000) (W : World) (hW : Whole W B 3 (fcells n (fun j => .int .i64 (Dig.dg v j)))) :
    Calls Tryd.prog 108 #[.slice (some ⟨B, 0, none⟩) n n] W fun e W' => e = .returned (.string (Dig.st v)) ∧ Below W.heap.size W W' := by
  have HS : Hid (∀ w, Calls Tryd.prog 120 #[.string (Dig.bs (Dig.digs v n))] w fun e w' => e = .returned (.string (Dig.st v)) ∧ w = w') := Lib.hid (by
    intro w
    have hd := Dig.digs_alld v n
    have e : Dig.V (Dig.bs (Dig.digs v n)) = v := by unfold Dig.V; rw [Dig.l_bs]; exact Dig.digs_val n v hv
    have := strip_any (x := Dig.bs (Dig.digs v n)) (by rw [Dig.l_bs]; exact hd) w
    rwa [e] at this)
  have hmk := make_bytes (n := n) (by omega) W
  have HB := Lib.hid hW.lt
  have hcap : (0 : Int) ≤ n := by omega
  go_enter Tryd.func108, Tryd.ntmps108
  go_wp2_with fail
  have hw1 := Whole.new W 5 (fcells n (fun _ => .int .u8 0))
  have hb1 := (Below.refl W.heap.size W).alloc (Nat.le_refl _) (.cells (fcells n (fun _ => .int .u8 0)) 5)
  have hi1 := hW.alloc (.cells (fcells n (fun _ => .int .u8 0)) 5)
  go_loopw [10] (fun i wr => ∃ k : Nat, k ≤ n ∧ i = .int .i64 k ∧ Whole wr W.heap.size 5 (fcells n (Dig.tx v n k)) ∧ Whole wr B 3 (fcells n (fun j => .int .i64 (Dig.dg v j))) ∧ Below W.heap.size W wr) (fun i _ => n - (intOf i).toNat)
  case atStart => exact ⟨0, Nat.zero_le _, rfl, by rw [fcells_congr (f := Dig.tx v n 0) (g := fun _ => .int .u8 0) (fun j _ => by unfold Dig.tx; rw [if_neg (by omega)])]; exact hw1, hi1, hb1⟩
  case round =>
    clear hmk hw1 hb1 hi1 hW
    obtain ⟨k, hk, rfl, hwr, hin, hbr⟩ := hrel
    have hk0 : (0 : Int) ≤ k := by omega
    by_cases hkn : k < n
    · have c1 := hin.fcell hkn
      have hd := Dig.dg_lt v k
      obtain ⟨m, hm, hmn⟩ : ∃ m : Nat, m = n - 1 - k ∧ m < n := ⟨_, rfl, by omega⟩
      have em : (n : Int) - 1 - k = m := by omega
      have hm0 : (0 : Int) ≤ m := by omega
      have hm1 : (m : Int) < n := by omega
      have hkn2 : (k : Int) < n := by omega
      have c2 := hwr.fcell hmn
      have cf := hwr.frozen m
      have D := Lib.hid (show n - 1 - m = k by omega)
      have HS2 : Hid (∀ u, (48 + (Dig.dg v k : Int)) = u → Whole (wr.setCell ⟨W.heap.size, m, none⟩ (.int .u8 u)) W.heap.size 5 (fcells n (Dig.tx v n (k + 1)))) := Lib.hid (fun u hu => by
        refine hwr.fset ?_ ?_
        · unfold Dig.tx; rw [if_pos (by omega), D.out, hu]
        · intro j hjn hj
          unfold Dig.tx
          by_cases g : n - 1 - j < k
          · rw [if_pos g, if_pos (by omega)]
          · by_cases g2 : n - 1 - j < k + 1
            · exact absurd (show j = m by have := D.out; omega) hj
            · rw [if_neg g2, if_neg g])
      have HIN := Lib.hid (fun (u : Value) => hin.far (p := ⟨W.heap.size, m, none⟩) (by have := HB.out; simp; omega) u)
      clear hm hin hwr
      generalize hdd : (Dig.dg v k : Int) = d at *
      go_wp2
      go_roundw
      case rel =>
        refine ⟨k + 1, by omega, by go_num, HS2.out _ rfl, HIN.out _, hbr.setCell (Nat.le_refl _) _⟩
      case measure => simp [intOf]; omega
    · obtain rfl : k = n := by omega
      have hc := conv_digs hwr
      go_wp2_with fail
      refine (HS.out _).mono ?_; rintro e w' ⟨rfl, rfl⟩
      go_wp2
      go_ret
      exact ⟨rfl, hbr⟩


set_option maxHeartbeats 2000000 in
theorem rtext_any {v n B : Nat} (hv : v < Dig.big n) (hn : n ≤ 4000000) (W : World) (hW : Whole W B 3 (fcells n (fun j => .int .i64 (Dig.dg v j)))) :
    Calls Tryd.prog 104 #[.slice (some ⟨B, 0, none⟩) n n] W fun e W' => e = .returned (.string (Dig.st v)) ∧ Below W.heap.size W W' := by
  have HS : Hid (∀ w, Calls Tryd.prog 85 #[.string (Dig.bs (Dig.digs v n))] w fun e w' => e = .returned (.string (Dig.st v)) ∧ w = w') := Lib.hid (by
    intro w
    have := rstrip_any (x := Dig.bs (Dig.digs v n)) (by rw [Dig.bs_size, Dig.digs_len]; unfold maxLen; omega) w
    rwa [Dig.l_bs, Dig.digs_strip hv] at this)
  have hmk := make_bytes (n := n) (by omega) W
  have HB := Lib.hid hW.lt
  have hcap : (0 : Int) ≤ n := by omega
  go_enter Tryd.func104, Tryd.ntmps104
  go_wp2_with fail
  have hw1 := Whole.new W 5 (fcells n (fun _ => .int .u8 0))
  have hb1 := (Below.refl W.heap.size W).alloc (Nat.le_refl _) (.cells (fcells n (fun _ => .int .u8 0)) 5)
  have hi1 := hW.alloc (.cells (fcells n (fun _ => .int .u8 0)) 5)
  go_loopw [4] (fun i wr => ∃ k : Nat, k ≤ n ∧ i = .int .i64 k ∧ Whole wr W.heap.size 5 (fcells n (Dig.tx v n k)) ∧ Whole wr B 3 (fcells n (fun j => .int .i64 (Dig.dg v j))) ∧ Below W.heap.size W wr) (fun i _ => n - (intOf i).toNat)
  case atStart => exact ⟨0, Nat.zero_le _, rfl, by rw [fcells_congr (f := Dig.tx v n 0) (g := fun _ => .int .u8 0) (fun j _ => by unfold Dig.tx; rw [if_neg (by omega)])]; exact hw1, hi1, hb1⟩
  case round =>
    clear hmk hw1 hb1 hi1 hW
    obtain ⟨k, hk, rfl, hwr, hin, hbr⟩ := hrel
    have hk0 : (0 : Int) ≤ k := by omega
    by_cases hkn : k < n
    · have c1 := hin.fcell hkn
      have hd := Dig.dg_lt v k
      obtain ⟨m, hm, hmn⟩ : ∃ m : Nat, m = n - 1 - k ∧ m < n := ⟨_, rfl, by omega⟩
      have em : (n : Int) - 1 - k = m := by omega
      have hm0 : (0 : Int) ≤ m := by omega
      have hm1 : (m : Int) < n := by omega
      have hkn2 : (k : Int) < n := by omega
      have c2 := hwr.fcell hmn
      have cf := hwr.frozen m
      have D := Lib.hid (show n - 1 - m = k by omega)
      have HS2 : Hid (∀ u, (48 + (Dig.dg v k : Int)) = u → Whole (wr.setCell ⟨W.heap.size, m, none⟩ (.int .u8 u)) W.heap.size 5 (fcells n (Dig.tx v n (k + 1)))) := Lib.hid (fun u hu => by
        refine hwr.fset ?_ ?_
        · unfold Dig.tx; rw [if_pos (by omega), D.out, hu]
        · intro j hjn hj
          unfold Dig.tx
          by_cases g : n - 1 - j < k
          · rw [if_pos g, if_pos (by omega)]
          · by_cases g2 : n - 1 - j < k + 1
            · exact absurd (show j = m by have := D.out; omega) hj
            · rw [if_neg g2, if_neg g])
      have HIN := Lib.hid (fun (u : Value) => hin.far (p := ⟨W.heap.size, m, none⟩) (by have := HB.out; simp; omega) u)
      clear hm hin hwr
      generalize hdd : (Dig.dg v k : Int) = d at *
      go_wp2
      go_roundw
      case rel =>
        refine ⟨k + 1, by omega, by go_num, HS2.out _ rfl, HIN.out _, hbr.setCell (Nat.le_refl _) _⟩
      case measure => simp [intOf]; omega
    · obtain rfl : k = n := by omega
      have hc := conv_digs hwr
      go_wp2_with fail
      refine (HS.out _).mono ?_; rintro e w' ⟨rfl, rfl⟩
      go_wp2
      go_ret
      exact ⟨rfl, hbr⟩


namespace Dig
/-- A result, unless it is too long. -/
def lim (v : Nat) : ByteArray × Int := if v < big 600 then (st v, 0) else (⟨#[]⟩, 2)
end Dig

theorem limited_yes {x : ByteArray} (h : x.size ≤ 600) (w : World) :
    Calls Tryd.prog 107 #[.string x] w fun e w' => e = .returned (.tuple #[.string x, .int .i64 0]) ∧ w = w' := by
  have d1 : decide (600 < (x.size : Int)) = false := decide_eq_false (by omega)
  clear h
  go_enter Tryd.func107, Tryd.ntmps107
  go_wp2
  go_ret2
  exact ⟨rfl, rfl⟩
theorem limited_no {x : ByteArray} (h : ¬ x.size ≤ 600) (w : World) :
    Calls Tryd.prog 107 #[.string x] w fun e w' => e = .returned (.tuple #[.string ⟨#[]⟩, .int .i64 2]) ∧ w = w' := by
  have d1 : decide (600 < (x.size : Int)) = true := decide_eq_true (by omega)
  clear h
  go_enter Tryd.func107, Tryd.ntmps107
  go_wp2
  go_ret2
  exact ⟨rfl, rfl⟩
theorem limited_any (v : Nat) (w : World) :
    Calls Tryd.prog 107 #[.string (Dig.st v)] w fun e w' => e = .returned (.tuple #[.string (Dig.lim v).1, .int .i64 (Dig.lim v).2]) ∧ w = w' := by
  unfold Dig.lim
  by_cases h : v < Dig.big 600
  · rw [if_pos h]; exact limited_yes ((Dig.st_size v 600).2 h) w
  · rw [if_neg h]; exact limited_no (fun g => h ((Dig.st_size v 600).1 g)) w

end Go.Proofs.YtcnfgcdbjofihaaDoor
