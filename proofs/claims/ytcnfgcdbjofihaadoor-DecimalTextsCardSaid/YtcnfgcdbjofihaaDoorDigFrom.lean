/- Numerals: numerals of ints. -/
import Derived.Test.YtcnfgcdbjofihaaDoorDigInt
import Derived.BigRegion
import Derived.RegionTactic
import Derived.ChangeAlike
namespace Go.Proofs.YtcnfgcdbjofihaaDoor
open Go.RowKit

theorem grown_set (W : World) (B i : Nat) (u : Value) : W.grownBy (W.setCell ⟨B, i, none⟩ u) (some B) :=
  ⟨rfl, rfl, rfl, by simp [World.setCell], fun k _ hk => Below.heap_setCell _ _ _ _ (by simp at hk ⊢; omega)⟩
theorem grown_trans {X Y Z : World} {row : Option Nat} (h : X.grownBy Y row) (k : Y.grownBy Z row) : X.grownBy Z row :=
  ⟨k.os.trans h.os, k.tape.trans h.tape, k.output.trans h.output, Nat.le_trans h.size k.size, fun i hi hr => (k.block i (Nat.lt_of_lt_of_le hi h.size) hr).trans (h.block i hi hr)⟩
theorem cell_new (W : World) (t : TypeId) (v : Value) : (W.alloc (.cells #[v] t)).cell? ⟨W.heap.size, 0, none⟩ = some v := (Whole.new W t #[v]).cell 0
namespace Dig
/-- The numeral of an int. -/
def fi (n : Int) : ByteArray := st n.toNat
/-- A block whose first cells are turned round, as far as they are. -/
def rv (F : Nat → Value) (n p j : Nat) : Value := if j < p ∨ (n - 1 - p < j ∧ j < n) then F (n - 1 - j) else F j
theorem st_zero' : st 0 = ⟨#[]⟩ := by unfold st; rw [num_zero]; rfl
theorem rv_zero (F : Nat → Value) (n : Nat) : fcells n (rv F n 0) = fcells n F := fcells_congr (fun j hj => by unfold rv; rw [if_neg (by omega)])
theorem num_rev (N : Nat) : ∀ k, N / 10 ^ k = 0 → (k = 0 ∨ N / 10 ^ (k - 1) ≠ 0) → digs N k = num N := by
  induction N using num_ind with
  | h0 => intro k _ h2; rcases h2 with rfl | h2
          · rw [num_zero]; rfl
          · simp at h2
  | h1 N hN ih =>
    intro k h1 h2
    cases k with
    | zero => rw [Nat.pow_zero, Nat.div_one] at h1; exact absurd h1 hN
    | succ k =>
      rw [digs_succ, num_pos hN, ih k (by rw [Nat.div_div_eq_div_mul, Nat.mul_comm, ← Nat.pow_succ]; exact h1) ?_]
      rcases Nat.eq_zero_or_pos k with h | h
      · exact Or.inl h
      · right
        rcases h2 with h2 | h2
        · cases h2
        · cases k with
          | zero => omega
          | succ m => rw [Nat.div_div_eq_div_mul, Nat.mul_comm]; show N / (10 ^ m * 10) ≠ 0; rw [← Nat.pow_succ]; exact h2
end Dig
theorem arr_f (cur : Array Value) : ∃ F : Nat → Value, cur = fcells cur.size F := by
  refine ⟨fun j => cur[j]?.getD (.bool false), ?_⟩
  apply Array.ext
  · rw [fcells_size]
  · intro i h1 h2
    have := fcells_get (n := cur.size) (f := fun j => cur[j]?.getD (.bool false)) h1
    rw [Array.getElem?_eq_getElem h2] at this
    have e := Option.some.inj this
    rw [e]
    simp [h1]

set_option maxHeartbeats 4000000 in
theorem reverse_any {g cap n : Nat} {F : Nat → Value} {G : Nat → Int} (hn : n ≤ cap) (hn2 : n ≤ 1000) (hF : ∀ j, j < n → F j = .int .u8 (G j)) (W : World) (hW : Whole W g 5 (fcells cap F)) :
    Calls Tryd.prog 105 #[.slice (some ⟨g, 0, none⟩) n cap] W fun e W' => e = .returned (.tuple #[]) ∧ (∃ F', Whole W' g 5 (fcells cap F') ∧ ∀ j, j < n → F' j = F (n - 1 - j)) ∧ W.grownBy W' (some g) := by
  have HF := Lib.hid hF
  clear hF
  go_enter Tryd.func105, Tryd.ntmps105
  go_wp2_with fail
  go_loopw [2, 3] (fun i k wr => ∃ p : Nat, p ≤ n ∧ 2 * p ≤ n + 1 ∧ i = .int .i64 p ∧ k = .int .i64 ((n : Int) - 1 - p) ∧ (∃ F', Whole wr g 5 (fcells cap F') ∧ ∀ j, j < n → F' j = Dig.rv F n p j) ∧ W.grownBy wr (some g)) (fun i _ _ => n - (intOf i).toNat)
  case atStart => exact ⟨0, by omega, by omega, rfl, by go_num, ⟨F, hW, fun j hj => by unfold Dig.rv; rw [if_neg (by omega)]⟩, ⟨rfl, rfl, rfl, Nat.le_refl _, fun _ _ _ => rfl⟩⟩
  case round =>
    obtain ⟨p, hp, hp2, rfl, rfl, ⟨F', hwr, hF'⟩, hg⟩ := hrel
    have hp0 : (0 : Int) ≤ p := by omega
    by_cases hlt : p < n - 1 - p
    · obtain ⟨q, hq, hqn⟩ : ∃ q : Nat, q = n - 1 - p ∧ q < n := ⟨_, rfl, by omega⟩
      have eq : (n : Int) - 1 - p = q := by omega
      rw [eq]
      have hpq : p < q := by omega
      have hpq2 : (p : Int) < q := by omega
      have hqn2 : (q : Int) < n := by omega
      have hpn2 : (p : Int) < n := by omega
      have hq0 : (0 : Int) ≤ q := by omega
      have c1 := hwr.fcell (i := p) (by omega)
      have c2 := hwr.fcell (i := q) (by omega)
      have e1 : F' p = .int .u8 (G p) := by rw [hF' p (by omega)]; unfold Dig.rv; rw [if_neg (by omega)]; exact HF.out p (by omega)
      have e2 : F' q = .int .u8 (G q) := by rw [hF' q (by omega)]; unfold Dig.rv; rw [if_neg (by omega)]; exact HF.out q (by omega)
      rw [e1] at c1
      rw [e2] at c2
      have f1 := hwr.frozen p
      have f2 := hwr.frozen q
      have H1 := ((hwr.set p (.int .u8 (G q))).set q (.int .u8 (G p)))
      rw [fcells_set, fcells_set] at H1
      have H2 := Lib.hid H1
      have HG : Hid (W.grownBy ((wr.setCell ⟨g, p, none⟩ (.int .u8 (G q))).setCell ⟨g, q, none⟩ (.int .u8 (G p))) (some g)) := Lib.hid (grown_trans (grown_trans hg (grown_set _ _ _ _)) (grown_set _ _ _ _))
      have HFF : Hid (∀ j, j < n → (if j = q then Value.int .u8 (G p) else if j = p then .int .u8 (G q) else F' j) = Dig.rv F n (p + 1) j) := Lib.hid (fun j hj => by
        unfold Dig.rv
        by_cases jq : j = q
        · rw [if_pos jq, if_pos (by omega), show n - 1 - j = p by omega, HF.out p (by omega)]
        · rw [if_neg jq]
          by_cases jp : j = p
          · rw [if_pos jp, if_pos (by omega), show n - 1 - j = q by omega, HF.out q (by omega)]
          · rw [if_neg jp, hF' j hj]
            unfold Dig.rv
            by_cases g : j < p ∨ (n - 1 - p < j ∧ j < n)
            · rw [if_pos g, if_pos (by omega)]
            · rw [if_neg g, if_neg (by omega)])
      clear H1 hwr hg e1 e2 hF' hq
      go_wp2_with fail
      go_region
      go_wp2
      go_roundw
      case rel => exact ⟨p + 1, by omega, by omega, by go_num, by go_num, ⟨_, H2.out, HFF.out⟩, ⟨HG.out.os, HG.out.tape, HG.out.output, HG.out.size, HG.out.block⟩⟩
      case measure => simp [intOf]; omega
    · have hlt2 : ¬ ((p : Int) < (n : Int) - 1 - p) := by omega
      have d1 : decide ((p : Int) < (n : Int) - 1 - p) = false := decide_eq_false hlt2
      have HFF : Hid (∀ j, j < n → F' j = F (n - 1 - j)) := Lib.hid (fun j hj => by
        rw [hF' j hj]
        unfold Dig.rv
        by_cases g : j < p ∨ (n - 1 - p < j ∧ j < n)
        · rw [if_pos g]
        · rw [if_neg g]
          congr 1
          omega)
      clear hF' hlt hlt2
      go_wp2
      go_end0
      exact ⟨rfl, ⟨_, hwr, HFF.out⟩, hg⟩
theorem below_of_grown {n B : Nat} {w W W' : World} (h : W.grownBy W' (some B)) (hb : Below n w W) (hn : n ≤ B) (hs : n ≤ W.heap.size) : Below n w W' :=
  hb.grown h hs (fun j e => by cases e; exact hn)
namespace Dig
/-- The digits of a number, the last one first. -/
def low (N k : Nat) : List Value := (List.range k).map fun j => .int .u8 (48 + (dg N j : Int))
theorem low_len (N k : Nat) : (low N k).length = k := by simp [low]
theorem low_succ (N k : Nat) : low N k ++ [.int .u8 (48 + (dg N k : Int))] = low N (k + 1) := by simp [low, List.range_succ]
theorem low_get {N k j : Nat} (h : j < k) : (low N k)[j]? = some (.int .u8 (48 + (dg N j : Int))) := by simp [low, h]
theorem pow19 {N k : Nat} (hN : N ≤ 9223372036854775807) (h : N / 10 ^ k ≠ 0) : k ≤ 18 := by
  rcases Nat.lt_or_ge 18 k with g | g
  · have h1 : 10 ^ 19 ≤ 10 ^ k := Nat.pow_le_pow_right (by omega) (by omega)
    exact absurd (Nat.div_eq_of_lt (by omega)) h
  · exact g
theorem digs_cons (N k : Nat) : digs N (k + 1) = ch (dg N k) :: digs N k := by
  unfold digs
  rw [List.range_succ_eq_map, List.map_cons, List.map_map]
  congr 1
  apply List.map_congr_left
  intro j hj
  have := List.mem_range.1 hj
  show ch (dg N (k + 1 - 1 - (j + 1))) = _
  rw [show k + 1 - 1 - (j + 1) = k - 1 - j by omega]
theorem fi_neg {n : Int} (h : n ≤ 0) : fi n = ⟨#[]⟩ := by unfold fi; rw [show n.toNat = 0 by omega, st_zero']
end Dig
theorem conv_nil (W : World) : (convert 91 9 (.slice none 0 0)).run Tryd.prog W = .ok (.string ⟨#[]⟩) W := by
  rw [run_convert_bytes_string W 91 9 5 none 0 0 Tryd.underlying91 Tryd.underlying5 Tryd.underlying9]
  simp [Conv.bytesToString]
  rfl
theorem reverse_nil (W : World) : Calls Tryd.prog 105 #[.slice none 0 0] W fun e W' => e = .returned (.tuple #[]) ∧ W = W' := by
  go_enter Tryd.func105, Tryd.ntmps105
  go_wp2_with fail
  go_loop [2, 3] (fun i k => i = .int .i64 0 ∧ k = .int .i64 (-1)) (fun _ _ => 0)
  case atStart => exact ⟨rfl, rfl⟩
  case round =>
    obtain ⟨rfl, rfl⟩ := hrel
    go_wp2
    go_end0
    exact ⟨rfl, rfl⟩

set_option maxRecDepth 100000 in
set_option maxHeartbeats 4000000 in
theorem fromInt_pos {N : Nat} (h0 : 0 < N) (hN : N ≤ 9223372036854775807) (w : World) :
    Calls Tryd.prog 80 #[.int .i64 N] w fun e w' => e = .returned (.string (Dig.st N)) ∧ Below w.heap.size w w' := by
  obtain ⟨i0, hi, hz0, hz1, hz2⟩ := info_parts Tryd.infoByte
  have HN := Lib.hid hN
  have H0 := Lib.hid h0
  clear hN h0
  go_enter Tryd.func80, Tryd.ntmps80
  go_wp2_with fail
  go_loopw [0, 3] (fun m v wr => ∃ k : Nat, m = .int .i64 ((N / 10 ^ k : Nat) : Int) ∧ (k = 0 ∨ N / 10 ^ (k - 1) ≠ 0) ∧ wr.ownsRow w.heap.size 5 1 v k (Dig.low N k) ∧ Below w.heap.size w wr) (fun m _ _ => (intOf m).toNat)
  case atStart => exact ⟨0, by go_num, Or.inl rfl, World.ownsRow_nil _ _ _ _, Below.refl _ _⟩
  case round =>
    obtain ⟨k, rfl, hk, hown, hbr⟩ := hrel
    have hk19 : k ≤ 19 := by
      rcases hk with rfl | hk
      · omega
      · have := Dig.pow19 HN.out hk; omega
    have HK := Lib.hid hk
    clear hk
    have hqN : N / 10 ^ k ≤ N := Nat.div_le_self _ _
    have hqm : N / 10 ^ k ≤ 9223372036854775807 := Nat.le_trans hqN HN.out
    by_cases hq : N / 10 ^ k = 0
    · have HQ := Lib.hid hq
      have hk1 : k ≠ 0 := fun e => by rw [e, Nat.pow_zero, Nat.div_one] at hq; have := H0.out; omega
      obtain ⟨hl, hn | ⟨g, cap, cur, rfl, hbg, hg, hnc, hcm, hcs, htake⟩⟩ := hown
      · exfalso
        exact hk1 hn.2
      obtain ⟨F, hF⟩ := arr_f cur
      rw [Nat.mul_one] at hcs htake
      have hW : Whole _ g 5 cur := hg
      rw [hF, hcs] at hW
      have hFj : ∀ j, j < k → F j = .int .u8 (48 + (Dig.dg N j : Int)) := fun j hj => by
        have e1 := fcells_get (n := cur.size) (f := F) (i := j) (by omega)
        rw [← hF] at e1
        have e2 := Dig.low_get (N := N) hj
        rw [← htake, List.getElem?_take, if_pos hj] at e2
        rw [Array.getElem?_toList, e1] at e2
        exact Option.some.inj e2
      have HR := Lib.hid (reverse_any (n := k) (G := fun j => 48 + (Dig.dg N j : Int)) hnc (by omega) hFj _ hW)
      have HFJ := Lib.hid hFj
      have hgs : g < _ := hW.lt
      have HE : Hid ((⟨(Dig.digs N k).toArray⟩ : ByteArray) = Dig.st N) := Lib.hid (by unfold Dig.st Dig.bs; rw [Dig.num_rev N k HQ.out HK.out])
      rw [hq]
      clear hl hcm hcs htake hF hg hW hFj hq
      go_wp2_with fail
      refine HR.out.mono ?_; rintro _ w1 ⟨rfl, ⟨F', hw1, hf1⟩, hg1⟩
      have hb1 := below_of_grown hg1 hbr hbg hbr.size
      have hc := run_convert_bytes_back (P := Tryd.prog) w1 91 9 5 ⟨g, 0, none⟩ cap (Dig.digs N k) Tryd.underlying91 Tryd.underlying5 Tryd.underlying9 (by
        intro j hj
        rw [Dig.digs_len] at hj
        rw [show (Addr.add ⟨g, 0, none⟩ j) = ⟨g, j, none⟩ by cases j <;> simp [Addr.add]]
        refine (hw1.fcell (by omega)).trans ?_
        rw [hf1 j hj, HFJ.out _ (by omega)]
        have e := Dig.digs_get (v := N) hj
        rw [List.getElem?_eq_getElem (by rw [Dig.digs_len]; exact hj)] at e
        rw [Option.some.inj e, Dig.ch_nat (Dig.dg_lt _ _)]
        simp)
      rw [Dig.digs_len, HE.out] at hc
      clear hf1 hw1 hg1 HFJ
      go_wp2
      go_ret
      exact ⟨rfl, hb1⟩
    · have hk18 := Dig.pow19 HN.out hq
      have HQ := Lib.hid (show N / 10 ^ (k + 1 - 1) ≠ 0 from hq)
      have HD : Hid (N / 10 ^ k / 10 = N / 10 ^ (k + 1) ∧ N / 10 ^ k % 10 = Dig.dg N k) := Lib.hid ⟨by rw [Nat.div_div_eq_div_mul, ← Nat.pow_succ], rfl⟩
      have HL := Lib.hid (Dig.low_succ N k)
      generalize Dig.dg N k = d at *
      generalize N / 10 ^ k = q at *
      have hq0 : (0 : Int) < q := by omega
      have em : (q : Int) % 10 = d := by have := HD.out.2; omega
      have hd9 : d ≤ 9 := by have := HD.out.2; omega
      clear hq hqN
      go_wp2_with (at_builtin; refine wpList_append_own _ rfl _ _ 91 rfl w.heap.size 5 i0 (.int .u8 0) 1 1 Tryd.underlying91 hi hz0 hz1 hz2 rfl (by decide) _ _ _ rfl (hown.alloc _) ⟨_, 0, none⟩ 1 1 [.int .u8 (48 + (d : Int))] rfl rfl ?c1 ?c2 ?c3 ?c4 ?c5 ?_)
      case c1 =>
        intro j u hj
        have : j = 0 := by
          rcases j with _ | j
          · rfl
          · simp at hj
        subst this
        rw [← hj]
        exact cell_new _ _ _
      case c2 => simp [Value.oneCell']
      case c3 => unfold maxLen; omega
      case c4 => omega
      case c5 => have := hbr.size; simp; omega
      intro v' w3 hown3 hgrow _
      have hb3 := below_grown hbr hbr.size hown (Nat.le_refl _) hgrow
      clear hown hgrow
      go_wp2
      go_roundw
      case rel =>
        refine ⟨k + 1, int_of (by rw [← HD.out.1]; omega), Or.inr HQ.out, ?_, hb3⟩
        rw [← HL.out]
        exact hown3
      case measure => simp [intOf]; omega

set_option maxHeartbeats 1000000 in
theorem fromInt_neg {n : Int} (h : n ≤ 0) (w : World) :
    Calls Tryd.prog 80 #[.int .i64 n] w fun e w' => e = .returned (.string ⟨#[]⟩) ∧ Below w.heap.size w w' := by
  have d1 : decide (0 < n) = false := decide_eq_false (by omega)
  have HC := Lib.hid conv_nil
  go_enter Tryd.func80, Tryd.ntmps80
  go_wp2_with fail
  go_loop [0, 3] (fun m v => m = .int .i64 n ∧ v = .slice none 0 0) (fun _ _ => 0)
  case atStart => exact ⟨rfl, rfl⟩
  case round =>
    obtain ⟨rfl, rfl⟩ := hrel
    have hc := HC.out
    go_wp2_with fail
    refine (reverse_nil _).mono ?_; rintro _ w1 ⟨rfl, rfl⟩
    go_wp2
    go_ret
    exact ⟨rfl, Below.refl _ _⟩
theorem fromInt_any (n : Int) (hn : n ≤ 9223372036854775807) (w : World) :
    Calls Tryd.prog 80 #[.int .i64 n] w fun e w' => e = .returned (.string (Dig.fi n)) ∧ Below w.heap.size w w' := by
  by_cases h : n ≤ 0
  · rw [Dig.fi_neg h]; exact fromInt_neg h w
  · obtain ⟨N, rfl⟩ : ∃ N : Nat, n = N := ⟨n.toNat, by omega⟩
    unfold Dig.fi
    rw [Int.toNat_natCast]
    exact fromInt_pos (by omega) (by omega) w

/-! ### the reference -/
theorem conv_ch {d : Nat} (h : d < 10) (w : World) : (convert 91 9 (.slice (some ⟨w.heap.size, 0, none⟩) 1 1)).run Tryd.prog (w.alloc (.cells #[.int .u8 (48 + (d : Int))] 5)) = .ok (.string (Dig.bs [Dig.ch d])) (w.alloc (.cells #[.int .u8 (48 + (d : Int))] 5)) := by
  have k := run_convert_bytes_back (P := Tryd.prog) (w.alloc (.cells #[.int .u8 (48 + (d : Int))] 5)) 91 9 5 ⟨w.heap.size, 0, none⟩ 1 [Dig.ch d] Tryd.underlying91 Tryd.underlying5 Tryd.underlying9 (by
    intro j hj
    have : j = 0 := by simp at hj; exact hj
    subst this
    refine ((Whole.new w 5 #[.int .u8 (48 + (d : Int))]).cell 0).trans ?_
    show some _ = some _
    rw [List.getElem_cons_zero, Dig.ch_nat h]
    simp)
  exact k
namespace Dig
theorem cons_bs (N k : Nat) : bs [ch (dg N k)] ++ bs (digs N k) = bs (digs N (k + 1)) := by
  rw [digs_cons]
  apply ByteArray.ext
  rw [ByteArray.data_append]
  simp [bs]
end Dig
set_option maxHeartbeats 4000000 in
theorem rfromInt_pos {N : Nat} (h0 : 0 < N) (hN : N ≤ 9223372036854775807) (w : World) :
    Calls Tryd.prog 82 #[.int .i64 N] w fun e w' => e = .returned (.string (Dig.st N)) ∧ Below w.heap.size w w' := by
  have HN := Lib.hid hN
  have H0 := Lib.hid h0
  clear hN h0
  go_enter Tryd.func82, Tryd.ntmps82
  go_wp2_with fail
  go_loopw [0, 3] (fun m v wr => ∃ k : Nat, m = .int .i64 ((N / 10 ^ k : Nat) : Int) ∧ (k = 0 ∨ N / 10 ^ (k - 1) ≠ 0) ∧ v = .string (Dig.bs (Dig.digs N k)) ∧ Below w.heap.size w wr) (fun m _ _ => (intOf m).toNat)
  case atStart => exact ⟨0, by go_num, Or.inl rfl, rfl, Below.refl _ _⟩
  case round =>
    obtain ⟨k, rfl, hk, rfl, hbr⟩ := hrel
    have hk19 : k ≤ 19 := by
      rcases hk with rfl | hk
      · omega
      · have := Dig.pow19 HN.out hk; omega
    have HK := Lib.hid hk
    clear hk
    have hqN : N / 10 ^ k ≤ N := Nat.div_le_self _ _
    have hqm : N / 10 ^ k ≤ 9223372036854775807 := Nat.le_trans hqN HN.out
    by_cases hq : N / 10 ^ k = 0
    · have HE : Hid (Dig.bs (Dig.digs N k) = Dig.st N) := Lib.hid (by unfold Dig.st; rw [Dig.num_rev N k hq HK.out])
      rw [hq, HE.out]
      clear hq
      go_wp2
      go_ret
      exact ⟨rfl, hbr⟩
    · have HQ := Lib.hid (show N / 10 ^ (k + 1 - 1) ≠ 0 from hq)
      have HD : Hid (N / 10 ^ k / 10 = N / 10 ^ (k + 1) ∧ N / 10 ^ k % 10 = Dig.dg N k) := Lib.hid ⟨by rw [Nat.div_div_eq_div_mul, ← Nat.pow_succ], rfl⟩
      have HCB := Lib.hid (Dig.cons_bs N k)
      have hs1 : (Dig.bs [Dig.ch (Dig.dg N k)]).size = 1 := rfl
      have hs2 : (Dig.bs (Dig.digs N k)).size = k := by rw [Dig.bs_size, Dig.digs_len]
      have hcc := fun w => conv_ch (Dig.dg_lt N k) w
      generalize Dig.bs [Dig.ch (Dig.dg N k)] = y at *
      generalize Dig.bs (Dig.digs N k) = z at *
      generalize Dig.dg N k = d at *
      generalize N / 10 ^ k = q at *
      have hq0 : (0 : Int) < q := by omega
      have em : (q : Int) % 10 = d := by have := HD.out.2; omega
      have happ : ¬ 9223372036854775807 < y.size + z.size := by omega
      have hd9 : d ≤ 9 := by have := HD.out.2; omega
      clear hq hqN hs1 hs2
      go_wp2
      go_roundw
      case rel => exact ⟨k + 1, int_of (by rw [← HD.out.1]; omega), Or.inr HQ.out, str_of HCB.out, hbr.alloc hbr.size _⟩
      case measure => simp [intOf]; omega
theorem rfromInt_any (n : Int) (hn : n ≤ 9223372036854775807) (w : World) :
    Calls Tryd.prog 82 #[.int .i64 n] w fun e w' => e = .returned (.string (Dig.fi n)) ∧ Below w.heap.size w w' := by
  by_cases h : n ≤ 0
  · rw [Dig.fi_neg h]
    have d1 : decide (0 < n) = false := decide_eq_false (by omega)
    go_enter Tryd.func82, Tryd.ntmps82
    go_wp2_with fail
    go_loop [0, 3] (fun m v => m = .int .i64 n ∧ v = .string ⟨#[]⟩) (fun _ _ => 0)
    case atStart => exact ⟨rfl, rfl⟩
    case round =>
      obtain ⟨rfl, rfl⟩ := hrel
      go_wp2
      go_ret
      exact ⟨rfl, Below.refl _ _⟩
  · obtain ⟨N, rfl⟩ : ∃ N : Nat, n = N := ⟨n.toNat, by omega⟩
    unfold Dig.fi
    rw [Int.toNat_natCast]
    exact rfromInt_pos (by omega) (by omega) w
end Go.Proofs.YtcnfgcdbjofihaaDoor
