/- Times: plain: a time's text is read back. -/
import Derived.Test.YthbjkibclbgjoaaMomMoveM
namespace Go.Proofs.Ythbjkibclbgjoaa
open Go.RowKit

namespace Mom
def By (l : List Int) : Prop := ∀ x ∈ l, 0 ≤ x ∧ x < 256
theorem By.app {a b : List Int} (h : By a) (k : By b) : By (a ++ b) := fun x hx => (List.mem_append.1 hx).elim (h x) (k x)
theorem By.cons {x : Int} {b : List Int} (h : 0 ≤ x ∧ x < 256) (k : By b) : By (x :: b) := fun y hy => (List.mem_cons.1 hy).elim (fun e => e ▸ h) (k y)
theorem By.nil : By [] := fun x hx => by cases hx
theorem By.right {a b : List Int} (h : By (a ++ b)) : By b := fun x hx => h x (List.mem_append.2 (Or.inr hx))
theorem By.tail {x : Int} {b : List Int} (h : By (x :: b)) : By b := fun y hy => h y (List.mem_cons.2 (Or.inr hy))
theorem dg_by (k : Nat) (n : Int) : By (dg k n) := fun x hx => by have := dg_bd k n x hx; omega
theorem bt_str {l : List Int} (h : By l) (i : Nat) : bt (str l) i = l.getD i (-1) := by
  by_cases hi : i < l.length
  · rw [bt_in (by rw [str_size]; exact hi)]
    have e : (str l)[i]'(by rw [str_size]; exact hi) = byte l[i] := by
      show ((l.map byte).toArray)[i]'(by simpa using hi) = byte l[i]
      simp
    rw [e, byte_toNat (h _ (List.getElem_mem hi)).1 (h _ (List.getElem_mem hi)).2]
    simp [hi]
  · rw [bt_out (by rw [str_size]; exact hi)]
    simp [Nat.le_of_not_lt hi]
theorem cut_str (a b : List Int) : (str (a ++ b)).extract a.length (str (a ++ b)).size = str b := by
  rw [str_size]
  apply ByteArray.ext
  rw [ByteArray.data_extract]
  simp [str, List.extract_toArray, List.take_of_length_le]
theorem nv_congr {x y : ByteArray} : ∀ w, (∀ i, i < w → bt x i = bt y i) → nv x w = nv y w := by
  intro w
  induction w with
  | zero => intro _; rfl
  | succ w ih => intro h; unfold nv; rw [ih (fun i hi => h i (by omega)), h w (by omega)]
theorem nv_dg (w : Nat) : ∀ (n : Int) (rest : List Int), By rest → 0 ≤ n → n < 10 ^ w → nv (str (dg w n ++ rest)) w = n := by
  induction w with
  | zero => intro n rest _ h0 h1; simp at h1; simp [nv]; omega
  | succ w ih =>
    intro n rest hr h0 h1
    unfold nv dg
    have hb : By ([48 + n % 10] ++ rest) := By.cons (by omega) hr
    rw [Int.pow_succ] at h1
    rw [List.append_assoc, ih (n / 10) _ hb (by omega) (by omega), bt_str ((dg_by _ _).app hb)]
    have e : (dg w (n / 10) ++ ([48 + n % 10] ++ rest)).getD w (-1) = 48 + n % 10 := by
      rw [List.getD_eq_getElem?_getD, List.getElem?_append_right (by rw [dg_length]; omega), dg_length]
      simp
    rw [e]
    omega
theorem alld_dg {w : Nat} {n : Int} {rest : List Int} (hr : By rest) : alld (str (dg w n ++ rest)) w := by
  intro j hj
  unfold isd
  rw [bt_str ((dg_by _ _).app hr)]
  have hl : j < (dg w n).length := by rw [dg_length]; exact hj
  have e : (dg w n ++ rest).getD j (-1) = (dg w n)[j] := by
    rw [List.getD_eq_getElem?_getD, List.getElem?_append_left hl, List.getElem?_eq_getElem hl]; rfl
  rw [e]
  exact dg_bd w n _ (List.getElem_mem hl)
theorem num_dg {w : Nat} {n : Int} {rest : List Int} {b : Bool} (hr : By rest) (h0 : 0 ≤ n) (h1 : n < 10 ^ w) : num ⟨str (dg w n ++ rest), b⟩ w = (n, ⟨str rest, b⟩) := by
  unfold num
  rw [if_pos (show alld (Rd.mk (str (dg w n ++ rest)) b).x w from alld_dg hr)]
  dsimp only
  rw [nv_dg w n rest hr h0 h1]
  have := cut_str (dg w n) rest
  rw [dg_length] at this
  rw [this]
theorem one_in {c : Int} {rest : List Int} {b : Bool} {o : ByteArray} (hb : By (c :: rest)) (ho : has o c) : one ⟨str (c :: rest), b⟩ o = (c, ⟨str rest, b⟩) := by
  unfold one
  have e : bt (str (c :: rest)) 0 = c := by rw [bt_str hb]; rfl
  dsimp only
  rw [e, if_pos ho]
  have := cut_str [c] rest
  exact congrArg (fun z => (c, Rd.mk z b)) this
theorem run_uniq {x : ByteArray} {a c : Nat} (h : run x a) (k : run x c) : a = c := by
  rcases Nat.lt_trichotomy a c with g | g | g
  · exact absurd (k.1 a g) h.2
  · exact g
  · exact absurd (h.1 c g) k.2
theorem frac_dg {j : Nat} {m : Int} {rest : List Int} {b : Bool} (hr : By rest) (h0 : 0 ≤ m) (h1 : m < 10 ^ j) (j1 : 1 ≤ j) (j9 : j ≤ 9) (hd : ¬ (48 ≤ rest.getD 0 (-1) ∧ rest.getD 0 (-1) ≤ 57)) :
    frac ⟨str (dg j m ++ rest), b⟩ = (m * 10 ^ (9 - j), ⟨str rest, b⟩) := by
  have hrun : run (str (dg j m ++ rest)) j := by
    refine ⟨alld_dg hr, ?_⟩
    unfold isd
    rw [bt_str ((dg_by _ _).app hr)]
    have e : (dg j m ++ rest).getD j (-1) = rest.getD 0 (-1) := by
      rw [List.getD_eq_getElem?_getD, List.getElem?_append_right (by rw [dg_length]; omega), dg_length, Nat.sub_self]
      rfl
    rw [e]; exact hd
  have hc := run_uniq (run_cnt _) hrun
  unfold frac
  dsimp only
  rw [hc, if_pos ⟨j1, j9⟩, nv_dg j m rest hr h0 h1]
  have := cut_str (dg j m) rest
  rw [dg_length] at this
  rw [this]
theorem trim_ex (k : Nat) : ∀ m : Int, 0 ≤ m → m < 10 ^ k → ∃ (j : Nat) (q : Int), j ≤ k ∧ trim (dg k m) = dg j q ∧ 0 ≤ q ∧ q < 10 ^ j ∧ m = q * 10 ^ (k - j) := by
  induction k with
  | zero => intro m h0 h1; exact ⟨0, m, Nat.le_refl _, rfl, h0, h1, by simp⟩
  | succ k ih =>
    intro m h0 h1
    by_cases hz : m % 10 = 0
    · have h1' := h1
      rw [Int.pow_succ] at h1'
      obtain ⟨j, q, a, e, c, d, g⟩ := ih (m / 10) (by omega) (by omega)
      refine ⟨j, q, by omega, ?_, c, d, ?_⟩
      · show trim (dg k (m / 10) ++ [48 + m % 10]) = dg j q
        rw [hz, show (48 : Int) + 0 = 48 from rfl, trim_zero, e]
      · rw [show k + 1 - j = (k - j) + 1 by omega, Int.pow_succ, ← Int.mul_assoc, ← g]; omega
    · refine ⟨k + 1, m, Nat.le_refl _, ?_, h0, h1, by simp⟩
      show trim (dg k (m / 10) ++ [48 + m % 10]) = dg k (m / 10) ++ [48 + m % 10]
      exact trim_other _ _ (by omega)

/-! ### dates, clocks, offsets -/
theorem has45 : has ⟨#[45]⟩ 45 := by decide
theorem has58 : has ⟨#[58]⟩ 58 := by decide
theorem date_txt {y m d : Int} {rest : List Int} {b : Bool} {f : Fl} (hr : By rest) (hy : 0 ≤ y ∧ y < 10000) (hm : 0 ≤ m ∧ m < 100) (hd : 0 ≤ d ∧ d < 100) :
    date ⟨str (dg 4 y ++ 45 :: (dg 2 m ++ 45 :: (dg 2 d ++ rest))), b⟩ f = (⟨str rest, b⟩, { f with y := y, mo := m, d := d }) := by
  have r1 : By (dg 2 d ++ rest) := (dg_by _ _).app hr
  have r2 : By (45 :: (dg 2 d ++ rest)) := By.cons (by omega) r1
  have r3 : By (dg 2 m ++ 45 :: (dg 2 d ++ rest)) := (dg_by _ _).app r2
  have r4 : By (45 :: (dg 2 m ++ 45 :: (dg 2 d ++ rest))) := By.cons (by omega) r3
  unfold date
  simp only [num_dg r4 hy.1 (show y < 10 ^ 4 by omega), one_in r4 has45, num_dg r2 hm.1 (show m < 10 ^ 2 by omega), one_in r2 has45, num_dg hr hd.1 (show d < 10 ^ 2 by omega)]
theorem hms3_txt {h m s : Int} {rest : List Int} {b : Bool} {f : Fl} (hr : By rest) (hh : 0 ≤ h ∧ h < 100) (hm : 0 ≤ m ∧ m < 100) (hs : 0 ≤ s ∧ s < 100) :
    hms3 ⟨str (dg 2 h ++ 58 :: (dg 2 m ++ 58 :: (dg 2 s ++ rest))), b⟩ f = (⟨str rest, b⟩, { f with h := h, mi := m, s := s }) := by
  have r1 : By (dg 2 s ++ rest) := (dg_by _ _).app hr
  have r2 : By (58 :: (dg 2 s ++ rest)) := By.cons (by omega) r1
  have r3 : By (dg 2 m ++ 58 :: (dg 2 s ++ rest)) := (dg_by _ _).app r2
  have r4 : By (58 :: (dg 2 m ++ 58 :: (dg 2 s ++ rest))) := By.cons (by omega) r3
  unfold hms3
  simp only [num_dg r4 hh.1 (show h < 10 ^ 2 by omega), one_in r4 has58, num_dg r2 hm.1 (show m < 10 ^ 2 by omega), one_in r2 has58, num_dg hr hs.1 (show s < 10 ^ 2 by omega)]
/-- What stands behind a clock. -/
def After (rest : List Int) : Prop := By rest ∧ rest.getD 0 (-1) ≠ 46 ∧ ¬ (48 ≤ rest.getD 0 (-1) ∧ rest.getD 0 (-1) ≤ 57)
theorem clock_txt {n : Int} {rest : List Int} {b : Bool} {f : Fl} (hr : After rest) (h0 : 0 ≤ n) (h1 : n ≤ 86399999999999) (hf : f.n = 0) :
    clock ⟨str (ctx n ++ rest), b⟩ f = (⟨str rest, b⟩, { f with h := n / 1000000000 / 3600, mi := n / 1000000000 / 60 % 60, s := n / 1000000000 % 60, n := n % 1000000000 }) := by
  obtain ⟨hb, h46, hdg⟩ := hr
  unfold clock
  by_cases hz : n % 1000000000 = 0
  · have e : ctx n ++ rest = dg 2 (n / 1000000000 / 3600) ++ 58 :: (dg 2 (n / 1000000000 / 60 % 60) ++ 58 :: (dg 2 (n / 1000000000 % 60) ++ rest)) := by
      unfold ctx hms secs; rw [if_pos hz]; simp
    rw [e, hms3_txt hb (by omega) (by omega) (by omega)]
    dsimp only
    rw [bt_str hb, if_neg h46, hz, ← hf]
  · obtain ⟨j, q, j9, et, q0, q1, eq⟩ := trim_ex 9 (n % 1000000000) (by omega) (by omega)
    have j1 : 1 ≤ j := by
      rcases Nat.eq_zero_or_pos j with g | g
      · subst g; simp at q1; omega
      · exact g
    have hb2 : By (46 :: (dg j q ++ rest)) := By.cons (by omega) ((dg_by _ _).app hb)
    have e : ctx n ++ rest = dg 2 (n / 1000000000 / 3600) ++ 58 :: (dg 2 (n / 1000000000 / 60 % 60) ++ 58 :: (dg 2 (n / 1000000000 % 60) ++ 46 :: (dg j q ++ rest))) := by
      unfold ctx hms secs; rw [if_neg hz, et]; simp
    rw [e, hms3_txt hb2 (by omega) (by omega) (by omega)]
    dsimp only
    rw [bt_str hb2, if_pos (show (46 :: (dg j q ++ rest)).getD 0 (-1) = 46 from rfl)]
    have hc : (str (46 :: (dg j q ++ rest))).extract 1 (str (46 :: (dg j q ++ rest))).size = str (dg j q ++ rest) := cut_str [46] (dg j q ++ rest)
    rw [hc, frac_dg hb q0 q1 j1 j9 hdg, ← eq]
theorem offs_txt {o : Int} {b : Bool} {f : Fl} (h0 : -1439 ≤ o) (h1 : o ≤ 1439) (hf : f.oh = 0) (hg : f.om = 0) :
    ∃ g : Fl, offs ⟨str (otx o), b⟩ f = (⟨str [], b⟩, g) ∧ g = { f with sg := g.sg, oh := g.oh, om := g.om } ∧ 0 ≤ g.oh ∧ g.oh ≤ 23 ∧ 0 ≤ g.om ∧ g.om ≤ 59 ∧ (if g.sg = 45 then -(g.oh * 60 + g.om) else g.oh * 60 + g.om) = o := by
  unfold otx
  by_cases z : o = 0
  · refine ⟨{ f with sg := 90 }, ?_, rfl, by dsimp only; omega, by dsimp only; omega, by dsimp only; omega, by dsimp only; omega, ?_⟩
    · rw [if_pos z]
      unfold offs
      simp only [one_in (c := 90) (rest := []) (b := b) (o := signs) (By.cons (by omega) By.nil) (by decide)]
      simp
    · dsimp only; rw [if_neg (by decide)]; omega
  rw [if_neg z]
  by_cases m : o < 0
  · refine ⟨{ f with sg := 45, oh := -o / 60, om := -o % 60 }, ?_, rfl, by dsimp only; omega, by dsimp only; omega, by dsimp only; omega, by dsimp only; omega, ?_⟩
    · rw [if_pos m]
      have e : [45] ++ dg 2 (-o / 60) ++ [58] ++ dg 2 (-o % 60) = 45 :: (dg 2 (-o / 60) ++ 58 :: (dg 2 (-o % 60) ++ [])) := by simp
      have r2 : By (58 :: (dg 2 (-o % 60) ++ [])) := By.cons (by omega) ((dg_by _ _).app By.nil)
      have r3 : By (45 :: (dg 2 (-o / 60) ++ 58 :: (dg 2 (-o % 60) ++ []))) := By.cons (by omega) ((dg_by _ _).app r2)
      rw [e]
      unfold offs
      simp only [one_in (o := signs) r3 (by decide), num_dg r2 (show 0 ≤ -o / 60 by omega) (show -o / 60 < 10 ^ 2 by omega), one_in r2 has58, num_dg By.nil (show 0 ≤ -o % 60 by omega) (show -o % 60 < 10 ^ 2 by omega)]
      simp
    · rw [if_pos rfl]; dsimp only; omega
  · refine ⟨{ f with sg := 43, oh := o / 60, om := o % 60 }, ?_, rfl, by dsimp only; omega, by dsimp only; omega, by dsimp only; omega, by dsimp only; omega, ?_⟩
    · rw [if_neg m]
      have e : [43] ++ dg 2 (o / 60) ++ [58] ++ dg 2 (o % 60) = 43 :: (dg 2 (o / 60) ++ 58 :: (dg 2 (o % 60) ++ [])) := by simp
      have r2 : By (58 :: (dg 2 (o % 60) ++ [])) := By.cons (by omega) ((dg_by _ _).app By.nil)
      have r3 : By (43 :: (dg 2 (o / 60) ++ 58 :: (dg 2 (o % 60) ++ []))) := By.cons (by omega) ((dg_by _ _).app r2)
      rw [e]
      unfold offs
      simp only [one_in (o := signs) r3 (by decide), num_dg r2 (show 0 ≤ o / 60 by omega) (show o / 60 < 10 ^ 2 by omega), one_in r2 has58, num_dg By.nil (show 0 ≤ o % 60 by omega) (show o % 60 < 10 ^ 2 by omega)]
      simp
    · dsimp only; rw [if_neg (by decide)]; omega
end Mom
end Go.Proofs.Ythbjkibclbgjoaa
