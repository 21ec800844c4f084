/- Decimals: their texts, plain: a text is read as the decimal. -/
import Derived.Test.YtcnfgcdbjofihaaDoorDecFar
import Derived.Test.YtcnfgcdbjofihaaDoorDecMul
namespace Go.Proofs.YtcnfgcdbjofihaaDoor
open Go.RowKit

namespace Dec
def dot : ByteArray := ⟨#[46]⟩
def ee : ByteArray := ⟨#[101]⟩
def mn : ByteArray := ⟨#[45]⟩
def zr : ByteArray := ⟨#[48]⟩
/-- A number, in decimal. -/
def wholeR (n : Nat) : ByteArray := if n = 0 then zr else Dig.st n
def expR (p : Int) : ByteArray := if p < 1 then ee ++ (mn ++ wholeR (1 - p).toNat) else ee ++ wholeR (p - 1).toNat
/-- The text without its sign. -/
def bodyR (m : Nat) (e : Int) : ByteArray :=
  if 0 ≤ e ∧ ((Dig.st m).size : Int) + e ≤ 21 then Dig.st m ++ Dig.noughts e.toNat
  else if e < 0 ∧ 1 ≤ ((Dig.st m).size : Int) + e ∧ ((Dig.st m).size : Int) + e ≤ 21 then (Dig.st m).extract 0 (((Dig.st m).size : Int) + e).toNat ++ (dot ++ (Dig.st m).extract (((Dig.st m).size : Int) + e).toNat (Dig.st m).size)
  else if -5 ≤ ((Dig.st m).size : Int) + e ∧ ((Dig.st m).size : Int) + e ≤ 0 then zr ++ (dot ++ (Dig.noughts (-(((Dig.st m).size : Int) + e)).toNat ++ Dig.st m))
  else if 1 < (Dig.st m).size then (Dig.st m).extract 0 1 ++ (dot ++ ((Dig.st m).extract 1 (Dig.st m).size ++ expR (((Dig.st m).size : Int) + e)))
  else Dig.st m ++ expR (((Dig.st m).size : Int) + e)
def textR (d : Dc) : ByteArray := if d.m = 0 then zr else if d.neg then mn ++ bodyR d.m d.e else bodyR d.m d.e

/-! ### pieces -/
def nd (b : ByteArray) : Prop := ¬ (48 ≤ fst b ∧ fst b ≤ 57)
theorem l_app (a b : ByteArray) : Dig.l (a ++ b) = Dig.l a ++ Dig.l b := Dig.l_app a b
theorem of_l {a b : ByteArray} (h : Dig.l a = Dig.l b) : a = b := by
  apply ByteArray.ext
  apply Array.ext'
  exact h
theorem app_assoc (a b c : ByteArray) : a ++ b ++ c = a ++ (b ++ c) := of_l (by simp only [l_app, List.append_assoc])
theorem l_ext (a : ByteArray) (i j : Nat) : Dig.l (a.extract i j) = ((Dig.l a).take j).drop i := by
  unfold Dig.l
  rw [ByteArray.data_extract, Array.toList_extract, List.extract_eq_take_drop, List.drop_take]
theorem tl_app (a b : ByteArray) : tl (a ++ b) a.size = b := by
  apply of_l
  unfold tl
  rw [l_ext, l_app]
  have h : (Dig.l a).length = a.size := Dig.l_len a
  rw [List.take_of_length_le (by rw [List.length_append, Dig.l_len, Dig.l_len, ByteArray.size_append]; omega), ← h, List.drop_left]
theorem take_app (a b : ByteArray) : (a ++ b).extract 0 a.size = a := by
  apply of_l
  rw [l_ext, l_app, List.drop_zero, ← Dig.l_len a, List.take_left]
theorem mid_app (a b c : ByteArray) {k : Nat} (hk : k = a.size + b.size) : (a ++ (b ++ c)).extract a.size k = b := by
  apply of_l
  subst hk
  rw [l_ext, l_app, l_app, ← Dig.l_len a, ← Dig.l_len b, ← List.append_assoc, ← List.length_append, List.take_left, List.drop_left]
theorem fst_l (a : ByteArray) : fst a = ((Dig.l a).head?.map UInt8.toNat).getD 0 := by
  by_cases h : 0 < a.size
  · rw [fst_get h]
    have : (Dig.l a)[0]? = some a[0] := by
      rw [List.getElem?_eq_getElem (by rw [Dig.l_len]; exact h)]
      rfl
    rw [← List.head?_eq_getElem?] at this
    rw [this]
    rfl
  · rw [fst_nil (by omega)]
    have : Dig.l a = [] := List.eq_nil_of_length_eq_zero (by rw [Dig.l_len]; omega)
    rw [this]
    rfl
theorem fst_app {a : ByteArray} (b : ByteArray) (h : 0 < a.size) : fst (a ++ b) = fst a := by
  rw [fst_l, fst_l, l_app]
  cases hl : Dig.l a with
  | nil => have := Dig.l_len a; rw [hl] at this; simp at this; omega
  | cons x t => rfl
theorem rn_app {a b : ByteArray} (ha : Dig.alld (Dig.l a)) (hb : nd b) : rn (a ++ b) = a.size := by
  unfold rn
  rw [l_app, List.takeWhile_append_of_pos (fun x hx => decide_eq_true (ha x hx)), List.length_append, Dig.l_len]
  have : (Dig.l b).takeWhile (fun b => decide (Dig.isd b)) = [] := by
    unfold nd at hb
    rw [fst_l] at hb
    cases hl : Dig.l b with
    | nil => rfl
    | cons x t =>
      rw [hl] at hb
      rw [List.takeWhile_cons, if_neg]
      simp only [decide_eq_true_eq]
      unfold Dig.isd
      exact hb
  rw [this]
  simp
theorem nd_nil : nd ⟨#[]⟩ := by unfold nd; rw [fst_nil rfl]; omega
theorem nd_dot (b : ByteArray) : nd (dot ++ b) := by unfold nd; rw [fst_app b (by decide)]; decide
theorem nd_exp (p : Int) : nd (expR p) := by
  unfold nd expR
  split
  · rw [fst_app _ (by decide)]; decide
  · rw [fst_app _ (by decide)]; decide
theorem fst_digit {a : ByteArray} (ha : Dig.alld (Dig.l a)) (h : 0 < a.size) : 48 ≤ fst a ∧ fst a ≤ 57 := by
  rw [fst_get h]
  exact (Dig.alld_iff a).1 ha 0 h
theorem whole_dig (n : Nat) : Dig.alld (Dig.l (wholeR n)) ∧ 0 < (wholeR n).size ∧ Dig.V (wholeR n) = n := by
  unfold wholeR
  split
  · rename_i h
    subst h
    exact ⟨by decide, by decide, by decide⟩
  · rename_i h
    exact ⟨st_str n, st_pos h, Dig.V_st n⟩
theorem app_nil' (a : ByteArray) : a ++ (⟨#[]⟩ : ByteArray) = a := of_l (by rw [l_app]; exact List.append_nil _)
/-! ### reading the parts -/
theorem p1_of {neg : Bool} {A s : ByteArray} (hA : Dig.alld (Dig.l A)) (h0 : 0 < A.size) (hs : nd s) (hz : A.size = 1 ∨ fst A ≠ 48) : p1 movR neg (A ++ s) = p2 movR neg A s := by
  unfold p1
  rw [rn_app hA hs, if_neg (by rw [fst_app s h0]; omega), take_app, tl_app]
theorem p2_none {neg : Bool} {A s : ByteArray} (h : fst s ≠ 46) : p2 movR neg A s = fin movR neg A 0 s := by
  unfold p2
  rw [if_neg h]
theorem p2_dot {neg : Bool} {A B t : ByteArray} (hB : Dig.alld (Dig.l B)) (h0 : 0 < B.size) (ht : nd t) : p2 movR neg A (dot ++ (B ++ t)) = fin movR neg (A ++ B) (-(B.size : Int)) t := by
  unfold p2
  have e1 : tl (dot ++ (B ++ t)) 1 = B ++ t := tl_app dot (B ++ t)
  have e2 : rn (B ++ t) = B.size := rn_app hB ht
  rw [if_pos (by rw [fst_app _ (by decide)]; decide), e1, e2, if_neg (by omega)]
  have e3 : (dot ++ (B ++ t)).extract 1 (B.size + 1) = B := mid_app dot B t (by show B.size + 1 = 1 + B.size; omega)
  have e4 : tl (dot ++ (B ++ t)) (B.size + 1) = t := by
    have := tl_app (dot ++ B) t
    rw [app_assoc, ByteArray.size_append] at this
    rw [show B.size + 1 = dot.size + B.size by show B.size + 1 = 1 + B.size; omega]
    exact this
  rw [e3, e4]
theorem fin_nil (neg : Bool) (A : ByteArray) (e : Int) : fin movR neg A e ⟨#[]⟩ = normR neg (Dig.V A) e := fin_some (expo_nil rfl)
theorem fin_exp (neg : Bool) (A : ByteArray) (e : Int) {p : Int} (h1 : -1000 ≤ p) (h2 : p ≤ 1000) : fin movR neg A e (expR p) = normR neg (Dig.V A) (e + (p - 1)) := by
  unfold expR
  by_cases h : p < 1
  · rw [if_pos h]
    obtain ⟨w1, w2, w3⟩ := whole_dig (1 - p).toNat
    have e1 : tl (ee ++ (mn ++ wholeR (1 - p).toNat)) 1 = mn ++ wholeR (1 - p).toNat := tl_app ee _
    have e2 : sgn (mn ++ wholeR (1 - p).toNat) = wholeR (1 - p).toNat := by
      unfold sgn
      rw [if_pos (Or.inl (by rw [fst_app _ (by decide)]; decide))]
      exact tl_app mn _
    have e3 : rn (wholeR (1 - p).toNat) = (wholeR (1 - p).toNat).size := by
      have := rn_app w1 nd_nil
      rwa [app_nil'] at this
    rw [fin_some (expo_some (b := true) (by rw [ByteArray.size_append]; show ¬ 1 + _ = 0; omega) (Or.inl (by rw [fst_app _ (by decide)]; decide)) (by rw [e1, fst_app _ (by decide)]; decide) (by rw [e1]; exact e2) (by rw [e3]; omega) e3), w3]
    congr 1
    unfold movR farP
    rw [if_pos rfl, if_pos (by have := big12; omega)]
    omega
  · rw [if_neg h]
    obtain ⟨w1, w2, w3⟩ := whole_dig (p - 1).toNat
    have hd := fst_digit w1 w2
    have e1 : tl (ee ++ wholeR (p - 1).toNat) 1 = wholeR (p - 1).toNat := tl_app ee _
    have e2 : sgn (wholeR (p - 1).toNat) = wholeR (p - 1).toNat := by
      unfold sgn
      rw [if_neg (by omega)]
    have e3 : rn (wholeR (p - 1).toNat) = (wholeR (p - 1).toNat).size := by
      have := rn_app w1 nd_nil
      rwa [app_nil'] at this
    rw [fin_some (expo_some (b := false) (by rw [ByteArray.size_append]; show ¬ 1 + _ = 0; omega) (Or.inl (by rw [fst_app _ (by decide)]; decide)) (by rw [e1]; exact decide_eq_false (by omega)) (by rw [e1]; exact e2) (by rw [e3]; omega) e3), w3]
    congr 1
    unfold movR farP
    rw [if_neg (by decide), if_pos (by have := big12; omega)]
    omega
/-! ### the whole -/
theorem norm_self {d : Dc} (h : ok d) {k : Nat} {e0 : Int} (he : e0 + k = d.e) (h0 : -2000 ≤ e0) : normR d.neg (d.m * 10 ^ k) e0 = (d, 0) := by
  refine norm_of h0 h ?_
  unfold N mag
  rw [Nat.mul_assoc, ← Nat.pow_add]
  congr 3
  omega
theorem norm_this {d : Dc} (h : ok d) : normR d.neg d.m d.e = (d, 0) := by
  have := norm_self h (k := 0) (e0 := d.e) (by omega) (by have := ok_all h; omega)
  rwa [Nat.pow_zero, Nat.mul_one] at this
theorem st_first {m : Nat} (h : m ≠ 0) : fst (Dig.st m) ≠ 48 := by
  have hp := st_pos h
  rw [fst_get hp]
  have h1 : (Dig.st m)[0].toNat = 48 + Dig.dg m ((Dig.st m).size - 1) := by
    have := dg_at (m := m) (i := (Dig.st m).size - 1) (by omega)
    simpa [show (Dig.st m).size - 1 - ((Dig.st m).size - 1) = 0 by omega] using this
  rw [h1]
  intro k
  have hz : Dig.dg m ((Dig.st m).size - 1) = 0 := by omega
  have hl : ¬ m < Dig.big ((Dig.st m).size - 1) := fun g => by have := (Dig.st_size m ((Dig.st m).size - 1)).2 g; omega
  have hu : m < Dig.big (Dig.st m).size := (Dig.st_size m _).1 (Nat.le_refl _)
  obtain ⟨j, hj⟩ : ∃ j, (Dig.st m).size = j + 1 := ⟨(Dig.st m).size - 1, by omega⟩
  rw [hj] at hz hl hu
  simp only [Nat.add_sub_cancel] at hz hl
  unfold Dig.dg at hz
  unfold Dig.big at hl hu
  have hd : m / 10 ^ j < 10 := Nat.div_lt_of_lt_mul (by rw [Nat.mul_comm, ← Nat.pow_succ']; rwa [Nat.pow_succ', Nat.mul_comm] at hu ⊢)
  rw [Nat.mod_eq_of_lt hd] at hz
  have := (Nat.div_eq_zero_iff).1 hz
  rcases this with g | g
  · exact absurd g (Nat.ne_of_gt (Nat.pow_pos (by omega)))
  · exact hl g
theorem split_st (s : ByteArray) {k : Nat} (_ : k ≤ s.size) : s.extract 0 k ++ s.extract k s.size = s := by
  apply of_l
  rw [l_app, l_ext, l_ext, List.drop_zero, List.take_of_length_le (i := s.size) (by rw [Dig.l_len]; omega), List.take_append_drop]
theorem ext_alld {s : ByteArray} (h : Dig.alld (Dig.l s)) (i j : Nat) : Dig.alld (Dig.l (s.extract i j)) := by
  rw [l_ext]
  intro b hb
  exact h b (List.mem_of_mem_take (List.mem_of_mem_drop hb))
theorem fst_take {s : ByteArray} {k : Nat} (h : k ≤ s.size) (h0 : 0 < k) : fst (s.extract 0 k) = fst s := by
  conv => rhs; rw [← split_st s h]
  rw [fst_app _ (by rw [ByteArray.size_extract]; omega)]
theorem body_parse {d : Dc} (h : ok d) (h0 : d.m ≠ 0) : p1 movR d.neg (bodyR d.m d.e) = (d, 0) := by
  obtain ⟨a1, a2, a3, _⟩ := ok_all h
  have hp := st_pos h0
  have hf := st_first h0
  have hs := st_str d.m
  have hV := Dig.V_st d.m
  unfold bodyR
  by_cases c1 : 0 ≤ d.e ∧ ((Dig.st d.m).size : Int) + d.e ≤ 21
  · rw [if_pos c1]
    have av := app_val d.m d.e.toNat
    have e0 : 0 < (Dig.st d.m ++ Dig.noughts d.e.toNat).size := by rw [ByteArray.size_append]; omega
    have := p1_of (neg := d.neg) (A := Dig.st d.m ++ Dig.noughts d.e.toNat) (s := ⟨#[]⟩) av.1 e0 nd_nil (Or.inr (by rw [fst_app _ hp]; exact hf))
    rw [app_nil'] at this
    rw [this, p2_none (by rw [fst_nil rfl]; decide), fin_nil, av.2]
    exact norm_self h (k := d.e.toNat) (e0 := 0) (by omega) (by omega)
  rw [if_neg c1]
  by_cases c2 : d.e < 0 ∧ 1 ≤ ((Dig.st d.m).size : Int) + d.e ∧ ((Dig.st d.m).size : Int) + d.e ≤ 21
  · rw [if_pos c2]
    obtain ⟨k, hk⟩ : ∃ k : Nat, ((Dig.st d.m).size : Int) + d.e = k := ⟨(((Dig.st d.m).size : Int) + d.e).toNat, by omega⟩
    rw [hk, Int.toNat_natCast]
    have z1 : ((Dig.st d.m).extract 0 k).size = k := by rw [ByteArray.size_extract]; omega
    have z2 : ((Dig.st d.m).extract k (Dig.st d.m).size).size = (Dig.st d.m).size - k := by rw [ByteArray.size_extract]; omega
    have := p1_of (neg := d.neg) (A := (Dig.st d.m).extract 0 k) (s := dot ++ (Dig.st d.m).extract k (Dig.st d.m).size) (ext_alld hs _ _) (by omega) (nd_dot _) (Or.inr (by rw [fst_take (by omega) (by omega)]; exact hf))
    rw [this]
    have q := p2_dot (neg := d.neg) (A := (Dig.st d.m).extract 0 k) (B := (Dig.st d.m).extract k (Dig.st d.m).size) (t := ⟨#[]⟩) (ext_alld hs _ _) (by omega) nd_nil
    rw [app_nil'] at q
    rw [q, fin_nil, split_st _ (by omega), hV, z2, show -(((Dig.st d.m).size - k : Nat) : Int) = d.e by omega]
    exact norm_this h
  rw [if_neg c2]
  by_cases c3 : -5 ≤ ((Dig.st d.m).size : Int) + d.e ∧ ((Dig.st d.m).size : Int) + d.e ≤ 0
  · rw [if_pos c3]
    obtain ⟨k, hk⟩ : ∃ k : Nat, -(((Dig.st d.m).size : Int) + d.e) = k := ⟨(-(((Dig.st d.m).size : Int) + d.e)).toNat, by omega⟩
    rw [hk, Int.toNat_natCast]
    have hz : Dig.alld (Dig.l (Dig.noughts k)) := by
      unfold Dig.noughts
      rw [Dig.l_bs]
      intro b hb
      rw [List.eq_of_mem_replicate hb]; unfold Dig.isd; decide
    have := p1_of (neg := d.neg) (A := zr) (s := dot ++ (Dig.noughts k ++ Dig.st d.m)) (by decide) (by decide) (nd_dot _) (Or.inl rfl)
    rw [this]
    have q := p2_dot (neg := d.neg) (A := zr) (B := Dig.noughts k ++ Dig.st d.m) (t := ⟨#[]⟩) (alld_app hz hs) (by rw [ByteArray.size_append]; omega) nd_nil
    rw [app_nil'] at q
    rw [q, fin_nil, ByteArray.size_append, Dig.noughts_size, show -((k + (Dig.st d.m).size : Nat) : Int) = d.e by omega]
    have hv : Dig.V (zr ++ (Dig.noughts k ++ Dig.st d.m)) = d.m := by
      unfold Dig.V
      rw [l_app, l_app, Dig.val_app, Dig.val_app]
      have e1 : Dig.val (Dig.l zr) = 0 := by decide
      have e2 : Dig.val (Dig.l (Dig.noughts k)) = 0 := by unfold Dig.noughts; rw [Dig.l_bs]; exact Dig.val_rep0 k
      rw [e1, e2, Nat.zero_mul, Nat.zero_mul, Nat.zero_add, Nat.zero_add]
      exact hV
    rw [hv]
    exact norm_this h
  rw [if_neg c3]
  by_cases c4 : 1 < (Dig.st d.m).size
  · rw [if_pos c4]
    have z1 : ((Dig.st d.m).extract 0 1).size = 1 := by rw [ByteArray.size_extract]; omega
    have z2 : ((Dig.st d.m).extract 1 (Dig.st d.m).size).size = (Dig.st d.m).size - 1 := by rw [ByteArray.size_extract]; omega
    rw [p1_of (ext_alld hs _ _) (by omega) (nd_dot _) (Or.inl z1), p2_dot (ext_alld hs _ _) (by omega) (nd_exp _), fin_exp _ _ _ (by omega) (by omega), split_st _ (by omega), hV, z2, show -(((Dig.st d.m).size - 1 : Nat) : Int) + (((Dig.st d.m).size : Int) + d.e - 1) = d.e by omega]
    exact norm_this h
  · rw [if_neg c4]
    rw [p1_of hs hp (nd_exp _) (Or.inr hf), p2_none (by
      unfold expR
      split
      · rw [fst_app _ (by decide)]; decide
      · rw [fst_app _ (by decide)]; decide), fin_exp _ _ _ (by omega) (by omega), hV, show (0 : Int) + (((Dig.st d.m).size : Int) + d.e - 1) = d.e by omega]
    exact norm_this h
theorem body_first {m : Nat} {e : Int} (h0 : m ≠ 0) : 48 ≤ fst (bodyR m e) ∧ fst (bodyR m e) ≤ 57 := by
  have hp := st_pos h0
  have hs := st_str m
  have hd := fst_digit hs hp
  unfold bodyR
  split
  · rw [fst_app _ hp]; exact hd
  · split
    · rename_i c
      rw [fst_app _ (by rw [ByteArray.size_extract]; omega), fst_take (by omega) (by omega)]; exact hd
    · split
      · rw [fst_app _ (by decide)]; decide
      · split
        · rw [fst_app _ (by rw [ByteArray.size_extract]; omega), fst_take (by omega) (by omega)]; exact hd
        · rw [fst_app _ hp]; exact hd
theorem text_parse {d : Dc} (h : ok d) : parse movR (textR d) = (d, 0) := by
  unfold textR
  by_cases h0 : d.m = 0
  · rw [if_pos h0, ok_zero h h0]
    have : parse movR zr = normR false 0 0 := by kernel_rfl
    rw [this, norm_zero]
  · rw [if_neg h0]
    have hb := body_first (e := d.e) h0
    have hp := body_parse h h0
    unfold parse
    cases hn : d.neg
    · rw [hn] at hp
      simp only [if_neg (by decide : ¬ false = true)]
      rw [if_neg (by omega)]
      exact hp
    · rw [hn] at hp
      rw [if_pos rfl, if_pos (by rw [fst_app _ (by decide)]; decide), show tl (mn ++ bodyR d.m d.e) 1 = bodyR d.m d.e from tl_app mn _]
      exact hp
end Dec
end Go.Proofs.YtcnfgcdbjofihaaDoor
