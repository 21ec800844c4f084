/- Decimals: exponents beyond reach: both ways of counting them come to the same. -/
import Derived.Test.YtcnfgcdbjofihaaDoorDecRParse
namespace Go.Proofs.YtcnfgcdbjofihaaDoor
open Go.RowKit

namespace Dec
theorem normR_far {neg : Bool} {m : Nat} {e : Int} (h0 : m ≠ 0) (h : 400 < e + tz m ∨ e + tz m < -400) : normR neg m e = (z0, 2) := by
  unfold normR
  rw [if_neg h0, if_pos (by rcases h with h | h; exact Or.inl h; exact Or.inr (Or.inl h))]
theorem mov_eq (neg : Bool) {A : ByteArray} (hA : A.size ≤ 2000) (hd : Dig.alld (Dig.l A)) {e : Int} (h1 : -1000 ≤ e) (h2 : e ≤ 0) (l : Bool) (v : Nat) : normR neg (Dig.V A) (movR e l v) = normR neg (Dig.V A) (movP e l v) := by
  have hq : Dig.Str A := ⟨hd, by omega⟩
  have hvs : (Dig.st (Dig.V A)).size ≤ 2000 := Nat.le_trans ((Dig.st_size _ _).2 (Dig.V_lt hq)) hA
  have ht := (tz_all (Dig.V A)).1
  by_cases h0 : Dig.V A = 0
  · unfold normR; rw [if_pos h0, if_pos h0]
  by_cases hv : v < Dig.big 9
  · have e1 : farP v = powR v := by
      unfold farP powR
      rw [if_pos hv, if_pos (Nat.lt_of_lt_of_le hv (Dig.big_le (by omega)))]
    unfold movR movP
    rw [e1]
  · have b9 := big9
    have p1 : powR v = 1000000000 := by unfold powR; rw [if_neg hv]
    have p2 : 1000000000 ≤ farP v := by
      unfold farP
      split <;> omega
    unfold movR movP
    rw [p1]
    cases l
    · rw [normR_far h0 (Or.inl (by simp; omega)), normR_far h0 (Or.inl (by simp; omega))]
    · rw [normR_far h0 (Or.inr (by simp; omega)), normR_far h0 (Or.inr (by simp; omega))]
theorem fin_eq (neg : Bool) {A : ByteArray} (hA : A.size ≤ 2000) (hd : Dig.alld (Dig.l A)) {e : Int} (h1 : -1000 ≤ e) (h2 : e ≤ 0) (s : ByteArray) : fin movR neg A e s = fin movP neg A e s := by
  unfold fin expo
  by_cases c1 : s.size = 0
  · rw [if_pos c1, if_pos c1]
  · rw [if_neg c1, if_neg c1]
    by_cases c2 : fst s ≠ 101 ∧ fst s ≠ 69
    · rw [if_pos c2, if_pos c2]
    · rw [if_neg c2, if_neg c2]
      by_cases c3 : rn (sgn (tl s 1)) = 0 ∨ rn (sgn (tl s 1)) ≠ (sgn (tl s 1)).size
      · rw [if_pos c3, if_pos c3]
      · rw [if_neg c3, if_neg c3]
        exact mov_eq neg hA hd h1 h2 _ _
theorem p2_eq (neg : Bool) {A s : ByteArray} (hA : A.size ≤ 1000) (hs : s.size ≤ 1000) (hd : Dig.alld (Dig.l A)) : p2 movR neg A s = p2 movP neg A s := by
  unfold p2
  by_cases h : fst s = 46
  · rw [if_pos h, if_pos h]
    by_cases g : rn (tl s 1) = 0
    · rw [if_pos g, if_pos g]
    · rw [if_neg g, if_neg g]
      have hr := (rn_spec (tl s 1)).1
      rw [tl_size] at hr
      exact fin_eq neg (by rw [ByteArray.size_append, ByteArray.size_extract]; omega) (alld_app hd (rn_alld1 s (fst_pos h (by decide)))) (by omega) (by omega) _
  · rw [if_neg h, if_neg h]
    exact fin_eq neg (by omega) hd (by omega) (by omega) _
theorem p1_eq (neg : Bool) {s : ByteArray} (hs : s.size ≤ 1000) : p1 movR neg s = p1 movP neg s := by
  unfold p1
  by_cases h : rn s = 0 ∨ (1 < rn s ∧ fst s = 48)
  · rw [if_pos h, if_pos h]
  · rw [if_neg h, if_neg h]
    exact p2_eq neg (by rw [ByteArray.size_extract]; omega) (by rw [tl_size]; omega) (rn_alld s)
theorem parse_eq {x : ByteArray} (hx : x.size ≤ 1000) : parse movR x = parse movP x := by
  unfold parse
  by_cases h : fst x = 45
  · rw [if_pos h, if_pos h]; exact p1_eq true (by rw [tl_size]; omega)
  · rw [if_neg h, if_neg h]; exact p1_eq false hx
end Dec
theorem rparse_any {x : ByteArray} (hx : x.size ≤ 1000) (w : World) :
    Calls Tryd.prog 21 #[.string x] w fun e w' => e = .returned (.tuple #[Dec.ag (Dec.parse Dec.movR x).1, .int .i64 (Dec.parse Dec.movR x).2]) ∧ Below w.heap.size w w' := by
  rw [Dec.parse_eq hx]
  unfold Dec.parse
  by_cases h : Dec.fst x = 45
  · rw [if_pos h]; exact rparse_neg hx h w rfl
  · rw [if_neg h]; exact rparse_pos hx h w rfl
end Go.Proofs.YtcnfgcdbjofihaaDoor
