/- Times: plain: digits, texts. -/
import Derived.ProofKit
namespace Go.Proofs.Ythbjkibclbgjoaa
namespace Mom
def byte (n : Int) : UInt8 := UInt8.ofNat n.toNat
theorem byte_toNat {n : Int} (h : 0 ≤ n) (h' : n < 256) : ((byte n).toNat : Int) = n := by
  unfold byte
  rw [UInt8.toNat_ofNat']
  omega
/-- A string of these bytes. -/
def str (l : List Int) : ByteArray := ⟨(l.map byte).toArray⟩
theorem str_append (a b : List Int) : str a ++ str b = str (a ++ b) := by
  apply ByteArray.ext
  rw [ByteArray.data_append]
  simp [str]
theorem str_size (l : List Int) : (str l).size = l.length := by simp [str, ByteArray.size]
/-- The last so many digits, as bytes. -/
def dg : Nat → Int → List Int
  | 0, _ => []
  | k + 1, n => dg k (n / 10) ++ [48 + n % 10]
theorem dg_length (k : Nat) : ∀ n, (dg k n).length = k := by
  induction k with
  | zero => intro n; rfl
  | succ k ih => intro n; simp [dg, ih]
theorem dg_bd (k : Nat) : ∀ n, ∀ x ∈ dg k n, 48 ≤ x ∧ x ≤ 57 := by
  induction k with
  | zero => intro n x h; cases h
  | succ k ih =>
    intro n x h
    rcases List.mem_append.1 h with h | h
    · exact ih _ x h
    · obtain rfl : x = 48 + n % 10 := by simpa using h
      omega
/-- Without the zeros at its end. -/
def trim (l : List Int) : List Int := (l.reverse.dropWhile (fun x => x == 48)).reverse
theorem trim_nil : trim [] = [] := rfl
theorem trim_zero (l : List Int) : trim (l ++ [48]) = trim l := by unfold trim; simp
theorem trim_other (l : List Int) (x : Int) (h : x ≠ 48) : trim (l ++ [x]) = l ++ [x] := by
  unfold trim
  have : (x == 48) = false := by simpa using h
  simp [this]
def secs (n : Int) : Int := n / 1000000000
def hms (n : Int) : List Int := dg 2 (secs n / 3600) ++ [58] ++ dg 2 (secs n / 60 % 60) ++ [58] ++ dg 2 (secs n % 60)
def ctx (n : Int) : List Int := if n % 1000000000 = 0 then hms n else hms n ++ [46] ++ trim (dg 9 (n % 1000000000))
def otx (o : Int) : List Int := if o = 0 then [90] else if o < 0 then [45] ++ dg 2 (-o / 60) ++ [58] ++ dg 2 (-o % 60) else [43] ++ dg 2 (o / 60) ++ [58] ++ dg 2 (o % 60)
def ymd (y m d : Int) : List Int := dg 4 y ++ [45] ++ dg 2 m ++ [45] ++ dg 2 d
theorem trim_dg (k : Nat) : ∀ n, trim (dg k n) = [] → n % 10 ^ k = 0 := by
  induction k with
  | zero => intro n _; simp [Int.emod_one]
  | succ k ih =>
    intro n h
    unfold dg at h
    by_cases hz : n % 10 = 0
    · rw [hz, show (48 : Int) + 0 = 48 from rfl, trim_zero] at h
      have h1 := ih _ h
      have h2 : (10 : Int) ^ (k + 1) = 10 * 10 ^ k := by rw [Int.pow_succ, Int.mul_comm]
      rw [h2]
      obtain ⟨c, hc⟩ := Int.dvd_of_emod_eq_zero h1
      refine Int.emod_eq_zero_of_dvd ⟨c, ?_⟩
      rw [Int.mul_assoc, ← hc]
      omega
    · rw [trim_other _ _ (by omega)] at h
      simp at h
theorem str_last (p : List Int) (x : Int) (hx : 0 ≤ x ∧ x < 256) (h : (str (p ++ [x])).size - 1 < (str (p ++ [x])).size) : (((str (p ++ [x]))[(str (p ++ [x])).size - 1]).toNat : Int) = x := by
  have e : (str (p ++ [x])).size - 1 = p.length := by rw [str_size]; simp
  rw [ByteArray.getElem_eq_getElem_data]
  simp only [e]
  simp only [str, List.map_append, List.map_cons, List.map_nil, List.getElem_toArray]
  rw [List.getElem_append_right (by simp)]
  simp [byte_toNat hx.1 hx.2]
theorem str_cut (p : List Int) (x : Int) : (str (p ++ [x])).extract 0 ((str (p ++ [x])).size - 1) = str p := by
  have e : (str (p ++ [x])).size - 1 = p.length := by rw [str_size]; simp
  rw [e]
  apply ByteArray.ext
  rw [ByteArray.data_extract]
  apply Array.ext'
  simp [str]
end Mom
end Go.Proofs.Ythbjkibclbgjoaa
