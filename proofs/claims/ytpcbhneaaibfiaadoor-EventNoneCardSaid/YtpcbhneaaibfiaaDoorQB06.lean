/- Laid together for a claim: EvPlain, VtKeys, DigMath, DigMathB. -/
import Derived.Test.YtpcbhneaaibfiaaDoorQB05
import Derived.Test.YtpcbhneaaibfiaaDoorQB01
import Derived.BigRegion
import Derived.Deep.Cut
import Derived.Deep.DeepCutAuto
import Derived.Test.YtpcbhneaaibfiaaDoorQB04
import Derived.WalkKit
/- Is everything of a value zero: event.plain. -/
namespace Go.Proofs.YtpcbhneaaibfiaaDoor
open Go.RowKit
set_option linter.unusedSimpArgs false
set_option linter.unusedVariables false

/-- The value of which everything is zero. -/
def Vt.z : Vt := .mk Vh.zero (fun _ => 0) (fun _ => .nil) (fun _ => ByteArray.empty) (fun _ => .nil)
theorem Vt.z_in (W : World) (top : Nat) : Vt.z.In W top := by
  refine ⟨⟨?_, ?_, ?_, ?_, ?_, ?_, ?_, ?_, ?_, ?_, ?_, ?_, ?_⟩, fun h => absurd h (Nat.lt_irrefl _), fun i h => absurd h (Nat.not_lt_zero _), fun h => absurd h (Nat.lt_irrefl _), fun i h => absurd h (Nat.not_lt_zero _), fun h => absurd h (Nat.lt_irrefl _), fun i h => absurd h (Nat.not_lt_zero _)⟩ <;> simp [Vh.zero, w64, ByteArray.size]
theorem Vt.z_same : Vt.z.Same Vt.z := Vt.Same.rfl' (Vt.In.whole (Vt.z_in default 0))
def Vh.plain (h : Vh) : Bool := decide (h.k = 0) && !h.b && h.nz && h.tz0 && h.x.toList.isEmpty && decide (h.bn = 0) && decide (h.ln = 0) && decide (h.fn = 0)
theorem ba_emp {s : ByteArray} : s.toList.isEmpty = true ↔ s = ⟨#[]⟩ := by
  constructor
  · intro h
    have h' : s.toList = [] := by simpa using h
    rw [Lib.toList_data] at h'
    exact ByteArray.ext (Array.toList_inj.1 h')
  · rintro rfl
    rw [Lib.toList_data]
    rfl
theorem plain_same {T : Vt} (hT : T ≠ .nil) : T.h.plain = true ↔ T.Same Vt.z := by
  cases T with
  | nil => exact absurd rfl hT
  | mk h Y L K F =>
    show h.plain = true ↔ _
    constructor
    · intro q
      unfold Vh.plain Vh.nz Vh.tz0 at q
      simp only [Bool.and_eq_true, decide_eq_true_eq, Bool.not_eq_true'] at q
      obtain ⟨⟨⟨⟨⟨⟨⟨q1, q2⟩, ⟨q3, q4⟩, q5⟩, ⟨⟨q6, q7⟩, q8⟩, q9⟩, q10⟩, q11⟩, q12⟩, q13⟩ := q
      exact ⟨(fun e => by cases e), ⟨q1, q2, q3, ba_emp.1 q4, q5, q6, q7, q8, q9, ba_emp.1 q10, q11, q12, q13⟩, fun i hi => by rw [q11] at hi; exact absurd hi (Nat.not_lt_zero _), fun i hi => by rw [q12] at hi; exact absurd hi (Nat.not_lt_zero _), fun i hi => by rw [q13] at hi; exact absurd hi (Nat.not_lt_zero _)⟩
    · intro q
      obtain ⟨q1, q2, q3, q4, q5, q6, q7, q8, q9, q10, q11, q12, q13⟩ := q.flat
      unfold Vh.plain Vh.nz Vh.tz0
      simp only [Bool.and_eq_true, decide_eq_true_eq, Bool.not_eq_true']
      exact ⟨⟨⟨⟨⟨⟨⟨q1, q2⟩, ⟨q3, ba_emp.2 q4⟩, q5⟩, ⟨⟨q6, q7⟩, q8⟩, q9⟩, ba_emp.2 q10⟩, q11⟩, q12⟩, q13⟩
theorem num_eql (a : Bool) (s : ByteArray) (e : Int) (W : World) : (binOp .eql 23 (.agg #[.bool a, .string s, .int .i64 e]) (.agg #[.bool false, .string ⟨#[]⟩, .int .i64 0])).run Tryd.prog W = .ok (.bool (!a && s.toList.isEmpty && decide (e = 0))) W := by
  cases a
  · cases h2 : s.toList with
    | nil =>
      by_cases h3 : e = 0
      · subst h3
        simp [go_sem, h2]
      · simp [go_sem, h2, h3]
    | cons x l => simp [go_sem, h2]
  · simp [go_sem]
theorem tim_eql (a b c d : Int) (W : World) : (binOp .eql 25 (.agg #[.int .i64 a, .int .i64 b, .int .i64 c, .int .i64 d]) (.agg #[.int .i64 0, .int .i64 0, .int .i64 0, .int .i64 0])).run Tryd.prog W = .ok (.bool (decide (a = 0) && decide (b = 0) && decide (c = 0) && decide (d = 0))) W := by
  by_cases h1 : a = 0
  · by_cases h2 : b = 0
    · by_cases h3 : c = 0
      · by_cases h4 : d = 0
        · subst h1 h2 h3 h4
          simp [go_sem]
        · simp [go_sem, h1, h2, h3, h4]
      · simp [go_sem, h1, h2, h3]
    · simp [go_sem, h1, h2]
  · simp [go_sem, h1]
set_option maxHeartbeats 4000000 in
set_option maxRecDepth 100000 in
theorem plain_any (h : Vh) (hk : w64 h.k) (w : World) :
    Calls Tryd.prog 60 #[.agg h.cells] w fun r w' => r = .returned (.bool h.plain) ∧ Below w.heap.size w w' := by
  obtain ⟨k, b, n, d, e, tk, td, tn, tz, x, ba, bn, bc, la, ln, lc, fa, fn, fc, bb, bo, lb, lo, fb, fo⟩ := h
  have qn := num_eql n d e
  have qt := tim_eql tk td tn tz
  have hs : Vh.plain ⟨k, b, n, d, e, tk, td, tn, tz, x, ba, bn, bc, la, ln, lc, fa, fn, fc, bb, bo, lb, lo, fb, fo⟩ = (decide (k = 0) && !b && (!n && d.toList.isEmpty && decide (e = 0)) && (decide (tk = 0) && decide (td = 0) && decide (tn = 0) && decide (tz = 0)) && x.toList.isEmpty && decide (bn = 0) && decide (ln = 0) && decide (fn = 0)) := rfl
  rw [hs]
  clear hs
  generalize (!n && d.toList.isEmpty && decide (e = 0)) = nz at *
  generalize (decide (tk = 0) && decide (td = 0) && decide (tn = 0) && decide (tz = 0)) = tz0 at *
  obtain ⟨kz, hkz⟩ : ∃ c, decide (k = 0) = c := ⟨_, rfl⟩
  obtain ⟨xz, hx⟩ : ∃ c, x.toList.isEmpty = c := ⟨_, rfl⟩
  obtain ⟨yz, hy⟩ : ∃ c, decide (bn = 0) = c := ⟨_, rfl⟩
  obtain ⟨lz, hl⟩ : ∃ c, decide (ln = 0) = c := ⟨_, rfl⟩
  obtain ⟨fz, hf⟩ : ∃ c, decide (fn = 0) = c := ⟨_, rfl⟩
  rw [hkz, hx, hy, hl, hf]
  have hk2 : (k == 0) = kz := by rw [← hkz]; by_cases q : k = 0 <;> simp [q]
  have hx2 : (x.toList == ([] : List UInt8)) = xz := by rw [← hx]; cases x.toList <;> rfl
  have hy2 : ((bn : Int) == 0) = yz := by rw [← hy]; by_cases q : bn = 0 <;> simp [q]
  have hl2 : ((ln : Int) == 0) = lz := by rw [← hl]; by_cases q : ln = 0 <;> simp [q]
  have hf2 : ((fn : Int) == 0) = fz := by rw [← hf]; by_cases q : fn = 0 <;> simp [q]
  have hy3 : (bn == 0) = yz := by rw [← hy]; by_cases q : bn = 0 <;> simp [q]
  have hl3 : (ln == 0) = lz := by rw [← hl]; by_cases q : ln = 0 <;> simp [q]
  have hf3 : (fn == 0) = fz := by rw [← hf]; by_cases q : fn = 0 <;> simp [q]
  clear hkz hx hy hl hf hk
  simp only [Vh.cells]
  cases kz
  · go_enter Tryd.func60, Tryd.ntmps60
    go_upto_region 2 with (fail)
    try simp only [List.append]
    go_wp2
    go_ret
    exact ⟨rfl, (Below.refl w.heap.size w).alloc (Nat.le_refl _) _⟩
  · cases b
    · cases nz
      · go_enter Tryd.func60, Tryd.ntmps60
        go_upto_region 2 with (fail)
        try simp only [List.append]
        go_wp2
        go_ret
        exact ⟨rfl, (Below.refl w.heap.size w).alloc (Nat.le_refl _) _⟩
      · cases tz0
        · go_enter Tryd.func60, Tryd.ntmps60
          go_upto_region 2 with (fail)
          try simp only [List.append]
          go_wp2
          go_ret
          exact ⟨rfl, (Below.refl w.heap.size w).alloc (Nat.le_refl _) _⟩
        · cases xz
          · go_enter Tryd.func60, Tryd.ntmps60
            go_upto_region 2 with (fail)
            try simp only [List.append]
            go_wp2
            go_ret
            exact ⟨rfl, (Below.refl w.heap.size w).alloc (Nat.le_refl _) _⟩
          · cases yz
            · go_enter Tryd.func60, Tryd.ntmps60
              go_upto_region 2 with (fail)
              try simp only [List.append]
              go_wp2
              go_ret
              exact ⟨rfl, (Below.refl w.heap.size w).alloc (Nat.le_refl _) _⟩
            · cases lz
              · go_enter Tryd.func60, Tryd.ntmps60
                go_upto_region 2 with (fail)
                try simp only [List.append]
                go_wp2
                go_ret
                exact ⟨rfl, (Below.refl w.heap.size w).alloc (Nat.le_refl _) _⟩
              · cases fz
                · go_enter Tryd.func60, Tryd.ntmps60
                  go_upto_region 2 with (fail)
                  try simp only [List.append]
                  go_wp2
                  go_ret
                  exact ⟨rfl, (Below.refl w.heap.size w).alloc (Nat.le_refl _) _⟩
                · go_enter Tryd.func60, Tryd.ntmps60
                  go_upto_region 2 with (fail)
                  try simp only [List.append]
                  go_wp2
                  go_ret
                  exact ⟨rfl, (Below.refl w.heap.size w).alloc (Nat.le_refl _) _⟩
    · go_enter Tryd.func60, Tryd.ntmps60
      go_upto_region 2 with (fail)
      try simp only [List.append]
      go_wp2
      go_ret
      exact ⟨rfl, (Below.refl w.heap.size w).alloc (Nat.le_refl _) _⟩
end Go.Proofs.YtpcbhneaaibfiaaDoor
/- Values: what is wrong with keys (datakitref07.Keys). -/
namespace Go.Proofs.YtpcbhneaaibfiaaDoor
open Go.RowKit

set_option maxHeartbeats 4000000 in
set_option maxRecDepth 100000 in
theorem keys_some {b o n c : Nat} {K : Nat → ByteArray} (hn : n ≤ 1048576) (w : World) (hb : b < w.heap.size) (hK : ∀ i, i < n → w.cell? ⟨b, o + i * 14, none⟩ = some (.string (K i)) ∧ (K i).size ≤ 1048576) :
    Calls Tryd.prog 74 #[.slice (some ⟨b, o, none⟩) n c] w fun r w' => r = .returned (.int .i64 (keysE K n)) ∧ Below w.heap.size w w' := by
  have HK := Lib.hid hK
  have HB := Lib.hid hb
  clear hK hb
  obtain ⟨R, hR⟩ : ∃ R, keysE K n = R := ⟨_, rfl⟩
  rw [hR]
  have HR := Lib.hid hR
  clear hR
  have hn0 : (0 : Int) ≤ n := by omega
  have hn2 : (n : Int) ≤ 1048576 := by omega
  go_enter Tryd.func74, Tryd.ntmps74
  go_wp2_with fail
  go_loopw [3] (fun i wr => ∃ k : Nat, k ≤ n ∧ i = .int .i64 k ∧ keysE K k = 0 ∧ Below w.heap.size w wr) (fun i _ => n - (intOf i).toNat)
  case atStart => exact ⟨0, by omega, rfl, rfl, Below.refl _ _⟩
  case round =>
    obtain ⟨k, hk, rfl, hk0, hbr⟩ := hrel
    have hki : (0 : Int) ≤ k := by omega
    by_cases hkn : k < n
    · obtain ⟨l0, l1⟩ := HK.out k hkn
      have l2 := (hbr.cell (p := ⟨b, o + k * 14, none⟩) HB.out).trans l0
      have hki2 : (k : Int) < n := by omega
      have HU := Lib.hid (rutf_any l1)
      have hlt := Nat.lt_of_lt_of_le HB.out hbr.size
      by_cases u : utfB (K k) = true
      case neg =>
        have u2 : utfB (K k) = false := by simpa using u
        have hR : R = 5 := by rw [← HR.out, keysE_bad hk0 hkn (by unfold keyE; simp [u2])]; unfold keyE; simp [u2]
        subst hR
        rw [u2] at HU
        generalize K k = x at *
        clear u u2 hk0 l0 HR
        go_wp2_with fail
        refine (HU.out _).mono ?_; rintro _ w1 ⟨rfl, hb1⟩
        go_wp2
        go_ret
        exact ⟨rfl, below_then hbr hb1⟩
      rw [u] at HU
      have kE : keyE K k = if 1024 < (K k).size then 10 else if ∃ j, j < k ∧ K j = K k then 8 else 0 := by unfold keyE; simp [u]
      by_cases z : 1024 < (K k).size
      · have hR : R = 10 := by rw [← HR.out, keysE_bad hk0 hkn (by rw [kE, if_pos z]; decide), kE, if_pos z]
        subst hR
        clear kE hk0 l0 u HR
        generalize K k = x at *
        have z2 : decide ((1024 : Int) < x.size) = true := decide_eq_true (by omega)
        go_wp2_with fail
        refine (HU.out _).mono ?_; rintro _ w1 ⟨rfl, hb1⟩
        replace l2 := (hb1.cell (p := ⟨b, o + k * 14, none⟩) hlt).trans l2
        go_wp2
        go_ret
        exact ⟨rfl, below_then hbr hb1⟩
      rw [if_neg z] at kE
      have HE := Lib.hid kE
      have H0 := Lib.hid hk0
      clear kE hk0 u
      obtain ⟨x, hx⟩ : ∃ x, K k = x := ⟨_, rfl⟩
      rw [hx] at l0 l1 l2 HU z HE
      have HX := Lib.hid hx
      clear hx
      have z2 : decide ((1024 : Int) < x.size) = false := decide_eq_false (by omega)
      go_wp2_with fail
      refine (HU.out _).mono ?_; rintro _ w1 ⟨rfl, hb1⟩
      replace l2 := (hb1.cell (p := ⟨b, o + k * 14, none⟩) hlt).trans l2
      replace hbr := below_then hbr hb1
      clear hb1 HU z hlt
      go_wp2_with fail
      go_loopw [4] (fun i wr => ∃ j : Nat, j ≤ k ∧ i = .int .i64 j ∧ Hid (∀ t, t < j → K t ≠ x) ∧ Below w.heap.size w wr) (fun i _ => k - (intOf i).toNat)
      case atStart => exact ⟨0, by omega, rfl, Lib.hid (fun t h => absurd h (Nat.not_lt_zero _)), hbr⟩
      case round =>
        clear hbr l2
        obtain ⟨j, hj, rfl, HJ, hbr⟩ := hrel
        have l2 := (hbr.cell (p := ⟨b, o + k * 14, none⟩) HB.out).trans l0
        have hji : (0 : Int) ≤ j := by omega
        by_cases hjk : j < k
        · obtain ⟨m0, m1⟩ := HK.out j (by omega)
          have m2 := (hbr.cell (p := ⟨b, o + j * 14, none⟩) HB.out).trans m0
          have hji2 : (j : Int) < k := by omega
          have hji3 : (j : Int) < n := by omega
          by_cases e : K j = x
          · have d1 : ((K j).toList == x.toList) = true := by rw [e]; exact beq_self_eq_true _
            have hR : R = 8 := by
              have k8 : keyE K k = 8 := by rw [HE.out, if_pos ⟨j, hjk, e⟩]
              rw [← HR.out, keysE_bad H0.out hkn (by rw [k8]; decide), k8]
            subst hR
            clear HR HE H0 e m0 l0 hjk hkn
            generalize K j = y at *
            go_wp2_with fail
            go_region
            go_wp2
            go_ret
            exact ⟨rfl, hbr.drew⟩
          · have d1 : ((K j).toList == x.toList) = false := by
              rw [beq_eq_false_iff_ne]
              intro q
              apply e
              rw [Lib.toList_data, Lib.toList_data] at q
              exact ByteArray.ext (Array.ext' q)
            have HJ2 : Hid (∀ t, t < j + 1 → K t ≠ x) := Lib.hid (fun t ht => by
              by_cases q : t = j
              · rw [q]; exact e
              · exact HJ.out t (by omega))
            clear e m0 HJ hkn
            generalize K j = y at *
            go_wp2_with fail
            go_region
            go_wp2
            go_roundw
            case rel => exact ⟨j + 1, by omega, by go_num, HJ2, hbr.drew⟩
            case measure => simp [intOf]; omega
        · obtain rfl : j = k := by omega
          have hN : keysE K (j + 1) = 0 := keysE_next H0.out (by rw [HE.out, if_neg (fun ⟨t, ht, q⟩ => HJ.out t ht q)])
          clear HE H0 HJ
          go_wp2_with fail
          go_wp2
          go_roundw
          case rel => exact ⟨j + 1, by omega, by go_num, hN, hbr⟩
          case measure => simp [intOf]; omega
    · obtain rfl : k = n := by omega
      have hR : R = 0 := by rw [← HR.out, hk0]
      subst hR
      clear hkn hk0 HR
      go_wp2
      go_ret
      exact ⟨rfl, hbr⟩
theorem keys_nil {K : Nat → ByteArray} (a : Option Addr) (c : Nat) (w : World) :
    Calls Tryd.prog 74 #[.slice a 0 c] w fun r w' => r = .returned (.int .i64 (keysE K 0)) ∧ Below w.heap.size w w' := by
  show Calls Tryd.prog 74 #[.slice a 0 c] w fun r w' => r = .returned (.int .i64 0) ∧ Below w.heap.size w w'
  go_enter Tryd.func74, Tryd.ntmps74
  go_wp2_with fail
  go_loopw [3] (fun i wr => i = .int .i64 0 ∧ Below w.heap.size w wr) (fun i _ => 0)
  case atStart => exact ⟨rfl, Below.refl _ _⟩
  case round =>
    obtain ⟨rfl, hbr⟩ := hrel
    go_wp2
    go_ret
    exact ⟨rfl, hbr⟩
end Go.Proofs.YtpcbhneaaibfiaaDoor
/- Numerals: plain mathematics. -/
namespace Go.Proofs.YtpcbhneaaibfiaaDoor
open Go.RowKit

namespace Dig
def isd (b : UInt8) : Prop := 48 ≤ b.toNat ∧ b.toNat ≤ 57
instance (b : UInt8) : Decidable (isd b) := by unfold isd; infer_instance
def alld (l : List UInt8) : Prop := ∀ b ∈ l, isd b
def val (l : List UInt8) : Nat := l.foldl (fun a b => 10 * a + (b.toNat - 48)) 0
def ch (d : Nat) : UInt8 := UInt8.ofNat (48 + d)
theorem ch_nat {d : Nat} (h : d < 10) : (ch d).toNat = 48 + d := by unfold ch; simp [UInt8.toNat_ofNat']; omega
theorem ch_of {b : UInt8} (h : isd b) : ch (b.toNat - 48) = b := by
  unfold isd at h
  apply UInt8.toNat_inj.1
  rw [ch_nat (by omega)]
  omega
theorem ch_isd {d : Nat} (h : d < 10) : isd (ch d) := by unfold isd; rw [ch_nat h]; omega
theorem ch48 {d : Nat} (h : d < 10) : (ch d == 48) = decide (d = 0) := by
  rw [Bool.eq_iff_iff, beq_iff_eq, decide_eq_true_iff]
  constructor
  · intro e
    have := congrArg UInt8.toNat e
    rw [ch_nat h] at this
    have : (48 : UInt8).toNat = 48 := rfl
    omega
  · rintro rfl; rfl
theorem val_nil : val [] = 0 := rfl
theorem val_snoc (l : List UInt8) (b : UInt8) : val (l ++ [b]) = 10 * val l + (b.toNat - 48) := by unfold val; rw [List.foldl_append]; rfl
def strip (l : List UInt8) : List UInt8 := l.dropWhile (fun b => b == 48)
theorem strip_nil : strip [] = [] := rfl
theorem strip_snoc (l : List UInt8) (b : UInt8) : strip (l ++ [b]) = if strip l = [] then strip [b] else strip l ++ [b] := by
  unfold strip
  induction l with
  | nil => simp
  | cons a t ih =>
    rw [List.cons_append, List.dropWhile_cons, List.dropWhile_cons]
    by_cases h : (a == 48) = true
    · rw [if_pos h, if_pos h]; exact ih
    · rw [if_neg h, if_neg h]; simp
/-- The numeral of a number. -/
def num (n : Nat) : List UInt8 := if n = 0 then [] else num (n / 10) ++ [ch (n % 10)]
termination_by n
decreasing_by omega
theorem num_zero : num 0 = [] := by unfold num; rfl
theorem num_pos {n : Nat} (h : n ≠ 0) : num n = num (n / 10) ++ [ch (n % 10)] := by rw [num, if_neg h]
theorem num_nil {n : Nat} : num n = [] ↔ n = 0 := by
  constructor
  · intro h
    rcases Nat.eq_zero_or_pos n with g | g
    · exact g
    · rw [num_pos (by omega)] at h; simp at h
  · rintro rfl; exact num_zero
theorem num_ind {P : Nat → Prop} (h0 : P 0) (h1 : ∀ n, n ≠ 0 → P (n / 10) → P n) (n : Nat) : P n := by
  induction n using Nat.strongRecOn with
  | _ n ih =>
    rcases Nat.eq_zero_or_pos n with g | g
    · rw [g]; exact h0
    · exact h1 n (by omega) (ih (n / 10) (by omega))
theorem val_num (n : Nat) : val (num n) = n := by
  induction n using num_ind with
  | h0 => rw [num_zero]; rfl
  | h1 n hn ih => rw [num_pos hn, val_snoc, ih, ch_nat (by omega)]; omega
theorem num_alld (n : Nat) : alld (num n) := by
  induction n using num_ind with
  | h0 => rw [num_zero]; intro b hb; cases hb
  | h1 n hn ih =>
    rw [num_pos hn]
    intro b hb
    rcases List.mem_append.1 hb with h | h
    · exact ih b h
    · rw [List.mem_singleton.1 h]; exact ch_isd (by omega)
theorem num_mul10 {v d : Nat} (hd : d < 10) (h : 10 * v + d ≠ 0) : num (10 * v + d) = num v ++ [ch d] := by
  rw [num_pos h, show (10 * v + d) / 10 = v by omega, show (10 * v + d) % 10 = d by omega]
theorem alld_snoc {l : List UInt8} {b : UInt8} (h : alld (l ++ [b])) : alld l ∧ isd b :=
  ⟨fun c hc => h c (List.mem_append.2 (Or.inl hc)), h b (List.mem_append.2 (Or.inr (List.mem_singleton.2 rfl)))⟩
theorem list_snoc {α : Type} {P : List α → Prop} (h0 : P []) (h1 : ∀ l b, P l → P (l ++ [b])) (l : List α) : P l := by
  have : ∀ r : List α, P r.reverse := fun r => by
    induction r with
    | nil => exact h0
    | cons a t ih => rw [List.reverse_cons]; exact h1 _ _ ih
  rw [← List.reverse_reverse l]; exact this _
theorem strip_num {l : List UInt8} : alld l → strip l = num (val l) := by
  induction l using list_snoc with
  | h0 => intro _; rw [val_nil, num_zero]; rfl
  | h1 l b ih =>
    intro h
    obtain ⟨h1, h2⟩ := alld_snoc h
    have h3 := h2
    unfold isd at h3
    rw [strip_snoc, ih h1, val_snoc]
    by_cases g : val l = 0
    · rw [if_pos (num_nil.2 g), g]
      by_cases k : b.toNat = 48
      · have e : b = 48 := UInt8.toNat_inj.1 k
        subst e
        rw [show 10 * 0 + ((48 : UInt8).toNat - 48) = 0 by decide, num_zero]; rfl
      · have e : (b == 48) = false := beq_eq_false_iff_ne.2 (fun e => k (by rw [e]; rfl))
        rw [num_mul10 (by omega) (by omega), num_zero, ch_of h2]
        simp [strip, e]
    · rw [if_neg (fun k => g (num_nil.1 k)), num_mul10 (by omega) (by omega), ch_of h2]
theorem num_strip (n : Nat) : strip (num n) = num n := by rw [strip_num (num_alld n), val_num]
theorem num_inj {a b : Nat} (h : num a = num b) : a = b := by rw [← val_num a, h, val_num]
theorem num_len (n k : Nat) : (num n).length ≤ k ↔ n < 10 ^ k := by
  induction n using num_ind generalizing k with
  | h0 => rw [num_zero]; simp; exact Nat.pow_pos (by omega)
  | h1 n hn ih =>
    rw [num_pos hn, List.length_append, List.length_singleton]
    cases k with
    | zero => simp; omega
    | succ k =>
      have := ih k
      rw [Nat.pow_succ]
      omega
theorem num_len_pos {n : Nat} (h : n ≠ 0) : 10 ^ ((num n).length - 1) ≤ n := by
  have := num_len n ((num n).length - 1)
  have h1 : (num n).length ≠ 0 := fun k => h (num_nil.1 (List.eq_nil_of_length_eq_zero k))
  omega
theorem num_lt (n : Nat) : n < 10 ^ (num n).length := (num_len n _).1 (Nat.le_refl _)
/-- A digit of a number, counted from its end. -/
def dg (n i : Nat) : Nat := n / 10 ^ i % 10
theorem dg_lt (n i : Nat) : dg n i < 10 := Nat.mod_lt _ (by omega)
theorem dg_zero {n i : Nat} (h : n < 10 ^ i) : dg n i = 0 := by unfold dg; rw [Nat.div_eq_of_lt h]
theorem dg_mod (n i : Nat) : n % 10 ^ (i + 1) = n % 10 ^ i + dg n i * 10 ^ i := by
  unfold dg
  rw [Nat.pow_succ, Nat.mod_mul, Nat.mul_comm]
theorem dg_succ (n i : Nat) : dg n (i + 1) = dg (n / 10) i := by unfold dg; rw [Nat.pow_succ, Nat.mul_comm, Nat.div_div_eq_div_mul]
theorem num_get (n : Nat) : ∀ i, i < (num n).length → (num n)[(num n).length - 1 - i]? = some (ch (dg n i)) := by
  induction n using num_ind with
  | h0 => intro i h; rw [num_zero] at h; simp at h
  | h1 n hn ih =>
    intro i h
    rw [num_pos hn] at h ⊢
    rw [List.length_append, List.length_singleton] at h ⊢
    cases i with
    | zero =>
      rw [List.getElem?_append_right (by omega)]
      simp [dg]
    | succ i =>
      have := ih i (by omega)
      rw [List.getElem?_append_left (by omega), show (num (n / 10)).length + 1 - 1 - (i + 1) = (num (n / 10)).length - 1 - i by omega, this, dg_succ]
/-- The bytes of the digits of a number, the first one first. -/
def digs (n k : Nat) : List UInt8 := (List.range k).map fun j => ch (dg n (k - 1 - j))
theorem digs_succ (n k : Nat) : digs n (k + 1) = digs (n / 10) k ++ [ch (n % 10)] := by
  unfold digs
  rw [List.range_succ, List.map_append]
  congr 1
  · apply List.map_congr_left
    intro j hj
    have hj2 := List.mem_range.1 hj
    rw [show k + 1 - 1 - j = (k - 1 - j) + 1 by omega, dg_succ]
  · simp [dg]
theorem digs_alld (n k : Nat) : alld (digs n k) := by
  intro b hb
  obtain ⟨j, _, rfl⟩ := List.mem_map.1 hb
  exact ch_isd (dg_lt _ _)
theorem digs_val (k : Nat) : ∀ n, n < 10 ^ k → val (digs n k) = n := by
  induction k with
  | zero => intro n h; simp at h; subst h; rfl
  | succ k ih =>
    intro n h
    rw [Nat.pow_succ] at h
    rw [digs_succ, val_snoc, ih (n / 10) (by omega), ch_nat (by omega)]
    omega
theorem digs_strip {n k : Nat} (h : n < 10 ^ k) : strip (digs n k) = num n := by rw [strip_num (digs_alld n k), digs_val k n h]
theorem val_lt {l : List UInt8} : alld l → val l < 10 ^ l.length := by
  induction l using list_snoc with
  | h0 => intro _; simp [val]
  | h1 l b ih =>
    intro h
    obtain ⟨h1, h2⟩ := alld_snoc h
    unfold isd at h2
    have := ih h1
    rw [val_snoc, List.length_append, List.length_singleton, Nat.pow_succ]
    omega
theorem val_app (a : List UInt8) (b : List UInt8) : val (a ++ b) = val a * 10 ^ b.length + val b := by
  induction b using list_snoc with
  | h0 => simp [val]
  | h1 b c ih =>
    rw [← List.append_assoc, val_snoc, ih, val_snoc, List.length_append, List.length_singleton, Nat.pow_succ, Nat.mul_add, ← Nat.mul_assoc, Nat.mul_comm 10 (val a), Nat.mul_assoc, Nat.mul_comm 10]
    omega
theorem num_unique {l : List UInt8} (h : alld l) (h0 : strip l = l) : l = num (val l) := by rw [← strip_num h, h0]
/-- Digits of the same length compare as their numbers do. -/
theorem val_take {l : List UInt8} {i : Nat} (h : i < l.length) : val (l.take (i + 1)) = 10 * val (l.take i) + (l[i].toNat - 48) := by
  rw [List.take_succ_eq_append_getElem h, val_snoc]
theorem num_div (n k : Nat) : val ((num n).take k) = n / 10 ^ ((num n).length - k) := by
  have e : val (num n) = val ((num n).take k) * 10 ^ ((num n).drop k).length + val ((num n).drop k) := by
    rw [← val_app, List.take_append_drop]
  rw [val_num, List.length_drop] at e
  have l := val_lt (l := (num n).drop k) (fun b hb => num_alld n b (List.mem_of_mem_drop hb))
  rw [List.length_drop] at l
  generalize (num n).length - k = q at *
  generalize val ((num n).take k) = v at *
  generalize val ((num n).drop k) = w at *
  have p : 0 < 10 ^ q := Nat.pow_pos (by omega)
  rw [e, Nat.mul_comm, Nat.mul_add_div p, Nat.div_eq_of_lt l]
  rfl
/-- Lists of digits of the same length compare as their numbers do. -/
theorem val_cons (b : UInt8) (l : List UInt8) : val (b :: l) = (b.toNat - 48) * 10 ^ l.length + val l := by
  have := val_app [b] l
  rw [List.singleton_append] at this
  rw [this]; simp [val]
theorem lex_val : ∀ (a b : List UInt8), a.length = b.length → alld a → alld b → (a < b ↔ val a < val b) := by
  intro a
  induction a with
  | nil => intro b h _ _; cases b with
    | nil => simp [val]
    | cons c t => simp at h
  | cons x s ih =>
    intro b h ha hb
    cases b with
    | nil => simp at h
    | cons y t =>
      have hl : s.length = t.length := by simpa using h
      have hs : alld s := fun c hc => ha c (List.mem_cons_of_mem _ hc)
      have ht : alld t := fun c hc => hb c (List.mem_cons_of_mem _ hc)
      have hx := ha x (List.mem_cons_self ..)
      have hy := hb y (List.mem_cons_self ..)
      have e := ih t hl hs ht
      have v1 := val_lt hs
      have v2 := val_lt ht
      rw [hl] at v1
      rw [List.cons_lt_cons_iff, e, val_cons, val_cons, hl, UInt8.lt_iff_toNat_lt]
      unfold isd at hx hy
      generalize 10 ^ t.length = p at *
      constructor
      · rintro (g | ⟨rfl, g⟩)
        · have : (x.toNat - 48 + 1) * p ≤ (y.toNat - 48) * p := Nat.mul_le_mul_right _ (by omega)
          rw [Nat.add_mul] at this
          omega
        · omega
      · intro g
        rcases Nat.lt_trichotomy x.toNat y.toNat with k | k | k
        · exact Or.inl k
        · have e2 : x = y := UInt8.toNat_inj.1 k
          subst e2
          exact Or.inr ⟨rfl, by omega⟩
        · have : (y.toNat - 48 + 1) * p ≤ (x.toNat - 48) * p := Nat.mul_le_mul_right _ (by omega)
          rw [Nat.add_mul] at this
          omega
/-- The order of two numbers. -/
def cmp (a b : Nat) : Int := if a < b then -1 else if a = b then 0 else 1
theorem num_short {a b : Nat} (h : (num a).length < (num b).length) : a < b := by
  have h1 := num_lt a
  have hb : b ≠ 0 := fun k => by rw [k, num_zero] at h; simp at h
  have h2 := num_len_pos hb
  have h3 : 10 ^ (num a).length ≤ 10 ^ ((num b).length - 1) := Nat.pow_le_pow_right (by omega) (by omega)
  omega
theorem num_lex {a b : Nat} (h : (num a).length = (num b).length) : num a < num b ↔ a < b := by
  rw [lex_val _ _ h (num_alld a) (num_alld b), val_num, val_num]
theorem val_rep0 (k : Nat) : val (List.replicate k 48) = 0 := by
  induction k with
  | zero => rfl
  | succ k ih => rw [List.replicate_succ', val_snoc, ih]; rfl
theorem num_app0 {n : Nat} (hn : n ≠ 0) (k : Nat) : num n ++ List.replicate k 48 = num (n * 10 ^ k) := by
  have hz : ∀ k, alld (num n ++ List.replicate k 48) := fun k b hb => by
    rcases List.mem_append.1 hb with h | h
    · exact num_alld n b h
    · rw [(List.mem_replicate.1 h).2]; exact by decide
  have hs : strip (num n ++ List.replicate k 48) = num n ++ List.replicate k 48 := by
    have := num_strip n
    have hne : num n ≠ [] := fun k => hn (num_nil.1 k)
    cases hnn : num n with
    | nil => exact absurd hnn hne
    | cons a t =>
      rw [hnn] at this
      unfold strip at this ⊢
      rw [List.dropWhile_cons] at this
      rw [List.cons_append, List.dropWhile_cons]
      by_cases g : (a == 48) = true
      · rw [if_pos g] at this
        have := congrArg List.length this
        have := (List.dropWhile_suffix (l := t) (fun b => b == 48)).length_le
        simp at *
        omega
      · rw [if_neg g]
  rw [num_unique (hz k) hs, val_app, val_num, List.length_replicate]
  rw [val_rep0]; rfl
end Dig
end Go.Proofs.YtpcbhneaaibfiaaDoor
/- Numerals: plain: carries, borrows, products, quotients. -/
namespace Go.Proofs.YtpcbhneaaibfiaaDoor
open Go.RowKit

namespace Dig
theorem p10 (i : Nat) : 0 < 10 ^ i := Nat.pow_pos (by omega)
theorem div_step {S r add : Nat} (hr : 0 < r) : (S + r * add) / (r * 10) = (S / r + add) / 10 := by
  rw [← Nat.div_div_eq_div_mul, Nat.add_mul_div_left _ _ hr]
theorem mod_split (a i : Nat) : a % 10 ^ (i + 1) = a % 10 ^ i + 10 ^ i * dg a i := by rw [dg_mod, Nat.mul_comm]
theorem whole_split (a i : Nat) : a = a % 10 ^ i + 10 ^ i * (a / 10 ^ i) := (Nat.mod_add_div a _).symm

/-! ### sums -/
def carry (a b i : Nat) : Nat := (a % 10 ^ i + b % 10 ^ i) / 10 ^ i
theorem carry_zero (a b : Nat) : carry a b 0 = 0 := by unfold carry; simp [Nat.mod_one]
theorem carry_le (a b i : Nat) : carry a b i ≤ 1 := by
  unfold carry
  have h1 := Nat.mod_lt a (p10 i)
  have h2 := Nat.mod_lt b (p10 i)
  have : (a % 10 ^ i + b % 10 ^ i) / 10 ^ i < 2 := Nat.div_lt_of_lt_mul (by omega)
  omega
theorem carry_succ (a b i : Nat) : (carry a b i + dg a i + dg b i) / 10 = carry a b (i + 1) := by
  unfold carry
  rw [mod_split, mod_split, Nat.pow_succ, show a % 10 ^ i + 10 ^ i * dg a i + (b % 10 ^ i + 10 ^ i * dg b i) = (a % 10 ^ i + b % 10 ^ i) + 10 ^ i * (dg a i + dg b i) by rw [Nat.mul_add]; omega, div_step (p10 i), Nat.add_assoc]
theorem sum_dg (a b i : Nat) : (carry a b i + dg a i + dg b i) % 10 = dg (a + b) i := by
  have e : (a + b) / 10 ^ i = carry a b i + (a / 10 ^ i + b / 10 ^ i) := by
    unfold carry
    have h1 := whole_split a i
    have h2 := whole_split b i
    conv => lhs; rw [h1, h2]
    rw [show a % 10 ^ i + 10 ^ i * (a / 10 ^ i) + (b % 10 ^ i + 10 ^ i * (b / 10 ^ i)) = (a % 10 ^ i + b % 10 ^ i) + 10 ^ i * (a / 10 ^ i + b / 10 ^ i) by rw [Nat.mul_add]; omega, Nat.add_mul_div_left _ _ (p10 i)]
  unfold dg
  rw [e]
  omega

/-! ### differences -/
def borrow (a b i : Nat) : Nat := if a % 10 ^ i < b % 10 ^ i then 1 else 0
theorem borrow_zero (a b : Nat) : borrow a b 0 = 0 := by unfold borrow; simp [Nat.mod_one]
theorem borrow_le (a b i : Nat) : borrow a b i ≤ 1 := by unfold borrow; split <;> omega
theorem borrow_succ (a b i : Nat) : borrow a b (i + 1) = if dg a i < dg b i + borrow a b i then 1 else 0 := by
  unfold borrow
  rw [mod_split, mod_split]
  have h1 := Nat.mod_lt a (p10 i)
  have h2 := Nat.mod_lt b (p10 i)
  generalize a % 10 ^ i = u at *
  generalize b % 10 ^ i = v at *
  generalize 10 ^ i = p at *
  generalize dg a i = x
  generalize dg b i = y
  have m : ∀ x y : Nat, x < y → p * x + p ≤ p * y := fun x y h => by
    have := Nat.mul_le_mul_left p (show x + 1 ≤ y from h)
    rw [Nat.mul_add, Nat.mul_one] at this; exact this
  rcases Nat.lt_trichotomy x y with g | g | g
  · have := m x y g
    rw [if_pos (by omega), if_pos (by omega)]
  · subst g
    by_cases k : u < v
    · rw [if_pos k, if_pos (by omega), if_pos (by omega)]
    · rw [if_neg k, if_neg (by omega), if_neg (by omega)]
  · have := m y x g
    rw [if_neg (by omega)]
    by_cases k : u < v
    · rw [if_pos k, if_neg (by omega)]
    · rw [if_neg k, if_neg (by omega)]
theorem sub_dg {a b : Nat} (h : b ≤ a) (i : Nat) : (10 + dg a i - dg b i - borrow a b i) % 10 = dg (a - b) i := by
  have hd1 := dg_lt a i
  have hd2 := dg_lt b i
  have hb := borrow_le a b i
  have e : a / 10 ^ i = (a - b) / 10 ^ i + b / 10 ^ i + borrow a b i := by
    have h1 := whole_split a i
    have h2 := whole_split b i
    have h3 := whole_split (a - b) i
    have m1 := Nat.mod_lt a (p10 i)
    have m2 := Nat.mod_lt b (p10 i)
    have m3 := Nat.mod_lt (a - b) (p10 i)
    unfold borrow
    generalize a % 10 ^ i = u at *
    generalize b % 10 ^ i = v at *
    generalize (a - b) % 10 ^ i = t at *
    generalize a / 10 ^ i = A at *
    generalize b / 10 ^ i = B at *
    generalize (a - b) / 10 ^ i = C at *
    generalize 10 ^ i = p at *
    have k : u + p * A = t + p * C + (v + p * B) := by omega
    have m : ∀ x y : Nat, x < y → p * x + p ≤ p * y := fun x y h => by
      have := Nat.mul_le_mul_left p (show x + 1 ≤ y from h)
      rw [Nat.mul_add, Nat.mul_one] at this; exact this
    have q : p * (C + B) = p * C + p * B := Nat.mul_add _ _ _
    have q2 : p * (C + B + 1) = p * C + p * B + p := by rw [Nat.mul_add, q, Nat.mul_one]
    by_cases g : u < v
    · rw [if_pos g]
      rcases Nat.lt_trichotomy A (C + B + 1) with r | r | r
      · have := m _ _ r; omega
      · exact r
      · have := m _ _ r; omega
    · rw [if_neg g, Nat.add_zero]
      rcases Nat.lt_trichotomy A (C + B) with r | r | r
      · have := m _ _ r; omega
      · exact r
      · have := m _ _ r; omega
  unfold dg at hd1 hd2 ⊢
  omega

/-! ### products -/
def up (P d b i k : Nat) : Nat := (P % 10 ^ (i + k) + d * (b % 10 ^ k) * 10 ^ i) / 10 ^ (i + k)
theorem up_zero (P d b i : Nat) : up P d b i 0 = 0 := by
  unfold up
  rw [Nat.pow_zero, Nat.mod_one, Nat.mul_zero, Nat.zero_mul, Nat.add_zero, Nat.add_zero]
  exact Nat.div_eq_of_lt (Nat.mod_lt _ (p10 i))
theorem up_le (P d b i k : Nat) (hd : d ≤ 9) : up P d b i k ≤ 9 := by
  unfold up
  have h1 := Nat.mod_lt P (p10 (i + k))
  have h2 := Nat.mod_lt b (p10 k)
  have h3 : d * (b % 10 ^ k) ≤ 9 * (10 ^ k - 1) := Nat.mul_le_mul hd (by omega)
  have h4 : d * (b % 10 ^ k) * 10 ^ i ≤ 9 * (10 ^ k - 1) * 10 ^ i := Nat.mul_le_mul_right _ h3
  have h5 : 9 * (10 ^ k - 1) * 10 ^ i ≤ 9 * 10 ^ (i + k) := by
    rw [Nat.pow_add, Nat.mul_comm (10 ^ i), ← Nat.mul_assoc]
    exact Nat.mul_le_mul_right _ (by omega)
  have : (P % 10 ^ (i + k) + d * (b % 10 ^ k) * 10 ^ i) / 10 ^ (i + k) < 10 := Nat.div_lt_of_lt_mul (by omega)
  omega
theorem up_succ (P d b i k : Nat) : (up P d b i k + dg P (i + k) + d * dg b k) / 10 = up P d b i (k + 1) := by
  unfold up
  rw [show i + (k + 1) = (i + k) + 1 by omega, mod_split P (i + k), mod_split b k]
  have e : P % 10 ^ (i + k) + 10 ^ (i + k) * dg P (i + k) + d * (b % 10 ^ k + 10 ^ k * dg b k) * 10 ^ i =
      (P % 10 ^ (i + k) + d * (b % 10 ^ k) * 10 ^ i) + 10 ^ (i + k) * (dg P (i + k) + d * dg b k) := by
    rw [Nat.mul_add d, Nat.add_mul _ _ (10 ^ i), Nat.mul_add (10 ^ (i + k)), show d * (10 ^ k * dg b k) * 10 ^ i = 10 ^ (i + k) * (d * dg b k) by
      rw [Nat.pow_add]; ac_rfl]
    omega
  rw [e, Nat.pow_succ, div_step (p10 (i + k)), Nat.add_assoc]
theorem mul_dg (P d b i k : Nat) : (up P d b i k + dg P (i + k) + d * dg b k) % 10 = dg (P + d * b * 10 ^ i) (i + k) := by
  have e : (P + d * b * 10 ^ i) / 10 ^ (i + k) = up P d b i k + (P / 10 ^ (i + k) + d * (b / 10 ^ k)) := by
    unfold up
    have h1 := whole_split P (i + k)
    have h2 := whole_split b k
    have e2 : d * b * 10 ^ i = d * (b % 10 ^ k) * 10 ^ i + 10 ^ (i + k) * (d * (b / 10 ^ k)) := by
      conv => lhs; rw [h2]
      rw [Nat.mul_add d, Nat.add_mul _ _ (10 ^ i), show d * (10 ^ k * (b / 10 ^ k)) * 10 ^ i = 10 ^ (i + k) * (d * (b / 10 ^ k)) by rw [Nat.pow_add]; ac_rfl]
    rw [e2]
    conv => lhs; rw [h1]
    rw [show P % 10 ^ (i + k) + 10 ^ (i + k) * (P / 10 ^ (i + k)) + (d * (b % 10 ^ k) * 10 ^ i + 10 ^ (i + k) * (d * (b / 10 ^ k))) =
      (P % 10 ^ (i + k) + d * (b % 10 ^ k) * 10 ^ i) + 10 ^ (i + k) * (P / 10 ^ (i + k) + d * (b / 10 ^ k)) by rw [Nat.mul_add (10 ^ (i + k))]; omega]
    rw [Nat.add_mul_div_left _ _ (p10 (i + k))]
  unfold dg
  rw [e]
  have m : ∀ d x : Nat, d * x % 10 = d * (x % 10) % 10 := fun d x => by rw [Nat.mul_mod d x, Nat.mul_mod d (x % 10), Nat.mod_mod]
  have := m d (b / 10 ^ k)
  omega
theorem dg_low {P Q i : Nat} (h : ∃ c, Q = P + c * 10 ^ i) {j : Nat} (hj : j < i) : dg Q j = dg P j := by
  obtain ⟨c, rfl⟩ := h
  unfold dg
  obtain ⟨m, rfl⟩ : ∃ m, i = j + (m + 1) := ⟨i - j - 1, by omega⟩
  rw [Nat.pow_add, show c * (10 ^ j * 10 ^ (m + 1)) = 10 ^ j * (c * 10 ^ (m + 1)) by ac_rfl, Nat.add_mul_div_left _ _ (p10 j), Nat.pow_succ, show P / 10 ^ j + c * (10 ^ m * 10) = P / 10 ^ j + (c * 10 ^ m) * 10 by rw [Nat.mul_assoc], Nat.add_mul_mod_self_right]
theorem prod_succ (a b i : Nat) : a % 10 ^ (i + 1) * b = a % 10 ^ i * b + dg a i * b * 10 ^ i := by
  rw [dg_mod, Nat.add_mul]; congr 1; ac_rfl
theorem prod_lt {a b i n : Nat} (hb : b < 10 ^ n) : a % 10 ^ i * b < 10 ^ (i + n) := by
  rw [Nat.pow_add]
  have := Nat.mod_lt a (p10 i)
  exact Nat.mul_lt_mul'' this hb

/-! ### quotients -/
theorem quo_step {r d b : Nat} (hr : r < b) (hd : d < 10) : (10 * r + d) / b < 10 := Nat.div_lt_of_lt_mul (by omega)
theorem div_dg (a b k : Nat) : a / 10 ^ k / b % 10 = dg (a / b) k := by
  unfold dg
  rw [Nat.div_div_eq_div_mul, Nat.div_div_eq_div_mul, Nat.mul_comm]
theorem pre_succ (a k : Nat) : a / 10 ^ k = 10 * (a / 10 ^ (k + 1)) + dg a k := by
  unfold dg
  rw [Nat.pow_succ, ← Nat.div_div_eq_div_mul]
  omega
theorem rem_step (x d b : Nat) : (10 * (x % b) + d) % b = (10 * x + d) % b := by
  rw [Nat.add_mod, Nat.mul_mod, Nat.mod_mod, ← Nat.mul_mod, ← Nat.add_mod]
theorem quo_dg {x d b : Nat} (hb : 0 < b) (hd : d < 10) : (10 * (x % b) + d) / b = (10 * x + d) / b % 10 := by
  have h1 : 10 * x + d = b * (10 * (x / b)) + (10 * (x % b) + d) := by
    have := Nat.div_add_mod x b
    have e : b * (10 * (x / b)) = 10 * (b * (x / b)) := by ac_rfl
    omega
  have h2 := quo_step (Nat.mod_lt x hb) hd
  rw [h1, Nat.mul_add_div hb, Nat.mul_add_mod, Nat.mod_eq_of_lt h2]
end Dig
end Go.Proofs.YtpcbhneaaibfiaaDoor
