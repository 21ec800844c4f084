/- Times: plain: offsets and dates, as the program and as the reference read them. -/
import Derived.Test.YthbjkibclbgjoaaMomRefP
import Derived.Test.YthbjkibclbgjoaaMomRefG
namespace Go.Proofs.Ythbjkibclbgjoaa
open Go.RowKit

namespace Mom
/-! ### dates -/
theorem date_five {x : ByteArray} : lk x dateF ↔ F5 x 4 2 2 45 := by
  constructor
  · intro h
    have D : ∀ i, i < 10 → bt dateF i = 100 → isd x i := fun i hi hf => okc_d (h.2 i (by show i < 10; exact hi)) hf
    have E : ∀ i, i < 10 → bt dateF i = 45 → bt x i = 45 := fun i hi hf => okc_c (h.2 i (by show i < 10; exact hi)) hf (by decide)
    refine ⟨h.1, fun j hj => ?_, E 4 (by omega) (by decide), fun j hj => ?_, E 7 (by omega) (by decide), fun j hj => ?_⟩
    · have e : j = 0 ∨ j = 1 ∨ j = 2 ∨ j = 3 := by omega
      rcases e with rfl | rfl | rfl | rfl <;> exact D _ (by omega) (by decide)
    · have e : j = 0 ∨ j = 1 := by omega
      rcases e with rfl | rfl <;> exact D _ (by omega) (by decide)
    · have e : j = 0 ∨ j = 1 := by omega
      rcases e with rfl | rfl <;> exact D _ (by omega) (by decide)
  · intro h
    refine ⟨h.size, fun i hi => ?_⟩
    have e : i = 0 ∨ i = 1 ∨ i = 2 ∨ i = 3 ∨ i = 4 ∨ i = 5 ∨ i = 6 ∨ i = 7 ∨ i = 8 ∨ i = 9 := by have : i < 10 := hi; omega
    rcases e with rfl | rfl | rfl | rfl | rfl | rfl | rfl | rfl | rfl | rfl
    · exact okc_of_d (by decide) (h.p 0 (by omega))
    · exact okc_of_d (by decide) (h.p 1 (by omega))
    · exact okc_of_d (by decide) (h.p 2 (by omega))
    · exact okc_of_d (by decide) (h.p 3 (by omega))
    · exact okc_of_c (by decide) (h.q.trans (by decide))
    · exact okc_of_d (by decide) (h.r 0 (by omega))
    · exact okc_of_d (by decide) (h.r 1 (by omega))
    · exact okc_of_c (by decide) (h.s.trans (by decide))
    · exact okc_of_d (by decide) (h.t 0 (by omega))
    · exact okc_of_d (by decide) (h.t 1 (by omega))
theorem date_y {x : ByteArray} {b : Bool} {f : Fl} (h : lk x dateF) : date ⟨x, b⟩ f = (⟨x.extract 10 x.size, b⟩, { f with y := ryr x, mo := rmo x, d := rda x }) := by
  have h5 := date_five.1 h
  have hs := h5.size
  obtain ⟨e1, e2, e3, e4, e5⟩ := five_y h5 b
  unfold date ryr rmo rda
  simp only [e1, e2, e3, e4, e5]
  rw [nv_front (show 4 ≤ x.size by omega), nv_ext (show 4 + 1 + 2 ≤ x.size by omega), nv_ext (show 4 + 2 + 2 + 2 ≤ x.size by omega)]
theorem date_n {s : Rd} {f : Fl} (h : (date s f).1.b = false) : s.b = false ∧ lk s.x dateF := by
  unfold date at h
  dsimp only at h
  have := five_n (s := s) (a := 4) (b := 2) (d := 2) (u := 45) (by omega) h
  exact ⟨this.1, date_five.2 this.2⟩

/-! ### offsets -/
theorem signs_bt (i : Nat) (h : i < signs.size) : bt signs i = 90 ∨ bt signs i = 122 ∨ bt signs i = 43 ∨ bt signs i = 45 := by
  have e : i = 0 ∨ i = 1 ∨ i = 2 ∨ i = 3 := by have : i < 4 := h; omega
  rcases e with rfl | rfl | rfl | rfl
  · exact Or.inl (by decide)
  · exact Or.inr (Or.inl (by decide))
  · exact Or.inr (Or.inr (Or.inl (by decide)))
  · exact Or.inr (Or.inr (Or.inr (by decide)))
/-- Digits, a colon, digits: behind a sign. -/
structure F3 (x : ByteArray) : Prop where
  size : 5 ≤ x.size
  p : alld x 2
  q : bt x 2 = 58
  r : ∀ j, j < 2 → isd x (3 + j)
theorem three_y {x : ByteArray} (h : F3 x) (c : Bool) :
    num ⟨x, c⟩ 2 = (nv x 2, ⟨x.extract 2 x.size, c⟩) ∧ one ⟨x.extract 2 x.size, c⟩ ⟨#[58]⟩ = (58, ⟨x.extract 3 x.size, c⟩) ∧
    num ⟨x.extract 3 x.size, c⟩ 2 = (nv (x.extract 3 x.size) 2, ⟨x.extract 5 x.size, c⟩) := by
  have hs := h.size
  refine ⟨num_y h.p, ?_, ?_⟩
  · have e : bt (x.extract 2 x.size) 0 = 58 := by rw [bt_tail x 2 0 (by omega)]; exact h.q
    rw [one_y (by rw [e]; exact has58), e, ext_ext x 2 1 (by omega)]
  · rw [num_y (fun j hj => (isd_tail (by omega)).2 (h.r j hj)), ext_ext x 3 2 (by omega)]
theorem three_n {s : Rd} (h : (num (one (num s 2).2 ⟨#[58]⟩).2 2).2.b = false) : s.b = false ∧ F3 s.x ∧ (num (one (num s 2).2 ⟨#[58]⟩).2 2).2.x = s.x.extract 5 s.x.size := by
  obtain ⟨h3, g3, e3⟩ := num_inv h
  rw [e3]
  obtain ⟨h2, g2, e2⟩ := one_inv g3
  rw [e2] at h3 ⊢
  obtain ⟨h1, g1, e1⟩ := num_inv g2
  rw [e1] at h2 h3 ⊢
  dsimp only at h1 h2 h3 ⊢
  have l1 := alld_le h1
  have b2 := has1 h2
  rw [bt_tail _ 2 0 l1, show 2 + 0 = 2 from rfl] at b2
  have l2 : 2 < s.x.size := bt_lt (by omega)
  rw [ext_ext _ 2 1 l1] at h3 ⊢
  have l3 := alld_le h3
  rw [ByteArray.size_extract] at l3
  rw [ext_ext _ 3 2 (by omega)]
  exact ⟨g1, ⟨by omega, h1, b2, fun j hj => (isd_tail (by omega)).1 (h3 j hj)⟩, rfl⟩
theorem sign_three {x : ByteArray} {c : Int} {f : ByteArray} (hf : f = plusF ∧ c = 43 ∨ f = minusF ∧ c = 45) (hs : x.size = 6) : lk x f ↔ bt x 0 = c ∧ F3 (x.extract 1 x.size) := by
  have b : ∀ i, bt (x.extract 1 x.size) i = bt x (1 + i) := fun i => bt_tail x 1 i (by omega)
  have q : f.size = 6 ∧ bt f 0 = c ∧ bt f 1 = 100 ∧ bt f 2 = 100 ∧ bt f 3 = 58 ∧ bt f 4 = 100 ∧ bt f 5 = 100 ∧ c ≠ 100 := by
    rcases hf with ⟨rfl, rfl⟩ | ⟨rfl, rfl⟩ <;> decide
  obtain ⟨z, q0, q1, q2, q3, q4, q5, qc⟩ := q
  constructor
  · intro h
    have D : ∀ i, i < 6 → bt f i = 100 → isd x i := fun i hi hf => okc_d (h.2 i (by omega)) hf
    refine ⟨okc_c (h.2 0 (by omega)) q0 qc, by rw [ByteArray.size_extract]; omega, fun j hj => ?_, by rw [b]; exact okc_c (h.2 3 (by omega)) q3 (by omega), fun j hj => ?_⟩
    · have e : j = 0 ∨ j = 1 := by omega
      unfold isd
      rw [b]
      rcases e with rfl | rfl
      · exact D 1 (by omega) q1
      · exact D 2 (by omega) q2
    · have e : j = 0 ∨ j = 1 := by omega
      unfold isd
      rw [b]
      rcases e with rfl | rfl
      · exact D 4 (by omega) q4
      · exact D 5 (by omega) q5
  · rintro ⟨h0, h⟩
    refine ⟨by omega, fun i hi => ?_⟩
    have e : i = 0 ∨ i = 1 ∨ i = 2 ∨ i = 3 ∨ i = 4 ∨ i = 5 := by omega
    have hp := h.p
    have hr := h.r
    have hq := h.q
    unfold alld isd at hp
    unfold isd at hr
    rw [b] at hq
    rcases e with rfl | rfl | rfl | rfl | rfl | rfl
    · exact okc_of_c (by omega) (by omega)
    · exact okc_of_d q1 (by have := hp 0 (by omega); rw [b] at this; exact this)
    · exact okc_of_d q2 (by have := hp 1 (by omega); rw [b] at this; exact this)
    · exact okc_of_c (by omega) (by rw [q3]; exact hq)
    · exact okc_of_d q4 (by have := hr 0 (by omega); rw [b] at this; exact this)
    · exact okc_of_d q5 (by have := hr 1 (by omega); rw [b] at this; exact this)
theorem list_one {x : ByteArray} {u : UInt8} : x.toList = [u] ↔ x.size = 1 ∧ bt x 0 = u.toNat := by
  rw [Lib.toList_data]
  obtain ⟨⟨l⟩⟩ := x
  constructor
  · intro h
    dsimp only at h
    subst h
    exact ⟨rfl, rfl⟩
  · rintro ⟨h1, h2⟩
    match l, h1, h2 with
    | [v], _, h2 =>
      have e : (v.toNat : Int) = u.toNat := h2
      have e2 : v.toNat = u.toNat := by omega
      dsimp only
      rw [UInt8.toNat_inj.1 e2]
theorem offs_n {s : Rd} {f : Fl} (h : (offs s f).1.b = false) (hz : (offs s f).1.x.size = 0) : s.b = false ∧ (rOff s.x).2.1 = true := by
  unfold offs at h hz
  by_cases g : (one s signs).1 = 43 ∨ (one s signs).1 = 45
  · rw [if_pos g] at h hz
    obtain ⟨h1, h2, h3⟩ := three_n h
    dsimp only at hz
    rw [h3] at hz
    obtain ⟨k1, k2, k3⟩ := one_inv h1
    rw [k3] at h2 hz g
    dsimp only at h2 hz g
    have hs := h2.size
    rw [ByteArray.size_extract] at hs
    rw [ext_ext _ 1 5 (by omega), ByteArray.size_extract] at hz
    have h6 : s.x.size = 6 := by omega
    refine ⟨k2, ?_⟩
    unfold rOff
    by_cases z : s.x.toList = [90] ∨ s.x.toList = [122]
    · rw [if_pos z]
    · rw [if_neg z, if_neg]
      rintro (e | ⟨e1, e2⟩)
      · exact e h6
      · rcases g with g | g
        · exact e1 ((sign_three (Or.inl ⟨rfl, rfl⟩) h6).2 ⟨g, h2⟩)
        · exact e2 ((sign_three (Or.inr ⟨rfl, rfl⟩) h6).2 ⟨g, h2⟩)
  · rw [if_neg g] at h hz
    obtain ⟨k1, k2, k3⟩ := one_inv h
    dsimp only at hz
    rw [k3] at hz g
    dsimp only at hz g
    have h0 := has_some k1
    rw [ByteArray.size_extract] at hz
    have h1 : s.x.size = 1 := by omega
    refine ⟨k2, ?_⟩
    unfold rOff
    obtain ⟨i, hi, e⟩ := k1
    rw [if_pos]
    have := signs_bt i hi
    rcases this with r | r | r | r
    · exact Or.inl (list_one.2 ⟨h1, by rw [← e, r]; rfl⟩)
    · exact Or.inr (list_one.2 ⟨h1, by rw [← e, r]; rfl⟩)
    · exact absurd (Or.inl (by rw [← e, r])) g
    · exact absurd (Or.inr (by rw [← e, r])) g
theorem offs_y {x : ByteArray} {b : Bool} {f : Fl} (hf : f.oh = 0) (hg : f.om = 0) (h : (rOff x).2.1 = true) :
    ∃ (r : ByteArray) (S H M : Int), offs ⟨x, b⟩ f = (⟨r, b⟩, { f with sg := S, oh := H, om := M }) ∧ r.size = 0 ∧ (if S = 45 then -(H * 60 + M) else H * 60 + M) = (rOff x).1 ∧ ((rOff x).2.2 = true ↔ H ≤ 23 ∧ M ≤ 59) := by
  unfold rOff at h ⊢
  by_cases z : x.toList = [90] ∨ x.toList = [122]
  · rw [if_pos z] at h ⊢
    have key : x.size = 1 ∧ (bt x 0 = 90 ∨ bt x 0 = 122) := by
      rcases z with z | z
      · have := list_one.1 z; exact ⟨this.1, Or.inl this.2⟩
      · have := list_one.1 z; exact ⟨this.1, Or.inr this.2⟩
    have hh : has signs (bt x 0) := by
      rcases key.2 with e | e <;> rw [e] <;> decide
    refine ⟨x.extract 1 x.size, bt x 0, 0, 0, ?_, by rw [ByteArray.size_extract]; omega, by rw [if_neg (by omega)]; rfl, by simp⟩
    unfold offs
    simp only [one_y hh]
    rw [if_neg (by omega), hf, hg]
  · rw [if_neg z] at h ⊢
    have hc : ¬ (x.size ≠ 6 ∨ (¬ lk x plusF ∧ ¬ lk x minusF)) := fun k => by rw [if_pos k] at h; cases h
    rw [if_neg hc]
    have h6 : x.size = 6 := Decidable.byContradiction fun k => hc (Or.inl k)
    have key : (bt x 0 = 43 ∨ bt x 0 = 45) ∧ F3 (x.extract 1 x.size) := by
      by_cases p : lk x plusF
      · have := (sign_three (Or.inl ⟨rfl, rfl⟩) h6).1 p; exact ⟨Or.inl this.1, this.2⟩
      · by_cases q : lk x minusF
        · have := (sign_three (Or.inr ⟨rfl, rfl⟩) h6).1 q; exact ⟨Or.inr this.1, this.2⟩
        · exact absurd (Or.inr ⟨p, q⟩) hc
    obtain ⟨k1, k2⟩ := key
    have hh : has signs (bt x 0) := by
      rcases k1 with e | e <;> rw [e] <;> decide
    obtain ⟨e1, e2, e3⟩ := three_y k2 b
    refine ⟨(x.extract 1 x.size).extract 5 (x.extract 1 x.size).size, bt x 0, nv (x.extract 1 3) 2, nv (x.extract 4 6) 2, ?_, by rw [ext_ext _ 1 5 (by omega), ByteArray.size_extract]; omega, rfl, by dsimp only; rw [decide_eq_true_iff]⟩
    unfold offs
    simp only [one_y hh]
    rw [if_pos k1]
    simp only [e1, e2, e3]
    rw [ext_ext _ 1 3 (by omega), nv_ext (show 1 + 2 ≤ x.size by omega), nv_ext (show 1 + 3 + 2 ≤ x.size by omega), h6]
end Mom
end Go.Proofs.Ythbjkibclbgjoaa
