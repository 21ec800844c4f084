/- Times: Parse whole, and the chapter's first example. -/
import Derived.Test.YthbjkibclbgjoaaMomParseC
namespace Go.Proofs.Ythbjkibclbgjoaa
open Go.RowKit

namespace Mom
structure Tm where
  k : Int
  d : Int
  n : Int
  o : Int
def tz : Tm := ⟨0, 0, 0, 0⟩
def late (f : Fl) : Prop := 23 < f.h ∨ 59 < f.mi ∨ 59 < f.s ∨ 23 < f.oh ∨ 59 < f.om
instance (f : Fl) : Decidable (late f) := by unfold late; infer_instance
/-- The time of a form, and the error. -/
def made (P : Int × Rd × Fl) : Tm × Int :=
  if P.2.1.b = true ∨ P.2.1.x.size ≠ 0 then (tz, 3)
  else if P.1 ≠ 2 ∧ ¬ Cal.Vld P.2.2.y P.2.2.mo P.2.2.d then (tz, 2)
  else if late P.2.2 then (tz, 2)
  else (⟨P.1, if P.1 = 2 then 0 else Cal.num P.2.2.y P.2.2.mo P.2.2.d, ((P.2.2.h * 60 + P.2.2.mi) * 60 + P.2.2.s) * 1000000000 + P.2.2.n, if P.2.2.sg = 45 then -(P.2.2.oh * 60 + P.2.2.om) else P.2.2.oh * 60 + P.2.2.om⟩, 0)
def parse (x : ByteArray) : Tm × Int := made (form ⟨x, false⟩ fl0)
end Mom
def Mom.ag (t : Mom.Tm) : Value := .agg #[.int .i64 t.k, .int .i64 t.d, .int .i64 t.n, .int .i64 t.o]

theorem parse_any {x : ByteArray} (hx : x.size ≤ maxLen) (w : World) :
    Calls Try.prog 17 #[.string x] w fun e w' => e = .returned (.tuple #[Mom.ag (Mom.parse x).1, .int .i64 (Mom.parse x).2]) ∧ Below w.heap.size w w' := by
  unfold Mom.parse
  have hf := Mom.form_fb (s := ⟨x, false⟩) (f := Mom.fl0) (by unfold Mom.Fb Mom.fl0; exact ⟨by decide, by decide, by decide, ⟨by decide, by decide⟩, by decide, by decide⟩)
  unfold Mom.made
  by_cases hb : (Mom.form ⟨x, false⟩ Mom.fl0).2.1.b = true ∨ (Mom.form ⟨x, false⟩ Mom.fl0).2.1.x.size ≠ 0
  · rw [if_pos hb]
    exact parse_bad hx hb w
  rw [if_neg hb]
  generalize hP : Mom.form ⟨x, false⟩ Mom.fl0 = P at *
  obtain ⟨k, s, y, mo, d, hh, mi, ss, nn, sg, oh, om⟩ := P
  unfold Mom.Fb at hf
  simp only at hb hf ⊢
  obtain ⟨g1, g2, g3, ⟨g4, g5⟩, g6, g7⟩ := hf
  have b1 : s.b = false := by
    cases h : s.b with
    | false => rfl
    | true => exact absurd (Or.inl h) hb
  have b2 : s.x.size = 0 := Decidable.byContradiction fun h => hb (Or.inr h)
  clear hb
  by_cases hk : k = 2
  · rw [if_neg (show ¬ (k ≠ 2 ∧ ¬ Cal.Vld y mo d) from fun h => h.1 hk)]
    by_cases a1 : 23 < hh
    · rw [if_pos (show Mom.late ⟨y, mo, d, hh, mi, ss, nn, sg, oh, om⟩ by unfold Mom.late; dsimp only; omega)]; exact parse_clock_a hP hx b1 b2 hk a1 w
    by_cases a2 : 59 < mi
    · rw [if_pos (show Mom.late ⟨y, mo, d, hh, mi, ss, nn, sg, oh, om⟩ by unfold Mom.late; dsimp only; omega)]; exact parse_clock_b hP hx b1 b2 hk (by omega) a2 w
    by_cases a3 : 59 < ss
    · rw [if_pos (show Mom.late ⟨y, mo, d, hh, mi, ss, nn, sg, oh, om⟩ by unfold Mom.late; dsimp only; omega)]; exact parse_clock_c hP hx b1 b2 hk (by omega) (by omega) a3 w
    by_cases a4 : 23 < oh
    · rw [if_pos (show Mom.late ⟨y, mo, d, hh, mi, ss, nn, sg, oh, om⟩ by unfold Mom.late; dsimp only; omega)]; exact parse_clock_d hP hx b1 b2 hk (by omega) (by omega) (by omega) a4 w
    by_cases a5 : 59 < om
    · rw [if_pos (show Mom.late ⟨y, mo, d, hh, mi, ss, nn, sg, oh, om⟩ by unfold Mom.late; dsimp only; omega)]; exact parse_clock_e hP hx b1 b2 hk (by omega) (by omega) (by omega) (by omega) a5 w
    rw [if_neg (show ¬ Mom.late ⟨y, mo, d, hh, mi, ss, nn, sg, oh, om⟩ by unfold Mom.late; dsimp only; omega), if_pos hk]
    by_cases hg : sg = 45
    · rw [if_pos hg]; exact parse_ok_clock_neg hP hx b1 b2 hk g1 (by omega) g2 (by omega) g3 (by omega) g4 g5 g6 (by omega) g7 (by omega) hg w
    · rw [if_neg hg]; exact parse_ok_clock hP hx b1 b2 hk g1 (by omega) g2 (by omega) g3 (by omega) g4 g5 g6 (by omega) g7 (by omega) hg w
  by_cases hv : Cal.Vld y mo d
  · rw [if_neg (show ¬ (k ≠ 2 ∧ ¬ Cal.Vld y mo d) from fun h => h.2 hv)]
    by_cases a1 : 23 < hh
    · rw [if_pos (show Mom.late ⟨y, mo, d, hh, mi, ss, nn, sg, oh, om⟩ by unfold Mom.late; dsimp only; omega)]; exact parse_range_a hP hx b1 b2 hk hv a1 w
    by_cases a2 : 59 < mi
    · rw [if_pos (show Mom.late ⟨y, mo, d, hh, mi, ss, nn, sg, oh, om⟩ by unfold Mom.late; dsimp only; omega)]; exact parse_range_b hP hx b1 b2 hk hv (by omega) a2 w
    by_cases a3 : 59 < ss
    · rw [if_pos (show Mom.late ⟨y, mo, d, hh, mi, ss, nn, sg, oh, om⟩ by unfold Mom.late; dsimp only; omega)]; exact parse_range_c hP hx b1 b2 hk hv (by omega) (by omega) a3 w
    by_cases a4 : 23 < oh
    · rw [if_pos (show Mom.late ⟨y, mo, d, hh, mi, ss, nn, sg, oh, om⟩ by unfold Mom.late; dsimp only; omega)]; exact parse_range_d hP hx b1 b2 hk hv (by omega) (by omega) (by omega) a4 w
    by_cases a5 : 59 < om
    · rw [if_pos (show Mom.late ⟨y, mo, d, hh, mi, ss, nn, sg, oh, om⟩ by unfold Mom.late; dsimp only; omega)]; exact parse_range_e hP hx b1 b2 hk hv (by omega) (by omega) (by omega) (by omega) a5 w
    rw [if_neg (show ¬ Mom.late ⟨y, mo, d, hh, mi, ss, nn, sg, oh, om⟩ by unfold Mom.late; dsimp only; omega), if_neg hk]
    by_cases hg : sg = 45
    · rw [if_pos hg]; exact parse_ok_day_neg hP hx b1 b2 hk hv g1 (by omega) g2 (by omega) g3 (by omega) g4 g5 g6 (by omega) g7 (by omega) hg w
    · rw [if_neg hg]; exact parse_ok_day hP hx b1 b2 hk hv g1 (by omega) g2 (by omega) g3 (by omega) g4 g5 g6 (by omega) g7 (by omega) hg w
  · rw [if_pos ⟨hk, hv⟩]
    exact parse_day hP hx b1 b2 hk hv w

/-! ### the first example -/
def Mom.ex1 : ByteArray := ⟨#[50, 48, 50, 52, 45, 48, 50, 45, 50, 57, 32, 49, 48, 58, 51, 48, 58, 48, 48, 46, 53, 48, 48, 43, 48, 50, 58, 48, 48]⟩
def Mom.ex2 : List Int := [50, 48, 50, 52, 45, 48, 50, 45, 50, 57, 84, 49, 48, 58, 51, 48, 58, 48, 48, 46, 53, 43, 48, 50, 58, 48, 48]
deriving instance DecidableEq for Mom.Tm
theorem parse_ex : Mom.parse Mom.ex1 = (⟨4, 738944, 37800500000000, 120⟩, 0) := by decide +kernel
theorem text_ex : Mom.txt 4 738944 37800500000000 120 = Mom.ex2 := by
  obtain ⟨h1, h2, h3⟩ := Cal.dt_of (y := 2024) (m := 2) (d := 29) (n := 738944) (by decide +kernel) (by decide +kernel)
  unfold Mom.txt Mom.dtx
  rw [h1, h2, h3]
  decide +kernel
end Go.Proofs.Ythbjkibclbgjoaa
