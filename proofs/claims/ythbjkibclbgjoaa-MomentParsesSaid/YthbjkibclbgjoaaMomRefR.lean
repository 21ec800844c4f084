/- Times: plain: Parse, as the program and as the reference define it. -/
import Derived.Test.YthbjkibclbgjoaaMomRefQ
namespace Go.Proofs.Ythbjkibclbgjoaa
open Go.RowKit

namespace Mom
def sepd (x : ByteArray) : Prop := bt x 10 = 84 ∨ bt x 10 = 116 ∨ bt x 10 = 32
instance (x : ByteArray) : Decidable (sepd x) := by unfold sepd; infer_instance
/-- What stands behind the date and the byte behind it. -/
def rest11 (x : ByteArray) : ByteArray := (x.extract 10 x.size).extract 1 (x.extract 10 x.size).size
def rIn (x : ByteArray) : Tm × Int :=
  if (rClk (rest11 x)).2.1.size = 0 then
    (if Cal.Vld (ryr x) (rmo x) (rda x) ∧ (rClk (rest11 x)).2.2.2 = true then (⟨3, Cal.num (ryr x) (rmo x) (rda x), (rClk (rest11 x)).1, 0⟩, 0) else (tz, 2))
  else if (rOff (rClk (rest11 x)).2.1).2.1 = false then (tz, 3)
  else if Cal.Vld (ryr x) (rmo x) (rda x) ∧ (rClk (rest11 x)).2.2.2 = true ∧ (rOff (rClk (rest11 x)).2.1).2.2 = true then (⟨4, Cal.num (ryr x) (rmo x) (rda x), (rClk (rest11 x)).1, (rOff (rClk (rest11 x)).2.1).1⟩, 0)
  else (tz, 2)
def rPar (x : ByteArray) : Tm × Int :=
  if ¬ lk x dateF then
    (if (rClk x).2.2.1 = false ∨ (rClk x).2.1.size ≠ 0 then (tz, 3) else if (rClk x).2.2.2 = false then (tz, 2) else (⟨2, 0, (rClk x).1, 0⟩, 0))
  else if x.size = 10 then (if Cal.Vld (ryr x) (rmo x) (rda x) then (⟨1, Cal.num (ryr x) (rmo x) (rda x), 0, 0⟩, 0) else (tz, 2))
  else if ¬ sepd x then (tz, 3)
  else if (rClk (rest11 x)).2.2.1 = false then (tz, 3)
  else rIn x
theorem made_bad {P : Int × Rd × Fl} (h : P.2.1.b = false → P.2.1.x.size = 0 → False) : made P = (tz, 3) := by
  unfold made
  rw [if_pos]
  cases hb : P.2.1.b with
  | true => exact Or.inl rfl
  | false => exact Or.inr (fun e => h hb e)
theorem made_late {k : Int} {s : Rd} {f : Fl} (hb : s.b = false) (hz : s.x.size = 0) (h : (k ≠ 2 ∧ ¬ Cal.Vld f.y f.mo f.d) ∨ late f) : made (k, s, f) = (tz, 2) := by
  unfold made
  dsimp only
  rw [if_neg (by rw [hb, hz]; simp)]
  by_cases g : k ≠ 2 ∧ ¬ Cal.Vld f.y f.mo f.d
  · rw [if_pos g]
  · rw [if_neg g, if_pos (h.resolve_left g)]
theorem made_yes {k d n o : Int} {s : Rd} {f : Fl} (hb : s.b = false) (hz : s.x.size = 0) (hv : k = 2 ∨ Cal.Vld f.y f.mo f.d) (hl : ¬ late f)
    (h1 : (if k = 2 then 0 else Cal.num f.y f.mo f.d) = d) (h2 : ((f.h * 60 + f.mi) * 60 + f.s) * 1000000000 + f.n = n) (h3 : (if f.sg = 45 then -(f.oh * 60 + f.om) else f.oh * 60 + f.om) = o) : made (k, s, f) = (⟨k, d, n, o⟩, 0) := by
  unfold made
  dsimp only
  rw [if_neg (by rw [hb, hz]; simp), if_neg (fun k => hv.elim k.1 k.2), if_neg hl, h1, h2, h3]
theorem clock_bad {s : Rd} {f : Fl} (h : (clock s f).1.b = false → False) : made (2, clock s f) = (tz, 3) := by
  generalize clock s f = C at *
  exact made_bad (fun k _ => h k)
theorem tail_bad {o : Rd} {f : Fl} (h : (clock o f).1.b = false → False) : made (if (clock o f).1.x.size = 0 then (3, clock o f) else (4, offs (clock o f).1 (clock o f).2)) = (tz, 3) := by
  generalize clock o f = C at *
  have r := fun k l => h (offs_n (s := C.1) (f := C.2) k l).1
  generalize offs C.1 C.2 = P at *
  split
  · exact made_bad (fun k _ => h k)
  · exact made_bad (fun k l => r k l)
theorem all_bad {D : Rd × Fl} (h : D.1.b = false → False) : made (if D.1.x.size = 0 then (1, D) else if (clock (one D.1 tees).2 D.2).1.x.size = 0 then (3, clock (one D.1 tees).2 D.2) else (4, offs (clock (one D.1 tees).2 D.2).1 (clock (one D.1 tees).2 D.2).2)) = (tz, 3) := by
  have q := fun k => h (one_inv (s := D.1) (o := tees) (clock_n (s := (one D.1 tees).2) (f := D.2) k).1).2.1
  by_cases g : D.1.x.size = 0
  · rw [if_pos g]; exact made_bad (fun k _ => h k)
  · rw [if_neg g]; exact tail_bad q
theorem tees_bt (i : Nat) (h : i < tees.size) : bt tees i = 84 ∨ bt tees i = 116 ∨ bt tees i = 32 := by
  have e : i = 0 ∨ i = 1 ∨ i = 2 := by have : i < 3 := h; omega
  rcases e with rfl | rfl | rfl
  · exact Or.inl (by decide)
  · exact Or.inr (Or.inl (by decide))
  · exact Or.inr (Or.inr (by decide))
theorem clock_no {x : ByteArray} {b : Bool} {f : Fl} (hc : ¬ (rClk x).2.2.1 = true) (h : (clock ⟨x, b⟩ f).1.b = false) : False := hc (clock_n (s := ⟨x, b⟩) (f := f) h).2
theorem offs_no {x : ByteArray} {b : Bool} {f : Fl} (hc : ¬ (rOff x).2.1 = true) (h : (offs ⟨x, b⟩ f).1.b = false) (hz : (offs ⟨x, b⟩ f).1.x.size = 0) : False := hc (offs_n (s := ⟨x, b⟩) (f := f) h hz).2
theorem form_clk {s : Rd} {f : Fl} (h : bt s.x 2 = 58) : form s f = (2, clock s f) := by unfold form; rw [if_pos h]
theorem form_not {s : Rd} {f : Fl} {D : Rd × Fl} (h : ¬ bt s.x 2 = 58) (hD : date s f = D) : form s f = if D.1.x.size = 0 then (1, D) else if (clock (one D.1 tees).2 D.2).1.x.size = 0 then (3, clock (one D.1 tees).2 D.2) else (4, offs (clock (one D.1 tees).2 D.2).1 (clock (one D.1 tees).2 D.2).2) := by
  subst hD; unfold form; rw [if_neg h]
theorem form_day {s : Rd} {f : Fl} {D : Rd × Fl} (h : ¬ bt s.x 2 = 58) (hD : date s f = D) (hz : D.1.x.size = 0) : form s f = (1, D) := by rw [form_not h hD, if_pos hz]
theorem form_tail {s o : Rd} {f g : Fl} {D : Rd × Fl} (h : ¬ bt s.x 2 = 58) (hD : date s f = D) (hz : ¬ D.1.x.size = 0) (ho : (one D.1 tees).2 = o) (hg : D.2 = g) :
    form s f = if (clock o g).1.x.size = 0 then (3, clock o g) else (4, offs (clock o g).1 (clock o g).2) := by subst ho hg; rw [form_not h hD, if_neg hz]
theorem in_plain {x : ByteArray} {H M S N : Int} (ev : ((H * 60 + M) * 60 + S) * 1000000000 + N = (rClk (rest11 x)).1) (ei : (rClk (rest11 x)).2.2.2 = true ↔ H ≤ 23 ∧ M ≤ 59 ∧ S ≤ 59) {C : Rd × Fl}
    (hC : C = (⟨(rClk (rest11 x)).2.1, false⟩, { fl0 with y := ryr x, mo := rmo x, d := rda x, h := H, mi := M, s := S, n := N })) :
    made (if C.1.x.size = 0 then (3, C) else (4, offs C.1 C.2)) = rIn x := by
  unfold rIn
  generalize rClk (rest11 x) = Z at *
  obtain ⟨cn, cr, cf, ci⟩ := Z
  dsimp only at ev ei hC ⊢
  obtain ⟨g, hg⟩ : ∃ g : Fl, { fl0 with y := ryr x, mo := rmo x, d := rda x, h := H, mi := M, s := S, n := N } = g := ⟨_, rfl⟩
  rw [hg] at hC
  have g1 : g.y = ryr x := by rw [← hg]
  have g2 : g.mo = rmo x := by rw [← hg]
  have g3 : g.d = rda x := by rw [← hg]
  have g4 : ((g.h * 60 + g.mi) * 60 + g.s) * 1000000000 + g.n = cn := by rw [← hg]; exact ev
  have g5 : ci = true ↔ g.h ≤ 23 ∧ g.mi ≤ 59 ∧ g.s ≤ 59 := by rw [← hg]; exact ei
  have g6 : g.oh = 0 := by rw [← hg]; rfl
  have g7 : g.om = 0 := by rw [← hg]; rfl
  have g8 : g.sg = 0 := by rw [← hg]; rfl
  clear hg ev ei
  generalize ryr x = Y at *
  generalize rmo x = Mo at *
  generalize rda x = D at *
  subst hC
  by_cases hz : cr.size = 0
  · rw [if_pos (show (⟨cr, false⟩ : Rd).x.size = 0 from hz), if_pos hz]
    by_cases hv : Cal.Vld Y Mo D
    · by_cases hi : ci = true
      · have := g5.1 hi
        rw [if_pos ⟨hv, hi⟩]
        refine made_yes (s := ⟨cr, false⟩) rfl hz (Or.inr (by rw [g1, g2, g3]; exact hv)) (by unfold late; rw [g6, g7]; omega) (by rw [if_neg (by decide), g1, g2, g3]) g4 (by rw [g6, g7, g8]; rfl)
      · have hi2 : ¬ (g.h ≤ 23 ∧ g.mi ≤ 59 ∧ g.s ≤ 59) := fun k => hi (g5.2 k)
        rw [if_neg (fun k => hi k.2)]
        exact made_late (s := ⟨cr, false⟩) rfl hz (Or.inr (by unfold late; omega))
    · rw [if_neg (fun k => hv k.1)]
      exact made_late (s := ⟨cr, false⟩) rfl hz (Or.inl ⟨by decide, by rw [g1, g2, g3]; exact hv⟩)
  · rw [if_neg (show ¬ (⟨cr, false⟩ : Rd).x.size = 0 from hz), if_neg hz]
    by_cases ho : (rOff cr).2.1 = true
    case neg =>
      rw [if_pos (show (rOff cr).2.1 = false by simpa using ho)]
      exact made_bad (offs_no ho)
    case pos =>
      rw [if_neg (show ¬ (rOff cr).2.1 = false by rw [ho]; decide)]
      obtain ⟨r, S2, H2, M2, o1, o2, o3, o4⟩ := offs_y (x := cr) (b := false) (f := g) g6 g7 ho
      generalize rOff cr = O at *
      obtain ⟨on, of, oi⟩ := O
      dsimp only at o3 o4 ho ⊢
      rw [o1]
      by_cases hv : Cal.Vld Y Mo D
      · by_cases hi : ci = true ∧ oi = true
        · have a1 := g5.1 hi.1
          have a2 := o4.1 hi.2
          rw [if_pos ⟨hv, hi⟩]
          exact made_yes (s := ⟨r, false⟩) rfl o2 (Or.inr (by dsimp only; rw [g1, g2, g3]; exact hv)) (by unfold late; dsimp only; omega) (by rw [if_neg (by decide)]; dsimp only; rw [g1, g2, g3]) g4 o3
        · have hi2 : ¬ ((g.h ≤ 23 ∧ g.mi ≤ 59 ∧ g.s ≤ 59) ∧ (H2 ≤ 23 ∧ M2 ≤ 59)) := fun k => hi ⟨g5.2 k.1, o4.2 k.2⟩
          rw [if_neg (fun k => hi k.2)]
          exact made_late (s := ⟨r, false⟩) rfl o2 (Or.inr (by unfold late; dsimp only; omega))
      · rw [if_neg (fun k => hv k.1)]
        exact made_late (s := ⟨r, false⟩) rfl o2 (Or.inl ⟨by decide, by dsimp only; rw [g1, g2, g3]; exact hv⟩)
set_option maxHeartbeats 1000000 in
theorem parse_plain (x : ByteArray) : parse x = rPar x := by
  unfold parse rPar
  by_cases hd : lk x dateF
  case neg =>
    rw [if_pos (show ¬ lk x dateF from hd)]
    by_cases h2 : bt x 2 = 58
    · rw [form_clk h2]
      by_cases hc : (rClk x).2.2.1 = true
      · obtain ⟨H, M, S, N, e, ev, ei⟩ := clock_y (x := x) (b := false) (f := fl0) rfl hc
        rw [e]
        by_cases hz : (rClk x).2.1.size = 0
        · rw [if_neg (show ¬ ((rClk x).2.2.1 = false ∨ (rClk x).2.1.size ≠ 0) by rw [hc]; simp [hz])]
          by_cases hi : (rClk x).2.2.2 = true
          · have := ei.1 hi
            rw [if_neg (by rw [hi]; decide)]
            exact made_yes (s := ⟨(rClk x).2.1, false⟩) rfl hz (Or.inl rfl) (by unfold late fl0; dsimp only; omega) (if_pos rfl) ev rfl
          · have hi2 : ¬ (H ≤ 23 ∧ M ≤ 59 ∧ S ≤ 59) := fun k => hi (ei.2 k)
            rw [if_pos (show (rClk x).2.2.2 = false by revert hi; cases (rClk x).2.2.2 <;> simp)]
            exact made_late (s := ⟨(rClk x).2.1, false⟩) rfl hz (Or.inr (by unfold late; dsimp only; omega))
        · rw [if_pos (Or.inr hz)]
          exact made_bad (fun _ k => hz k)
      · rw [if_pos (Or.inl (by simpa using hc))]
        exact clock_bad (clock_no hc)
    · have hc : (rClk x).2.2.1 = false := rClk_bad (fun k => h2 ((clk_five.1 k).q))
      rw [if_pos (Or.inl hc)]
      have B : (date ⟨x, false⟩ fl0).1.b = false → False := fun k => hd (date_n (s := ⟨x, false⟩) (f := fl0) k).2
      rw [form_not (s := ⟨x, false⟩) h2 rfl]
      exact all_bad B
  case pos =>
    rw [if_neg (show ¬ ¬ lk x dateF from fun k => k hd)]
    have h5 := date_five.1 hd
    have h2 : ¬ bt x 2 = 58 := by
      have := h5.p 2 (by omega)
      unfold isd at this
      omega
    have hsz := h5.size
    have hs0 : (x.extract 10 x.size).size = x.size - 10 := by rw [ByteArray.size_extract]; omega
    by_cases h10 : x.size = 10
    · rw [if_pos h10, form_day (s := ⟨x, false⟩) h2 (date_y hd) (by dsimp only; omega)]
      by_cases hv : Cal.Vld (ryr x) (rmo x) (rda x)
      · rw [if_pos hv]
        exact made_yes rfl (by dsimp only; omega) (Or.inr hv) (by unfold late fl0; dsimp only; omega) (if_neg (by decide)) rfl rfl
      · rw [if_neg hv]
        exact made_late rfl (by dsimp only; omega) (Or.inl ⟨by decide, hv⟩)
    · rw [if_neg h10]
      obtain ⟨g, hg⟩ : ∃ g : Fl, { fl0 with y := ryr x, mo := rmo x, d := rda x } = g := ⟨_, rfl⟩
      have e0 : bt (x.extract 10 x.size) 0 = bt x 10 := bt_tail x 10 0 (by omega)
      by_cases ht : sepd x
      case neg =>
        rw [if_pos (show ¬ sepd x from ht)]
        have B : (one ⟨x.extract 10 x.size, false⟩ tees).2.b = false → False := by
          intro k
          obtain ⟨i, hi, e⟩ := (one_inv k).1
          dsimp only at e
          rw [e0] at e
          have := tees_bt i hi
          rw [e] at this
          exact ht this
        rw [form_tail (s := ⟨x, false⟩) (D := (⟨x.extract 10 x.size, false⟩, g)) h2 ((date_y hd).trans (by rw [hg])) (by dsimp only; omega) rfl rfl]
        exact tail_bad (fun k => B (clock_n k).1)
      case pos =>
        rw [if_neg (show ¬ ¬ sepd x from fun k => k ht)]
        have hh : has tees (bt (x.extract 10 x.size) 0) := by
          rw [e0]
          rcases ht with e | e | e <;> rw [e] <;> decide
        rw [form_tail (s := ⟨x, false⟩) (o := ⟨rest11 x, false⟩) (g := g) (D := (⟨x.extract 10 x.size, false⟩, g)) h2 ((date_y hd).trans (by rw [hg])) (by dsimp only; omega) (by rw [one_y hh]; rfl) rfl]
        by_cases hc : (rClk (rest11 x)).2.2.1 = true
        case neg =>
          rw [if_pos (show (rClk (rest11 x)).2.2.1 = false by simpa using hc)]
          exact tail_bad (clock_no hc)
        case pos =>
          rw [if_neg (show ¬ (rClk (rest11 x)).2.2.1 = false by rw [hc]; decide)]
          subst hg
          obtain ⟨H, M, S, N, e, ev, ei⟩ := clock_y (x := rest11 x) (b := false) (f := { fl0 with y := ryr x, mo := rmo x, d := rda x }) rfl hc
          exact in_plain ev ei e
end Mom
end Go.Proofs.Ythbjkibclbgjoaa
