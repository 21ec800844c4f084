/- Values: the values in a value (datakitref07.Kids). -/
import Derived.Test.YtfkfboiblgoamaaVtRows
import Derived.Test.YtfkfboiblgoamaaVtOne
namespace Go.Proofs.Ytfkfboiblgoamaa
open Go.RowKit

/-- What Kids answers: the row of the values in a value. -/
def KidsOut (T : Vt) (w : World) (e : Ending) (w' : World) : Prop :=
  ∃ (a : Option Addr) (c b o : Nat), e = .returned (.slice a T.kn c) ∧ (0 < T.kn → a = some ⟨b, o, none⟩ ∧ b < w'.heap.size) ∧ (∀ i, i < T.kn → LiesAt w' b (o + i * 13) (T.kid i).h.cells) ∧ Below w.heap.size w w'
set_option maxHeartbeats 4000000 in
set_option maxRecDepth 100000 in
theorem kids_any {T : Vt} {top : Nat} {w : World} (hT : T.In w top) (ht : top ≤ w.heap.size) :
    Calls Try.prog 45 #[.agg T.h.cells] w (KidsOut T w) := by
  cases T with
  | nil => exact hT.elim
  | mk h Y L K F =>
  obtain ⟨h0, _, _, h3, h4, h5, h6⟩ := hT
  have P := Whole.new w 30 h.cells
  have hb0 := (Below.refl w.heap.size w).alloc (Nat.le_refl _) (.cells h.cells 30)
  have hk := h0.k
  have hln := h0.ln
  have hfn := h0.fn
  by_cases k7 : h.k = 7
  case neg =>
    have e1 : (Vt.mk h Y L K F).kn = h.ln := if_neg k7
    have e2 : ∀ i, (Vt.mk h Y L K F).kid i = L i := fun i => if_neg k7
    have HQ : Hid (∀ w', Below w.heap.size w w' → KidsOut (.mk h Y L K F) w (.returned (.slice h.la h.ln h.lc)) w') := Lib.hid fun w' hb => by
      refine ⟨h.la, h.lc, h.lb, h.lo, by rw [e1], fun hp => ?_, fun i hi => ?_, hb⟩
      · rw [e1] at hp
        obtain ⟨a, b⟩ := h3 hp
        exact ⟨a, by have := hb.size; omega⟩
      · rw [e1] at hi
        rw [e2]
        obtain ⟨a, b⟩ := h3 (by omega)
        exact (h4 i hi).1.below hb (by omega)
    have d1 : (h.k != 7) = true := by simpa using k7
    have d2 : (h.k == 7) = false := by simpa using k7
    clear e1 e2 h0 h3 h4 h5 h6 k7
    go_enter Try.func45, Try.ntmps45
    simp only [Vt.h, Vh.cells] at *
    go_wp2_with fail
    go_ret
    exact HQ.out _ hb0
  have e1 : (Vt.mk h Y L K F).kn = h.fn := if_pos k7
  have e2 : ∀ i, (Vt.mk h Y L K F).kid i = F i := fun i => if_pos k7
  obtain ⟨i0, hi, hz0, hz1, hz2⟩ := info_parts Try.infoVal
  have hsz := vh_size
  have HQ : Hid (∀ (v : Value) (w' : World), w'.ownsRow (w.heap.size + 1) 30 13 v h.fn (catN (fun i => (F i).h.cells) h.fn) → Below w.heap.size w w' → KidsOut (.mk h Y L K F) w (.returned v) w') := Lib.hid fun v w' ho hb => by
    obtain ⟨a, c, b, rfl, ha, hl⟩ := own_lies (fun i => vh_size _) ho
    refine ⟨a, c, b, 0, by rw [e1], fun hp => ?_, fun i hi => ?_, hb⟩
    · rw [e1] at hp
      exact ⟨(ha hp).1, (ha hp).2.2⟩
    · rw [e1] at hi
      rw [e2, Nat.zero_add]
      exact hl i hi
  have d1 : (h.k != 7) = false := by simpa using k7
  have d2 : (h.k == 7) = true := by simpa using k7
  have HF : Hid (∀ i, i < h.fn → LiesAt w h.fb (h.fo + i * 14 + 1) (F i).h.cells) := Lib.hid fun i hi => (h6 i hi).2.2.1
  have HA : Hid (0 < h.fn → h.fa = some ⟨h.fb, h.fo, none⟩ ∧ h.fb < w.heap.size) := Lib.hid fun hp => ⟨(h5 hp).1, by have := (h5 hp).2; omega⟩
  clear e1 e2 h0 h3 h4 h5 h6 k7 hsz
  have hn0 : (0 : Int) ≤ h.fn := by omega
  have hn2 : (h.fn : Int) ≤ 1048576 := by omega
  go_enter Try.func45, Try.ntmps45
  simp only [Vt.h, Vh.cells] at hb0 ⊢
  go_wp2_with fail
  go_loopw [3, 4] (fun v i wr => ∃ k : Nat, k ≤ h.fn ∧ i = .int .i64 k ∧ wr.ownsRow (w.heap.size + 1) 30 13 v k (catN (fun i => (F i).h.cells) k) ∧ Whole wr w.heap.size 30 h.cells ∧ Below w.heap.size w wr) (fun _ i _ => h.fn - (intOf i).toNat)
  case atStart => exact ⟨0, by omega, rfl, World.ownsRow_nil _ _ _ _, P, hb0⟩
  case round =>
    clear P hb0
    obtain ⟨k, hk, rfl, hown, P, hbr⟩ := hrel
    have hki : (0 : Int) ≤ k := by omega
    obtain ⟨c0, c1, c2, c3, c4, c5, c6, c7, c8, c9, c10, c11, c12⟩ := Whole.c13 (h := h) P
    clear c1 c2 c3 c4 c5 c6 c7 c8 c9 c10 c11
    by_cases hkn : k < h.fn
    · obtain ⟨ha, hlt⟩ := HA.out (by omega)
      have hl := (HF.out k hkn).below hbr hlt
      obtain ⟨g0, g1, g2, g3, g4, g5, g6, g7, g8, g9, g10, g11, g12⟩ := hl.c13
      have hki2 : (k : Int) < h.fn := by omega
      rw [ha] at c12
      have hsz := Whole.lt P
      have HS := Lib.hid (World.size_alloc wr (.cells (F k).h.cells 30))
      clear hl ha hkn
      generalize hG : (F k).h = G at *
      have HG := Lib.hid hG
      clear hG
      go_wp2_with (at_builtin; refine wpList_append_own _ rfl _ _ 27 rfl (w.heap.size + 1) 30 i0 (.agg Vh.zero.cells) 13 168 Try.underlying27 hi hz0 hz1 hz2 rfl (by decide) _ _ _ rfl (hown.alloc _) ⟨wr.heap.size, 0, none⟩ 1 1 G.cells.toList rfl rfl ?c1 ?c2 ?c3 ?c4 ?c5 ?_)
      case c1 => exact cells_new _ _ G.cells
      case c2 => exact vh_one G
      case c3 => unfold maxLen; omega
      case c4 => omega
      case c5 => simp; omega
      intro v' w3 hown3 hgrow _
      have P3 : Whole w3 w.heap.size 30 h.cells := (Whole.alloc P _).kept hgrow (own_away hown (by omega))
      have hb3 := below_grown hbr (by omega) hown (by omega) hgrow
      have hxs : catN (fun i => (F i).h.cells) k ++ G.cells.toList = catN (fun i => (F i).h.cells) (k + 1) := by rw [← HG.out]; rfl
      rw [hxs] at hown3
      clear hxs hown P hbr hgrow g0 g1 g2 g3 g4 g5 g6 g7 g8 g9 g10 g11 g12 c0 c12 HS HG
      go_wp2
      go_roundw
      case rel => exact ⟨k + 1, by omega, by go_num, hown3, P3, hb3⟩
      case measure => simp [intOf]; omega
    · obtain rfl : k = h.fn := by omega
      clear hkn
      go_wp2
      go_ret
      exact HQ.out _ _ hown hbr
end Go.Proofs.Ytfkfboiblgoamaa
