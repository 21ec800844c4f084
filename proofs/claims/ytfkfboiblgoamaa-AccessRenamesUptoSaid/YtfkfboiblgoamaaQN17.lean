/- Laid together for one claim: VtVis. -/
import Derived.Test.YtfkfboiblgoamaaQN12
import Derived.Test.YtfkfboiblgoamaaQN16
import Derived.Test.YtfkfboiblgoamaaQN10
import Derived.Deep.RegionHeld3
/- All values in a value, visited: access.visit. -/
namespace Go.Proofs.Ytfkfboiblgoamaa
open Go.RowKit
set_option linter.unusedSimpArgs false
set_option linter.unusedVariables false

theorem flat_at {α : Type} (f : Nat → List α) : ∀ n i j, i < n → j < (f i).length → ((List.range n).flatMap f)[sumN (fun i => (f i).length) i + j]? = (f i)[j]? := by
  intro n
  induction n with
  | zero => intro i j h; exact absurd h (Nat.not_lt_zero _)
  | succ n ih =>
    intro i j hi hj
    rw [List.range_succ, List.flatMap_append]
    by_cases e : i = n
    · subst e
      rw [List.getElem?_append_right (by rw [flat_len]; omega), flat_len, Nat.add_sub_cancel_left]
      simp
    · have h1 : sumN (fun i => (f i).length) (i + 1) ≤ sumN (fun i => (f i).length) n := sumN_mono (by omega)
      have h2 : sumN (fun i => (f i).length) (i + 1) = sumN (fun i => (f i).length) i + (f i).length := rfl
      rw [List.getElem?_append_left (by rw [flat_len]; omega)]
      exact ih i j (by omega) hj
def wkL (L : Nat → Vt) (q : List Stp) (i : Nat) : Nat := sumN (fun i => ((L i).walk (q ++ [stI i])).length) i
def wkF (K : Nat → ByteArray) (F : Nat → Vt) (q : List Stp) (i : Nat) : Nat := sumN (fun i => ((F i).walk (q ++ [stK (K i)])).length) i
theorem wkL_succ (L : Nat → Vt) (q : List Stp) (i : Nat) : wkL L q (i + 1) = wkL L q i + ((L i).walk (q ++ [stI i])).length := rfl
theorem wkF_succ (K : Nat → ByteArray) (F : Nat → Vt) (q : List Stp) (i : Nat) : wkF K F q (i + 1) = wkF K F q i + ((F i).walk (q ++ [stK (K i)])).length := rfl
theorem wkL_le (L : Nat → Vt) (q : List Stp) {i n : Nat} (h : i ≤ n) : wkL L q i ≤ wkL L q n := sumN_mono h
theorem wkF_le (K : Nat → ByteArray) (F : Nat → Vt) (q : List Stp) {i n : Nat} (h : i ≤ n) : wkF K F q i ≤ wkF K F q n := sumN_mono h
theorem walk_size (h : Vh) (Y : Nat → Int) (L : Nat → Vt) (K : Nat → ByteArray) (F : Nat → Vt) (q : List Stp) : ((Vt.mk h Y L K F).walk q).length = 1 + wkL L q h.ln + wkF K F q h.fn := by
  rw [Vt.walk, List.length_cons, List.length_append, flat_len, flat_len]
  unfold wkL wkF
  omega
theorem walk_parts {E : List (List Stp × Vt)} {k : Nat} {h : Vh} {Y : Nat → Int} {L : Nat → Vt} {K : Nat → ByteArray} {F : Nat → Vt} {q : List Stp} (hE : ∀ j, j < ((Vt.mk h Y L K F).walk q).length → E[k + j]? = ((Vt.mk h Y L K F).walk q)[j]?) :
    E[k]? = some (q, .mk h Y L K F) ∧ (∀ i, i < h.ln → ∀ j, j < ((L i).walk (q ++ [stI i])).length → E[k + 1 + wkL L q i + j]? = ((L i).walk (q ++ [stI i]))[j]?) ∧
      (∀ i, i < h.fn → ∀ j, j < ((F i).walk (q ++ [stK (K i)])).length → E[k + 1 + wkL L q h.ln + wkF K F q i + j]? = ((F i).walk (q ++ [stK (K i)]))[j]?) := by
  have hs := walk_size h Y L K F q
  have lA : ((List.range h.ln).flatMap (fun i => (L i).walk (q ++ [stI i]))).length = wkL L q h.ln := flat_len _ _
  refine ⟨?_, fun i hi j hj => ?_, fun i hi j hj => ?_⟩
  · have := hE 0 (by omega)
    rw [Nat.add_zero] at this
    rw [this, Vt.walk]
    rfl
  · have h1 := wkL_le L q (show i + 1 ≤ h.ln from hi)
    rw [wkL_succ] at h1
    have := hE (wkL L q i + j + 1) (by omega)
    rw [show k + 1 + wkL L q i + j = k + (wkL L q i + j + 1) by omega, this, Vt.walk, List.getElem?_cons_succ, List.getElem?_append_left (by omega)]
    exact flat_at (fun i => (L i).walk (q ++ [stI i])) h.ln i j hi hj
  · have h1 := wkF_le K F q (show i + 1 ≤ h.fn from hi)
    rw [wkF_succ] at h1
    have := hE (wkL L q h.ln + (wkF K F q i + j) + 1) (by omega)
    rw [show k + 1 + wkL L q h.ln + wkF K F q i + j = k + (wkL L q h.ln + (wkF K F q i + j) + 1) by omega, this, Vt.walk, List.getElem?_cons_succ, List.getElem?_append_right (by omega), lA, Nat.add_sub_cancel_left]
    exact flat_at (fun i => (F i).walk (q ++ [stK (K i)])) h.fn i j hi hj

/-- What a visit of m values answers. -/
def VisOut (J : Nat → (Nat → Prop) → World → Prop) (Jx : Nat → World → Prop) (k m : Nat) (O : Nat → Prop) (W : World) (e : Ending) (W' : World) : Prop :=
  (e = .returned (.bool true) ∧ (∃ O', J (k + m) O' W' ∧ ∀ b, O' b → O b ∨ W.heap.size ≤ b) ∧ Kept O W W') ∨ (e = .returned (.bool false) ∧ (∃ k', k' ≤ k + m ∧ Jx k' W') ∧ Kept O W W')
/-- What is called for each value. -/
structure VisCtx (E : List (List Stp × Vt)) (J : Nat → (Nat → Prop) → World → Prop) (Jx : Nat → World → Prop) (cp : Value) : Prop where
  hJ : ∀ k O W W', J k O W → Below W.heap.size W W' → J k O W'
  hJO : ∀ k O W, J k O W → ∀ b, O b → b < W.heap.size
  hf : ∀ k O W (p : Pth) (U : Vt), J k O W → E[k]? = some (p.steps, U) → p.In W W.heap.size → (0 < p.n → ¬ O p.b) → U.In W W.heap.size → U.Off (fun b => ¬ O b) →
    Calls Try.prog 30 #[.slice p.a p.n p.c, .agg U.h.cells, cp] W (ToldRound J Jx k O W)
theorem Whole.keptO {O : Nat → Prop} {W W' : World} {B : Nat} {t : TypeId} {cs : Array Value} (h : Whole W B t cs) (hk : Kept O W W') (hn : ¬ O B) : Whole W' B t cs := (hk.block B h.lt hn).trans h
theorem Vt.In.keptO {O : Nat → Prop} {W W' : World} {T : Vt} (h : T.In W W.heap.size) (ho : T.Off (fun b => ¬ O b)) (hk : Kept O W W') : T.In W' W'.heap.size :=
  Vt.In.turn (S := fun b => ¬ O b) (fun b hb hlt => ⟨hk.block b hlt hb, Nat.lt_of_lt_of_le hlt hk.size⟩) h ho
theorem Pth.In.keptO {O : Nat → Prop} {W W' : World} {p : Pth} (h : p.In W W.heap.size) (ho : 0 < p.n → ¬ O p.b) (hk : Kept O W W') : p.In W' W'.heap.size :=
  ⟨fun q => ⟨(h.1 q).1, Nat.lt_of_lt_of_le (h.1 q).2 hk.size⟩, h.2.1, fun i hi => ⟨fun j hj => (World.cell?_of_block (a := ⟨p.b, p.o + i * 3 + j, none⟩) (hk.block p.b (h.1 (by omega)).2 (ho (by omega)))).trans ((h.2.2 i hi).1 j hj), (h.2.2 i hi).2⟩⟩
theorem fcs_all (x : ByteArray × Vt) : (fcs x).all (·.oneCell') = true := by simp [fcs, Value.oneCell']
theorem Whole.f14 {W : World} {B : Nat} {t : TypeId} {x : ByteArray × Vt} (H : Whole W B t (fcs x)) :
    W.cell? ⟨B, 0, none⟩ = some (.string x.1) ∧ W.cell? ⟨B, 1, none⟩ = some (.int .i64 x.2.h.k) ∧ W.cell? ⟨B, 2, none⟩ = some (.bool x.2.h.b) ∧ W.cell? ⟨B, 3, none⟩ = some (.bool x.2.h.n) ∧ W.cell? ⟨B, 4, none⟩ = some (.string x.2.h.d) ∧ W.cell? ⟨B, 5, none⟩ = some (.int .i64 x.2.h.e) ∧ W.cell? ⟨B, 6, none⟩ = some (.int .i64 x.2.h.tk) ∧ W.cell? ⟨B, 7, none⟩ = some (.int .i64 x.2.h.td) ∧ W.cell? ⟨B, 8, none⟩ = some (.int .i64 x.2.h.tn) ∧ W.cell? ⟨B, 9, none⟩ = some (.int .i64 x.2.h.tz) ∧ W.cell? ⟨B, 10, none⟩ = some (.string x.2.h.x) ∧ W.cell? ⟨B, 11, none⟩ = some (.slice x.2.h.ba x.2.h.bn x.2.h.bc) ∧ W.cell? ⟨B, 12, none⟩ = some (.slice x.2.h.la x.2.h.ln x.2.h.lc) ∧ W.cell? ⟨B, 13, none⟩ = some (.slice x.2.h.fa x.2.h.fn x.2.h.fc) :=
  ⟨H.cell 0, H.cell 1, H.cell 2, H.cell 3, H.cell 4, H.cell 5, H.cell 6, H.cell 7, H.cell 8, H.cell 9, H.cell 10, H.cell 11, H.cell 12, H.cell 13⟩
theorem stp_row1 {w : World} {s : Stp} (hs : s.ok) : Pth.In (w.alloc (.cells s.cells 59)) (w.alloc (.cells s.cells 59)).heap.size ⟨some ⟨w.heap.size, 0, none⟩, 1, 1, w.heap.size, 0, fun _ => s⟩ := by
  refine ⟨fun _ => ⟨rfl, by simp⟩, ⟨by show 1 ≤ 1048576; decide, Nat.le_refl _, by show 1 ≤ maxLen; unfold maxLen; decide⟩, fun i hi => ?_⟩
  obtain rfl : i = 0 := by have : i < 1 := hi; omega
  refine ⟨fun j hj => ?_, hs⟩
  show World.cell? _ ⟨w.heap.size, 0 + 0 * 3 + j, none⟩ = s.cells[j]?
  rw [show 0 + 0 * 3 + j = j by omega]
  exact (Whole.new w 59 s.cells).cell j

set_option maxHeartbeats 4000000 in
set_option maxRecDepth 100000 in
theorem visit_any {E : List (List Stp × Vt)} {J : Nat → (Nat → Prop) → World → Prop} {Jx : Nat → World → Prop} {cp : Value} (C : VisCtx E J Jx cp) : ∀ (T : Vt) (p : Pth) (d k : Nat) (O : Nat → Prop) (w : World), J k O w → T.In w w.heap.size → T.Off (fun b => ¬ O b) → T.upto d → p.n + d ≤ 1000 → p.In w w.heap.size → (0 < p.n → ¬ O p.b) →
    (∀ j, j < (T.walk p.steps).length → E[k + j]? = (T.walk p.steps)[j]?) → Calls Try.prog 29 #[.agg T.h.cells, .slice p.a p.n p.c, .func (.func 30) #[] #[cp]] w (VisOut J Jx k (T.walk p.steps).length O w) := by
  intro T
  induction T with
  | nil => intro p d k O w _ hT; exact hT.elim
  | mk h Y L K F ihL ihF =>
  intro p d k O w hJ hT hTo hu hd hp hpo hE
  obtain ⟨E0, EL, EF⟩ := walk_parts hE
  rw [walk_size]
  have hOw := C.hJO _ _ _ hJ
  have hb0 := (Below.refl w.heap.size w).alloc (Nat.le_refl _) (.cells h.cells 30)
  have P := Whole.new w 30 h.cells
  have hTW := hT.later hb0
  have hpW := (Pth.In.below hp hb0).up hb0.size
  have HC := Lib.hid (show Calls Try.prog 30 #[.slice p.a p.n p.c, .agg h.cells, cp] _ _ from C.hf k O _ p (.mk h Y L K F) (C.hJ _ _ _ _ hJ hb0) E0 hpW hpo hTW hTo)
  have hz0 : (w.alloc (.cells h.cells 30)).heap.size = w.heap.size + 1 := by simp
  have hln := hT.1.ln
  have hfn := hT.1.fn
  have hd1 : 1 ≤ d := hu.1
  have HU := Lib.hid hu
  have HTW := Lib.hid hTW
  have HTo := Lib.hid hTo
  have HpW := Lib.hid hpW
  have Hpo := Lib.hid hpo
  have HEL := Lib.hid EL
  have HEF := Lib.hid EF
  have HOw := Lib.hid hOw
  have HL := Lib.hid ihL
  have HF := Lib.hid ihF
  have hnB : Hid (¬ O w.heap.size) := Lib.hid (fun q => absurd (hOw _ q) (Nat.lt_irrefl _))
  have HLa : Hid (0 < h.ln → h.la = some ⟨h.lb, h.lo, none⟩) := Lib.hid fun q => (hT.2.2.2.1 q).1
  have HFa : Hid (0 < h.fn → h.fa = some ⟨h.fb, h.fo, none⟩) := Lib.hid fun q => (hT.2.2.2.2.2.1 q).1
  have KO := Lib.hid (Kept.of (O := O) hb0)
  obtain ⟨ML, hML⟩ : ∃ M, wkL L p.steps = M := ⟨_, rfl⟩
  obtain ⟨MF, hMF⟩ : ∃ M, wkF K F p.steps = M := ⟨_, rfl⟩
  have HSL : Hid (∀ i, ML (i + 1) = ML i + ((L i).walk (p.steps ++ [stI i])).length) := Lib.hid fun i => by rw [← hML]; rfl
  have HSF : Hid (∀ i, MF (i + 1) = MF i + ((F i).walk (p.steps ++ [stK (K i)])).length) := Lib.hid fun i => by rw [← hMF]; rfl
  have HL0 : Hid (ML 0 = 0) := Lib.hid (by rw [← hML]; rfl)
  have HF0 : Hid (MF 0 = 0) := Lib.hid (by rw [← hMF]; rfl)
  have HLle : Hid (∀ i n, i ≤ n → ML i ≤ ML n) := Lib.hid fun i n q => by rw [← hML]; exact wkL_le L _ q
  have HFle : Hid (∀ i n, i ≤ n → MF i ≤ MF n) := Lib.hid fun i n q => by rw [← hMF]; exact wkF_le K F _ q
  rw [hML] at HEL HEF ⊢
  rw [hMF] at HEF ⊢
  have hpn := p.steps_len
  have hp1 : p.n + 1 ≤ 1000 := by omega
  clear hJ hT hTo hu hp hpo hE E0 EL EF ihL ihF hML hMF hOw
  have HK13 : Hid (∀ W, Whole W w.heap.size 30 h.cells → W.cell? ⟨w.heap.size, 11, none⟩ = some (.slice h.la h.ln h.lc) ∧ W.cell? ⟨w.heap.size, 12, none⟩ = some (.slice h.fa h.fn h.fc)) := Lib.hid fun W q => ⟨q.cell 11, q.cell 12⟩
  obtain ⟨c0, c1, c2, c3, c4, c5, c6, c7, c8, c9, c10, c11, c12⟩ := Whole.c13 (h := h) P
  show Calls Try.prog 29 #[.agg h.cells, _, _] w _
  obtain ⟨hk, hbb, hnn, hdd, he, htk, htd, htn, htz, hx, ba, bn, bc, la, ln, lc, fa, fn, fc, bb, bo, lb, lo, fb, fo⟩ := h
  dsimp only at hln hfn HLa HFa HK13 c0 c1 c2 c3 c4 c5 c6 c7 c8 c9 c10 c11 c12 HEF ⊢
  have n0 : (0 : Int) ≤ ln := by omega
  have n1 : (ln : Int) ≤ 1048576 := by omega
  have n2 : (0 : Int) ≤ fn := by omega
  have n3 : (fn : Int) ≤ 1048576 := by omega
  simp only [Vh.cells] at hb0 P hTW hpW HC hz0 HTW HpW KO c0 c1 c2 c3 c4 c5 c6 c7 c8 c9 c10 c11 c12 ⊢
  go_enter Try.func29, Try.ntmps29
  go_wp2_with fail
  generalize w.alloc (.cells #[.int .i64 hk, .bool hbb, .bool hnn, .string hdd, .int .i64 he, .int .i64 htk, .int .i64 htd, .int .i64 htn, .int .i64 htz, .string hx, .slice ba bn bc, .slice la ln lc, .slice fa fn fc] 30) = W1 at *
  refine HC.out.mono ?_
  rintro _ w1 (⟨rfl, ⟨O1, hJ1, hO1⟩, hk1⟩ | ⟨rfl, hx1, hk1⟩)
  rotate_left
  · clear c0 c1 c2 c3 c4 c5 c6 c7 c8 c9 c10 c11 c12
    go_wp2
    go_ret
    exact .inr ⟨rfl, ⟨k + 1, by omega, hx1⟩, KO.out.trans hk1 (fun b q => .inl q)⟩
  have P1 := P.keptO hk1 hnB.out
  obtain ⟨e11, e12⟩ := HK13.out w1 P1
  clear c0 c1 c2 c3 c4 c5 c6 c7 c8 c9 c10 c11 c12 HC P1
  go_wp2_with fail
  clear e11 e12
  go_loopw [19] (fun i wr => ∃ (t : Nat) (O' : Nat → Prop), t ≤ ln ∧ i = .int .i64 t ∧ J (k + 1 + ML t) O' wr ∧ (∀ b, O' b → O b ∨ W1.heap.size ≤ b) ∧ Kept O W1 wr) (fun i _ => ln - (intOf i).toNat)
  case atStart => exact ⟨0, O1, by omega, rfl, by rw [HL0.out]; exact hJ1, hO1, hk1⟩
  case round =>
    clear hJ1 hO1 hk1
    obtain ⟨t, O', htl, rfl, hJ', hO', hkr⟩ := hrel
    have HO' := Lib.hid hO'
    have hti : (0 : Int) ≤ t := by omega
    by_cases hin : t < ln
    · have e1 := HLa.out (by omega)
      subst e1
      have hti2 : (t : Int) < ln := by omega
      have hTr := HTW.out.keptO HTo.out hkr
      have hkid := hTr.2.2.2.2.1 t hin
      dsimp only at hkid
      have HXin := Lib.hid hkid.2
      obtain ⟨l0, l1, l2, l3, l4, l5, l6, l7, l8, l9, l10, l11, l12⟩ := hkid.1.c13
      have HXo2 : Hid (Vt.Off (fun b => ¬ O' b) (L t)) := Lib.hid ((Vt.Off.and (HTo.out.2.2.1 t hin) (hTW.2.2.2.2.1 t hin).2.off).mono fun b q e => (HO'.out b e).elim q.1 (fun z => absurd q.2 (Nat.not_lt.2 z)))
      have HUi := Lib.hid (HU.out.2.1 t hin)
      clear hkid
      have Hpr := Lib.hid (Pth.In.keptO HpW.out Hpo.out hkr)
      have hsr := hkr.size
      have HJO := Lib.hid (C.hJO _ _ _ hJ')
      have Yb := Whole.new wr 30 Vh.zero.cells
      have hone := Lib.hid (vh_all (L t).h)
      go_wp2_with (refine wpList_store_row rfl 30 _ _ rfl wr.heap.size (L t).h.cells rfl rfl 30 _ Yb vh_row rfl hone.out ?_)
      have Y3 := Yb.setRow (L t).h.cells
      have b3 := below_setRow ((Below.refl wr.heap.size wr).alloc (Nat.le_refl _) (.cells Vh.zero.cells 30)) (Nat.le_refl _) (L t).h.cells
      have hz3 : ((wr.alloc (.cells Vh.zero.cells 30)).setRow wr.heap.size (L t).h.cells).heap.size = wr.heap.size + 1 := by rw [size_setRow]; simp
      obtain ⟨w3, hw3⟩ : ∃ w3, (wr.alloc (.cells Vh.zero.cells 30)).setRow wr.heap.size (L t).h.cells = w3 := ⟨_, rfl⟩
      rw [hw3] at Y3 b3 hz3
      simp only [Vh.zero, Vh.cells, List.append_toArray, List.cons_append, List.nil_append] at hw3
      try simp only [Vh.zero, Vh.cells, List.append_toArray, List.cons_append, List.nil_append]
      rw [hw3]
      clear hw3 l0 l1 l2 l3 l4 l5 l6 l7 l8 l9 l10 l11 l12 Yb hone
      go_wp2_with fail
      refine wp_region_held_drew (S := fun W => Whole W wr.heap.size 30 (L t).h.cells) (by kernel_rfl) (Whole.drew Y3) (fun hS => ?_)
      refine wpAnyH_take (i := 0) (v := ?v0x1) rfl (by kernel_rfl) (by kernel_rfl) (by kernel_rfl) (fun _ _ _ h => h) (Or.inl ⟨by rfl, ?hy0x1⟩) hS ?rest0x1
      case hy0x1 => (intro wS hSw; obtain ⟨y0, y1, y2, y3, y4, y5, y6, y7, y8, y9, y10, y11, y12⟩ := Whole.c13 (h := (L t).h) hSw; go_simp; (try with_reducible rfl))
      case rest0x1 =>
      simp only [Act.put, List.getElem_toArray, List.getElem_cons_zero, List.getElem_cons_succ, List.setIfInBounds_toArray, List.set_cons_zero, List.set_cons_succ]
      refine wpAnyH_take (i := 1) (v := ?v1x2) rfl (by kernel_rfl) (by kernel_rfl) (by kernel_rfl) (fun _ _ _ h => h) (Or.inl ⟨by rfl, ?hy1x2⟩) hS ?rest1x2
      case hy1x2 => (intro wS hSw; go_simp; (try with_reducible rfl))
      case rest1x2 =>
      simp only [Act.put, List.getElem_toArray, List.getElem_cons_zero, List.getElem_cons_succ, List.setIfInBounds_toArray, List.set_cons_zero, List.set_cons_succ]
      refine wpAnyH_take (i := 2) (v := ?v2x3) rfl (by kernel_rfl) (by kernel_rfl) (by kernel_rfl) (fun _ _ _ h => h) (Or.inl ⟨by rfl, ?hy2x3⟩) hS ?rest2x3
      case hy2x3 => (intro wS hSw; go_simp; (try with_reducible rfl))
      case rest2x3 =>
      simp only [Act.put, List.getElem_toArray, List.getElem_cons_zero, List.getElem_cons_succ, List.setIfInBounds_toArray, List.set_cons_zero, List.set_cons_succ]
      refine wpAnyH_take (i := 6) (v := ?v6x4) rfl (by kernel_rfl) (by kernel_rfl) (by kernel_rfl) (fun _ _ _ h => h) (Or.inl ⟨by rfl, ?hy6x4⟩) hS ?rest6x4
      case hy6x4 => (intro wS hSw; go_simp; (try with_reducible rfl))
      case rest6x4 =>
      simp only [Act.put, List.getElem_toArray, List.getElem_cons_zero, List.getElem_cons_succ, List.setIfInBounds_toArray, List.set_cons_zero, List.set_cons_succ]
      have Y4 : Whole w3.drew wr.heap.size 30 (L t).h.cells := Y3
      have b4 : Below wr.heap.size wr w3.drew := b3.drew
      have hz4 : w3.drew.heap.size = wr.heap.size + 1 := hz3
      clear Y3 b3 hz3
      generalize w3.drew = w4 at *
      refine wpAnyH_ready (rs := [3]) (by kernel_rfl) (by simp) ?_
      refine AllReadyH.cons rfl (fun KK hK => ?_) AllReadyH.nil
      go_simp
      go_at_call 47
      refine (at_step t _).mono ?_
      rintro _ w5 ⟨rfl, h5⟩
      have hz5 := h5.size
      have Y5 := Whole.below Y4 h5 (by omega)
      have b5 := b4.trans (h5.mono (by omega))
      refine hK.out _ _ Y5 (fun hS5 => ?_)
      clear hK KK
      try simp only [Act.put, List.getElem_toArray, List.getElem_cons_zero, List.getElem_cons_succ, List.setIfInBounds_toArray, List.set_cons_zero, List.set_cons_succ]
      refine wpAnyH_ready (rs := [4]) (by kernel_rfl) (by simp) ?_
      refine AllReadyH.cons rfl (fun KK hK => ?_) AllReadyH.nil
      go_simp
      have Y6 := Whole.alloc Y5 (.cells #[.bool true, .string ⟨#[]⟩, .int .i64 (t : Int)] 59)
      have b6 := b5.alloc (by omega) (.cells #[.bool true, .string ⟨#[]⟩, .int .i64 (t : Int)] 59)
      have hst : (stI t).ok := ⟨by show ByteArray.size ⟨#[]⟩ ≤ _; decide, by show w64 (t : Int); exact ⟨by omega, by omega⟩⟩
      have R6 := stp_row1 (w := w5) hst
      have hz6 : (w5.alloc (.cells #[.bool true, .string ⟨#[]⟩, .int .i64 (t : Int)] 59)).heap.size = w5.heap.size + 1 := by simp
      refine hK.out _ _ Y6 (fun hS6 => ?_)
      clear hK KK
      try simp only [Act.put, List.getElem_toArray, List.getElem_cons_zero, List.getElem_cons_succ, List.setIfInBounds_toArray, List.set_cons_zero, List.set_cons_succ]
      change Pth.In (w5.alloc (.cells #[.bool true, .string ⟨#[]⟩, .int .i64 (t : Int)] 59)) (w5.alloc (.cells #[.bool true, .string ⟨#[]⟩, .int .i64 (t : Int)] 59)).heap.size _ at R6
      generalize hw6 : w5.alloc (.cells #[.bool true, .string ⟨#[]⟩, .int .i64 (t : Int)] 59) = w6 at *
      clear hw6
      have HJn := Lib.hid (join_any (p := p) ((Pth.In.below Hpr.out b6).up b6.size) R6 (Nat.le_refl _) (show p.n + 1 ≤ 1048576 by omega))
      refine wpAnyH_ready (rs := [5]) (by kernel_rfl) (by simp) ?_
      refine AllReadyH.cons rfl (fun KK hK => ?_) AllReadyH.nil
      go_simp
      go_at_call 31
      refine HJn.out.mono ?_
      rintro _ w7 ⟨r, rfl, hr, hrs, hrb, h7⟩
      clear HJn R6
      have hz7 := h7.size
      have Y7 := Whole.below Y6 h7 (by omega)
      have b7 := b6.trans (h7.mono (by omega))
      have hrs2 : r.steps = p.steps ++ [stI t] := hrs
      have hrn : r.n = p.n + 1 := by rw [← r.steps_len, hrs2, List.length_append, hpn]; rfl
      refine hK.out _ _ Y7 (fun hS7 => ?_)
      clear hK KK
      try simp only [Act.put, List.getElem_toArray, List.getElem_cons_zero, List.getElem_cons_succ, List.setIfInBounds_toArray, List.set_cons_zero, List.set_cons_succ]
      have HR := Lib.hid (HL.out t r (d - 1) (k + 1 + ML t) O' w7 (C.hJ _ _ _ _ hJ' b7) (HXin.out.later b7) (HXo2.out) HUi.out (by omega) hr (fun q => fun e => by have := HJO.out _ e; have := hrb q; omega) (fun j hj => by rw [hrs2] at hj ⊢; exact HEL.out t hin j hj))
      rw [hrs2] at HR
      simp only [Vh.cells] at HR
      clear hrn hrs hrs2
      refine wpAnyH_ready (rs := [7]) (by kernel_rfl) (by simp) ?_
      refine AllReadyH.cons rfl (fun KK hK => ?_) AllReadyH.nil
      go_simp
      go_at_call 29
      refine HR.out.mono ?_
      have hlen := HSL.out t
      rintro _ w8 (⟨rfl, ⟨O2, hJ2, hO2⟩, hk8⟩ | ⟨rfl, ⟨k8, hk8le, hx8⟩, hk8⟩)
      · have Y8 := Y7.keptO hk8 (fun e => absurd (HJO.out _ e) (Nat.lt_irrefl _))
        have K8 : Kept O W1 w8 := hkr.trans ((Kept.of b7).trans (O' := O') hk8 (fun b q => .inl q)) (fun b q => HO'.out b q)
        refine hK.out _ _ Y8 (fun hS8 => ?_)
        clear hK KK
        try simp only [Act.put, List.getElem_toArray, List.getElem_cons_zero, List.getElem_cons_succ, List.setIfInBounds_toArray, List.set_cons_zero, List.set_cons_succ]
        refine wpAnyH_take (i := 8) (v := ?v8x5) rfl (by kernel_rfl) (by kernel_rfl) (by kernel_rfl) (fun _ _ _ h => h) (Or.inl ⟨by rfl, ?hy8x5⟩) hS8 ?rest8x5
        case hy8x5 => (intro wS hSw; go_simp; (try with_reducible rfl))
        case rest8x5 =>
        simp only [Act.put, List.getElem_toArray, List.getElem_cons_zero, List.getElem_cons_succ, List.setIfInBounds_toArray, List.set_cons_zero, List.set_cons_succ]
        refine wpAnyH_done (by kernel_rfl) ?_ _
        clear hS hS5 hS6 hS7 hS8 HR
        have hz8 := hk8.size
        go_wp2
        go_roundw
        case rel => exact ⟨t + 1, O2, by omega, by go_num, by rw [hlen, ← Nat.add_assoc]; exact hJ2, fun b q => (hO2 b q).elim (HO'.out b) (fun q => .inr (by omega)), K8⟩
        case measure => simp [intOf]; omega
      · have Y8 := Y7.keptO hk8 (fun e => absurd (HJO.out _ e) (Nat.lt_irrefl _))
        have K8 : Kept O W1 w8 := hkr.trans ((Kept.of b7).trans (O' := O') hk8 (fun b q => .inl q)) (fun b q => HO'.out b q)
        refine hK.out _ _ Y8 (fun hS8 => ?_)
        clear hK KK
        try simp only [Act.put, List.getElem_toArray, List.getElem_cons_zero, List.getElem_cons_succ, List.setIfInBounds_toArray, List.set_cons_zero, List.set_cons_succ]
        refine wpAnyH_take (i := 8) (v := ?v8x6) rfl (by kernel_rfl) (by kernel_rfl) (by kernel_rfl) (fun _ _ _ h => h) (Or.inl ⟨by rfl, ?hy8x6⟩) hS8 ?rest8x6
        case hy8x6 => (intro wS hSw; go_simp; (try with_reducible rfl))
        case rest8x6 =>
        simp only [Act.put, List.getElem_toArray, List.getElem_cons_zero, List.getElem_cons_succ, List.setIfInBounds_toArray, List.set_cons_zero, List.set_cons_succ]
        refine wpAnyH_done (by kernel_rfl) ?_ _
        clear hS hS5 hS6 hS7 hS8 HR
        go_wp2
        go_ret
        have q1 := HLle.out (t + 1) ln hin
        exact .inr ⟨rfl, ⟨k8, by omega, hx8⟩, KO.out.trans K8 (fun b q => .inl q)⟩
    · obtain rfl : t = ln := by omega
      have P2 := P.keptO hkr hnB.out
      obtain ⟨e11, e12⟩ := HK13.out wr P2
      clear hin hti P2
      go_wp2_with fail
      clear e11 e12
      obtain ⟨ln, rfl⟩ : ∃ l, l = t := ⟨_, rfl⟩
      have HJ1 := Lib.hid hJ'
      clear hJ'
      go_loopw [37] (fun i wq => ∃ (u : Nat) (O' : Nat → Prop), u ≤ fn ∧ i = .int .i64 u ∧ J (k + 1 + ML ln + MF u) O' wq ∧ (∀ b, O' b → O b ∨ W1.heap.size ≤ b) ∧ Kept O W1 wq) (fun i _ => fn - (intOf i).toNat)
      case atStart => exact ⟨0, O', by omega, rfl, by rw [HF0.out]; exact HJ1.out, HO'.out, hkr⟩
      case round =>
        clear HJ1 HO' hO' hkr
        obtain ⟨t, O', htl2, rfl, hJ', hO', hkr⟩ := hrel
        rename World => wr
        have HO' := Lib.hid hO'
        have hti : (0 : Int) ≤ t := by omega
        by_cases hin : t < fn
        · have e1 := HFa.out (by omega)
          subst e1
          have hti2 : (t : Int) < fn := by omega
          have hTr := HTW.out.keptO HTo.out hkr
          obtain ⟨kk0, kk1, kk2, kk3⟩ := hTr.2.2.2.2.2.2 t hin
          dsimp only at kk0 kk1 kk2 kk3
          have HXin := Lib.hid kk3
          have HKok : Hid ((K t).size ≤ 1048576) := Lib.hid kk1
          obtain ⟨l0, l1, l2, l3, l4, l5, l6, l7, l8, l9, l10, l11, l12⟩ := kk2.c13
          have HXo2 : Hid (Vt.Off (fun b => ¬ O' b) (F t)) := Lib.hid ((Vt.Off.and (HTo.out.2.2.2.2 t hin) (hTW.2.2.2.2.2.2 t hin).2.2.2.off).mono fun b q e => (HO'.out b e).elim q.1 (fun z => absurd q.2 (Nat.not_lt.2 z)))
          have HUi := Lib.hid (HU.out.2.2 t hin)
          clear kk1 kk2 kk3
          have Hpr := Lib.hid (Pth.In.keptO HpW.out Hpo.out hkr)
          have hsr := hkr.size
          have HJO := Lib.hid (C.hJO _ _ _ hJ')
          have Yb := Whole.new wr 65 (#[.string ⟨#[]⟩] ++ Vh.zero.cells)
          have hone := Lib.hid (fcs_all (K t, F t))
          go_wp2_with (refine wpList_store_row rfl 65 _ _ rfl wr.heap.size (fcs (K t, F t)) rfl rfl 65 _ Yb fld_row rfl hone.out ?_)
          have Y3 := Yb.setRow (fcs (K t, F t))
          have b3 := below_setRow ((Below.refl wr.heap.size wr).alloc (Nat.le_refl _) (.cells (#[.string ⟨#[]⟩] ++ Vh.zero.cells) 65)) (Nat.le_refl _) (fcs (K t, F t))
          have hz3 : ((wr.alloc (.cells (#[.string ⟨#[]⟩] ++ Vh.zero.cells) 65)).setRow wr.heap.size (fcs (K t, F t))).heap.size = wr.heap.size + 1 := by rw [size_setRow]; simp
          obtain ⟨w3, hw3⟩ : ∃ w3, (wr.alloc (.cells (#[.string ⟨#[]⟩] ++ Vh.zero.cells) 65)).setRow wr.heap.size (fcs (K t, F t)) = w3 := ⟨_, rfl⟩
          rw [hw3] at Y3 b3 hz3
          simp only [Vh.zero, Vh.cells, List.append_toArray, List.cons_append, List.nil_append] at hw3
          try simp only [Vh.zero, Vh.cells, List.append_toArray, List.cons_append, List.nil_append]
          rw [hw3]
          clear hw3 l0 l1 l2 l3 l4 l5 l6 l7 l8 l9 l10 l11 l12 Yb hone kk0
          go_wp2_with fail
          refine wp_region_held_drew (S := fun W => Whole W wr.heap.size 65 (fcs (K t, F t))) (by kernel_rfl) (Whole.drew Y3) (fun hS => ?_)
          refine wpAnyH_take (i := 0) (v := ?v0x7) rfl (by kernel_rfl) (by kernel_rfl) (by kernel_rfl) (fun _ _ _ h => h) (Or.inl ⟨by rfl, ?hy0x7⟩) hS ?rest0x7
          case hy0x7 => (intro wS hSw; go_simp; (try with_reducible rfl))
          case rest0x7 =>
          simp only [Act.put, List.getElem_toArray, List.getElem_cons_zero, List.getElem_cons_succ, List.setIfInBounds_toArray, List.set_cons_zero, List.set_cons_succ]
          refine wpAnyH_take (i := 1) (v := ?v1x8) rfl (by kernel_rfl) (by kernel_rfl) (by kernel_rfl) (fun _ _ _ h => h) (Or.inl ⟨by rfl, ?hy1x8⟩) hS ?rest1x8
          case hy1x8 => (intro wS hSw; obtain ⟨y, y0, y1, y2, y3, y4, y5, y6, y7, y8, y9, y10, y11, y12⟩ := Whole.f14 (x := (K t, F t)) hSw; go_simp; (try with_reducible rfl))
          case rest1x8 =>
          simp only [Act.put, List.getElem_toArray, List.getElem_cons_zero, List.getElem_cons_succ, List.setIfInBounds_toArray, List.set_cons_zero, List.set_cons_succ]
          refine wpAnyH_take (i := 2) (v := ?v2x9) rfl (by kernel_rfl) (by kernel_rfl) (by kernel_rfl) (fun _ _ _ h => h) (Or.inl ⟨by rfl, ?hy2x9⟩) hS ?rest2x9
          case hy2x9 => (intro wS hSw; go_simp; (try with_reducible rfl))
          case rest2x9 =>
          simp only [Act.put, List.getElem_toArray, List.getElem_cons_zero, List.getElem_cons_succ, List.setIfInBounds_toArray, List.set_cons_zero, List.set_cons_succ]
          refine wpAnyH_take (i := 3) (v := ?v3x10) rfl (by kernel_rfl) (by kernel_rfl) (by kernel_rfl) (fun _ _ _ h => h) (Or.inl ⟨by rfl, ?hy3x10⟩) hS ?rest3x10
          case hy3x10 => (intro wS hSw; go_simp; (try with_reducible rfl))
          case rest3x10 =>
          simp only [Act.put, List.getElem_toArray, List.getElem_cons_zero, List.getElem_cons_succ, List.setIfInBounds_toArray, List.set_cons_zero, List.set_cons_succ]
          refine wpAnyH_take (i := 4) (v := ?v4x11) rfl (by kernel_rfl) (by kernel_rfl) (by kernel_rfl) (fun _ _ _ h => h) (Or.inl ⟨by rfl, ?hy4x11⟩) hS ?rest4x11
          case hy4x11 => (intro wS hSw; obtain ⟨y, y0, y1, y2, y3, y4, y5, y6, y7, y8, y9, y10, y11, y12⟩ := Whole.f14 (x := (K t, F t)) hSw; go_simp; (try with_reducible rfl))
          case rest4x11 =>
          simp only [Act.put, List.getElem_toArray, List.getElem_cons_zero, List.getElem_cons_succ, List.setIfInBounds_toArray, List.set_cons_zero, List.set_cons_succ]
          refine wpAnyH_take (i := 8) (v := ?v8x12) rfl (by kernel_rfl) (by kernel_rfl) (by kernel_rfl) (fun _ _ _ h => h) (Or.inl ⟨by rfl, ?hy8x12⟩) hS ?rest8x12
          case hy8x12 => (intro wS hSw; go_simp; (try with_reducible rfl))
          case rest8x12 =>
          simp only [Act.put, List.getElem_toArray, List.getElem_cons_zero, List.getElem_cons_succ, List.setIfInBounds_toArray, List.set_cons_zero, List.set_cons_succ]
          have Y4 : Whole w3.drew wr.heap.size 65 (fcs (K t, F t)) := Y3
          have b4 : Below wr.heap.size wr w3.drew := b3.drew
          have hz4 : w3.drew.heap.size = wr.heap.size + 1 := hz3
          clear Y3 b3 hz3
          generalize w3.drew = w4 at *
          refine wpAnyH_ready (rs := [5]) (by kernel_rfl) (by simp) ?_
          refine AllReadyH.cons rfl (fun KK hK => ?_) AllReadyH.nil
          go_simp
          go_at_call 48
          refine (key_step (K t) _).mono ?_
          rintro _ w5 ⟨rfl, h5⟩
          have hz5 := h5.size
          have Y5 := Whole.below Y4 h5 (by omega)
          have b5 := b4.trans (h5.mono (by omega))
          refine hK.out _ _ Y5 (fun hS5 => ?_)
          clear hK KK
          try simp only [Act.put, List.getElem_toArray, List.getElem_cons_zero, List.getElem_cons_succ, List.setIfInBounds_toArray, List.set_cons_zero, List.set_cons_succ]
          refine wpAnyH_ready (rs := [6]) (by kernel_rfl) (by simp) ?_
          refine AllReadyH.cons rfl (fun KK hK => ?_) AllReadyH.nil
          go_simp
          have Y6 := Whole.alloc Y5 (.cells #[.bool false, .string (K t), .int .i64 0] 59)
          have b6 := b5.alloc (by omega) (.cells #[.bool false, .string (K t), .int .i64 0] 59)
          have hst : (stK (K t)).ok := ⟨HKok.out, by show w64 (0 : Int); exact ⟨by decide, by decide⟩⟩
          have R6 := stp_row1 (w := w5) hst
          have hz6 : (w5.alloc (.cells #[.bool false, .string (K t), .int .i64 0] 59)).heap.size = w5.heap.size + 1 := by simp
          refine hK.out _ _ Y6 (fun hS6 => ?_)
          clear hK KK
          try simp only [Act.put, List.getElem_toArray, List.getElem_cons_zero, List.getElem_cons_succ, List.setIfInBounds_toArray, List.set_cons_zero, List.set_cons_succ]
          change Pth.In (w5.alloc (.cells #[.bool false, .string (K t), .int .i64 0] 59)) (w5.alloc (.cells #[.bool false, .string (K t), .int .i64 0] 59)).heap.size _ at R6
          generalize hw6 : w5.alloc (.cells #[.bool false, .string (K t), .int .i64 0] 59) = w6 at *
          clear hw6
          have HJn := Lib.hid (join_any (p := p) ((Pth.In.below Hpr.out b6).up b6.size) R6 (Nat.le_refl _) (show p.n + 1 ≤ 1048576 by omega))
          refine wpAnyH_ready (rs := [7]) (by kernel_rfl) (by simp) ?_
          refine AllReadyH.cons rfl (fun KK hK => ?_) AllReadyH.nil
          go_simp
          go_at_call 31
          refine HJn.out.mono ?_
          rintro _ w7 ⟨r, rfl, hr, hrs, hrb, h7⟩
          clear HJn R6
          have hz7 := h7.size
          have Y7 := Whole.below Y6 h7 (by omega)
          have b7 := b6.trans (h7.mono (by omega))
          have hrs2 : r.steps = p.steps ++ [stK (K t)] := hrs
          have hrn : r.n = p.n + 1 := by rw [← r.steps_len, hrs2, List.length_append, hpn]; rfl
          refine hK.out _ _ Y7 (fun hS7 => ?_)
          clear hK KK
          try simp only [Act.put, List.getElem_toArray, List.getElem_cons_zero, List.getElem_cons_succ, List.setIfInBounds_toArray, List.set_cons_zero, List.set_cons_succ]
          have HR := Lib.hid (HF.out t r (d - 1) (k + 1 + ML ln + MF t) O' w7 (C.hJ _ _ _ _ hJ' b7) (HXin.out.later b7) (HXo2.out) HUi.out (by omega) hr (fun q => fun e => by have := HJO.out _ e; have := hrb q; omega) (fun j hj => by rw [hrs2] at hj ⊢; exact HEF.out t hin j hj))
          rw [hrs2] at HR
          simp only [Vh.cells] at HR
          clear hrn hrs hrs2
          refine wpAnyH_ready (rs := [9]) (by kernel_rfl) (by simp) ?_
          refine AllReadyH.cons rfl (fun KK hK => ?_) AllReadyH.nil
          go_simp
          go_at_call 29
          refine HR.out.mono ?_
          have hlen := HSF.out t
          rintro _ w8 (⟨rfl, ⟨O2, hJ2, hO2⟩, hk8⟩ | ⟨rfl, ⟨k8, hk8le, hx8⟩, hk8⟩)
          · have Y8 := Y7.keptO hk8 (fun e => absurd (HJO.out _ e) (Nat.lt_irrefl _))
            have K8 : Kept O W1 w8 := hkr.trans ((Kept.of b7).trans (O' := O') hk8 (fun b q => .inl q)) (fun b q => HO'.out b q)
            refine hK.out _ _ Y8 (fun hS8 => ?_)
            clear hK KK
            try simp only [Act.put, List.getElem_toArray, List.getElem_cons_zero, List.getElem_cons_succ, List.setIfInBounds_toArray, List.set_cons_zero, List.set_cons_succ]
            refine wpAnyH_take (i := 10) (v := ?v10x13) rfl (by kernel_rfl) (by kernel_rfl) (by kernel_rfl) (fun _ _ _ h => h) (Or.inl ⟨by rfl, ?hy10x13⟩) hS8 ?rest10x13
            case hy10x13 => (intro wS hSw; go_simp; (try with_reducible rfl))
            case rest10x13 =>
            simp only [Act.put, List.getElem_toArray, List.getElem_cons_zero, List.getElem_cons_succ, List.setIfInBounds_toArray, List.set_cons_zero, List.set_cons_succ]
            refine wpAnyH_done (by kernel_rfl) ?_ _
            clear hS hS5 hS6 hS7 hS8 HR
            have hz8 := hk8.size
            go_wp2
            go_roundw
            case rel => exact ⟨t + 1, O2, by omega, by go_num, by rw [hlen, ← Nat.add_assoc]; exact hJ2, fun b q => (hO2 b q).elim (HO'.out b) (fun q => .inr (by omega)), K8⟩
            case measure => simp [intOf]; omega
          · have Y8 := Y7.keptO hk8 (fun e => absurd (HJO.out _ e) (Nat.lt_irrefl _))
            have K8 : Kept O W1 w8 := hkr.trans ((Kept.of b7).trans (O' := O') hk8 (fun b q => .inl q)) (fun b q => HO'.out b q)
            refine hK.out _ _ Y8 (fun hS8 => ?_)
            clear hK KK
            try simp only [Act.put, List.getElem_toArray, List.getElem_cons_zero, List.getElem_cons_succ, List.setIfInBounds_toArray, List.set_cons_zero, List.set_cons_succ]
            refine wpAnyH_take (i := 10) (v := ?v10x14) rfl (by kernel_rfl) (by kernel_rfl) (by kernel_rfl) (fun _ _ _ h => h) (Or.inl ⟨by rfl, ?hy10x14⟩) hS8 ?rest10x14
            case hy10x14 => (intro wS hSw; go_simp; (try with_reducible rfl))
            case rest10x14 =>
            simp only [Act.put, List.getElem_toArray, List.getElem_cons_zero, List.getElem_cons_succ, List.setIfInBounds_toArray, List.set_cons_zero, List.set_cons_succ]
            refine wpAnyH_done (by kernel_rfl) ?_ _
            clear hS hS5 hS6 hS7 hS8 HR
            go_wp2
            go_ret
            have q1 := HFle.out (t + 1) fn hin
            exact .inr ⟨rfl, ⟨k8, by omega, hx8⟩, KO.out.trans K8 (fun b q => .inl q)⟩
        · obtain rfl : t = fn := by omega
          go_wp2
          go_ret
          exact .inl ⟨rfl, ⟨O', by rw [← Nat.add_assoc, ← Nat.add_assoc]; exact hJ', fun b q => (HO'.out b q).elim .inl (fun z => .inr (by omega))⟩, KO.out.trans hkr (fun b q => .inl q)⟩
end Go.Proofs.Ytfkfboiblgoamaa
