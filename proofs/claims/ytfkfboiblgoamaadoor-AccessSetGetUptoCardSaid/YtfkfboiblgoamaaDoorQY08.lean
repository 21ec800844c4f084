/- Laid together for a claim: VtUnder. -/
import Derived.Test.YtfkfboiblgoamaaDoorQY02
import Derived.Test.YtfkfboiblgoamaaDoorQY07
import Derived.Deep.RegionHeld3
import Derived.Deep.AppendLies
/- The paths of all values in a value: datakitref09.Under, Paths. -/
namespace Go.Proofs.YtfkfboiblgoamaaDoor
open Go.ChangeShapes Go.WideShapes Go.Joins Go.Deep Go.RowKit
set_option linter.unusedSimpArgs false
set_option linter.unusedVariables false

/-- The paths of the first elements; of the first fields' values. -/
def flL (L : Nat → Vt) (q : List Stp) (n : Nat) : List (List Stp) := ((List.range n).flatMap (fun i => (L i).walk (q ++ [stI i]))).map Prod.fst
def flF (K : Nat → ByteArray) (F : Nat → Vt) (q : List Stp) (n : Nat) : List (List Stp) := ((List.range n).flatMap (fun i => (F i).walk (q ++ [stK (K i)]))).map Prod.fst
theorem flL_succ (L : Nat → Vt) (q : List Stp) (n : Nat) : flL L q (n + 1) = flL L q n ++ ((L n).walk (q ++ [stI n])).map Prod.fst := by
  unfold flL
  rw [List.range_succ, List.flatMap_append, List.map_append]
  simp
theorem flF_succ (K : Nat → ByteArray) (F : Nat → Vt) (q : List Stp) (n : Nat) : flF K F q (n + 1) = flF K F q n ++ ((F n).walk (q ++ [stK (K n)])).map Prod.fst := by
  unfold flF
  rw [List.range_succ, List.flatMap_append, List.map_append]
  simp
theorem flL_len (L : Nat → Vt) (q : List Stp) (n : Nat) : (flL L q n).length = wkL L q n := by unfold flL wkL; rw [List.length_map, flat_len]
theorem flF_len (K : Nat → ByteArray) (F : Nat → Vt) (q : List Stp) (n : Nat) : (flF K F q n).length = wkF K F q n := by unfold flF wkF; rw [List.length_map, flat_len]
theorem walk_fst (h : Vh) (Y : Nat → Int) (L : Nat → Vt) (K : Nat → ByteArray) (F : Nat → Vt) (q : List Stp) : ((Vt.mk h Y L K F).walk q).map Prod.fst = q :: (flL L q h.ln ++ flF K F q h.fn) := by
  rw [Vt.walk, List.map_cons, List.map_append]
  rfl
theorem walk_pos {W : World} {top : Nat} {T : Vt} (hT : T.In W top) (q : List Stp) : 0 < (T.walk q).length := by
  cases T with
  | nil => exact hT.elim
  | mk h Y L K F => rw [Vt.walk]; simp
/-- What Under answers. -/
def UnderOut (T : Vt) (p : Pth) (w : World) (e : Ending) (w' : World) : Prop :=
  ∃ v, e = .returned v ∧ PRow w.heap.size (fun b => b = p.b ∨ w.heap.size ≤ b) w' v ((T.walk p.steps).map Prod.fst) ∧ Below w.heap.size w w'
/-- One path in a slice of its own. -/
theorem prow_one {w : World} {p : Pth} {S : Nat → Prop} (hp : p.In w w.heap.size) (hS : 0 < p.n → S p.b) {B : Nat} (hB : B ≤ w.heap.size) : PRow B S (w.alloc (.cells #[p.val] 31)) (.slice (some ⟨w.heap.size, 0, none⟩) 1 1) [p.steps] := by
  refine ⟨[p], rfl, ⟨rfl, .inr ⟨_, 1, #[p.val], rfl, hB, World.alloc_heap_new _ _, Nat.le_refl _, by unfold maxLen; decide, rfl, rfl⟩⟩, fun f hf => ?_⟩
  obtain rfl := List.mem_singleton.1 hf
  exact ⟨(Pth.In.below hp ((Below.refl _ w).alloc (Nat.le_refl _) _)).up (by simp), fun q => ⟨hS q, fun e => by
    have : f.b = w.heap.size := Option.some.inj e
    have := (hp.1 q).2
    omega⟩⟩

set_option maxHeartbeats 4000000 in
set_option maxRecDepth 100000 in
theorem under_any : ∀ (T : Vt) (p : Pth) (d : Nat) (w : World), T.In w w.heap.size → p.In w w.heap.size → T.upto d → p.n + d ≤ 1000 → (T.walk p.steps).length ≤ 65536 → Calls Tryd.prog 37 #[.agg T.h.cells, .slice p.a p.n p.c] w (UnderOut T p w) := by
  intro T
  induction T with
  | nil => intro p d w hT; exact hT.elim
  | mk h Y L K F ihL ihF =>
  intro p d w hT hp hu hd hlen
  obtain ⟨i0, hi0, hz0, hz1, hz2⟩ := info_parts Tryd.infoPth
  rw [walk_size] at hlen
  have hb1 := (Below.refl w.heap.size w).alloc (Nat.le_refl _) (.cells h.cells 30)
  have hb0 := hb1.alloc (by simp) (.cells #[p.val] 31)
  have P := (Whole.new w 30 h.cells).alloc (.cells #[p.val] 31)
  have hrow0 := prow_one (w := w.alloc (.cells h.cells 30)) (B := w.heap.size + 1) (S := fun b => b = p.b ∨ w.heap.size + 1 ≤ b) ((Pth.In.below hp hb1).up hb1.size) (fun _ => .inl rfl) (by simp)
  rw [World.size_alloc] at hrow0
  have HW := Lib.hid (fun (W : World) (hb : Below w.heap.size w W) => hT.below hb)
  have Hp := Lib.hid (fun (W : World) (hb : Below w.heap.size w W) => (Pth.In.below hp hb).up hb.size)
  have hln := hT.1.ln
  have hfn := hT.1.fn
  have hd1 : 1 ≤ d := hu.1
  have HU := Lib.hid hu
  have HL := Lib.hid ihL
  have HF := Lib.hid ihF
  have HLa : Hid (0 < h.ln → h.la = some ⟨h.lb, h.lo, none⟩) := Lib.hid fun q => (hT.2.2.2.1 q).1
  have HFa : Hid (0 < h.fn → h.fa = some ⟨h.fb, h.fo, none⟩) := Lib.hid fun q => (hT.2.2.2.2.2.1 q).1
  have HE := Lib.hid (walk_fst h Y L K F p.steps)
  obtain ⟨ML, hML⟩ : ∃ M, wkL L p.steps = M := ⟨_, rfl⟩
  obtain ⟨MF, hMF⟩ : ∃ M, wkF K F p.steps = M := ⟨_, rfl⟩
  have HSL : Hid (∀ i, ML (i + 1) = ML i + ((L i).walk (p.steps ++ [stI i])).length) := Lib.hid fun i => by rw [← hML]; rfl
  have HSF : Hid (∀ i, MF (i + 1) = MF i + ((F i).walk (p.steps ++ [stK (K i)])).length) := Lib.hid fun i => by rw [← hMF]; rfl
  have HLle : Hid (∀ i n, i ≤ n → ML i ≤ ML n) := Lib.hid fun i n q => by rw [← hML]; exact wkL_le L _ q
  have HFle : Hid (∀ i n, i ≤ n → MF i ≤ MF n) := Lib.hid fun i n q => by rw [← hMF]; exact wkF_le K F _ q
  have HLl : Hid (∀ i, (flL L p.steps i).length = ML i) := Lib.hid fun i => by rw [← hML]; exact flL_len L _ i
  have HFl : Hid (∀ i, (flF K F p.steps i).length = MF i) := Lib.hid fun i => by rw [← hMF]; exact flF_len K F _ i
  rw [hML, hMF] at hlen
  have hpn := p.steps_len
  have Hd : Hid (p.n + d ≤ 1000) := Lib.hid hd
  have Hlen := Lib.hid hlen
  clear hT hp hu ihL ihF hML hMF hb1 hd hlen
  show Calls Tryd.prog 37 #[.agg h.cells, _] w _
  have HOUT : Hid (∀ v w', PRow (w.heap.size + 1) (fun b => b = p.b ∨ w.heap.size + 1 ≤ b) w' v (p.steps :: (flL L p.steps h.ln ++ flF K F p.steps h.fn)) → Below w.heap.size w w' → UnderOut (.mk h Y L K F) p w (.returned v) w') := Lib.hid fun v w' hr hb => ⟨v, rfl, by rw [HE.out]; exact hr.weaken (by omega) (fun b q => q.imp id (by omega)), hb⟩
  obtain ⟨hk, hbb, hnn, hdd, he, htk, htd, htn, htz, hx, ba, bn, bc, la, ln, lc, fa, fn, fc, bb, bo, lb, lo, fb, fo⟩ := h
  dsimp only at hln hfn HLa HFa Hlen HOUT
  have n0 : (0 : Int) ≤ ln := by omega
  have n1 : (ln : Int) ≤ 1048576 := by omega
  have n2 : (0 : Int) ≤ fn := by omega
  have n3 : (fn : Int) ≤ 1048576 := by omega
  clear HE
  simp only [Vh.cells, Pth.val] at hb0 P hrow0 ⊢
  go_enter Tryd.func37, Tryd.ntmps37
  go_wp2_with fail
  generalize (w.alloc (.cells #[.int .i64 hk, .bool hbb, .bool hnn, .string hdd, .int .i64 he, .int .i64 htk, .int .i64 htd, .int .i64 htn, .int .i64 htz, .string hx, .slice ba bn bc, .slice la ln lc, .slice fa fn fc] 30)).alloc (.cells #[.slice p.a p.n p.c] 31) = w0 at *
  go_loopw [5, 6] (fun v i wr => ∃ (t : Nat) (v0 : Value), v0 = v ∧ t ≤ ln ∧ i = .int .i64 t ∧ PRow (w.heap.size + 1) (fun b => b = p.b ∨ w.heap.size + 1 ≤ b) wr v0 (p.steps :: flL L p.steps t) ∧ Below w.heap.size w wr ∧ Whole wr w.heap.size 30 #[.int .i64 hk, .bool hbb, .bool hnn, .string hdd, .int .i64 he, .int .i64 htk, .int .i64 htd, .int .i64 htn, .int .i64 htz, .string hx, .slice ba bn bc, .slice la ln lc, .slice fa fn fc]) (fun _ i _ => ln - (intOf i).toNat)
  case atStart => exact ⟨0, _, rfl, by omega, rfl, hrow0, hb0, P⟩
  case round =>
    clear hrow0 hb0 P
    obtain ⟨t, v0, rfl, htl, rfl, hrow, hbr, P⟩ := hrel
    have hti : (0 : Int) ≤ t := by omega
    have Hrow := Lib.hid hrow
    clear hrow
    by_cases hin : t < ln
    · have e1 := HLa.out (by omega)
      subst e1
      have hti2 : (t : Int) < ln := by omega
      have hwr := hbr.size
      have hPl := P.lt
      have HEl := Lib.hid (fun (W : World) (hb : Below w.heap.size w W) => ((HW.out W hb).2.2.2.2.1 t hin).1)
      have HIn := Lib.hid (fun (W : World) (hb : Below w.heap.size w W) => ((HW.out W hb).2.2.2.2.1 t hin).2)
      have HUi := Lib.hid (HU.out.2.1 t hin)
      have hsok : (stI t).ok := ⟨by show ByteArray.size ⟨#[]⟩ ≤ _; decide, by show w64 (t : Int); exact ⟨by omega, by omega⟩⟩
      have Hsok := Lib.hid hsok
      clear hsok
      obtain ⟨CC, hCC⟩ : ∃ CC : Array Value, #[.int .i64 hk, .bool hbb, .bool hnn, .string hdd, .int .i64 he, .int .i64 htk, .int .i64 htd, .int .i64 htn, .int .i64 htz, .string hx, .slice ba bn bc, .slice (some ⟨lb, lo, none⟩) ln lc, .slice fa fn fc] = CC := ⟨_, rfl⟩
      rw [hCC] at P
      have HC11 : Hid (CC[11]? = some (.slice (some ⟨lb, lo, none⟩) ln lc)) := Lib.hid (by rw [← hCC]; rfl)
      have HCC := Lib.hid hCC
      clear hCC
      have c11 := (P.cell 11).trans HC11.out
      go_wp2_with fail
      clear c11
      refine wp_region_held_drew (S := fun W => Whole W w.heap.size 30 CC ∧ Below w.heap.size w W) (by kernel_rfl) ⟨Whole.drew P, Below.drew hbr⟩ (fun hS => ?_)
      refine wpAnyH_take (i := 0) (v := ?v0x1) rfl (by kernel_rfl) (by kernel_rfl) (by kernel_rfl) (fun _ _ _ h => h) (Or.inl ⟨by rfl, ?hy0x1⟩) hS ?rest0x1
      case hy0x1 => (intro wS hSw; go_simp; (try with_reducible rfl))
      case rest0x1 =>
      simp only [Act.put, List.getElem_toArray, List.getElem_cons_zero, List.getElem_cons_succ, List.setIfInBounds_toArray, List.set_cons_zero, List.set_cons_succ]
      refine wpAnyH_take (i := 1) (v := ?v1x2) rfl (by kernel_rfl) (by kernel_rfl) (by kernel_rfl) (fun _ _ _ h => h) (Or.inl ⟨by rfl, ?hy1x2⟩) hS ?rest1x2
      case hy1x2 => (intro wS hSw; go_simp; (try with_reducible rfl))
      case rest1x2 =>
      simp only [Act.put, List.getElem_toArray, List.getElem_cons_zero, List.getElem_cons_succ, List.setIfInBounds_toArray, List.set_cons_zero, List.set_cons_succ]
      refine wpAnyH_take (i := 2) (v := ?v2x3) rfl (by kernel_rfl) (by kernel_rfl) (by kernel_rfl) (fun _ _ _ h => h) (Or.inl ⟨by rfl, ?hy2x3⟩) hS ?rest2x3
      case hy2x3 => (intro wS hSw; obtain ⟨q1, q2⟩ := hSw; have c11 := (q1.cell 11).trans HC11.out; go_simp; (try with_reducible rfl))
      case rest2x3 =>
      simp only [Act.put, List.getElem_toArray, List.getElem_cons_zero, List.getElem_cons_succ, List.setIfInBounds_toArray, List.set_cons_zero, List.set_cons_succ]
      refine wpAnyH_take (i := 3) (v := ?v3x4) rfl (by kernel_rfl) (by kernel_rfl) (by kernel_rfl) (fun _ _ _ h => h) (Or.inl ⟨by rfl, ?hy3x4⟩) hS ?rest3x4
      case hy3x4 => (intro wS hSw; go_simp; (try with_reducible rfl))
      case rest3x4 =>
      simp only [Act.put, List.getElem_toArray, List.getElem_cons_zero, List.getElem_cons_succ, List.setIfInBounds_toArray, List.set_cons_zero, List.set_cons_succ]
      refine wpAnyH_take (i := 4) (v := ?v4x5) rfl (by kernel_rfl) (by kernel_rfl) (by kernel_rfl) (fun _ _ _ h => h) (Or.inl ⟨by rfl, ?hy4x5⟩) hS ?rest4x5
      case hy4x5 => (intro wS hSw; go_simp; (try with_reducible rfl))
      case rest4x5 =>
      simp only [Act.put, List.getElem_toArray, List.getElem_cons_zero, List.getElem_cons_succ, List.setIfInBounds_toArray, List.set_cons_zero, List.set_cons_succ]
      refine wpAnyH_take (i := 5) (v := ?v5x6) rfl (by kernel_rfl) (by kernel_rfl) (by kernel_rfl) (fun _ _ _ h => h) (Or.inl ⟨by rfl, ?hy5x6⟩) hS ?rest5x6
      case hy5x6 => (intro wS hSw; obtain ⟨q1, q2⟩ := hSw; obtain ⟨y0, y1, y2, y3, y4, y5, y6, y7, y8, y9, y10, y11, y12⟩ := (HEl.out _ q2).c13; go_simp; (try with_reducible rfl))
      case rest5x6 =>
      simp only [Act.put, List.getElem_toArray, List.getElem_cons_zero, List.getElem_cons_succ, List.setIfInBounds_toArray, List.set_cons_zero, List.set_cons_succ]
      refine wpAnyH_take (i := 6) (v := ?v6x7) rfl (by kernel_rfl) (by kernel_rfl) (by kernel_rfl) (fun _ _ _ h => h) (Or.inl ⟨by rfl, ?hy6x7⟩) hS ?rest6x7
      case hy6x7 => (intro wS hSw; go_simp; (try with_reducible rfl))
      case rest6x7 =>
      simp only [Act.put, List.getElem_toArray, List.getElem_cons_zero, List.getElem_cons_succ, List.setIfInBounds_toArray, List.set_cons_zero, List.set_cons_succ]
      refine wpAnyH_take (i := 7) (v := ?v7x8) rfl (by kernel_rfl) (by kernel_rfl) (by kernel_rfl) (fun _ _ _ h => h) (Or.inl ⟨by rfl, ?hy7x8⟩) hS ?rest7x8
      case hy7x8 => (intro wS hSw; go_simp; (try with_reducible rfl))
      case rest7x8 =>
      simp only [Act.put, List.getElem_toArray, List.getElem_cons_zero, List.getElem_cons_succ, List.setIfInBounds_toArray, List.set_cons_zero, List.set_cons_succ]
      refine wpAnyH_take (i := 8) (v := ?v8x9) rfl (by kernel_rfl) (by kernel_rfl) (by kernel_rfl) (fun _ _ _ h => h) (Or.inl ⟨by rfl, ?hy8x9⟩) hS ?rest8x9
      case hy8x9 => (intro wS hSw; go_simp; (try with_reducible rfl))
      case rest8x9 =>
      simp only [Act.put, List.getElem_toArray, List.getElem_cons_zero, List.getElem_cons_succ, List.setIfInBounds_toArray, List.set_cons_zero, List.set_cons_succ]
      have P4 : Whole wr.drew w.heap.size 30 CC := P
      have b4 : Below wr.heap.size wr wr.drew := (Below.refl _ _).drew
      have g4 := hbr.drew
      clear P hbr
      have hz4 : wr.drew.heap.size = wr.heap.size := rfl
      generalize wr.drew = w4 at *
      have HLo := Lib.hid (longer_any (p := p) (s := stI t) (Hp.out _ g4) Hsok.out (Nat.le_refl _) (show p.n + 1 ≤ 1048576 by have := Hd.out; omega))
      simp only [Stp.cells, stI, stK] at HLo
      refine wpAnyH_ready (rs := [9]) (by kernel_rfl) (by simp) ?_
      refine AllReadyH.cons rfl (fun KK hK => ?_) AllReadyH.nil
      go_simp
      go_at_call 50
      refine HLo.out.mono ?_
      rintro _ w5 ⟨r, rfl, hr, hrs, hrb, h5⟩
      clear HLo
      have P5 := Whole.below P4 h5 P4.lt
      have g5 := below_then g4 h5
      have b5 := below_then b4 h5
      have hz5 := h5.size
      refine hK.out _ _ ⟨P5, g5⟩ (fun hS5 => ?_)
      clear hK KK
      try simp only [Act.put, List.getElem_toArray, List.getElem_cons_zero, List.getElem_cons_succ, List.setIfInBounds_toArray, List.set_cons_zero, List.set_cons_succ]
      have hrs2 : r.steps = p.steps ++ [stI t] := hrs
      have hrn : r.n = p.n + 1 := by rw [← r.steps_len, hrs2, List.length_append, hpn]; rfl
      have hsl := HSL.out t
      have hle := HLle.out (t + 1) ln hin
      have hlen := Hlen.out
      have hdd1 := Hd.out
      have HR := Lib.hid (HL.out t r (d - 1) w5 ((HIn.out _ g5).up g5.size) hr HUi.out (by omega) (by rw [hrs2]; omega))
      unfold UnderOut at HR
      rw [hrs2] at HR
      have Hrb : Hid (wr.heap.size ≤ r.b) := Lib.hid (by have := hrb (by omega); omega)
      have Hpos := Lib.hid (walk_pos (HIn.out _ g5) (p.steps ++ [stI t]))
      clear hrn hrs hrs2 hsl hle hlen hdd1 hrb
      simp only [Vh.cells] at HR
      refine wpAnyH_ready (rs := [10]) (by kernel_rfl) (by simp) ?_
      refine AllReadyH.cons rfl (fun KK hK => ?_) AllReadyH.nil
      go_simp
      go_at_call 37
      refine HR.out.mono ?_
      rintro _ w6 ⟨v1, rfl, hrow1, h6⟩
      clear HR
      have P6 := Whole.below P5 h6 P5.lt
      have g6 := below_then g5 h6
      have b6 := below_then b5 h6
      have hz6 := h6.size
      obtain ⟨gs, egs, hgown, hgf⟩ := hrow1
      obtain ⟨fs, efs, hown, hff⟩ := Hrow.out.below b6
      have hgl : gs.length = ((L t).walk (p.steps ++ [stI t])).length := by have := congrArg List.length egs; simpa using this
      have hfl : fs.length = 1 + ML t := by have := congrArg List.length efs; simp only [List.length_map, List.length_cons] at this; rw [HLl.out] at this; omega
      have hgpos : 0 < gs.length := by rw [hgl]; exact Hpos.out
      obtain ⟨g1, cap1, cur1, rfl, -⟩ : ∃ (g1 cap1 : Nat) (cur1 : Array Value), v1 = .slice (some ⟨g1, 0, none⟩) gs.length cap1 ∧ cur1 = cur1 := by
        rcases hgown.2 with ⟨-, e0⟩ | ⟨g1, cap1, cur1, e1, -⟩
        · omega
        · exact ⟨g1, cap1, cur1, e1, rfl⟩
      have HSub : Hid (∀ g, v0.ownBlock = some g → w.heap.size + 1 ≤ g ∧ g < wr.heap.size) := Lib.hid fun g hg => by obtain ⟨_, _, ho, _⟩ := Hrow.out; exact ho.lt g hg
      have HG2 := Lib.hid (fun f (hf : f ∈ gs) => (⟨(hgf f hf).1, fun q => by
        have h1 := ((hgf f hf).2 q).1
        have h2 := Hrb.out
        refine ⟨.inr (by rcases h1 with h1 | h1 <;> omega), fun e => ?_⟩
        have := (HSub.out _ e.symm).2
        rcases h1 with h1 | h1 <;> omega⟩ : f.In w6 w6.heap.size ∧ (0 < f.n → (f.b = p.b ∨ w.heap.size + 1 ≤ f.b) ∧ some f.b ≠ v0.ownBlock)))
      have s1 := Lib.hid (hgown.cells (g := g1) rfl)
      have s2 := Lib.hid (val_one gs)
      have hsl := HSL.out t
      have hle := HLle.out (t + 1) ln hin
      have hlen := Hlen.out
      have s3 : Hid (fs.length + gs.length ≤ maxLen) := Lib.hid (by unfold maxLen; omega)
      have s4 : Hid ((fs.length + gs.length) * 24 ≤ 140737488355328) := Lib.hid (by omega)
      have s5 : Hid (w.heap.size + 1 ≤ w6.heap.size) := Lib.hid (by omega)
      have hlm : (gs.map Pth.val).length = gs.length * 1 := by simp
      have Hown := Lib.hid hown
      have Hff := Lib.hid hff
      have Hefs := Lib.hid efs
      have Hegs := Lib.hid egs
      have Hsl := Lib.hid hsl
      have Hgp := Lib.hid hgpos
      clear hown hff hgown hgf hsl hle hlen efs egs hgl hfl hgpos
      refine hK.out _ _ ⟨P6, g6⟩ (fun hS6 => ?_)
      clear hK KK
      try simp only [Act.put, List.getElem_toArray, List.getElem_cons_zero, List.getElem_cons_succ, List.setIfInBounds_toArray, List.set_cons_zero, List.set_cons_succ]
      refine wpAnyH_ready (rs := [11]) (by kernel_rfl) (by simp) ?_
      refine AllReadyH.cons rfl (fun KK hK => ?_) AllReadyH.nil
      refine step_append_lies _ (by rfl) _ _ _ (by rfl) (w.heap.size + 1) 31 i0 _ 1 24 Tryd.underlying42 hi0 hz0 hz1 hz2 rfl (by decide) v0 fs.length _ (by rfl) Hown.out ⟨g1, 0, none⟩ gs.length cap1 (gs.map Pth.val) (by rfl) hlm s1.out s2.out Hgp.out s3.out s4.out s5.out w6.heap.size rfl ?_
      intro gg cap w7 hown7 hgrow7 hat7 hlt7
      have hrow7 := PRow.join (S := fun b => b = p.b ∨ w.heap.size + 1 ≤ b) Hown.out Hff.out HG2.out hown7 hgrow7 (hat7.elim (fun q => .inl q.symm) (fun q => .inr (by rw [q]; rfl)))
      rw [Hefs.out, Hegs.out] at hrow7
      have P7 := P6.kept hgrow7 (fun e => by have := (HSub.out _ e.symm).1; omega)
      have g7 := g6.grown hgrow7 (by omega) (fun g hg => by have := (HSub.out g hg).1; omega)
      rw [List.cons_append, ← flL_succ] at hrow7
      have Hrow7 := Lib.hid hrow7
      clear hrow7 Hown Hff HG2 hown7 hgrow7 hat7 Hefs Hegs s1 s2 s3 s4 s5
      refine hK.out _ _ ⟨P7, g7⟩ (fun hS7 => ?_)
      clear hK KK
      try simp only [Act.put, List.getElem_toArray, List.getElem_cons_zero, List.getElem_cons_succ, List.setIfInBounds_toArray, List.set_cons_zero, List.set_cons_succ]
      refine wpAnyH_take (i := 12) (v := ?v12x10) rfl (by kernel_rfl) (by kernel_rfl) (by kernel_rfl) (fun _ _ _ h => h) (Or.inl ⟨by rfl, ?hy12x10⟩) hS7 ?rest12x10
      case hy12x10 => (intro wS hSw; go_simp; (try with_reducible rfl))
      case rest12x10 =>
      simp only [Act.put, List.getElem_toArray, List.getElem_cons_zero, List.getElem_cons_succ, List.setIfInBounds_toArray, List.set_cons_zero, List.set_cons_succ]
      refine wpAnyH_done (by kernel_rfl) ?_ _
      clear hS hS5 hS6 hS7 Hrow
      rw [← HCC.out] at P7
      go_wp2
      go_roundw
      case rel => exact ⟨t + 1, _, rfl, by omega, by go_num, Hrow7.out, g7, P7⟩
      case measure => simp [intOf]; omega
    · have etl : t = ln := by omega
      subst etl
      obtain ⟨ln, rfl⟩ : ∃ l, l = t := ⟨_, rfl⟩
      have c11 := P.cell 11
      simp only [List.getElem?_toArray, List.getElem?_cons_succ, List.getElem?_cons_zero] at c11
      go_wp2_with fail
      clear c11 hin hti
      have HbR := Lib.hid hbr
      go_loopw [5, 7] (fun v i wq => ∃ (u : Nat) (v0 : Value), v0 = v ∧ u ≤ fn ∧ i = .int .i64 u ∧ PRow (w.heap.size + 1) (fun b => b = p.b ∨ w.heap.size + 1 ≤ b) wq v0 (p.steps :: (flL L p.steps ln ++ flF K F p.steps u)) ∧ Below w.heap.size w wq ∧ Whole wq w.heap.size 30 #[.int .i64 hk, .bool hbb, .bool hnn, .string hdd, .int .i64 he, .int .i64 htk, .int .i64 htd, .int .i64 htn, .int .i64 htz, .string hx, .slice ba bn bc, .slice la ln lc, .slice fa fn fc]) (fun _ i _ => fn - (intOf i).toNat)
      case atStart => exact ⟨0, _, rfl, by omega, rfl, by rw [show flF K F p.steps 0 = [] from rfl, List.append_nil]; exact Hrow.out, hbr, P⟩
      case round =>
        clear Hrow hbr P HbR
        obtain ⟨t, v0, rfl, htl2, rfl, hrow, hbr, P⟩ := hrel
        rename World => wr
        have hti : (0 : Int) ≤ t := by omega
        have Hrow := Lib.hid hrow
        clear hrow
        by_cases hin : t < fn
        · have e1 := HFa.out (by omega)
          subst e1
          have hti2 : (t : Int) < fn := by omega
          have hwr := hbr.size
          have hPl := P.lt
          have HEl := Lib.hid (fun (W : World) (hb : Below w.heap.size w W) => ((HW.out W hb).2.2.2.2.2.2 t hin).2.2.1)
          have HKl := Lib.hid (fun (W : World) (hb : Below w.heap.size w W) => ((HW.out W hb).2.2.2.2.2.2 t hin).1)
          have HIn := Lib.hid (fun (W : World) (hb : Below w.heap.size w W) => ((HW.out W hb).2.2.2.2.2.2 t hin).2.2.2)
          have HUi := Lib.hid (HU.out.2.2 t hin)
          have hsok : (stK (K t)).ok := ⟨((HW.out wr hbr).2.2.2.2.2.2 t hin).2.1, by show w64 (0 : Int); exact ⟨by decide, by decide⟩⟩
          have Hsok := Lib.hid hsok
          clear hsok
          obtain ⟨CC, hCC⟩ : ∃ CC : Array Value, #[.int .i64 hk, .bool hbb, .bool hnn, .string hdd, .int .i64 he, .int .i64 htk, .int .i64 htd, .int .i64 htn, .int .i64 htz, .string hx, .slice ba bn bc, .slice la ln lc, .slice (some ⟨fb, fo, none⟩) fn fc] = CC := ⟨_, rfl⟩
          rw [hCC] at P
          have HC12 : Hid (CC[12]? = some (.slice (some ⟨fb, fo, none⟩) fn fc)) := Lib.hid (by rw [← hCC]; rfl)
          have HCC := Lib.hid hCC
          clear hCC
          have c12 := (P.cell 12).trans HC12.out
          go_wp2_with fail
          clear c12
          refine wp_region_held_drew (S := fun W => Whole W w.heap.size 30 CC ∧ Below w.heap.size w W) (by kernel_rfl) ⟨Whole.drew P, Below.drew hbr⟩ (fun hS => ?_)
          refine wpAnyH_take (i := 0) (v := ?v0x11) rfl (by kernel_rfl) (by kernel_rfl) (by kernel_rfl) (fun _ _ _ h => h) (Or.inl ⟨by rfl, ?hy0x11⟩) hS ?rest0x11
          case hy0x11 => (intro wS hSw; go_simp; (try with_reducible rfl))
          case rest0x11 =>
          simp only [Act.put, List.getElem_toArray, List.getElem_cons_zero, List.getElem_cons_succ, List.setIfInBounds_toArray, List.set_cons_zero, List.set_cons_succ]
          refine wpAnyH_take (i := 1) (v := ?v1x12) rfl (by kernel_rfl) (by kernel_rfl) (by kernel_rfl) (fun _ _ _ h => h) (Or.inl ⟨by rfl, ?hy1x12⟩) hS ?rest1x12
          case hy1x12 => (intro wS hSw; go_simp; (try with_reducible rfl))
          case rest1x12 =>
          simp only [Act.put, List.getElem_toArray, List.getElem_cons_zero, List.getElem_cons_succ, List.setIfInBounds_toArray, List.set_cons_zero, List.set_cons_succ]
          refine wpAnyH_take (i := 2) (v := ?v2x13) rfl (by kernel_rfl) (by kernel_rfl) (by kernel_rfl) (fun _ _ _ h => h) (Or.inl ⟨by rfl, ?hy2x13⟩) hS ?rest2x13
          case hy2x13 => (intro wS hSw; obtain ⟨q1, q2⟩ := hSw; have c12 := (q1.cell 12).trans HC12.out; go_simp; (try with_reducible rfl))
          case rest2x13 =>
          simp only [Act.put, List.getElem_toArray, List.getElem_cons_zero, List.getElem_cons_succ, List.setIfInBounds_toArray, List.set_cons_zero, List.set_cons_succ]
          refine wpAnyH_take (i := 3) (v := ?v3x14) rfl (by kernel_rfl) (by kernel_rfl) (by kernel_rfl) (fun _ _ _ h => h) (Or.inl ⟨by rfl, ?hy3x14⟩) hS ?rest3x14
          case hy3x14 => (intro wS hSw; go_simp; (try with_reducible rfl))
          case rest3x14 =>
          simp only [Act.put, List.getElem_toArray, List.getElem_cons_zero, List.getElem_cons_succ, List.setIfInBounds_toArray, List.set_cons_zero, List.set_cons_succ]
          refine wpAnyH_take (i := 4) (v := ?v4x15) rfl (by kernel_rfl) (by kernel_rfl) (by kernel_rfl) (fun _ _ _ h => h) (Or.inl ⟨by rfl, ?hy4x15⟩) hS ?rest4x15
          case hy4x15 => (intro wS hSw; go_simp; (try with_reducible rfl))
          case rest4x15 =>
          simp only [Act.put, List.getElem_toArray, List.getElem_cons_zero, List.getElem_cons_succ, List.setIfInBounds_toArray, List.set_cons_zero, List.set_cons_succ]
          refine wpAnyH_take (i := 5) (v := ?v5x16) rfl (by kernel_rfl) (by kernel_rfl) (by kernel_rfl) (fun _ _ _ h => h) (Or.inl ⟨by rfl, ?hy5x16⟩) hS ?rest5x16
          case hy5x16 => (intro wS hSw; go_simp; (try with_reducible rfl))
          case rest5x16 =>
          simp only [Act.put, List.getElem_toArray, List.getElem_cons_zero, List.getElem_cons_succ, List.setIfInBounds_toArray, List.set_cons_zero, List.set_cons_succ]
          refine wpAnyH_take (i := 6) (v := ?v6x17) rfl (by kernel_rfl) (by kernel_rfl) (by kernel_rfl) (fun _ _ _ h => h) (Or.inl ⟨by rfl, ?hy6x17⟩) hS ?rest6x17
          case hy6x17 => (intro wS hSw; obtain ⟨q1, q2⟩ := hSw; obtain ⟨y0, y1, y2, y3, y4, y5, y6, y7, y8, y9, y10, y11, y12⟩ := (HEl.out _ q2).c13; go_simp; (try with_reducible rfl))
          case rest6x17 =>
          simp only [Act.put, List.getElem_toArray, List.getElem_cons_zero, List.getElem_cons_succ, List.setIfInBounds_toArray, List.set_cons_zero, List.set_cons_succ]
          refine wpAnyH_take (i := 7) (v := ?v7x18) rfl (by kernel_rfl) (by kernel_rfl) (by kernel_rfl) (fun _ _ _ h => h) (Or.inl ⟨by rfl, ?hy7x18⟩) hS ?rest7x18
          case hy7x18 => (intro wS hSw; go_simp; (try with_reducible rfl))
          case rest7x18 =>
          simp only [Act.put, List.getElem_toArray, List.getElem_cons_zero, List.getElem_cons_succ, List.setIfInBounds_toArray, List.set_cons_zero, List.set_cons_succ]
          refine wpAnyH_take (i := 8) (v := ?v8x19) rfl (by kernel_rfl) (by kernel_rfl) (by kernel_rfl) (fun _ _ _ h => h) (Or.inl ⟨by rfl, ?hy8x19⟩) hS ?rest8x19
          case hy8x19 => (intro wS hSw; go_simp; (try with_reducible rfl))
          case rest8x19 =>
          simp only [Act.put, List.getElem_toArray, List.getElem_cons_zero, List.getElem_cons_succ, List.setIfInBounds_toArray, List.set_cons_zero, List.set_cons_succ]
          refine wpAnyH_take (i := 9) (v := ?v9x20) rfl (by kernel_rfl) (by kernel_rfl) (by kernel_rfl) (fun _ _ _ h => h) (Or.inl ⟨by rfl, ?hy9x20⟩) hS ?rest9x20
          case hy9x20 => (intro wS hSw; obtain ⟨q1, q2⟩ := hSw; have c12 := (q1.cell 12).trans HC12.out; go_simp; (try with_reducible rfl))
          case rest9x20 =>
          simp only [Act.put, List.getElem_toArray, List.getElem_cons_zero, List.getElem_cons_succ, List.setIfInBounds_toArray, List.set_cons_zero, List.set_cons_succ]
          refine wpAnyH_take (i := 10) (v := ?v10x21) rfl (by kernel_rfl) (by kernel_rfl) (by kernel_rfl) (fun _ _ _ h => h) (Or.inl ⟨by rfl, ?hy10x21⟩) hS ?rest10x21
          case hy10x21 => (intro wS hSw; go_simp; (try with_reducible rfl))
          case rest10x21 =>
          simp only [Act.put, List.getElem_toArray, List.getElem_cons_zero, List.getElem_cons_succ, List.setIfInBounds_toArray, List.set_cons_zero, List.set_cons_succ]
          refine wpAnyH_take (i := 11) (v := ?v11x22) rfl (by kernel_rfl) (by kernel_rfl) (by kernel_rfl) (fun _ _ _ h => h) (Or.inl ⟨by rfl, ?hy11x22⟩) hS ?rest11x22
          case hy11x22 => (intro wS hSw; go_simp; (try with_reducible rfl))
          case rest11x22 =>
          simp only [Act.put, List.getElem_toArray, List.getElem_cons_zero, List.getElem_cons_succ, List.setIfInBounds_toArray, List.set_cons_zero, List.set_cons_succ]
          refine wpAnyH_take (i := 12) (v := ?v12x23) rfl (by kernel_rfl) (by kernel_rfl) (by kernel_rfl) (fun _ _ _ h => h) (Or.inl ⟨by rfl, ?hy12x23⟩) hS ?rest12x23
          case hy12x23 => (intro wS hSw; go_simp; (try with_reducible rfl))
          case rest12x23 =>
          simp only [Act.put, List.getElem_toArray, List.getElem_cons_zero, List.getElem_cons_succ, List.setIfInBounds_toArray, List.set_cons_zero, List.set_cons_succ]
          refine wpAnyH_take (i := 13) (v := ?v13x24) rfl (by kernel_rfl) (by kernel_rfl) (by kernel_rfl) (fun _ _ _ h => h) (Or.inl ⟨by rfl, ?hy13x24⟩) hS ?rest13x24
          case hy13x24 => (intro wS hSw; obtain ⟨q1, q2⟩ := hSw; have kk := HKl.out _ q2; go_simp; (try with_reducible rfl))
          case rest13x24 =>
          simp only [Act.put, List.getElem_toArray, List.getElem_cons_zero, List.getElem_cons_succ, List.setIfInBounds_toArray, List.set_cons_zero, List.set_cons_succ]
          refine wpAnyH_take (i := 14) (v := ?v14x25) rfl (by kernel_rfl) (by kernel_rfl) (by kernel_rfl) (fun _ _ _ h => h) (Or.inl ⟨by rfl, ?hy14x25⟩) hS ?rest14x25
          case hy14x25 => (intro wS hSw; go_simp; (try with_reducible rfl))
          case rest14x25 =>
          simp only [Act.put, List.getElem_toArray, List.getElem_cons_zero, List.getElem_cons_succ, List.setIfInBounds_toArray, List.set_cons_zero, List.set_cons_succ]
          have P4 : Whole wr.drew w.heap.size 30 CC := P
          have b4 : Below wr.heap.size wr wr.drew := (Below.refl _ _).drew
          have g4 := hbr.drew
          clear P hbr
          have hz4 : wr.drew.heap.size = wr.heap.size := rfl
          generalize wr.drew = w4 at *
          have HLo := Lib.hid (longer_any (p := p) (s := stK (K t)) (Hp.out _ g4) Hsok.out (Nat.le_refl _) (show p.n + 1 ≤ 1048576 by have := Hd.out; omega))
          simp only [Stp.cells, stI, stK] at HLo
          refine wpAnyH_ready (rs := [15]) (by kernel_rfl) (by simp) ?_
          refine AllReadyH.cons rfl (fun KK hK => ?_) AllReadyH.nil
          go_simp
          go_at_call 50
          refine HLo.out.mono ?_
          rintro _ w5 ⟨r, rfl, hr, hrs, hrb, h5⟩
          clear HLo
          have P5 := Whole.below P4 h5 P4.lt
          have g5 := below_then g4 h5
          have b5 := below_then b4 h5
          have hz5 := h5.size
          refine hK.out _ _ ⟨P5, g5⟩ (fun hS5 => ?_)
          clear hK KK
          try simp only [Act.put, List.getElem_toArray, List.getElem_cons_zero, List.getElem_cons_succ, List.setIfInBounds_toArray, List.set_cons_zero, List.set_cons_succ]
          have hrs2 : r.steps = p.steps ++ [stK (K t)] := hrs
          have hrn : r.n = p.n + 1 := by rw [← r.steps_len, hrs2, List.length_append, hpn]; rfl
          have hsl := HSF.out t
          have hle := HFle.out (t + 1) fn hin
          have hlen := Hlen.out
          have hdd1 := Hd.out
          have HR := Lib.hid (HF.out t r (d - 1) w5 ((HIn.out _ g5).up g5.size) hr HUi.out (by omega) (by rw [hrs2]; omega))
          unfold UnderOut at HR
          rw [hrs2] at HR
          have Hrb : Hid (wr.heap.size ≤ r.b) := Lib.hid (by have := hrb (by omega); omega)
          have Hpos := Lib.hid (walk_pos (HIn.out _ g5) (p.steps ++ [stK (K t)]))
          clear hrn hrs hrs2 hsl hle hlen hdd1 hrb
          simp only [Vh.cells] at HR
          refine wpAnyH_ready (rs := [16]) (by kernel_rfl) (by simp) ?_
          refine AllReadyH.cons rfl (fun KK hK => ?_) AllReadyH.nil
          go_simp
          go_at_call 37
          refine HR.out.mono ?_
          rintro _ w6 ⟨v1, rfl, hrow1, h6⟩
          clear HR
          have P6 := Whole.below P5 h6 P5.lt
          have g6 := below_then g5 h6
          have b6 := below_then b5 h6
          have hz6 := h6.size
          obtain ⟨gs, egs, hgown, hgf⟩ := hrow1
          obtain ⟨fs, efs, hown, hff⟩ := Hrow.out.below b6
          have hgl : gs.length = ((F t).walk (p.steps ++ [stK (K t)])).length := by have := congrArg List.length egs; simpa using this
          have hfl : fs.length = 1 + ML ln + MF t := by have := congrArg List.length efs; simp only [List.length_map, List.length_cons, List.length_append] at this; rw [HLl.out, HFl.out] at this; omega
          have hgpos : 0 < gs.length := by rw [hgl]; exact Hpos.out
          obtain ⟨g1, cap1, cur1, rfl, -⟩ : ∃ (g1 cap1 : Nat) (cur1 : Array Value), v1 = .slice (some ⟨g1, 0, none⟩) gs.length cap1 ∧ cur1 = cur1 := by
            rcases hgown.2 with ⟨-, e0⟩ | ⟨g1, cap1, cur1, e1, -⟩
            · omega
            · exact ⟨g1, cap1, cur1, e1, rfl⟩
          have HSub : Hid (∀ g, v0.ownBlock = some g → w.heap.size + 1 ≤ g ∧ g < wr.heap.size) := Lib.hid fun g hg => by obtain ⟨_, _, ho, _⟩ := Hrow.out; exact ho.lt g hg
          have HG2 := Lib.hid (fun f (hf : f ∈ gs) => (⟨(hgf f hf).1, fun q => by
            have h1 := ((hgf f hf).2 q).1
            have h2 := Hrb.out
            refine ⟨.inr (by rcases h1 with h1 | h1 <;> omega), fun e => ?_⟩
            have := (HSub.out _ e.symm).2
            rcases h1 with h1 | h1 <;> omega⟩ : f.In w6 w6.heap.size ∧ (0 < f.n → (f.b = p.b ∨ w.heap.size + 1 ≤ f.b) ∧ some f.b ≠ v0.ownBlock)))
          have s1 := Lib.hid (hgown.cells (g := g1) rfl)
          have s2 := Lib.hid (val_one gs)
          have hsl := HSF.out t
          have hle := HFle.out (t + 1) fn hin
          have hlen := Hlen.out
          have s3 : Hid (fs.length + gs.length ≤ maxLen) := Lib.hid (by unfold maxLen; omega)
          have s4 : Hid ((fs.length + gs.length) * 24 ≤ 140737488355328) := Lib.hid (by omega)
          have s5 : Hid (w.heap.size + 1 ≤ w6.heap.size) := Lib.hid (by omega)
          have hlm : (gs.map Pth.val).length = gs.length * 1 := by simp
          have Hown := Lib.hid hown
          have Hff := Lib.hid hff
          have Hefs := Lib.hid efs
          have Hegs := Lib.hid egs
          have Hsl := Lib.hid hsl
          have Hgp := Lib.hid hgpos
          clear hown hff hgown hgf hsl hle hlen efs egs hgl hfl hgpos
          refine hK.out _ _ ⟨P6, g6⟩ (fun hS6 => ?_)
          clear hK KK
          try simp only [Act.put, List.getElem_toArray, List.getElem_cons_zero, List.getElem_cons_succ, List.setIfInBounds_toArray, List.set_cons_zero, List.set_cons_succ]
          refine wpAnyH_ready (rs := [17]) (by kernel_rfl) (by simp) ?_
          refine AllReadyH.cons rfl (fun KK hK => ?_) AllReadyH.nil
          refine step_append_lies _ (by rfl) _ _ _ (by rfl) (w.heap.size + 1) 31 i0 _ 1 24 Tryd.underlying42 hi0 hz0 hz1 hz2 rfl (by decide) v0 fs.length _ (by rfl) Hown.out ⟨g1, 0, none⟩ gs.length cap1 (gs.map Pth.val) (by rfl) hlm s1.out s2.out Hgp.out s3.out s4.out s5.out w6.heap.size rfl ?_
          intro gg cap w7 hown7 hgrow7 hat7 hlt7
          have hrow7 := PRow.join (S := fun b => b = p.b ∨ w.heap.size + 1 ≤ b) Hown.out Hff.out HG2.out hown7 hgrow7 (hat7.elim (fun q => .inl q.symm) (fun q => .inr (by rw [q]; rfl)))
          rw [Hefs.out, Hegs.out] at hrow7
          have P7 := P6.kept hgrow7 (fun e => by have := (HSub.out _ e.symm).1; omega)
          have g7 := g6.grown hgrow7 (by omega) (fun g hg => by have := (HSub.out g hg).1; omega)
          rw [List.cons_append, List.append_assoc, ← flF_succ] at hrow7
          have Hrow7 := Lib.hid hrow7
          clear hrow7 Hown Hff HG2 hown7 hgrow7 hat7 Hefs Hegs s1 s2 s3 s4 s5
          refine hK.out _ _ ⟨P7, g7⟩ (fun hS7 => ?_)
          clear hK KK
          try simp only [Act.put, List.getElem_toArray, List.getElem_cons_zero, List.getElem_cons_succ, List.setIfInBounds_toArray, List.set_cons_zero, List.set_cons_succ]
          refine wpAnyH_take (i := 18) (v := ?v18x26) rfl (by kernel_rfl) (by kernel_rfl) (by kernel_rfl) (fun _ _ _ h => h) (Or.inl ⟨by rfl, ?hy18x26⟩) hS7 ?rest18x26
          case hy18x26 => (intro wS hSw; go_simp; (try with_reducible rfl))
          case rest18x26 =>
          simp only [Act.put, List.getElem_toArray, List.getElem_cons_zero, List.getElem_cons_succ, List.setIfInBounds_toArray, List.set_cons_zero, List.set_cons_succ]
          refine wpAnyH_done (by kernel_rfl) ?_ _
          clear hS hS5 hS6 hS7 Hrow
          rw [← HCC.out] at P7
          go_wp2
          go_roundw
          case rel => exact ⟨t + 1, _, rfl, by omega, by go_num, Hrow7.out, g7, P7⟩
          case measure => simp [intOf]; omega
        · have etf : t = fn := by omega
          subst etf
          have c12 := P.cell 12
          simp only [List.getElem?_toArray, List.getElem?_cons_succ, List.getElem?_cons_zero] at c12
          go_wp2
          go_ret
          exact HOUT.out _ _ Hrow.out hbr
/-- Paths. -/
theorem paths_ref {T : Vt} {w : World} (hT : T.In w w.heap.size) (hu : T.upto 48) (hlen : (T.walk []).length ≤ 65536) :
    Calls Tryd.prog 15 #[.agg T.h.cells] w fun e w' => ∃ v, e = .returned v ∧ PRow w.heap.size (w.heap.size ≤ ·) w' v ((T.walk []).map Prod.fst) ∧ Below w.heap.size w w' := by
  have hb0 := (Below.refl w.heap.size w).alloc (Nat.le_refl _) (.cells T.h.cells 30)
  have P := Whole.new w 30 T.h.cells
  have HU := Lib.hid (under_any T ⟨none, 0, 0, w.heap.size, 0, fun _ => default⟩ 48 (w.alloc (.cells T.h.cells 30)) (hT.later hb0) ⟨fun q => absurd q (Nat.lt_irrefl _), ⟨Nat.zero_le _, Nat.le_refl _, Nat.zero_le _⟩, fun i hi => absurd hi (Nat.not_lt_zero _)⟩ hu (by show 0 + 48 ≤ 1000; omega) hlen)
  have HO : Hid (∀ v w', PRow (w.alloc (.cells T.h.cells 30)).heap.size (fun b => b = w.heap.size ∨ (w.alloc (.cells T.h.cells 30)).heap.size ≤ b) w' v ((T.walk []).map Prod.fst) → PRow w.heap.size (w.heap.size ≤ ·) w' v ((T.walk []).map Prod.fst)) := Lib.hid fun v w' h => h.weaken (by simp) (fun b q => by simp only [World.size_alloc] at q; omega)
  clear hT hu hlen
  unfold UnderOut at HU
  rw [show Pth.steps ⟨none, 0, 0, w.heap.size, 0, fun _ => default⟩ = [] from rfl] at HU
  obtain ⟨c0, c1, c2, c3, c4, c5, c6, c7, c8, c9, c10, c11, c12⟩ := Whole.c13 (h := T.h) P
  simp only [Vh.cells] at HU hb0 c0 c1 c2 c3 c4 c5 c6 c7 c8 c9 c10 c11 c12 HO ⊢
  go_enter Tryd.func15, Tryd.ntmps15
  go_wp2_with fail
  refine HU.out.mono ?_
  rintro _ w1 ⟨v, rfl, hrow, hb1⟩
  have g1 := below_then hb0 hb1
  have Hr := Lib.hid (HO.out _ _ hrow)
  clear hrow HU HO c0 c1 c2 c3 c4 c5 c6 c7 c8 c9 c10 c11 c12
  go_wp2
  go_ret
  exact ⟨v, rfl, Hr.out, g1⟩
end Go.Proofs.YtfkfboiblgoamaaDoor
