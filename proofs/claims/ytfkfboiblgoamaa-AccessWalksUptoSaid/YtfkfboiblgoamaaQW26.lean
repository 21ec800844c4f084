/- Laid together for one claim: VtLawW, Base. -/
import Derived.Test.YtfkfboiblgoamaaQW24
import Derived.Test.YtfkfboiblgoamaaQW25
import Derived.Test.YtfkfboiblgoamaaQW18
import Derived.Test.YtfkfboiblgoamaaQW17
import Derived.Below
import Derived.ChangeSame
import Derived.ProofKit
/- The law of Walk, walked. -/
namespace Go.Proofs.Ytfkfboiblgoamaa
open Go.RowKit Go.Shelf
set_option linter.unusedSimpArgs false
set_option linter.unusedVariables false
attribute [local go_sem] Oper.semAt_some

theorem Vt.atN_congr {T : Vt} {S S' : Nat → Stp} : ∀ {n : Nat}, (∀ i, i < n → S i = S' i) → T.atN S n = T.atN S' n := by
  intro n
  induction n with
  | zero => intro _; rfl
  | succ n ih =>
    intro h
    have e := ih (fun i hi => h i (by omega))
    show (if (T.atN S n).2 ≠ 0 then T.atN S n else if ((T.atN S n).1.find (S n)).2 ≠ 0 then ((T.atN S n).1, ((T.atN S n).1.find (S n)).2) else ((T.atN S n).1.part ((T.atN S n).1.find (S n)).1.toNat, 0)) = _
    rw [e, h n (Nat.lt_succ_self n)]
    rfl
/-- What the reference's Get gives at the k-th path. -/
theorem walk_getV {T : Vt} {p : Pth} {U : Vt} (hg : T.good) (hu : T.upto 48) (hsz : T.size ≤ 65536) (hm : (p.steps, U) ∈ T.walk []) : T.getV p.S p.n = (U, 0) ∧ ∃ n, T.atN p.S n = (U, 0) := by
  obtain ⟨s, h1, h2, h3, h4⟩ := Vt.walk_at hg hu hsz (q := []) hm
  rw [List.nil_append] at h1
  have hl : p.n = s.length := by rw [← p.steps_len, h1]
  have hS : ∀ i, i < p.n → p.S i = lst s i := fun i hi => by rw [Pth.steps_get hi, h1]
  have ha : T.atN p.S p.n = (U, 0) := by rw [Vt.atN_congr hS, hl]; exact h2
  have hB : pathB p.S p.n = true := pathB_yes ⟨by omega, fun i hi => by
    rw [hS i hi, lst_get (by omega)]
    exact h4 _ (List.getElem_mem _)⟩
  refine ⟨?_, _, ha⟩
  unfold Vt.getV Vt.get
  rw [if_pos hB, ha, if_pos rfl]
/-- A boxed variable as the result. -/
theorem ret_box {fn : Func} {p : Tmp} (h : fn.results = #[.cell p 4]) {tmps : Array Value} {W : World} {B : Nat} {v : Value} (hp : tmps.getD p undef = .pointer (some ⟨B, 0, none⟩)) (hc : W.cell? ⟨B, 0, none⟩ = some v) :
    (results fn tmps).run Try.prog W = .ok v W := by
  have hp' : tmps[p]?.getD undef = .pointer (some ⟨B, 0, none⟩) := by simpa using hp
  have hu : Try.prog.underlying 4 = some .bool := Try.underlying4
  simp [results, h, hp', asAddr, go_sem, hu, hc]
set_option maxRecDepth 100000 in
set_option maxHeartbeats 2000000 in
theorem walk_AccessWalks (W : World) (T : Vt) (hT : T.In W W.heap.size) (n : Int) (hn : (Lit.int .u8 n).wf = true) :
    Calls Try.prog 3 #[.agg T.h.cells, .int .u8 n] W fun e W' => e = .returned (.bool true) ∧ Below W.heap.size W W' := by
  obtain ⟨n0, n1⟩ := bounds_u8 hn
  obtain ⟨m, rfl⟩ : ∃ m : Nat, n = m := ⟨n.toNat, by omega⟩
  clear hn
  have hb0 := (((Below.refl W.heap.size W).alloc (Nat.le_refl _) (.cells T.h.cells 30)).alloc (by simp) (.cells #[.int .u8 m] 5)).alloc (by simp; omega) (.cells #[.bool false] 4)
  have P := ((Whole.new W 30 T.h.cells).alloc (.cells #[.int .u8 m] 5)).alloc (.cells #[.bool false] 4)
  have N := (Boxed.new (W.alloc (.cells T.h.cells 30)) 5 (.int .u8 m)).alloc (.cells #[.bool false] 4)
  rw [World.size_alloc] at N
  have R := Boxed.new ((W.alloc (.cells T.h.cells 30)).alloc (.cells #[.int .u8 m] 5)) 4 (.bool false)
  rw [World.size_alloc, World.size_alloc] at R
  have HV := Lib.hid (fun (w1 : World) (hb : Below W.heap.size W w1) => lvalid_any (Vt.In.below hb hT) hb.size)
  obtain ⟨B, hB⟩ : ∃ B, vldB T = B := ⟨_, rfl⟩
  rw [hB] at HV
  cases B
  · clear hT hB
    simp only [Vh.cells] at hb0 HV P N R ⊢
    go_enter Try.func3, Try.ntmps3
    go_wp2_with fail
    refine (HV.out _ hb0).mono ?_; rintro _ w1 ⟨rfl, hb1⟩
    have R1 : Boxed w1 (W.heap.size + 1 + 1) 4 (.bool false) := (hb1.block _ R.lt).trans R
    have rc := R1.cell
    have rf := R1.frozen
    go_wp2
    exact bodyPost_ret (v := .bool true) (ret_box (p := 4) rfl rfl (Boxed.set (.bool true) R1).cell) rfl ⟨rfl, (below_then hb0 hb1).setCell (p := ⟨W.heap.size + 1 + 1, 0, none⟩) (by show W.heap.size ≤ W.heap.size + 1 + 1; omega) _⟩
  obtain ⟨hg, hu, hsz⟩ := valid_parts hT.whole hB
  have hsz : T.size ≤ 65536 := by omega
  obtain ⟨hwl, hwE⟩ := walk_bounds hT hg hu hsz
  have HPa := Lib.hid (fun (w1 : World) (hb : Below W.heap.size W w1) => paths_ref ((Vt.In.below hb hT).up hb.size) hu (by omega))
  have HGv : Hid (∀ (p : Pth) (U : Vt), (p.steps, U) ∈ T.walk [] → T.getV p.S p.n = (U, 0) ∧ ∃ n, T.atN p.S n = (U, 0)) := Lib.hid fun p U hm => walk_getV hg hu hsz hm
  have HT := Lib.hid hT
  have HU := Lib.hid hu
  have HWE := Lib.hid hwE
  have Hwl : Hid ((T.walk []).length ≤ 65536) := Lib.hid (by omega)
  have hq : ∀ (B : Nat) (W : World), (binOp .eql 35 (.func (.func 28) #[] #[.pointer (some ⟨B, 0, none⟩)]) .nilFunc).run Try.prog W = .ok (.bool false) W := fun _ _ => by kernel_rfl
  clear hT hg hu hwE hwl hsz hB
  have hWM := Lib.hid (fun w1 => walk_make T w1)
  simp only [Vh.cells] at hb0 HV P N R HPa hWM ⊢
  refine (callsIn_wide (n := 5)).1 ?_
  refine callsIn_of_wp_marks Try.func3 rfl trivial ?_ rfl
  simp only [Try.ntmps3, List.size_toArray, List.length_cons, List.length_nil, Nat.reduceAdd, Nat.reduceSub, Array.replicate_succ, Array.replicate_zero, List.push_toArray, List.append_toArray, List.nil_append, List.cons_append]
  gi_wp2_with fail
  refine ⟨trivial, (callsIn_wide.2 (HV.out _ hb0)).mono ?_⟩
  rintro _ w1 ⟨rfl, hb1⟩
  have g1 := below_then hb0 hb1
  have P1 := P.below hb1 P.lt
  have N1 : Boxed w1 (W.heap.size + 1) 5 (.int .u8 m) := (hb1.block _ N.lt).trans N
  have R1 : Boxed w1 (W.heap.size + 1 + 1) 4 (.bool false) := (hb1.block _ R.lt).trans R
  clear P N R hb0 hb1 HV
  obtain ⟨c0, c1, c2, c3, c4, c5, c6, c7, c8, c9, c10, c11, c12⟩ := Whole.c13 (h := T.h) P1
  gi_wp2_with fail
  refine ⟨trivial, (callsIn_wide.2 (HPa.out _ g1)).mono ?_⟩
  rintro _ W4 ⟨v, rfl, hrow, hb2⟩
  clear c0 c1 c2 c3 c4 c5 c6 c7 c8 c9 c10 c11 c12
  have g4 := below_then g1 hb2
  have P4 := P1.below hb2 P1.lt
  have N4 : Boxed W4 (W.heap.size + 1) 5 (.int .u8 m) := (hb2.block _ N1.lt).trans N1
  have R4 : Boxed W4 (W.heap.size + 1 + 1) 4 (.bool false) := (hb2.block _ R1.lt).trans R1
  have hR4 := R4.lt
  obtain ⟨a, c, b, f, rfl, hcc, ha, hf⟩ := hrow.get
  have HA : Hid (0 < (T.walk []).length → a = some ⟨b, 0, none⟩ ∧ b < W4.heap.size) := Lib.hid fun q => by rw [List.length_map] at ha; exact ⟨(ha q).1, (ha q).2.2⟩
  have HF : Hid (∀ i (e : List Stp × Vt), (T.walk [])[i]? = some e → W4.cell? ⟨b, i, none⟩ = some (.slice (f i).a (f i).n (f i).c) ∧ (f i).In W4 W4.heap.size ∧ (f i).steps = e.1) := Lib.hid fun i e he => by
    have hi : i < ((T.walk []).map Prod.fst).length := by rw [List.length_map]; exact (List.getElem?_eq_some_iff.1 he).1
    obtain ⟨h1, h2, h3, -⟩ := hf i hi
    refine ⟨h1, h2, ?_⟩
    rw [h3]
    obtain ⟨hlt, hee⟩ := List.getElem?_eq_some_iff.1 he
    simp [hee]
  rw [List.length_map] at hcc ⊢
  obtain ⟨LN, hLN⟩ : ∃ LN, (T.walk []).length = LN := ⟨_, rfl⟩
  rw [hLN] at HA Hwl hcc ⊢
  have HLN := Lib.hid hLN
  have hLb := Hwl.out
  have l0 : (0 : Int) ≤ LN := by omega
  have l1 : (LN : Int) ≤ 65536 := by omega
  clear hrow ha hf hLN hb2 g1 P1 N1 R1
  have a2 := Boxed.new W4 32 (.slice a LN c)
  have gA := g4.alloc g4.size (.cells #[.slice a LN c] 32)
  have hA4 : Below W4.heap.size W4 (W4.alloc (.cells #[.slice a LN c] 32)) := (Below.refl _ W4).alloc (Nat.le_refl _) _
  have PA := P4.below hA4 P4.lt
  obtain ⟨c0, c1, c2, c3, c4, c5, c6, c7, c8, c9, c10, c11, c12⟩ := Whole.c13 (h := T.h) PA
  gi_wp2_with fail
  refine ⟨trivial, (callsIn_wide.2 (hWM.out _)).mono ?_⟩
  rintro _ _ ⟨rfl, rfl⟩
  clear c0 c1 c2 c3 c4 c5 c6 c7 c8 c9 c10 c11 c12
  have hzA : (W4.alloc (.cells #[.slice a LN c] 32)).heap.size = W4.heap.size + 1 := by simp
  generalize W4.alloc (.cells #[.slice a LN c] 32) = W5 at *
  have Pv := Whole.new W5 30 #[.int .i64 T.h.k, .bool T.h.b, .bool T.h.n, .string T.h.d, .int .i64 T.h.e, .int .i64 T.h.tk, .int .i64 T.h.td, .int .i64 T.h.tn, .int .i64 T.h.tz, .string T.h.x, .slice T.h.ba T.h.bn T.h.bc, .slice T.h.la T.h.ln T.h.lc, .slice T.h.fa T.h.fn T.h.fc]
  have P0 := (PA.alloc (.cells #[.int .i64 T.h.k, .bool T.h.b, .bool T.h.n, .string T.h.d, .int .i64 T.h.e, .int .i64 T.h.tk, .int .i64 T.h.td, .int .i64 T.h.tn, .int .i64 T.h.tz, .string T.h.x, .slice T.h.ba T.h.bn T.h.bc, .slice T.h.la T.h.ln T.h.lc, .slice T.h.fa T.h.fn T.h.fc] 30)).alloc (.cells #[.int .i64 0] 3)
  have A0 := (a2.alloc (.cells #[.int .i64 T.h.k, .bool T.h.b, .bool T.h.n, .string T.h.d, .int .i64 T.h.e, .int .i64 T.h.tk, .int .i64 T.h.td, .int .i64 T.h.tn, .int .i64 T.h.tz, .string T.h.x, .slice T.h.ba T.h.bn T.h.bc, .slice T.h.la T.h.ln T.h.lc, .slice T.h.fa T.h.fn T.h.fc] 30)).alloc (.cells #[.int .i64 0] 3)
  have hN0 : Boxed W5 (W.heap.size + 1) 5 (.int .u8 m) := (hA4.block _ N4.lt).trans N4
  have hR0 : Boxed W5 (W.heap.size + 1 + 1) 4 (.bool false) := (hA4.block _ R4.lt).trans R4
  have N0 := (hN0.alloc (.cells #[.int .i64 T.h.k, .bool T.h.b, .bool T.h.n, .string T.h.d, .int .i64 T.h.e, .int .i64 T.h.tk, .int .i64 T.h.td, .int .i64 T.h.tn, .int .i64 T.h.tz, .string T.h.x, .slice T.h.ba T.h.bn T.h.bc, .slice T.h.la T.h.ln T.h.lc, .slice T.h.fa T.h.fn T.h.fc] 30)).alloc (.cells #[.int .i64 0] 3)
  have R0 := (hR0.alloc (.cells #[.int .i64 T.h.k, .bool T.h.b, .bool T.h.n, .string T.h.d, .int .i64 T.h.e, .int .i64 T.h.tk, .int .i64 T.h.td, .int .i64 T.h.tn, .int .i64 T.h.tz, .string T.h.x, .slice T.h.ba T.h.bn T.h.bc, .slice T.h.la T.h.ln T.h.lc, .slice T.h.fa T.h.fn T.h.fc] 30)).alloc (.cells #[.int .i64 0] 3)
  have Pv0 := Pv.alloc (.cells #[.int .i64 0] 3)
  have T0 := Boxed.new (W5.alloc (.cells #[.int .i64 T.h.k, .bool T.h.b, .bool T.h.n, .string T.h.d, .int .i64 T.h.e, .int .i64 T.h.tk, .int .i64 T.h.td, .int .i64 T.h.tn, .int .i64 T.h.tz, .string T.h.x, .slice T.h.ba T.h.bn T.h.bc, .slice T.h.la T.h.ln T.h.lc, .slice T.h.fa T.h.fn T.h.fc] 30)) 3 (.int .i64 0)
  have hzL : ((W5.alloc (.cells #[.int .i64 T.h.k, .bool T.h.b, .bool T.h.n, .string T.h.d, .int .i64 T.h.e, .int .i64 T.h.tk, .int .i64 T.h.td, .int .i64 T.h.tn, .int .i64 T.h.tz, .string T.h.x, .slice T.h.ba T.h.bn T.h.bc, .slice T.h.la T.h.ln T.h.lc, .slice T.h.fa T.h.fn T.h.fc] 30)).alloc (.cells #[.int .i64 0] 3)).heap.size = W4.heap.size + 3 := by simp; omega
  rw [World.size_alloc, hzA] at T0
  rw [hzA] at Pv0
  have g0 := (gA.alloc gA.size (.cells #[.int .i64 T.h.k, .bool T.h.b, .bool T.h.n, .string T.h.d, .int .i64 T.h.e, .int .i64 T.h.tk, .int .i64 T.h.td, .int .i64 T.h.tn, .int .i64 T.h.tz, .string T.h.x, .slice T.h.ba T.h.bn T.h.bc, .slice T.h.la T.h.ln T.h.lc, .slice T.h.fa T.h.fn T.h.fc] 30)).alloc (by simp; have := gA.size; omega) (.cells #[.int .i64 0] 3)
  have b40 : Below W4.heap.size W4 ((W5.alloc (.cells #[.int .i64 T.h.k, .bool T.h.b, .bool T.h.n, .string T.h.d, .int .i64 T.h.e, .int .i64 T.h.tk, .int .i64 T.h.td, .int .i64 T.h.tn, .int .i64 T.h.tz, .string T.h.x, .slice T.h.ba T.h.bn T.h.bc, .slice T.h.la T.h.ln T.h.lc, .slice T.h.fa T.h.fn T.h.fc] 30)).alloc (.cells #[.int .i64 0] 3)) := (hA4.alloc hA4.size (.cells #[.int .i64 T.h.k, .bool T.h.b, .bool T.h.n, .string T.h.d, .int .i64 T.h.e, .int .i64 T.h.tk, .int .i64 T.h.td, .int .i64 T.h.tn, .int .i64 T.h.tz, .string T.h.x, .slice T.h.ba T.h.bn T.h.bc, .slice T.h.la T.h.ln T.h.lc, .slice T.h.fa T.h.fn T.h.fc] 30)).alloc (by simp; omega) (.cells #[.int .i64 0] 3)
  gi_wp2_with fail
  clear Pv PA a2 hN0 hR0 N4 R4 P4 gA hA4 hzA
  generalize (W5.alloc (.cells #[.int .i64 T.h.k, .bool T.h.b, .bool T.h.n, .string T.h.d, .int .i64 T.h.e, .int .i64 T.h.tk, .int .i64 T.h.td, .int .i64 T.h.tn, .int .i64 T.h.tz, .string T.h.x, .slice T.h.ba T.h.bn T.h.bc, .slice T.h.la T.h.ln T.h.lc, .slice T.h.fa T.h.fn T.h.fc] 30)).alloc (.cells #[.int .i64 0] 3) = W0 at *
  have HT0 := Lib.hid (HT.out.below g0)
  have hPv : Whole W0 (W4.heap.size + 1) 30 T.h.cells := Pv0
  have HP0 := Lib.hid P0
  have HN0 := Lib.hid N0
  have HA0 := Lib.hid A0
  have HR0 := Lib.hid R0
  have HB40 := Lib.hid b40
  have HG0 := Lib.hid g0
  clear P0 N0 A0 R0 b40 g4 Pv0
  have hw4 := g0.size
  refine wpIn_rangeFunc_toldA (by omega : 1 ≤ 5) (gf := 28) (lb := #[.pointer (some ⟨W4.heap.size + 1, 0, none⟩)]) rfl (enters_of Try.func28 (by kernel_rfl) rfl)
    (walk_told (T := T) (top := W.heap.size) (Bv := W4.heap.size + 1) HT0.out (by omega) HU.out hPv HWE.out) (fun _ => rfl) (argOk_kept _)
    (fun k O W' => O = (fun b => b = W4.heap.size + 2) ∧ Boxed W' (W4.heap.size + 2) 3 (.int .i64 k) ∧ Below (W4.heap.size + 2) W0 W' ∧ k ≤ m)
    (fun cc k W' => cc = .exit 0 ∧ k = m + 1 ∧ Boxed W' (W4.heap.size + 2) 3 (.int .i64 k) ∧ Below (W4.heap.size + 2) W0 W')
    (fun k O V V' _ hI hk => by rw [hzL] at hk; exact ⟨hI.1, Boxed.keptX hI.2.1 hk (by omega), hI.2.2.1.trans (hk.below (by have := hI.2.2.1.size; omega) (fun b q => by omega)), hI.2.2.2⟩)
    (fun cc k V V' _ hI hk => by rw [hzL] at hk; exact ⟨hI.1, hI.2.1, Boxed.keptX hI.2.2.1 hk (by omega), hI.2.2.2.trans (hk.below (by have := hI.2.2.2.size; omega) (fun b q => by omega))⟩)
    (fun k O V hI => by rw [hzL]; intro b q; rw [hI.1] at q; have := hI.2.1.lt; exact ⟨by omega, by omega, by omega⟩)
    (fun b => b = W4.heap.size + 2)
    (fun b q e => by omega)
    (fun b q => by rw [hzL]; omega)
    ⟨rfl, T0, Below.refl _ _, by omega⟩
    (fun x a' V => ∃ Bx, W4.heap.size + 5 ≤ Bx ∧ Whole V Bx 30 x.2.h.cells ∧ a' = { tmps := #[.agg #[.int .i64 T.h.k, .bool T.h.b, .bool T.h.n, .string T.h.d, .int .i64 T.h.e, .int .i64 T.h.tk, .int .i64 T.h.td, .int .i64 T.h.tn, .int .i64 T.h.tz, .string T.h.x, .slice T.h.ba T.h.bn T.h.bc, .slice T.h.la T.h.ln T.h.lc, .slice T.h.fa T.h.fn T.h.fc], .int .u8 m, .pointer (some ⟨W.heap.size, 0, none⟩), .pointer (some ⟨W.heap.size + 1, 0, none⟩), .pointer (some ⟨W.heap.size + 1 + 1, 0, none⟩), .pointer (some ⟨W4.heap.size, 0, none⟩), .func (.func 28) #[] #[.pointer (some ⟨W4.heap.size + 1, 0, none⟩)], .pointer (some ⟨W4.heap.size + 2, 0, none⟩), .slice x.1.a x.1.n x.1.c, .pointer (some ⟨Bx, 0, none⟩), undef, undef, .agg #[.int .i64 T.h.k, .bool T.h.b, .bool T.h.n, .string T.h.d, .int .i64 T.h.e, .int .i64 T.h.tk, .int .i64 T.h.td, .int .i64 T.h.tn, .int .i64 T.h.tz, .string T.h.x, .slice T.h.ba T.h.bn T.h.bc, .slice T.h.la T.h.ln T.h.lc, .slice T.h.fa T.h.fn T.h.fc], .bool true, .bool false, .agg #[.int .i64 T.h.k, .bool T.h.b, .bool T.h.n, .string T.h.d, .int .i64 T.h.e, .int .i64 T.h.tk, .int .i64 T.h.td, .int .i64 T.h.tn, .int .i64 T.h.tz, .string T.h.x, .slice T.h.ba T.h.bn T.h.bc, .slice T.h.la T.h.ln T.h.lc, .slice T.h.fa T.h.fn T.h.fc], .slice a LN c, .agg #[.int .i64 T.h.k, .bool T.h.b, .bool T.h.n, .string T.h.d, .int .i64 T.h.e, .int .i64 T.h.tk, .int .i64 T.h.td, .int .i64 T.h.tn, .int .i64 T.h.tz, .string T.h.x, .slice T.h.ba T.h.bn T.h.bc, .slice T.h.la T.h.ln T.h.lc, .slice T.h.fa T.h.fn T.h.fc], .func (.func 28) #[] #[.pointer (some ⟨W4.heap.size + 1, 0, none⟩)], .func (.func 28) #[] #[.pointer (some ⟨W4.heap.size + 1, 0, none⟩)], .bool false, .func (.func 28) #[] #[.pointer (some ⟨W4.heap.size + 1, 0, none⟩)], .slice x.1.a x.1.n x.1.c, .agg #[.int .i64 x.2.h.k, .bool x.2.h.b, .bool x.2.h.n, .string x.2.h.d, .int .i64 x.2.h.e, .int .i64 x.2.h.tk, .int .i64 x.2.h.td, .int .i64 x.2.h.tn, .int .i64 x.2.h.tz, .string x.2.h.x, .slice x.2.h.ba x.2.h.bn x.2.h.bc, .slice x.2.h.la x.2.h.ln x.2.h.lc, .slice x.2.h.fa x.2.h.fn x.2.h.fc], undef, undef, undef, undef, undef, undef, undef, undef, undef, undef, undef, undef, undef, undef, undef, undef, undef, undef, undef, undef, undef, undef, undef, undef, undef, undef, undef, undef, undef, undef, undef, undef, undef, undef, undef, undef, undef, undef, undef, undef, undef, undef, undef, undef, undef, undef, undef], defers := [] })
    (fun x a' V V' _ h hk => by rw [hzL] at hk; obtain ⟨Bx, h1, h2, h3⟩ := h; exact ⟨Bx, h1, h2.keptO hk (by omega), h3⟩) ?assign ?body ?done ?stop
  case assign =>
    intro l k x O V K hs _ _ hK
    simp only [argEnc, Vh.cells]
    rw [hzL] at hs
    have Yb := Whole.new V 30 Vh.zero.cells
    have hone := Lib.hid (vh_all x.2.h)
    gi_wp2_with (refine wpListIn_store_row rfl 30 _ _ rfl V.heap.size x.2.h.cells rfl rfl 30 _ Yb vh_row rfl hone.out ?_)
    exact hK _ _ (below_setRow ((Below.refl _ V).alloc (Nat.le_refl _) _) (Nat.le_refl _) _) ⟨V.heap.size, by omega, Yb.setRow _, rfl⟩
  case body =>
    rintro l k x O a' V ⟨Bx, hBx, hPx, rfl⟩ hs ⟨hO, hb, hbl, hkm⟩ ⟨U, hEk, hXs, hp, hpo, hX, hXo⟩
    rw [hzL] at hs
    have hk1 : k < LN := by have := (List.getElem?_eq_some_iff.1 hEk).1; rw [← HLN.out]; exact this
    have hmem : (x.1.steps, U) ∈ T.walk [] := List.mem_of_getElem? hEk
    obtain ⟨f1, f2, f3⟩ := HF.out k _ hEk
    obtain ⟨e1, hblt⟩ := HA.out (by omega)
    subst e1
    obtain ⟨gv1, ng, gv2⟩ := HGv.out _ _ hmem
    have hb4 : Below W4.heap.size W4 V := HB40.out.trans (hbl.mono (by omega))
    have hbW : Below W.heap.size W V := HG0.out.trans (hbl.mono (by omega))
    have hTV : T.In V W.heap.size := HT.out.below hbW
    have hUV : U.In V W.heap.size := by have := Vt.In.atN hTV x.1.S ng; rw [gv2] at this; exact this
    have PV := HP0.out.below hbl (by omega)
    have NV : Boxed V (W.heap.size + 1) 5 (.int .u8 m) := (hbl.block _ (by omega)).trans HN0.out
    have AV : Boxed V W4.heap.size 32 (.slice (some ⟨b, 0, none⟩) LN c) := (hbl.block _ (by omega)).trans HA0.out
    have fc := (hb4.cell (p := ⟨b, k, none⟩) hblt).trans f1
    have HEq := Lib.hid (show Calls Try.prog 11 #[.slice x.1.a x.1.n x.1.c, .slice (f k).a (f k).n (f k).c] V fun e w' => e = .returned (.bool true) ∧ Below V.heap.size V w' by
      have := equal_any (p := x.1) (q := f k) (w := V) hp ((Pth.In.below f2 hb4).up hb4.size) (Nat.le_refl _)
      rw [f3, eqS_yes rfl] at this
      exact this)
    have HGe := Lib.hid (fun (V1 : World) (h : Below V.heap.size V V1) => show Calls Try.prog 12 #[.agg T.h.cells, .slice x.1.a x.1.n x.1.c] V1 fun r w' => r = .returned (.tuple #[.agg U.h.cells, .int .i64 0]) ∧ Below V1.heap.size V1 w' by
      have := rget_any (T := T) (p := x.1) (w := V1) (top := V.heap.size) ((hTV.up hbW.size).below h) (hp.below h) h.size
      rw [gv1] at this
      exact this)
    have HSa := Lib.hid (fun (V1 : World) (h : Below V.heap.size V V1) => show Calls Try.prog 13 #[.agg x.2.h.cells, .agg U.h.cells] V1 fun r w' => r = .returned (.bool true) ∧ Below V1.heap.size V1 w' by
      have := same_any x.2 U V.heap.size V1 (hX.below h) ((hUV.up hbW.size).below h) h.size
      rw [sameB_iff.2 hXs] at this
      exact this)
    have hPl := hPx.lt
    have hbL := hb.lt
    have HO := Lib.hid hO
    have Hbl := Lib.hid hbl
    have Hb := Lib.hid hb
    clear hXs hp hpo hX hXo hEk hmem f1 f2 f3 gv1 gv2 hTV hUV hO hb4 hbW
    have atc := hb.cell
    have nc := NV.cell
    have ac := AV.cell
    have ki0 : (0 : Int) ≤ k := by omega
    have ki1 : (k : Int) < LN := by omega
    have ki2 : (k : Int) ≤ m := by omega
    have ki3 : ¬ (m : Int) < k := by omega
    simp only [Vh.cells] at HGe HSa
    gi_wp2_with fail
    refine ⟨trivial, (CallsIn.inRound l (callsIn_wide.2 HEq.out)).mono ?_⟩
    rintro _ V1 ⟨rfl, h1⟩
    clear atc nc ac fc HEq
    have P1 := PV.below h1 PV.lt
    obtain ⟨c0, c1, c2, c3, c4, c5, c6, c7, c8, c9, c10, c11, c12⟩ := Whole.c13 (h := T.h) P1
    gi_wp2_with fail
    refine ⟨trivial, (CallsIn.inRound l (callsIn_wide.2 (HGe.out _ h1))).mono ?_⟩
    rintro _ V2 ⟨rfl, h2⟩
    have b2 := below_then h1 h2
    clear c0 c1 c2 c3 c4 c5 c6 c7 c8 c9 c10 c11 c12 P1 h1 h2 HGe
    have hz2 := b2.size
    have Yb := Whole.new V2 30 Vh.zero.cells
    have hone := Lib.hid (vh_all U.h)
    have b3 := (b2.alloc hz2 (.cells Vh.zero.cells 30))
    have b3 := below_setRow b3 hz2 U.h.cells
    have Y3 := Yb.setRow U.h.cells
    simp only [Vh.zero] at Yb b3 Y3
    obtain ⟨V3, hV3⟩ : ∃ V3, (V2.alloc (.cells #[.int .i64 0, .bool false, .bool false, .string ⟨#[]⟩, .int .i64 0, .int .i64 0, .int .i64 0, .int .i64 0, .int .i64 0, .string ⟨#[]⟩, .slice none 0 0, .slice none 0 0, .slice none 0 0] 30)).setRow V2.heap.size U.h.cells = V3 := ⟨_, rfl⟩
    have HV3 := Lib.hid hV3
    have b3 : Below V.heap.size V V3 := by rw [← hV3]; exact b3
    have Y3 : Whole V3 V2.heap.size 30 U.h.cells := by rw [← hV3]; exact Y3
    clear hV3
    have X3 := hPx.below b3 hPl
    obtain ⟨c0, c1, c2, c3, c4, c5, c6, c7, c8, c9, c10, c11, c12⟩ := Whole.c13 (h := x.2.h) X3
    obtain ⟨d0, d1, d2, d3, d4, d5, d6, d7, d8, d9, d10, d11, d12⟩ := Whole.c13 (h := U.h) Y3
    gi_wp2_with (refine wpListIn_store_row rfl 30 _ _ rfl V2.heap.size U.h.cells rfl rfl 30 _ Yb vh_row rfl hone.out ?_; rw [HV3.out])
    refine ⟨trivial, (CallsIn.inRound l (callsIn_wide.2 (HSa.out _ b3))).mono ?_⟩
    rintro _ V4 ⟨rfl, h4⟩
    have b4 := below_then b3 h4
    clear c0 c1 c2 c3 c4 c5 c6 c7 c8 c9 c10 c11 c12 d0 d1 d2 d3 d4 d5 d6 d7 d8 d9 d10 d11 d12 X3 Y3 HSa h4 b3 HV3 Yb b2 hz2
    have at4 : Boxed V4 (W4.heap.size + 2) 3 (.int .i64 k) := (b4.block _ hbL).trans Hb.out
    have n4 : Boxed V4 (W.heap.size + 1) 5 (.int .u8 m) := (b4.block _ NV.lt).trans NV
    have atc := at4.cell
    have atf := at4.frozen
    have nc := n4.cell
    have hcast : ((k + 1 : Nat) : Int) = (k : Int) + 1 := by omega
    have hKp : Kept O V (V4.setCell ⟨W4.heap.size + 2, 0, none⟩ (.int .i64 ((k : Int) + 1))) := (Kept.of b4).trans (kept_set O V4 _ 0 _ (by rw [HO.out])) (fun b q => .inl q)
    have hBx : Boxed (V4.setCell ⟨W4.heap.size + 2, 0, none⟩ (.int .i64 ((k : Int) + 1))) (W4.heap.size + 2) 3 (.int .i64 ((k + 1 : Nat) : Int)) := by rw [hcast]; exact Boxed.set _ at4
    have hBl : Below (W4.heap.size + 2) W0 (V4.setCell ⟨W4.heap.size + 2, 0, none⟩ (.int .i64 ((k : Int) + 1))) := (Hbl.out.trans (b4.mono (by omega))).setCell (p := ⟨W4.heap.size + 2, 0, none⟩) (Nat.le_refl _) _
    have HKp := Lib.hid hKp
    have HBx := Lib.hid hBx
    have HBl := Lib.hid hBl
    have nc5 : (V4.setCell ⟨W4.heap.size + 2, 0, none⟩ (.int .i64 ((k : Int) + 1))).cell? ⟨W.heap.size + 1, 0, none⟩ = some (.int .u8 m) := (World.cell?_of_block (a := ⟨W.heap.size + 1, 0, none⟩) (Below.heap_setCell _ _ _ _ (by show W.heap.size + 1 ≠ W4.heap.size + 2; omega))).trans nc
    clear hKp hBx hBl hcast at4 n4 NV AV PV hPx hPl Hbl hb hbl
    by_cases hlast : k = m
    · have hd : (m : Int) < (k : Int) + 1 := by omega
      have Hl := Lib.hid hlast
      clear hlast
      gi_wp2
      exact ⟨HKp.out, rfl, by have := Hl.out; omega, HBx.out, HBl.out⟩
    · have hd : ¬ (m : Int) < (k : Int) + 1 := by omega
      have Hl := Lib.hid hlast
      clear hlast
      gi_wp2
      exact ⟨HKp.out, O, ⟨HO.out, HBx.out, HBl.out, by have := Hl.out; omega⟩, fun b q => .inl q⟩
  case done =>
    rintro O V ⟨-, hb, hbl, hkm⟩ hK
    rw [HLN.out] at hb hkm
    rw [hzL] at hK
    have AV : Boxed V W4.heap.size 32 (.slice a LN c) := (hbl.block _ (by omega)).trans HA0.out
    have NV : Boxed V (W.heap.size + 1) 5 (.int .u8 m) := (hbl.block _ (by omega)).trans HN0.out
    have RV : Boxed V (W.heap.size + 1 + 1) 4 (.bool false) := (hbl.block _ (by omega)).trans HR0.out
    have atc := hb.cell
    have nc := NV.cell
    have ac := AV.cell
    have rc := RV.cell
    have rf := RV.frozen
    have HRs := Lib.hid (Boxed.set (.bool true) RV)
    have HBW : Hid (Below W.heap.size W (V.setCell ⟨W.heap.size + 1 + 1, 0, none⟩ (.bool true))) := Lib.hid ((HG0.out.trans (hbl.mono (by omega))).setCell (p := ⟨W.heap.size + 1 + 1, 0, none⟩) (by show W.heap.size ≤ W.heap.size + 1 + 1; omega) _)
    have HK : Hid ((V.setCell ⟨W.heap.size + 1 + 1, 0, none⟩ (.bool true)).heap[W4.heap.size + 3]? = some (.deferred (some []))) := Lib.hid ((Below.heap_setCell _ _ _ _ (by show W4.heap.size + 3 ≠ W.heap.size + 1 + 1; omega)).trans hK)
    have m1 : ¬ (m : Int) + 1 < LN := by omega
    have m2 : (LN : Int) ≤ (m : Int) + 1 := by omega
    have m3 : (LN : Int) < (m : Int) + 1 := by omega
    clear hK AV NV RV hb hbl
    gi_wp2
    refine ⟨by simp, .inl ⟨_, _, rfl, run_takeDeferred HK.out, ?_⟩⟩
    refine ⟨_, ret_box (p := 4) (v := .bool true) rfl rfl ((World.cell?_of_block (a := ⟨W.heap.size + 1 + 1, 0, none⟩) (World.putObj_heap_other (show W.heap.size + 1 + 1 ≠ W4.heap.size + 3 by omega))).trans HRs.out.cell), rfl, ?_⟩
    exact HBW.out.trans (Kept.below (Kept.put (fun b => b = W4.heap.size + 3) _ _ _ rfl) HBW.out.size (fun b q => by omega))
  case stop =>
    rintro cc k V hkN ⟨rfl, rfl, hb, hbl⟩ hK
    rw [HLN.out] at hkN
    rw [show ((m + 1 : Nat) : Int) = (m : Int) + 1 by omega] at hb
    rw [hzL] at hK
    have AV : Boxed V W4.heap.size 32 (.slice a LN c) := (hbl.block _ (by omega)).trans HA0.out
    have NV : Boxed V (W.heap.size + 1) 5 (.int .u8 m) := (hbl.block _ (by omega)).trans HN0.out
    have RV : Boxed V (W.heap.size + 1 + 1) 4 (.bool false) := (hbl.block _ (by omega)).trans HR0.out
    have atc := hb.cell
    have nc := NV.cell
    have ac := AV.cell
    have rc := RV.cell
    have rf := RV.frozen
    have HRs := Lib.hid (Boxed.set (.bool true) RV)
    have HBW : Hid (Below W.heap.size W (V.setCell ⟨W.heap.size + 1 + 1, 0, none⟩ (.bool true))) := Lib.hid ((HG0.out.trans (hbl.mono (by omega))).setCell (p := ⟨W.heap.size + 1 + 1, 0, none⟩) (by show W.heap.size ≤ W.heap.size + 1 + 1; omega) _)
    have HK : Hid ((V.setCell ⟨W.heap.size + 1 + 1, 0, none⟩ (.bool true)).heap[W4.heap.size + 3]? = some (.deferred (some []))) := Lib.hid ((Below.heap_setCell _ _ _ _ (by show W4.heap.size + 3 ≠ W.heap.size + 1 + 1; omega)).trans hK)
    have m1 : ¬ (LN : Int) < (m : Int) + 1 := by omega
    have m2 : (m : Int) + 1 ≤ LN := by omega
    clear hK AV NV RV hb hbl
    gi_wp2
    all_goals (try rw [show (((m : Int) + 1) == (LN : Int)) = true from beq_iff_eq.2 (by omega)])
    all_goals refine ⟨by simp, .inl ⟨_, _, rfl, run_takeDeferred HK.out, ?_⟩⟩
    all_goals refine ⟨_, ret_box (p := 4) (v := .bool true) rfl rfl ((World.cell?_of_block (a := ⟨W.heap.size + 1 + 1, 0, none⟩) (World.putObj_heap_other (show W.heap.size + 1 + 1 ≠ W4.heap.size + 3 by omega))).trans HRs.out.cell), rfl, ?_⟩
    all_goals exact HBW.out.trans (Kept.below (Kept.put (fun b => b = W4.heap.size + 3) _ _ _ rfl) HBW.out.size (fun b q => by omega))
end Go.Proofs.Ytfkfboiblgoamaa
/- Small lemmas that every law's last step uses: the row's post out of a world below which nothing has turned. -/
namespace Go.Proofs.Ytfkfboiblgoamaa
open Go.RowKit Go.WideShapes Go.ChangeShapes
section
variable {H : Type} {enc : TypeId × Value → H} {P : Program}
theorem post_of_below {f : Func} {s : ChangeSpec} {apart fresh handsOn again : Bool} {W W' : World} {args : Array Value} {v : Value} {ds gs : List (DataW H)} {before pa pv : List MemPlace}
    (hW : DataW.Whole enc P f.params.toList s.vars apart W args.toList ds gs before)
    (hres : ∀ (b : Nat) (sp : Nat → Bool) (hd : Bool), DataW.TrodAll enc P W' b sp hd f.resultTypes.toList (v.resultList f.resultTypes.size) (s.fn H (ds ++ gs)).results [])
    (hargs : ∀ sp : Nat → Bool, (∀ p ∈ before, sp p.block = true) → DataW.TrodAll enc P W' 0 sp true f.params.toList args.toList (s.fn H (ds ++ gs)).args pa)
    (hvars : ∀ sp : Nat → Bool, (∀ p ∈ before, sp p.block = true) → DataW.TrodVars enc P W' sp s.vars (s.fn H (ds ++ gs)).vars pv)
    (hps : before = pa ++ pv) (hb : Below W.heap.size W W')
    (hok : ∀ (j : Nat) (t : TypeId) (r : Value), f.resultTypes[j]? = some t → (v.resultList f.resultTypes.size)[j]? = some r → Value.okWide P W' .any 0 t r) :
    s.post enc P f apart fresh handsOn again W args v W' := by
  have hlt : ∀ p ∈ before, p.block < W.heap.size := fun p hp => hW.lt p hp
  have hold : ∀ p ∈ before, (fun b => decide (b < W.heap.size)) p.block = true := fun p hp => by simpa using hlt p hp
  refine ⟨ds, gs, before, [], pa, pv, hW, hres _ _ _, hargs _ hold, hvars _ hold, World.keptBut_mono (fun p hp => ⟨hp, ?_⟩) (hb.frame (· ∈ before)), fun _ => ?_⟩
  · rw [hps, List.mem_append] at hp
    exact Or.inr hp
  · obtain ⟨_, _, _, _, _, hz, hn⟩ := hW
    refine ⟨hok, _, _, ([] ++ pa) ++ pv, ⟨[] ++ pa, pv, trodAll_append (hargs _ (fun _ _ => rfl)) (hres _ _ _), hvars _ (fun _ _ => rfl), rfl, ?_, ?_⟩, ?_⟩
    · intro b off hp
      have hin : MemPlace.cell b off ∈ before := by rw [hps]; simpa using hp
      rw [hb.frozen (hlt _ hin)]
      exact hz b off hin
    · intro ha
      have := hn ha
      rw [hps] at this
      simpa using this
    · intro p hp _
      rw [hps]
      simpa using hp
end
end Go.Proofs.Ytfkfboiblgoamaa
