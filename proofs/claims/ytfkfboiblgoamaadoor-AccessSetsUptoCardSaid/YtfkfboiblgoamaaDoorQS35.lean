/- Laid together for one claim: VkSet1, VkMake, VkRowCap, VkAdded, VkSet2. -/
import Derived.Test.YtfkfboiblgoamaaDoorQS20
import Derived.Test.YtfkfboiblgoamaaDoorQS19
import Derived.Test.YtfkfboiblgoamaaDoorQS18
import Derived.Test.YtfkfboiblgoamaaDoorQS07
import Derived.Test.YtfkfboiblgoamaaDoorQS30
import Derived.Test.YtfkfboiblgoamaaDoorQS25
import Derived.Deep.Cut
import Derived.Deep.DeepCutAuto
/- Values set: access.Set$1. -/
namespace Go.Proofs.YtfkfboiblgoamaaDoor
open Go.RowKit
set_option linter.unusedSimpArgs false
set_option linter.unusedVariables false

set_option maxHeartbeats 1000000 in
set_option maxRecDepth 100000 in
theorem set1_ok {X : Vt} {xb : Nat} {W0 : World} {n0 : Nat} (hxb : xb < n0) (hX : Whole W0 xb 30 X.h.cells) (hXT : X.In W0 n0) (hn0 : n0 ≤ W0.heap.size) :
    FnOk 27 #[.pointer (some ⟨xb, 0, none⟩)] (fun _ => X) (fun _ => True) W0 n0 := by
  intro w U hw hU _
  have hsw := hw.size
  have hb0 := ((Below.refl w.heap.size w).alloc (Nat.le_refl _) (.cells U.h.cells 30)).alloc (by simp) (.cells Vh.zero.cells 30)
  have Q := Whole.new (w.alloc (.cells U.h.cells 30)) 30 Vh.zero.cells
  rw [World.size_alloc] at Q
  have PX := ((hX.below hw hxb).alloc (.cells U.h.cells 30)).alloc (.cells Vh.zero.cells 30)
  have hXin := Lib.hid ((Vt.In.below (hw.trans (hb0.mono (Nat.le_trans hn0 hsw))) hXT))
  obtain ⟨c0, c1, c2, c3, c4, c5, c6, c7, c8, c9, c10, c11, c12⟩ := Whole.c13 (h := X.h) PX
  have hone := Lib.hid (vh_all X.h)
  have HW := Lib.hid hXT.whole
  clear hX hXT hU PX hw
  simp only [Vh.cells, Vh.zero] at hb0 Q c0 c1 c2 c3 c4 c5 c6 c7 c8 c9 c10 c11 c12 hXin ⊢
  go_enter Tryd.func27, Tryd.ntmps27
  go_wp2_with (refine wpList_store_row rfl 30 _ _ rfl (w.heap.size + 1) X.h.cells rfl rfl 30 _ Q vh_row rfl hone.out ?_)
  have Q2 := Q.setRow X.h.cells
  have hsz := Q.lt
  refine bodyPost_ret (v := .agg X.h.cells) (ret_val (p := 3) rfl rfl Q2) rfl ⟨X, rfl, ?_, ?_, Vt.Same.rfl' HW.out, below_setRow hb0 (by omega) _⟩
  · exact (hXin.out.up (by simp; omega)).stays hXin.out.off (fun b hb => setRow_other _ _ _ _ (by have : b < n0 := hb; omega)) (by rw [size_setRow]; exact Nat.le_refl _)
  · exact hXin.out.off.mono fun b hb => .inl hb
end Go.Proofs.YtfkfboiblgoamaaDoor
/- make with a capacity of its own: the block that it makes. -/
namespace Go.Proofs.YtfkfboiblgoamaaDoor
open Go.RowKit

theorem wpList_make_cap {P : Program} (w : World) {ops : Array Oper} {rest : List Oper} {o : Oper} {a : Act} {Q : Exit → Act → World → Prop}
    (hg : o.guard = none) (l c : Operand) (t : TypeId) (hop : o.op = Op.makeSlice t l c)
    (e : TypeId) (i : TypeInfo) (z : Value) (size : Nat) (h1 : P.underlying t = some (.slice e)) (h2 : P.info? e = some i) (h3 : i.zero = some z) (h4 : i.size = size)
    (kl kc : IntKind) (L C : Int) (n m : Nat) (hl : a.eval l = .int kl L) (hc : a.eval c = .int kc C) (hL : L = (n : Int)) (hC : C = (m : Int)) (hnm : n ≤ m) (b2 : i.bytes * m ≤ 281474976710656) (b3 : m ≤ maxLen)
    (hK : ∀ w' cur, Whole w' w.heap.size e cur → cur.size = m * size → w.grownBy w' none → wpList P ops Q rest (a.put o.dst (.slice (some ⟨w.heap.size, 0, none⟩) n m)) w') :
    wpList P ops Q (o :: rest) a w := by
  refine wpList_plain hg fun K hK' => ?_
  have h63' : (m : Int) ≤ 9223372036854775807 := by
    have h := b3
    simp [maxLen] at h
    omega
  have hb' : (i.bytes : Int) * (m : Int) ≤ 281474976710656 := by
    have h : ((i.bytes * m : Nat) : Int) ≤ 281474976710656 := by omega
    rwa [Int.natCast_mul] at h
  have hrun := run_make (P := P) w t e i z h1 h2 h3 kl kc n m (by omega) (by omega) hb' h63'
  simp only [Int.toNat_natCast] at hrun
  subst hL hC h4
  unfold Oper.wp
  simp [execOp, hop, hl, hc, hrun, Result.andThen]
  exact hK' _ _ (hK _ _ (Whole.new w e _) (size_madeCells _ _) (World.grownBy_alloc w _ none))
end Go.Proofs.YtfkfboiblgoamaaDoor
/- A row that is copied into a longer block. -/
namespace Go.Proofs.YtfkfboiblgoamaaDoor
open Go.RowKit

theorem row_owned {W : World} {g n m C base : Nat} {t : TypeId} {f : Nat → Array Value} {cur : Array Value} (hf : ∀ j, (f j).size = C) (hg : Whole W g t cur) (hs : cur.size = m * C) (hnm : n ≤ m) (hm : m ≤ maxLen) (hb : base ≤ g) :
    (W.setRow g (spl cur 0 (catN f n))).ownsRow base t C (.slice (some ⟨g, 0, none⟩) n m) n (catN f n) := by
  have hl := catN_len hf n
  have hle : n * C ≤ m * C := Nat.mul_le_mul_right C hnm
  have hcl : cur.toList.length = m * C := by rw [Array.length_toList]; exact hs
  refine ⟨hl, .inr ⟨g, m, spl cur 0 (catN f n), rfl, hb, hg.setRow _, hnm, hm, ?_, ?_⟩⟩
  · unfold spl
    simp
    omega
  · unfold spl
    simp
    rw [← hl]
    simp
end Go.Proofs.YtfkfboiblgoamaaDoor
/- access.added: the fields of a value and one more. -/
namespace Go.Proofs.YtfkfboiblgoamaaDoor
open Go.RowKit
set_option linter.unusedSimpArgs false
set_option linter.unusedVariables false

theorem moreF_end {h : Vh} {Y : Nat → Int} {L : Nat → Vt} {K : Nat → ByteArray} {F : Nat → Vt} {X : Vt} {w W : World} {n0 gg g9 cap : Nat} {key : ByteArray} {M : Nat → ByteArray × Vt} (hT : (Vt.mk h Y L K F).In w n0) (hX : X.In w n0) (hb : Below w.heap.size w W) (hn0 : n0 ≤ w.heap.size) (hgg : w.heap.size ≤ gg) (hkey : key.size ≤ 1048576) (hfn : h.fn + 1 ≤ 1048576)
    (hM : M = fun j => if j < h.fn then (K j, F j) else (key, X)) (hr : RowG fcs Prod.snd 14 61 gg (· < n0) (fun t x => x = M t) W (.slice (some ⟨g9, 0, none⟩) (h.fn + 1) cap) (h.fn + 1)) :
    FnOut ((Vt.mk h Y L K F).moreF key X) n0 w (.returned (.agg #[.int .i64 h.k, .bool h.b, .bool h.n, .string h.d, .int .i64 h.e, .int .i64 h.tk, .int .i64 h.td, .int .i64 h.tn, .int .i64 h.tz, .string h.x, .slice h.ba h.bn h.bc, .slice h.la h.ln h.lc, .slice (some ⟨g9, 0, none⟩) (h.fn + 1) cap])) W := by
  obtain ⟨f, a, c, b, e, hcc, ha, hrows⟩ := hr.done fcs_size
  injection e with e1 e2 e3
  obtain ⟨a1, a2, a3⟩ := ha (Nat.succ_pos _)
  have e4 : g9 = b := by rw [a1] at e1; have := Option.some.inj e1; injection this
  subst e3 e4
  have hz := hb.size
  have hTW := hT.below (hb.mono hn0)
  have hfM : ∀ j, j < h.fn + 1 → f j = M j := fun j hj => (hrows j hj).2.2.2
  obtain ⟨h1, h2⟩ := fields_anew (S := fun b => b < n0 ∨ w.heap.size ≤ b) (K' := fun j => (f j).1) (M := fun j => (f j).2) (c' := cap) (m := h.fn + 1) hT (hb.mono hn0) (by omega) a3 (.inr (Nat.le_trans hgg a2)) (fun b hb => .inl hb) hfn hcc (fun j hj => (hrows j hj).1)
    (fun j hj => ⟨by
      rw [hfM j hj, hM]
      dsimp only
      by_cases q : j < h.fn
      · rw [if_pos q]; exact (hTW.2.2.2.2.2.2 j q).2.1
      · rw [if_neg q]; exact hkey, (hrows j hj).2.1, (hrows j hj).2.2.1.mono fun b hb => .inl hb⟩)
  refine ⟨_, rfl, h1, h2, ?_, hb⟩
  refine ⟨(fun e => by cases e), ⟨rfl, rfl, rfl, rfl, rfl, rfl, rfl, rfl, rfl, rfl, rfl, rfl, rfl⟩, fun _ _ => rfl, fun j hj => Vt.Same.rfl' (hT.whole.1 j hj), fun j hj => ?_⟩
  have hj' : j < h.fn + 1 := hj
  dsimp only
  rw [hfM j hj', hM]
  dsimp only
  by_cases q : j < h.fn
  · rw [if_pos q]; exact ⟨(if_pos q).symm, by rw [show ((Vt.mk h Y L K F).moreF key X).F j = F j from if_pos q]; exact Vt.Same.rfl' (hT.whole.2 j q)⟩
  · rw [if_neg q]; exact ⟨(if_neg q).symm, by rw [show ((Vt.mk h Y L K F).moreF key X).F j = X from if_neg q]; exact Vt.Same.rfl' hX.whole⟩
set_option maxHeartbeats 2000000 in
set_option maxRecDepth 100000 in
theorem added_any {U X : Vt} {key : ByteArray} {n0 : Nat} {w : World} (hU : U.In w n0) (hX : X.In w n0) (hn0 : n0 ≤ w.heap.size) (hkey : key.size ≤ 1048576) (hfn : U.h.fn + 1 ≤ 1048576) :
    Calls Tryd.prog 29 #[.agg U.h.cells, .string key, .agg X.h.cells] w (FnOut (U.moreF key X) n0 w) := by
  cases U with
  | nil => exact hU.elim
  | mk h Y L K F =>
  rw [show (Vt.mk h Y L K F).h = h from rfl] at *
  have hb0 := (((Below.refl w.heap.size w).alloc (Nat.le_refl _) (.cells h.cells 30)).alloc (by simp) (.cells X.h.cells 30)).alloc (by simp; omega) (.cells Vh.zero.cells 30)
  have P := ((Whole.new w 30 h.cells).alloc (.cells X.h.cells 30)).alloc (.cells Vh.zero.cells 30)
  have PX := (Whole.new (w.alloc (.cells h.cells 30)) 30 X.h.cells).alloc (.cells Vh.zero.cells 30)
  rw [World.size_alloc] at PX
  have Q := Whole.new ((w.alloc (.cells h.cells 30)).alloc (.cells X.h.cells 30)) 30 Vh.zero.cells
  rw [World.size_alloc, World.size_alloc] at Q
  have HW := Lib.hid (fun (w1 : World) (hb : Below w.heap.size w w1) => hU.below (hb.mono hn0))
  have HXi := Lib.hid (fun (w1 : World) (hb : Below w.heap.size w w1) => Vt.In.below (hb.mono hn0) hX)
  have HLrow := Lib.hid (fun (w1 : World) (hb : Below w.heap.size w w1) => fun j (hj : j < h.fn) => lies_fcs ((HW.out w1 hb).2.2.2.2.2.2 j hj).1 ((HW.out w1 hb).2.2.2.2.2.2 j hj).2.2.1)
  have HAd := Lib.hid (fun (q : 0 < h.fn) => hU.2.2.2.2.2.1 q)
  obtain ⟨i0, hi0, hz0, hz1, hz2⟩ := info_parts Tryd.infoFld
  have hlc := hU.1.fc
  have i3 : (h.fn : Int) + 1 ≤ 1048576 := by omega
  have i4 : (0 : Int) ≤ h.fn := by omega
  clear hU hX
  obtain ⟨k, b', n', dd, e, tk, td, tn, tz, x, ba, bn, bc, la, ln, lc, fa, fn, fc, bb, bo, lb, lo, fb, fo⟩ := h
  dsimp only at hlc hfn i3 i4 HLrow HAd P
  have d1 : Hid (i0.bytes * (fn + 1) ≤ 281474976710656) := Lib.hid (by rw [hz2]; omega)
  have d2 : Hid (fn + 1 ≤ maxLen) := Lib.hid (by unfold maxLen; omega)
  obtain ⟨c0, c1, c2, c3, c4, c5, c6, c7, c8, c9, c10, c11, c12⟩ := Whole.c13 P
  simp only [Vh.cells, Vh.zero] at hb0 P PX Q c0 c1 c2 c3 c4 c5 c6 c7 c8 c9 c10 c11 c12 ⊢
  go_enter Tryd.func29, Tryd.ntmps29
  go_wp2_with (refine wpList_make_cap _ rfl _ _ 28 rfl 61 i0 (.agg (#[.string ⟨#[]⟩] ++ Vh.zero.cells)) 14 Tryd.underlying28 hi0 hz0 hz1 .i64 .i64 _ _ fn (fn + 1) rfl rfl rfl (by omega) (Nat.le_succ _) d1.out d2.out ?_)
  intro w2 cur HG hcs hgr2
  obtain ⟨gg, hgg⟩ : ∃ gg, w.heap.size + 3 = gg := ⟨_, rfl⟩
  simp only [World.size_alloc, Nat.add_assoc, Nat.reduceAdd] at HG hgr2 ⊢
  rw [hgg] at HG ⊢
  have b2 : Below (w.heap.size + 3) _ w2 := ⟨hgr2.os, hgr2.tape, hgr2.output, hgr2.size, fun t ht => hgr2.block t (by simp; omega) (by simp)⟩
  have g2 := hb0.trans (b2.mono (by omega))
  have P2 := Whole.below P b2 (by omega)
  have PX2 := Whole.below PX b2 (by omega)
  have Q2 := Whole.below Q b2 (by omega)
  clear c0 c1 c2 c3 c4 c5 c6 c7 c8 c9 c10 c11 c12
  have c11 := Whole.cell P2 12
  simp only [List.getElem?_toArray, List.getElem?_cons_succ, List.getElem?_cons_zero] at c11
  have hgglt := HG.lt
  have e1' : Hid ((catN (fun j => fcs (K j, F j)) fn).length = Nat.min fn fn * 14) := Lib.hid (by rw [catN_len (fun j => fcs_size (K j, F j)), show Nat.min fn fn = fn from Nat.min_self fn])
  have e2' := Lib.hid (fun (q : 0 < (catN (fun j => fcs (K j, F j)) fn).length) => (⟨rfl, ⟨fb, fo, none⟩, (HAd.out (by rw [catN_len (fun j => fcs_size (K j, F j))] at q; omega)).1, rowL_src (fun j => fcs_size (K j, F j)) (HLrow.out w2 g2)⟩ : (some (⟨gg, 0, none⟩ : Addr) = some ⟨gg, 0, none⟩ ∧ ∃ ad, fa = some ad ∧ ∀ j v, (catN (fun j => fcs (K j, F j)) fn)[j]? = some v → w2.cell? (ad.add j) = some v)))
  have e3' : Hid (0 + (catN (fun j => fcs (K j, F j)) fn).length ≤ cur.size) := Lib.hid (by rw [catN_len (fun j => fcs_size (K j, F j)), hcs]; omega)
  have e4' := Lib.hid (catN_one (fun j => fcs_one (K j, F j)) fn)
  have HOW := Lib.hid (row_owned (base := gg) (n := fn) (fun j => fcs_size (K j, F j)) HG hcs (Nat.le_succ _) d2.out (Nat.le_refl _))
  have HGh := Lib.hid HG
  clear hgr2 b2 hcs HG P PX Q hb0
  go_upto_region 3 with (refine wpList_copy_wide _ rfl _ _ 28 28 rfl 61 14 Tryd.underlying28 fld_row (by decide) (some ⟨gg, 0, none⟩) fa fn (fn + 1) fn fc rfl rfl gg 0 cur 61 HGh.out (catN (fun j => fcs (K j, F j)) fn) e1'.out e2'.out e3'.out e4'.out ?_)
  have hs3 : gg < (w2.setRow gg (spl cur 0 (catN (fun j => fcs (K j, F j)) fn))).heap.size := by rw [size_setRow]; exact hgglt
  have P3 := P2.farRow (B' := gg) (by omega) (spl cur 0 (catN (fun j => fcs (K j, F j)) fn))
  have PX3 := PX2.farRow (B' := gg) (by omega) (spl cur 0 (catN (fun j => fcs (K j, F j)) fn))
  have Q3 := Q2.farRow (B' := gg) (by omega) (spl cur 0 (catN (fun j => fcs (K j, F j)) fn))
  have g3 := below_setRow g2 (show w.heap.size ≤ gg by omega) (spl cur 0 (catN (fun j => fcs (K j, F j)) fn))
  clear e1' e2' e3' e4' HGh P2 PX2 Q2 g2 hgglt c11
  generalize w2.setRow gg (spl cur 0 (catN (fun j => fcs (K j, F j)) fn)) = w3 at *
  obtain ⟨M, hM⟩ : ∃ M : Nat → ByteArray × Vt, M = fun j => if j < fn then (K j, F j) else (key, X) := ⟨_, rfl⟩
  have HM := Lib.hid hM
  clear hM
  have hn0w : n0 ≤ w3.heap.size := Nat.le_trans hn0 g3.size
  have HR3 : RowG fcs Prod.snd 14 61 gg (· < n0) (fun t x => x = M t) w3 (.slice (some ⟨gg, 0, none⟩) fn (fn + 1)) fn := ⟨fun j => (K j, F j), HOW.out, fun i hi => ⟨((HW.out w3 g3).2.2.2.2.2.2 i hi).2.2.2.up hn0w, ((HW.out w3 g3).2.2.2.2.2.2 i hi).2.2.2.off.mono (fun b hb => ⟨hb, fun q => by
    have hb' : b < n0 := hb
    have q' : b = gg := Option.some.inj q
    omega⟩), by rw [HM.out]; dsimp only; rw [if_pos hi]⟩⟩
  have HMj : Hid ((key, X) = M fn) := Lib.hid (by rw [HM.out]; dsimp only; rw [if_neg (Nat.lt_irrefl _)])
  have HX3 := Lib.hid ((HXi.out w3 g3).up hn0w)
  have HXo : Hid (X.Off (· < n0)) := Lib.hid (HXi.out w3 g3).off
  obtain ⟨c0, c1, c2, c3, c4, c5, c6, c7, c8, c9, c10, c11, c12⟩ := Whole.c13 (h := X.h) PX3
  obtain ⟨f, hown, hf⟩ := HR3.alloc (.cells #[.string key, .int .i64 X.h.k, .bool X.h.b, .bool X.h.n, .string X.h.d, .int .i64 X.h.e, .int .i64 X.h.tk, .int .i64 X.h.td, .int .i64 X.h.tn, .int .i64 X.h.tz, .string X.h.x, .slice X.h.ba X.h.bn X.h.bc, .slice X.h.la X.h.ln X.h.lc, .slice X.h.fa X.h.fn X.h.fc] 61)
  have Hf := Lib.hid hf
  have s1 := Lib.hid (cells_new w3 61 (fcs (key, X)))
  have s2 := Lib.hid (fcs_one (key, X))
  have s3 : Hid (fn + 1 ≤ maxLen) := Lib.hid d2.out
  have s4 : Hid ((fn + 1) * 184 ≤ 140737488355328) := Lib.hid (by omega)
  have s5 : Hid (gg ≤ (w3.alloc (.cells #[.string key, .int .i64 X.h.k, .bool X.h.b, .bool X.h.n, .string X.h.d, .int .i64 X.h.e, .int .i64 X.h.tk, .int .i64 X.h.td, .int .i64 X.h.tn, .int .i64 X.h.tz, .string X.h.x, .slice X.h.ba X.h.bn X.h.bc, .slice X.h.la X.h.ln X.h.lc, .slice X.h.fa X.h.fn X.h.fc] 61)).heap.size) := Lib.hid (by rw [World.size_alloc]; omega)
  have f12 := Whole.frozen P3 12
  clear hf HOW HR3
  go_wp2_with (first | (at_builtin; refine wpList_append_told _ rfl _ _ 28 rfl gg 61 i0 _ 14 184 Tryd.underlying28 hi0 hz0 hz1 hz2 rfl (by decide) _ _ _ rfl hown ⟨w3.heap.size, 0, none⟩ 1 1 (fcs (key, X)).toList rfl rfl s1.out s2.out s3.out s4.out s5.out Nat.one_pos ?_))
  clear s1 s2 s3 s4 s5
  intro v' w9 hown9 hgrow hat
  obtain ⟨g9, cap, rfl, -, -⟩ := own_form hown9 (Nat.succ_pos _)
  have hrow9 : RowG fcs Prod.snd 14 61 gg (· < n0) (fun t x => x = M t) w9 (.slice (some ⟨g9, 0, none⟩) (fn + 1) cap) (fn + 1) :=
    RowG.push (x := (key, X)) hown Hf.out (HX3.out.later ((Below.refl _ _).alloc (Nat.le_refl _) _)) HXo.out (fun g hg => HXo.out.mono fun b hb => by have hb' : b < n0 := hb; have := (hown.lt g hg).1; omega) HMj.out hown9 hgrow (by simp only [World.size_alloc]; exact hat)
  have hgr : ∀ b, b < gg → some b ≠ (Value.slice (some ⟨gg, 0, none⟩) fn (fn + 1)).ownBlock := fun b hb q => by have q' : b = gg := Option.some.inj q; omega
  have P9 := Whole.kept (Whole.alloc P3 (.cells #[.string key, .int .i64 X.h.k, .bool X.h.b, .bool X.h.n, .string X.h.d, .int .i64 X.h.e, .int .i64 X.h.tk, .int .i64 X.h.td, .int .i64 X.h.tn, .int .i64 X.h.tz, .string X.h.x, .slice X.h.ba X.h.bn X.h.bc, .slice X.h.la X.h.ln X.h.lc, .slice X.h.fa X.h.fn X.h.fc] 61)) hgrow (hgr _ (by omega))
  have Q9 := Whole.kept (Whole.alloc Q3 (.cells #[.string key, .int .i64 X.h.k, .bool X.h.b, .bool X.h.n, .string X.h.d, .int .i64 X.h.e, .int .i64 X.h.tk, .int .i64 X.h.td, .int .i64 X.h.tn, .int .i64 X.h.tz, .string X.h.x, .slice X.h.ba X.h.bn X.h.bc, .slice X.h.la X.h.ln X.h.lc, .slice X.h.fa X.h.fn X.h.fc] 61)) hgrow (hgr _ (by omega))
  have g9' := (g3.alloc g3.size (.cells #[.string key, .int .i64 X.h.k, .bool X.h.b, .bool X.h.n, .string X.h.d, .int .i64 X.h.e, .int .i64 X.h.tk, .int .i64 X.h.td, .int .i64 X.h.tn, .int .i64 X.h.tz, .string X.h.x, .slice X.h.ba X.h.bn X.h.bc, .slice X.h.la X.h.ln X.h.lc, .slice X.h.fa X.h.fn X.h.fc] 61)).grown hgrow (by rw [World.size_alloc]; have := g3.size; omega) (fun g hg => by have q' : gg = g := Option.some.inj hg; omega)
  clear f12 c0 c1 c2 c3 c4 c5 c6 c7 c8 c9 c10 c11 c12 P3 PX3 Q3 g3 Hf hown hown9 hgrow hat HMj HX3 HXo hgr
  have c12 := Whole.cell P9 12
  have f12 := Whole.frozen P9 12
  simp only [List.getElem?_toArray, List.getElem?_cons_succ, List.getElem?_cons_zero] at c12
  go_upto_region 4 with (fail)
  have P4 : Whole (w9.setCell ⟨w.heap.size, 12, none⟩ (.slice (some ⟨g9, 0, none⟩) (fn + 1) cap)) w.heap.size 30 (Vh.cells ⟨k, b', n', dd, e, tk, td, tn, tz, x, ba, bn, bc, la, ln, lc, some ⟨g9, 0, none⟩, fn + 1, cap, 0, 0, 0, 0, 0, 0⟩) := Whole.set P9 12 (.slice (some ⟨g9, 0, none⟩) (fn + 1) cap)
  have Q4 := Whole.far (p := ⟨w.heap.size, 12, none⟩) Q9 (by show _ ≠ w.heap.size; omega) (.slice (some ⟨g9, 0, none⟩) (fn + 1) cap)
  have g4 := g9'.setCell (p := ⟨w.heap.size, 12, none⟩) (Nat.le_refl _) (.slice (some ⟨g9, 0, none⟩) (fn + 1) cap)
  have hrow4 := Lib.hid (hrow9.turn (grown_set w9 w.heap.size 12 (.slice (some ⟨g9, 0, none⟩) (fn + 1) cap)) (by omega) (fun b hb => by have hb' : b < n0 := hb; omega))
  clear c12 f12 P9 Q9 g9' hrow9
  generalize w9.setCell ⟨w.heap.size, 12, none⟩ (.slice (some ⟨g9, 0, none⟩) (fn + 1) cap) = w4 at *
  obtain ⟨c0, c1, c2, c3, c4, c5, c6, c7, c8, c9, c10, c11, c12⟩ := Whole.c13 P4
  dsimp only at c0 c1 c2 c3 c4 c5 c6 c7 c8 c9 c10 c11 c12
  have hone := Lib.hid (vh_all ⟨k, b', n', dd, e, tk, td, tn, tz, x, ba, bn, bc, la, ln, lc, some ⟨g9, 0, none⟩, fn + 1, cap, 0, 0, 0, 0, 0, 0⟩)
  go_wp2_with (refine wpList_store_row rfl 30 _ _ rfl (w.heap.size + 2) (Vh.cells ⟨k, b', n', dd, e, tk, td, tn, tz, x, ba, bn, bc, la, ln, lc, some ⟨g9, 0, none⟩, fn + 1, cap, 0, 0, 0, 0, 0, 0⟩) rfl rfl 30 _ Q4 vh_row rfl hone.out ?_)
  have Q7 := Whole.setRow Q4 (Vh.cells ⟨k, b', n', dd, e, tk, td, tn, tz, x, ba, bn, bc, la, ln, lc, some ⟨g9, 0, none⟩, fn + 1, cap, 0, 0, 0, 0, 0, 0⟩)
  have g7 := below_setRow g4 (show w.heap.size ≤ w.heap.size + 2 by omega) (Vh.cells ⟨k, b', n', dd, e, tk, td, tn, tz, x, ba, bn, bc, la, ln, lc, some ⟨g9, 0, none⟩, fn + 1, cap, 0, 0, 0, 0, 0, 0⟩)
  have hrow7 := hrow4.out.turn (grown_row w4 (w.heap.size + 2) (Vh.cells ⟨k, b', n', dd, e, tk, td, tn, tz, x, ba, bn, bc, la, ln, lc, some ⟨g9, 0, none⟩, fn + 1, cap, 0, 0, 0, 0, 0, 0⟩)) (by omega) (fun b hb => by have hb' : b < n0 := hb; omega)
  exact bodyPost_ret (v := .agg #[.int .i64 k, .bool b', .bool n', .string dd, .int .i64 e, .int .i64 tk, .int .i64 td, .int .i64 tn, .int .i64 tz, .string x, .slice ba bn bc, .slice la ln lc, .slice (some ⟨g9, 0, none⟩) (fn + 1) cap]) (ret_val (p := 6) rfl rfl Q7) rfl (moreF_end (HW.out w (Below.refl _ _)) (HXi.out w (Below.refl _ _)) g7 hn0 (by omega) hkey hfn HM.out hrow7)
end Go.Proofs.YtfkfboiblgoamaaDoor
/- Values set: access.Set$2. -/
namespace Go.Proofs.YtfkfboiblgoamaaDoor
open Go.RowKit
set_option linter.unusedSimpArgs false
set_option linter.unusedVariables false

set_option maxHeartbeats 1000000 in
set_option maxRecDepth 100000 in
theorem set2_ok {s : Stp} {X : Vt} {cb xb : Nat} {W0 : World} {n0 : Nat} (hcb : cb < n0) (hS : LiesAt W0 cb 0 s.cells) (hxb : xb < n0) (hX : Whole W0 xb 30 X.h.cells) (hXT : X.In W0 n0) (hkey : s.key.size ≤ 1048576) (hn0 : n0 ≤ W0.heap.size) :
    FnOk 28 #[.pointer (some ⟨cb, 0, none⟩), .pointer (some ⟨xb, 0, none⟩)] (fun U => U.moreF s.key X) (fun U => U.h.fn + 1 ≤ 1048576) W0 n0 := by
  intro w U hw hU hfn
  have hsw := hw.size
  have hn0w := Nat.le_trans hn0 hsw
  have hb0 := ((Below.refl w.heap.size w).alloc (Nat.le_refl _) (.cells U.h.cells 30)).alloc (by simp) (.cells Vh.zero.cells 30)
  have P := (Whole.new w 30 U.h.cells).alloc (.cells Vh.zero.cells 30)
  have Q := Whole.new (w.alloc (.cells U.h.cells 30)) 30 Vh.zero.cells
  rw [World.size_alloc] at Q
  have PX := ((hX.below hw hxb).alloc (.cells U.h.cells 30)).alloc (.cells Vh.zero.cells 30)
  obtain ⟨l0, l1, l2⟩ := ((hS.below hw hcb).below (hb0.mono hn0w) hcb).s3
  simp only [Nat.zero_add] at l0 l1 l2
  have HA := Lib.hid (added_any (Vt.In.below (hb0.mono hn0w) hU) (Vt.In.below (hw.trans (hb0.mono hn0w)) hXT) (Nat.le_trans hn0w hb0.size) hkey hfn)
  obtain ⟨c0, c1, c2, c3, c4, c5, c6, c7, c8, c9, c10, c11, c12⟩ := Whole.c13 (h := U.h) P
  obtain ⟨d0, d1, d2, d3, d4, d5, d6, d7, d8, d9, d10, d11, d12⟩ := Whole.c13 (h := X.h) PX
  clear hX hXT hU P PX hw hS
  simp only [Vh.cells, Vh.zero] at hb0 Q c0 c1 c2 c3 c4 c5 c6 c7 c8 c9 c10 c11 c12 d0 d1 d2 d3 d4 d5 d6 d7 d8 d9 d10 d11 d12 l1 HA ⊢
  go_enter Tryd.func28, Tryd.ntmps28
  go_wp2_with fail
  refine HA.out.mono ?_; rintro _ w1 ⟨Z, rfl, hZ, hZo, hZs, hb1⟩
  have Q1 := Q.below hb1 Q.lt
  have g1 := below_then hb0 hb1
  have hone := Lib.hid (vh_all Z.h)
  have Hs := Lib.hid hZs
  clear HA Q hb0 hZs
  go_wp2_with (refine wpList_store_row rfl 30 _ _ rfl (w.heap.size + 1) Z.h.cells rfl rfl 30 _ Q1 vh_row rfl hone.out ?_)
  have Q2 := Q1.setRow Z.h.cells
  have hsz := Q1.lt
  simp at hZo
  exact bodyPost_ret (v := .agg Z.h.cells) (ret_val (p := 4) rfl rfl Q2) rfl ⟨Z, rfl, hZ.stays hZo (fun b hb => setRow_other _ _ _ _ (by omega)) (by rw [size_setRow]; omega), hZo.mono fun b hb => by omega, Hs.out, below_setRow g1 (by omega) _⟩
end Go.Proofs.YtfkfboiblgoamaaDoor
