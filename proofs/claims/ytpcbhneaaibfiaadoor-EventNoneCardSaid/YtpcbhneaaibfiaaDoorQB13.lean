/- Laid together for a claim: EvPutL, VtRefN, EvPutLW, EvPutF. -/
import Derived.Test.YtpcbhneaaibfiaaDoorQB12
import Derived.Deep.Cut
import Derived.Deep.DeepCutAuto
import Derived.Test.YtpcbhneaaibfiaaDoorQB08
import Derived.Test.YtpcbhneaaibfiaaDoorQB11
/- A complete value goes into the innermost list of a builder: put, the second way. -/
set_option linter.unusedSimpArgs false
set_option linter.unusedVariables false
namespace Go.Proofs.YtpcbhneaaibfiaaDoor
open Go.RowKit

theorem cells_list {f : Fr} {u : Value} (hm : f.mp = false) : f.cells u = frc 6 u (.slice none 0 0) f.key f.kd := by unfold Fr.cells; rw [hm]; rfl
theorem cells_map {f : Fr} {u : Value} (hm : f.mp = true) : f.cells u = frc 7 (.slice none 0 0) u f.key f.kd := by unfold Fr.cells; rw [hm]; rfl
/-- The list that has one more, and the map. -/
def oneL (f : Fr) (V : Vt) : Fr := ⟨false, f.n + 1, upd f.K f.n ⟨#[]⟩, upd f.M f.n V, f.key, f.kd⟩
def oneF (f : Fr) (V : Vt) : Fr := ⟨true, f.n + 1, upd f.K f.n f.key, upd f.M f.n V, ⟨#[]⟩, false⟩
theorem putS_list {s : Bst} {V : Vt} {i : Nat} (hi : s.d = i + 1) (hm : (s.fr i).mp = false) : putS s V = { s with fr := upd s.fr i (oneL (s.fr i) V) } := by
  unfold putS
  rw [if_neg (by omega), show s.d - 1 = i by omega, if_neg (by rw [hm]; decide)]
  rfl
theorem putS_map {s : Bst} {V : Vt} {i : Nat} (hi : s.d = i + 1) (hm : (s.fr i).mp = true) : putS s V = { s with fr := upd s.fr i (oneF (s.fr i) V) } := by
  unfold putS
  rw [if_neg (by omega), show s.d - 1 = i by omega, if_pos hm]
  rfl
theorem ok_upd {s : Bst} {i : Nat} {f : Fr} (h : s.ok) (hf : f.n ≤ s.nd ∧ f.key.size ≤ 1048576 ∧ ∀ j, j < f.n → (f.K j).size ≤ 1048576 ∧ (f.M j).upto (48 - i)) : Bst.ok { s with fr := upd s.fr i f } :=
  ⟨h.d, h.nd, fun t ht => by
    have e0 : ({ s with fr := upd s.fr i f } : Bst).fr t = upd s.fr i f t := rfl
    rw [e0]
    by_cases e : t = i
    · subst e
      rw [upd_same]
      exact hf
    · rw [upd_other e]
      exact h.fr t ht, h.out⟩
theorem ok_list {s : Bst} {V : Vt} {i : Nat} (h : s.ok) (hi : i < s.d) (hn : (s.fr i).n + 1 ≤ s.nd) (hV : V.upto (48 - i)) : Bst.ok { s with fr := upd s.fr i (oneL (s.fr i) V) } :=
  ok_upd h ⟨hn, (h.fr i hi).2.1, fun j hj => by
    have hj : j < (s.fr i).n + 1 := hj
    by_cases e : j = (s.fr i).n
    · subst e; show (upd (s.fr i).K (s.fr i).n ⟨#[]⟩ (s.fr i).n).size ≤ _ ∧ (upd (s.fr i).M (s.fr i).n V (s.fr i).n).upto _; rw [upd_same, upd_same]; exact ⟨by simp [ByteArray.size], hV⟩
    · show (upd (s.fr i).K (s.fr i).n ⟨#[]⟩ j).size ≤ _ ∧ (upd (s.fr i).M (s.fr i).n V j).upto _; rw [upd_other e, upd_other e]; exact (h.fr i hi).2.2 j (by omega)⟩
theorem ok_map {s : Bst} {V : Vt} {i : Nat} (h : s.ok) (hi : i < s.d) (hn : (s.fr i).n + 1 ≤ s.nd) (hV : V.upto (48 - i)) : Bst.ok { s with fr := upd s.fr i (oneF (s.fr i) V) } :=
  ok_upd h ⟨hn, (by show (⟨#[]⟩ : ByteArray).size ≤ _; simp [ByteArray.size]), fun j hj => by
    have hj : j < (s.fr i).n + 1 := hj
    by_cases e : j = (s.fr i).n
    · subst e; show (upd (s.fr i).K (s.fr i).n (s.fr i).key (s.fr i).n).size ≤ _ ∧ (upd (s.fr i).M (s.fr i).n V (s.fr i).n).upto _; rw [upd_same, upd_same]; exact ⟨(h.fr i hi).2.1, hV⟩
    · show (upd (s.fr i).K (s.fr i).n (s.fr i).key j).size ≤ _ ∧ (upd (s.fr i).M (s.fr i).n V j).upto _; rw [upd_other e, upd_other e]; exact (h.fr i hi).2.2 j (by omega)⟩
theorem size_one (f : Fr) (u : Value) (C : Array Value) {i : Nat} (hs : i * 15 + 15 ≤ C.size) (hC : ∀ j, j < 15 → C[i * 15 + j]? = (f.cells u)[j]?) (k : Nat) (hk : k < 15) (v : Value) (D : Array Value) (hD : (f.cells u).setIfInBounds k v = D) :
    ∀ j, j < 15 → (C.setIfInBounds (i * 15 + k) v)[i * 15 + j]? = D[j]? := fun j hj => by
  subst hD
  rw [Array.getElem?_setIfInBounds, Array.getElem?_setIfInBounds, hC j hj, Fr.cells_size]
  by_cases e : k = j
  · subst e; rw [if_pos rfl, if_pos rfl, if_pos (by omega), if_pos hk]
  · rw [if_neg (by omega), if_neg e]
/-- What the second way leaves behind. -/
theorem list_end {B0 bb : Nat} {A O : Nat → Prop} {W W0 W' : World} {s : Bst} {ov : Value} {us : Nat → Value} {X Y V : Vt} {i o co g c : Nat} {cur : Array Value} {f : Nat → Vt}
    (h : BIn B0 bb A O W0 s ov us X) (hb : Below W.heap.size W W0) (hi : s.d = i + 1) (hm : (s.fr i).mp = false) (hn : (s.fr i).n + 1 ≤ s.nd) (hY : Y.In W0 W0.heap.size) (hYo : Y.Off (fun b => A b ∧ ¬ O b)) (hYs : Y.Same V) (hV : V.upto (48 - i))
    (eo : ov = .slice (some ⟨o, 0, none⟩) s.d co) (hB : B0 ≤ o) (hd : s.d ≤ co) (hco : co ≤ maxLen) (hcs : cur.size = co * 15) (hcur : ∀ t, t < s.d → ∀ j, j < 15 → cur[t * 15 + j]? = ((s.fr t).cells (us t))[j]?)
    (hf : ∀ t, t < (s.fr i).n → (f t).In W0 W0.heap.size ∧ (f t).Off (fun b => (A b ∧ ¬ O b) ∧ some b ≠ (us i).ownBlock) ∧ (f t).Same ((s.fr i).M t))
    (hk : Kept (fun b => b = o ∨ (us i).ownBlock = some b) W0 W') (hg : (us i).ownBlock = some g ∨ W0.heap.size ≤ g) (hW : Whole W' o 98 (cur.setIfInBounds (i * 15 + 11) (.slice (some ⟨g, 0, none⟩) ((s.fr i).n + 1) c)))
    (ho : W'.ownsRow B0 30 13 (.slice (some ⟨g, 0, none⟩) ((s.fr i).n + 1) c) ((s.fr i).n + 1) (catN (fun t => (f t).h.cells) (s.fr i).n ++ Y.h.cells.toList)) :
    BOut B0 bb A O W (putS s V) (.tuple #[]) (.returned (.tuple #[])) W' := by
  have hi' : i < s.d := by omega
  rw [putS_list hi hm]
  refine ⟨rfl, h.put_end (f' := oneL (s.fr i) V) (o := o) (g := g) (c := c) hb hi (by rw [eo]; rfl) hk hg ?_ ?_ (ok_list h.ok hi' hn hV)⟩
  · rw [eo]
    refine FrRow.turn (cur := cur) (i := i) hW hB hd hco hcs hcur (Array.size_setIfInBounds) (fun j hj => by rw [Array.getElem?_setIfInBounds_ne (by omega)]) ?_ (fun t _ hti => by rw [if_neg hti])
    rw [if_pos rfl]
    exact size_one (s.fr i) (us i) cur (by omega) (hcur i hi') 11 (by decide) _ _ (by rw [cells_list hm, cells_list (f := oneL (s.fr i) V) rfl]; rfl)
  · intro S' hS'
    unfold Fr.row
    rw [if_neg (by show ¬ false = true; decide)]
    refine RowG.one (cs := fun x : Vt => x.h.cells) (tr := id) (S := fun b => A b ∧ ¬ O b) (q := fun t X => X.Same ((oneL (s.fr i) V).M t)) (v := us i) (f := f) (x := Y) (fun t ht => ⟨(hf t ht).1, (hf t ht).2.1, ?_⟩) hY hYo ?_ hk (fun b hlt hb => ⟨fun q => ?_, hS' b hlt hb⟩) (fun b hlt hb e => ?_) ho
    · show (f t).Same (upd (s.fr i).M (s.fr i).n V t)
      rw [upd_other (by omega)]
      exact (hf t ht).2.2
    · show Y.Same (upd (s.fr i).M (s.fr i).n V (s.fr i).n)
      rw [upd_same]
      exact hYs
    · rcases q with q | q
      · exact hb.2 (h.Oov (by rw [eo, q]; rfl))
      · exact hb.2 (h.Ous hi' q)
    · rcases hg with hg | hg
      · exact hb.2 (h.Ous hi' (by rw [hg, e]))
      · omega
end Go.Proofs.YtpcbhneaaibfiaaDoor
/- Values built anew by the reference: how such a walk ends. -/
namespace Go.Proofs.YtpcbhneaaibfiaaDoor
open Go.ChangeShapes Go.WideShapes Go.Joins Go.Deep Go.RowKit

theorem grown_set (W : World) (B i : Nat) (u : Value) : W.grownBy (W.setCell ⟨B, i, none⟩ u) (some B) :=
  ⟨rfl, rfl, rfl, by simp [World.setCell], fun k _ hk => Below.heap_setCell _ _ _ _ (by simp at hk ⊢; omega)⟩
theorem grown_row (W : World) (B : Nat) (cs : Array Value) : W.grownBy (W.setRow B cs) (some B) :=
  have b := below_setRow (Below.refl B W) (Nat.le_refl B) cs
  ⟨b.os, b.tape, b.output, b.size, fun k _ hk => setRow_other _ _ _ _ (by intro e; subst e; exact hk rfl)⟩
theorem cutAt {p q : Prop} (h : p → q) (hp : p) : q := h hp
/-- A function that gives a value: where the result may lie. -/
def FnS (R0 : Vt) (S : Nat → Prop) (w : World) (e : Ending) (w' : World) : Prop :=
  ∃ X : Vt, e = .returned (.agg #[.int .i64 X.h.k, .bool X.h.b, .bool X.h.n, .string X.h.d, .int .i64 X.h.e, .int .i64 X.h.tk, .int .i64 X.h.td, .int .i64 X.h.tn, .int .i64 X.h.tz, .string X.h.x, .slice X.h.ba X.h.bn X.h.bc, .slice X.h.la X.h.ln X.h.lc, .slice X.h.fa X.h.fn X.h.fc]) ∧ X.In w' w'.heap.size ∧ X.Off (fun b => S b ∨ w.heap.size ≤ b) ∧ X.Same R0 ∧ Below w.heap.size w w'
theorem setN_fch (y : ByteArray) (h g : Vh) : setN (fch y h) 1 g.cells.toList = fch y g := by
  simp [setN, fch, Vh.cells]
theorem Whole.setF {W : World} {B : Nat} {t : TypeId} {y : ByteArray} {h : Vh} (P : Whole W B t (fch y h)) (g : Vh) : Whole (W.setCells B 1 g.cells.toList) B t (fch y g) := by
  have := Whole.setCells g.cells.toList 1 P
  rwa [setN_fch] at this
theorem there_fch {W : World} {B : Nat} {t : TypeId} {y : ByteArray} {h : Vh} (P : Whole W B t (fch y h)) : W.there B 1 13 := whole_there P (Nat.le_refl _)
theorem lst_out {w W : World} {B m c : Nat} {S : Nat → Prop} {a : Option Addr} {q : Nat → Vt → Prop} {M : Nat → Vt} {R0 : Vt} (hr : RowG (fun x : Vt => x.h.cells) id 13 30 B S q W (.slice a m c) m) (hm : m ≤ 1048576) (hB : w.heap.size ≤ B) (hb : Below w.heap.size w W)
    (hq : ∀ j X, j < m → q j X → X.Same (M j)) (hso : ∀ (a : Option Addr) (c b : Nat) (M' : Nat → Vt), (∀ j, j < m → (M' j).Same (M j)) → (Vt.mk (Vh.lst 6 a m c b) (fun _ => 0) M' (fun _ => ByteArray.empty) (fun _ => .nil)).Same R0) :
    FnS R0 S w (.returned (.agg #[.int .i64 6, .bool false, .bool false, .string ⟨#[]⟩, .int .i64 0, .int .i64 0, .int .i64 0, .int .i64 0, .int .i64 0, .string ⟨#[]⟩, .slice none 0 0, .slice a m c, .slice none 0 0])) W := by
  obtain ⟨f, a', c', b, e, hcc, ha, hrows⟩ := RowG.done (fun x : Vt => vh_size x.h) hr
  injection e with e1 e2 e3
  subst e1 e3
  exact ⟨_, rfl, lst_in ⟨by decide, by decide⟩ hm hcc (fun h => ⟨(ha h).1, (ha h).2.2⟩) (fun j hj => ⟨(hrows j hj).1, (hrows j hj).2.1⟩),
    ⟨fun q => absurd q (Nat.lt_irrefl _), fun q => .inr (Nat.le_trans hB (ha q).2.1), fun j hj => (hrows j hj).2.2.1.mono fun b hb => .inl hb, fun q => absurd q (Nat.lt_irrefl _), fun i hi => absurd hi (Nat.not_lt_zero _)⟩,
    hso a c b f (fun j hj => hq j _ hj (hrows j hj).2.2.2), hb⟩
theorem fld_out {w W : World} {B m c : Nat} {S : Nat → Prop} {a : Option Addr} {q : Nat → ByteArray × Vt → Prop} {K : Nat → ByteArray} {M : Nat → Vt} {R0 : Vt} (hr : RowG fcs Prod.snd 14 76 B S q W (.slice a m c) m) (hm : m ≤ 1048576) (hB : w.heap.size ≤ B) (hb : Below w.heap.size w W)
    (hq : ∀ j x, j < m → q j x → x.1 = K j ∧ x.1.size ≤ 1048576 ∧ x.2.Same (M j)) (hso : ∀ (a : Option Addr) (c b : Nat) (K' : Nat → ByteArray) (M' : Nat → Vt), (∀ j, j < m → K' j = K j ∧ (M' j).Same (M j)) → (Vt.mk (Vh.fld 7 a m c b) (fun _ => 0) (fun _ => .nil) K' M').Same R0) :
    FnS R0 S w (.returned (.agg #[.int .i64 7, .bool false, .bool false, .string ⟨#[]⟩, .int .i64 0, .int .i64 0, .int .i64 0, .int .i64 0, .int .i64 0, .string ⟨#[]⟩, .slice none 0 0, .slice none 0 0, .slice a m c])) W := by
  obtain ⟨f, a', c', b, e, hcc, ha, hrows⟩ := hr.done fcs_size
  injection e with e1 e2 e3
  subst e1 e3
  exact ⟨_, rfl, fld_in (K := fun j => (f j).1) (M := fun j => (f j).2) ⟨by decide, by decide⟩ hm hcc (fun h => ⟨(ha h).1, (ha h).2.2⟩) (fun j hj => ⟨(hrows j hj).1, (hq j _ hj (hrows j hj).2.2.2).2.1, (hrows j hj).2.1⟩),
    ⟨fun q => absurd q (Nat.lt_irrefl _), fun q => absurd q (Nat.lt_irrefl _), fun i hi => absurd hi (Nat.not_lt_zero _), fun q => .inr (Nat.le_trans hB (ha q).2.1), fun j hj => (hrows j hj).2.2.1.mono fun b hb => .inl hb⟩,
    hso a c b _ _ (fun j hj => ⟨(hq j _ hj (hrows j hj).2.2.2).1, (hq j _ hj (hrows j hj).2.2.2).2.2⟩), hb⟩
end Go.Proofs.YtpcbhneaaibfiaaDoor
/- A complete value goes into the innermost list of a builder: the walk of put. -/
set_option linter.unusedSimpArgs false
set_option linter.unusedVariables false
namespace Go.Proofs.YtpcbhneaaibfiaaDoor
open Go.RowKit

set_option maxHeartbeats 8000000 in
set_option maxRecDepth 100000 in
theorem put_list {B0 bb i : Nat} {A O : Nat → Prop} {W : World} {s : Bst} {Y V : Vt} (h : BInv B0 bb A O W s) (hi : s.d = i + 1) (hm : (s.fr i).mp = false) (hn : (s.fr i).n + 1 ≤ s.nd) (hY : Y.In W W.heap.size) (hYo : Y.Off (fun b => A b ∧ ¬ O b)) (hYs : Y.Same V) (hV : V.upto (48 - i)) :
    Calls Tryd.prog 48 #[.pointer (some ⟨bb, 0, none⟩), .agg Y.h.cells] W (BOut B0 bb A O W (putS s V) (.tuple #[])) := by
  obtain ⟨ov, us, X, h⟩ := h
  have hb1 := (Below.refl W.heap.size W).alloc (Nat.le_refl _) (.cells Y.h.cells 30)
  have h1 := h.later hb1
  have hY1 := hY.later hb1
  have YB := Whole.new W 30 Y.h.cells
  have hd48 := h.ok.d
  have hnd := h.ok.nd
  have hi' : i < s.d := by omega
  obtain ⟨o, co, cur, eo, FB, hB, hdc, hco, hcs, hcur⟩ := h1.row.op (by omega)
  have r := h1.rows i hi'
  unfold Fr.row at r
  rw [if_neg (by rw [hm]; decide)] at r
  obtain ⟨a, cp, eu⟩ := r.sl
  obtain ⟨f, hown, hf⟩ := r
  have hY2 : Y.In (W.alloc (.cells Y.h.cells 30)) (W.alloc (.cells Y.h.cells 30)).heap.size := hY1
  have HF : Hid (∀ W' g c, Kept (fun b => b = o ∨ (us i).ownBlock = some b) (W.alloc (.cells Y.h.cells 30)) W' → ((us i).ownBlock = some g ∨ (W.alloc (.cells Y.h.cells 30)).heap.size ≤ g) → Whole W' o 98 (cur.setIfInBounds (i * 15 + 11) (.slice (some ⟨g, 0, none⟩) ((s.fr i).n + 1) c)) → W'.ownsRow B0 30 13 (.slice (some ⟨g, 0, none⟩) ((s.fr i).n + 1) c) ((s.fr i).n + 1) (catN (fun t => (f t).h.cells) (s.fr i).n ++ Y.h.cells.toList) → BOut B0 bb A O W (putS s V) (.tuple #[]) (.returned (.tuple #[])) W') :=
    Lib.hid fun W' g c hk hg hW ho => list_end h1 hb1 hi hm hn hY2 hYo hYs hV eo hB hdc hco hcs hcur hf hk hg hW ho
  have PB : Whole (W.alloc (.cells Y.h.cells 30)) bb 86 (bcells ov s.dn X.h s.nd s.bad) := h1.box
  have q0 : (W.alloc (.cells Y.h.cells 30)).cell? ⟨o, i * 15, none⟩ = some (.int .i64 6) := by
    have q := hcur i hi' 0 (by decide)
    rw [cells_list hm] at q
    exact (FB.cell (i * 15)).trans q
  have q11 : (W.alloc (.cells Y.h.cells 30)).cell? ⟨o, i * 15 + 11, none⟩ = some (us i) := by
    have q := hcur i hi' 11 (by decide)
    rw [cells_list hm] at q
    exact (FB.cell (i * 15 + 11)).trans q
  have p0 : World.cell? _ ⟨bb, 0, none⟩ = some (.slice (some ⟨o, 0, none⟩) (i + 1) co) := (PB.cell 0).trans (by rw [eo, hi]; rfl)
  have hn6 : (s.fr i).n ≤ 65536 := by omega
  have hi7 : i ≤ 47 := by omega
  obtain ⟨n, hnn⟩ : ∃ n, (s.fr i).n = n := ⟨_, rfl⟩
  obtain ⟨u, huu⟩ : ∃ u, us i = u := ⟨_, rfl⟩
  rw [hnn] at HF hown eu hn6
  rw [huu] at HF hown eu q11
  have hcur2 : i * 15 + 15 ≤ cur.size := by omega
  have hone := Lib.hid (vh_all Y.h)
  obtain ⟨x0, x1, x2, x3, x4, x5, x6, x7, x8, x9, x10, x11, x12⟩ := Whole.c13 (h := Y.h) YB
  obtain ⟨w0, hw0⟩ : ∃ w0, W.alloc (.cells Y.h.cells 30) = w0 := ⟨_, rfl⟩
  have hWs : w0.heap.size = W.heap.size + 1 := by rw [← hw0, World.size_alloc]
  have Ho := hown.lt
  rw [hw0] at HF PB q0 q11 p0 hown FB YB x0 x1 x2 x3 x4 x5 x6 x7 x8 x9 x10 x11 x12 Ho
  have HW0 := Lib.hid hw0
  have pA := p0
  rw [← hw0] at pA
  have hoy : o ≠ W.heap.size := fun e => by
    have := (h.row.lt (g := o) (by rw [eo]; rfl)).2
    omega
  have huo : ∀ g, u.ownBlock = some g → g ≠ o ∧ g ≠ W.heap.size := fun g hg => by
    refine ⟨fun e => ?_, fun e => ?_⟩
    · have := (h.sep2 i hi').2 (by rw [huu, hg, eo, e]; rfl)
      rw [huu, hg] at this
      cases this
    · have := (Fr.row_lt (h.rows i hi') (g := g) (by rw [huu]; exact hg)).2
      omega
  have hfrz := FB.frozen (i * 15 + 11)
  clear h h1 hb1 hY hY1 hY2 hYo hYs hV hf hcur hn hnd hd48 hi' hdc hcs hnn huu hw0 eo PB
  subst eu
  have i3 : ((i : Nat) : Int) ≤ 47 := by omega
  have i4 : (0 : Int) ≤ ((i : Nat) : Int) := by omega
  simp only [Vh.cells] at x0 x1 x2 x3 x4 x5 x6 x7 x8 x9 x10 x11 x12 hone HW0 pA ⊢
  go_enter Tryd.func48, Tryd.ntmps48
  go_wp2_with (fail)
  clear pA
  simp only [HW0.out]
  go_quiet (fail)
  -- region 5
  have B1 : Below w0.heap.size w0 (w0.drewN nq) := ⟨rfl, rfl, rfl, Nat.le_refl _, fun _ _ => rfl⟩
  generalize w0.drewN nq = w1 at *
  have FB1 := FB.below B1 FB.lt
  have YB1 := YB.below B1 YB.lt
  have q01 := (B1.cell (p := ⟨o, i * 15, none⟩) FB.lt).trans q0
  clear q0 p0 x0 x1 x2 x3 x4 x5 x6 x7 x8 x9 x10 x11 x12
  go_wp2_with fail
  refine wp_region_held_drew (S := fun V => Whole V W.heap.size 30 Y.h.cells) (by kernel_rfl) (Whole.drew YB1) (fun hS => ?_)
  refine wpAnyH_take (i := 0) (v := ?v0x1) rfl (by kernel_rfl) (by kernel_rfl) (by kernel_rfl) (fun _ _ _ h => h) (Or.inl ⟨by rfl, ?hy0x1⟩) hS ?rest0x1
  case hy0x1 => (intro wS hSw; go_simp; (try with_reducible rfl))
  case rest0x1 =>
  simp only [Act.put, List.getElem_toArray, List.getElem_cons_zero, List.getElem_cons_succ, List.setIfInBounds_toArray, List.set_cons_zero, List.set_cons_succ]
  refine wpAnyH_take (i := 1) (v := ?v1x2) rfl (by kernel_rfl) (by kernel_rfl) (by kernel_rfl) (fun _ _ _ h => h) (Or.inl ⟨by rfl, ?hy1x2⟩) hS ?rest1x2
  case hy1x2 => (intro wS hSw; go_simp; (try with_reducible rfl))
  case rest1x2 =>
  simp only [Act.put, List.getElem_toArray, List.getElem_cons_zero, List.getElem_cons_succ, List.setIfInBounds_toArray, List.set_cons_zero, List.set_cons_succ]
  refine wpAnyH_take (i := 2) (v := ?v2x3) rfl (by kernel_rfl) (by kernel_rfl) (by kernel_rfl) (fun _ _ _ h => h) (Or.inl ⟨by rfl, ?hy2x3⟩) hS ?rest2x3
  case hy2x3 => (intro wS hSw; go_simp; (try with_reducible rfl))
  case rest2x3 =>
  simp only [Act.put, List.getElem_toArray, List.getElem_cons_zero, List.getElem_cons_succ, List.setIfInBounds_toArray, List.set_cons_zero, List.set_cons_succ]
  refine wpAnyH_take (i := 3) (v := ?v3x4) rfl (by kernel_rfl) (by kernel_rfl) (by kernel_rfl) (fun _ _ _ h => h) (Or.inl ⟨by rfl, ?hy3x4⟩) hS ?rest3x4
  case hy3x4 => (intro wS hSw; go_simp; (try with_reducible rfl))
  case rest3x4 =>
  simp only [Act.put, List.getElem_toArray, List.getElem_cons_zero, List.getElem_cons_succ, List.setIfInBounds_toArray, List.set_cons_zero, List.set_cons_succ]
  refine wpAnyH_take (i := 5) (v := ?v5x5) rfl (by kernel_rfl) (by kernel_rfl) (by kernel_rfl) (fun _ _ _ h => h) (Or.inl ⟨by rfl, ?hy5x5⟩) hS ?rest5x5
  case hy5x5 => (intro wS hSw; obtain ⟨y0, y1, y2, y3, y4, y5, y6, y7, y8, y9, y10, y11, y12⟩ := Whole.c13 (h := Y.h) hSw; go_simp; (try with_reducible rfl))
  case rest5x5 =>
  simp only [Act.put, List.getElem_toArray, List.getElem_cons_zero, List.getElem_cons_succ, List.setIfInBounds_toArray, List.set_cons_zero, List.set_cons_succ]
  have B2 : Below w0.heap.size w0 w1.drew := B1.drew
  have FB2 : Whole w1.drew o 98 cur := FB1
  have YB2 : Whole w1.drew W.heap.size 30 Y.h.cells := YB1
  clear B1 FB1 YB1 q01
  generalize w1.drew = w2 at *
  have q2 := (B2.cell (p := ⟨o, i * 15 + 11, none⟩) FB.lt).trans q11
  have q2a : (w2.alloc (.cells #[.int .i64 0, .bool false, .bool false, .string ⟨#[]⟩, .int .i64 0, .int .i64 0, .int .i64 0, .int .i64 0, .int .i64 0, .string ⟨#[]⟩, .slice none 0 0, .slice none 0 0, .slice none 0 0] 30)).cell? ⟨o, i * 15 + 11, none⟩ = some (.slice a n cp) := (((Below.refl w2.heap.size w2).alloc (Nat.le_refl _) (.cells #[.int .i64 0, .bool false, .bool false, .string ⟨#[]⟩, .int .i64 0, .int .i64 0, .int .i64 0, .int .i64 0, .int .i64 0, .string ⟨#[]⟩, .slice none 0 0, .slice none 0 0, .slice none 0 0] 30)).cell (p := ⟨o, i * 15 + 11, none⟩) FB2.lt).trans q2
  apply cutAt
  · intro E
    refine wpAnyH_ready (rs := [4, 7]) (by kernel_rfl) (by simp) ?_
    refine (AllReadyH.cons rfl (fun KK hK => ?_) (AllReadyH.cons rfl (fun KK hK => ?_) AllReadyH.nil))
    · go_simp
      refine hK.out _ _ hS (fun hS2 => ?_)
      clear hK KK
      try simp only [Act.put, List.getElem_toArray, List.getElem_cons_zero, List.getElem_cons_succ, List.setIfInBounds_toArray, List.set_cons_zero, List.set_cons_succ]
      refine wpAnyH_take (i := 6) (v := ?v6x6) rfl (by kernel_rfl) (by kernel_rfl) (by kernel_rfl) (fun _ _ _ h => h) (Or.inl ⟨by rfl, ?hy6x6⟩) hS2 ?rest6x6
      case hy6x6 => (intro wS hSw; go_simp; (try with_reducible rfl))
      case rest6x6 =>
      simp only [Act.put, List.getElem_toArray, List.getElem_cons_zero, List.getElem_cons_succ, List.setIfInBounds_toArray, List.set_cons_zero, List.set_cons_succ]
      refine wpAnyH_ready (rs := [7]) (by kernel_rfl) (by simp) ?_
      refine AllReadyH.cons rfl (fun KK hK => ?_) AllReadyH.nil
      go_simp
      refine hK.out _ _ (Whole.alloc hS2 _) (fun hS3 => ?_)
      clear hK KK
      try simp only [Act.put, List.getElem_toArray, List.getElem_cons_zero, List.getElem_cons_succ, List.setIfInBounds_toArray, List.set_cons_zero, List.set_cons_succ]
      exact E
    · go_simp
      refine hK.out _ _ (Whole.alloc hS _) (fun hS2 => ?_)
      clear hK KK
      try simp only [Act.put, List.getElem_toArray, List.getElem_cons_zero, List.getElem_cons_succ, List.setIfInBounds_toArray, List.set_cons_zero, List.set_cons_succ]
      refine wpAnyH_ready (rs := [4]) (by kernel_rfl) (by simp) ?_
      refine AllReadyH.cons rfl (fun KK hK => ?_) AllReadyH.nil
      go_simp
      refine hK.out _ _ hS2 (fun hS3 => ?_)
      clear hK KK
      try simp only [Act.put, List.getElem_toArray, List.getElem_cons_zero, List.getElem_cons_succ, List.setIfInBounds_toArray, List.set_cons_zero, List.set_cons_succ]
      refine wpAnyH_take (i := 6) (v := ?v6x7) rfl (by kernel_rfl) (by kernel_rfl) (by kernel_rfl) (fun _ _ _ h => h) (Or.inl ⟨by rfl, ?hy6x7⟩) hS3 ?rest6x7
      case hy6x7 => (intro wS hSw; go_simp; (try with_reducible rfl))
      case rest6x7 =>
      simp only [Act.put, List.getElem_toArray, List.getElem_cons_zero, List.getElem_cons_succ, List.setIfInBounds_toArray, List.set_cons_zero, List.set_cons_succ]
      exact E
  clear q2 q2a
  have YBa := Whole.alloc YB2 (.cells #[.int .i64 0, .bool false, .bool false, .string ⟨#[]⟩, .int .i64 0, .int .i64 0, .int .i64 0, .int .i64 0, .int .i64 0, .string ⟨#[]⟩, .slice none 0 0, .slice none 0 0, .slice none 0 0] 30)
  have Ba := B2.alloc B2.size (.cells #[.int .i64 0, .bool false, .bool false, .string ⟨#[]⟩, .int .i64 0, .int .i64 0, .int .i64 0, .int .i64 0, .int .i64 0, .string ⟨#[]⟩, .slice none 0 0, .slice none 0 0, .slice none 0 0] 30)
  have FBa := Whole.alloc FB2 (.cells #[.int .i64 0, .bool false, .bool false, .string ⟨#[]⟩, .int .i64 0, .int .i64 0, .int .i64 0, .int .i64 0, .int .i64 0, .string ⟨#[]⟩, .slice none 0 0, .slice none 0 0, .slice none 0 0] 30)
  have hs2 := B2.size
  have hsa : (w2.alloc (.cells #[.int .i64 0, .bool false, .bool false, .string ⟨#[]⟩, .int .i64 0, .int .i64 0, .int .i64 0, .int .i64 0, .int .i64 0, .string ⟨#[]⟩, .slice none 0 0, .slice none 0 0, .slice none 0 0] 30)).heap.size = w2.heap.size + 1 := World.size_alloc _ _
  have Hown := Lib.hid (own_block (W' := w2.alloc (.cells #[.int .i64 0, .bool false, .bool false, .string ⟨#[]⟩, .int .i64 0, .int .i64 0, .int .i64 0, .int .i64 0, .int .i64 0, .string ⟨#[]⟩, .slice none 0 0, .slice none 0 0, .slice none 0 0] 30)) hown (fun g hg => Ba.block g (Ho g hg).2))
  have Hlen := Lib.hid hown.1
  have s1 := Lib.hid (cells_new w2 30 #[.int .i64 0, .bool false, .bool false, .string ⟨#[]⟩, .int .i64 0, .int .i64 0, .int .i64 0, .int .i64 0, .int .i64 0, .string ⟨#[]⟩, .slice none 0 0, .slice none 0 0, .slice none 0 0])
  have s2 : Hid (∀ u ∈ (#[.int .i64 0, .bool false, .bool false, .string ⟨#[]⟩, .int .i64 0, .int .i64 0, .int .i64 0, .int .i64 0, .int .i64 0, .string ⟨#[]⟩, .slice none 0 0, .slice none 0 0, .slice none 0 0] : Array Value).toList, u.oneCell' = true) := Lib.hid (vh_one Vh.zero)
  have s3 : Hid (n + 1 ≤ maxLen) := Lib.hid (by unfold maxLen; omega)
  have s4 : Hid ((n + 1) * 168 ≤ 140737488355328) := Lib.hid (by omega)
  obtain ⟨i0, hi0, hz0, hz1, hz2⟩ := info_parts Tryd.infoVal
  clear hown
  refine wpAnyH_ready (rs := [8]) (by kernel_rfl) (by simp) ?_
  refine AllReadyH.cons rfl (fun KK hK => ?_) AllReadyH.nil
  refine step_append_lies _ (by rfl) _ _ _ (by rfl) B0 30 i0 _ 13 168 Tryd.underlying27 hi0 hz0 hz1 hz2 rfl (by decide) (.slice a n cp) n _ (by rfl) Hown.out ⟨w2.heap.size, 0, none⟩ 1 1 (#[.int .i64 0, .bool false, .bool false, .string ⟨#[]⟩, .int .i64 0, .int .i64 0, .int .i64 0, .int .i64 0, .int .i64 0, .string ⟨#[]⟩, .slice none 0 0, .slice none 0 0, .slice none 0 0] : Array Value).toList (by rfl) (by rfl) ?s1 s2.out (by omega) s3.out s4.out ?s5 (w2.heap.size + 1) (by simp) ?_
  case s1 => exact fun p v hv => s1.out p v hv
  case s5 => have := FB.lt; rw [hsa]; omega
  intro gg cap w3 hown3 hgrow hat hlt3
  obtain ⟨cg, GB, hcg, hBg, Hfill⟩ := own_fill (vs := Y.h.cells.toList) hown3 Hlen.out rfl
  have hgo : gg ≠ o := fun e => by
    rcases hat with q | q
    · exact (huo gg q).1 e
    · have := FB.lt; omega
  have hgy : gg ≠ W.heap.size := fun e => by
    rcases hat with q | q
    · exact (huo gg q).2 e
    · omega
  have FB3 := FBa.kept hgrow (fun e => (huo o e.symm).1 rfl)
  have YB3 := YBa.kept hgrow (fun e => (huo _ e.symm).2 rfl)
  have HG : (Value.slice a n cp).ownBlock = some gg ∨ w0.heap.size ≤ gg := hat.imp id (fun q => by omega)
  have K3 : Kept (fun b => b = o ∨ (Value.slice a n cp).ownBlock = some b) w0 w3 := (Kept.of Ba).trans (kept_grown (X := fun b => (Value.slice a n cp).ownBlock = some b) hgrow (fun g hg => hg)) (fun b q => .inl (.inr q))
  clear FBa YBa Ba FB2 YB2 B2 hown3 hgrow hat s1 s2 s3 s4 Hown Hlen
  have hsz := K3.size
  have HTh := Lib.hid (whole_there (n := 13) GB hcg)
  have HTo := Lib.hid (fun (v : Value) => whole_there (n := 13) (Whole.far (p := ⟨o, i * 15 + 11, none⟩) GB hgo v) hcg)
  have oF := FB3.frozen (i * 15 + 11)
  have oC : ∃ z, w3.cell? ⟨o, i * 15 + 11, none⟩ = some z := ⟨_, (FB3.cell _).trans (Array.getElem?_eq_getElem (by omega))⟩
  obtain ⟨z, oC⟩ := oC
  refine hK.out _ _ YB3 (fun hS4 => ?_)
  clear hK KK
  try simp only [Act.put, List.getElem_toArray, List.getElem_cons_zero, List.getElem_cons_succ, List.setIfInBounds_toArray, List.set_cons_zero, List.set_cons_succ]
  have k1 : (n : Int) < (n : Int) + 1 := by omega
  have k2 : (0 : Int) ≤ (n : Int) := by omega
  refine wpAnyH_take (i := 9) (v := ?v9x8) rfl (by kernel_rfl) (by kernel_rfl) (by kernel_rfl) (fun _ _ _ h => h) (Or.inl ⟨by rfl, ?hy9x8⟩) hS4 ?rest9x8
  case hy9x8 => (intro wS hSw; go_simp; (try with_reducible rfl))
  case rest9x8 =>
  simp only [Act.put, List.getElem_toArray, List.getElem_cons_zero, List.getElem_cons_succ, List.setIfInBounds_toArray, List.set_cons_zero, List.set_cons_succ]
  refine wpAnyH_take (i := 11) (v := ?v11x9) rfl (by kernel_rfl) (by kernel_rfl) (by kernel_rfl) (fun _ _ _ h => h) (Or.inl ⟨by rfl, ?hy11x9⟩) hS4 ?rest11x9
  case hy11x9 => (intro wS hSw; go_simp; (try with_reducible rfl))
  case rest11x9 =>
  simp only [Act.put, List.getElem_toArray, List.getElem_cons_zero, List.getElem_cons_succ, List.setIfInBounds_toArray, List.set_cons_zero, List.set_cons_succ]
  refine wpAnyH_take (i := 12) (v := ?v12x10) rfl (by kernel_rfl) (by kernel_rfl) (by kernel_rfl) (fun _ _ _ h => h) (Or.inl ⟨by rfl, ?hy12x10⟩) hS4 ?rest12x10
  case hy12x10 => (intro wS hSw; go_simp; (try with_reducible rfl))
  case rest12x10 =>
  simp only [Act.put, List.getElem_toArray, List.getElem_cons_zero, List.getElem_cons_succ, List.setIfInBounds_toArray, List.set_cons_zero, List.set_cons_succ]
  refine wpAnyH_take (i := 13) (v := ?v13x11) rfl (by kernel_rfl) (by kernel_rfl) (by kernel_rfl) (fun _ _ _ h => h) (Or.inl ⟨by rfl, ?hy13x11⟩) hS4 ?rest13x11
  case hy13x11 => (intro wS hSw; go_simp; (try with_reducible rfl))
  case rest13x11 =>
  simp only [Act.put, List.getElem_toArray, List.getElem_cons_zero, List.getElem_cons_succ, List.setIfInBounds_toArray, List.set_cons_zero, List.set_cons_succ]
  refine wpAnyH_ready (rs := [10, 14]) (by kernel_rfl) (by simp) ?_
  refine (AllReadyH.cons rfl (fun KK hK => ?_) (AllReadyH.cons rfl (fun KK hK => ?_) AllReadyH.nil))
  · rw [if_pos (by rfl)]
    refine wp_store_mid 30 _ _ rfl gg (n * 13) #[.int .i64 Y.h.k, .bool Y.h.b, .bool Y.h.n, .string Y.h.d, .int .i64 Y.h.e, .int .i64 Y.h.tk, .int .i64 Y.h.td, .int .i64 Y.h.tn, .int .i64 Y.h.tz, .string Y.h.x, .slice Y.h.ba Y.h.bn Y.h.bc, .slice Y.h.la Y.h.ln Y.h.lc, .slice Y.h.fa Y.h.fn Y.h.fc] rfl rfl HTh.out vh_row hone.out ?_
    have FB4 : Whole (w3.setCells gg (n * 13) Y.h.cells.toList) o 98 cur := (heap_setCells (fun e => hgo e.symm) _ _ _).trans FB3
    have YB4 : Whole (w3.setCells gg (n * 13) Y.h.cells.toList) W.heap.size 30 Y.h.cells := (heap_setCells (fun e => hgy e.symm) _ _ _).trans YB3
    have GB4 := Whole.setCells Y.h.cells.toList (n * 13) GB
    have K4 := K3.trans (kept_cells (fun b => b = gg) gg rfl Y.h.cells.toList w3 (n * 13)) (fun b q => by subst q; exact HG.imp (fun q => .inr q) id)
    obtain ⟨w4, hw4⟩ : ∃ w4, w3.setCells gg (n * 13) Y.h.cells.toList = w4 := ⟨_, rfl⟩
    rw [hw4] at FB4 YB4 GB4 K4
    have hw4' : w3.setCells gg (n * 13) (#[.int .i64 Y.h.k, .bool Y.h.b, .bool Y.h.n, .string Y.h.d, .int .i64 Y.h.e, .int .i64 Y.h.tk, .int .i64 Y.h.td, .int .i64 Y.h.tn, .int .i64 Y.h.tz, .string Y.h.x, .slice Y.h.ba Y.h.bn Y.h.bc, .slice Y.h.la Y.h.ln Y.h.lc, .slice Y.h.fa Y.h.fn Y.h.fc] : Array Value).toList = w4 := hw4
    rw [hw4']
    clear hw4 hw4'
    refine hK.out _ _ YB4 (fun hS5 => ?_)
    clear hK KK
    try simp only [Act.put, List.getElem_toArray, List.getElem_cons_zero, List.getElem_cons_succ, List.setIfInBounds_toArray, List.set_cons_zero, List.set_cons_succ]
    have oF4 := FB4.frozen (i * 15 + 11)
    have oC4 : ∃ z, w4.cell? ⟨o, i * 15 + 11, none⟩ = some z := ⟨_, (FB4.cell _).trans (Array.getElem?_eq_getElem (by omega))⟩
    obtain ⟨z4, oC4⟩ := oC4
    refine wpAnyH_ready (rs := [14]) (by kernel_rfl) (by simp) ?_
    refine AllReadyH.cons rfl (fun KK hK => ?_) AllReadyH.nil
    go_simp
    refine hK.out _ _ (Whole.far YB4 (fun e => hoy e.symm) _) (fun hS6 => ?_)
    clear hK KK
    try simp only [Act.put, List.getElem_toArray, List.getElem_cons_zero, List.getElem_cons_succ, List.setIfInBounds_toArray, List.set_cons_zero, List.set_cons_succ]
    refine wpAnyH_done (by kernel_rfl) ?_ _
    have HFF := Lib.hid (HF.out _ gg cap (K4.trans (kept_set (fun b => b = o) _ o (i * 15 + 11) (.slice (some ⟨gg, 0, none⟩) (n + 1) cap) rfl) (fun b q => .inl (.inl q))) HG (FB4.set (i * 15 + 11) (.slice (some ⟨gg, 0, none⟩) (n + 1) cap)) (Hfill _ (Whole.far (p := ⟨o, i * 15 + 11, none⟩) GB4 hgo _)))
    go_wp2_with fail
    go_end0
    exact HFF.out
  · go_simp
    have FB4 := FB3.set (i * 15 + 11) (.slice (some ⟨gg, 0, none⟩) (n + 1) cap)
    have YB4 := Whole.far (p := ⟨o, i * 15 + 11, none⟩) YB3 (fun e => hoy e.symm) (.slice (some ⟨gg, 0, none⟩) (n + 1) cap)
    have GB4 := Whole.far (p := ⟨o, i * 15 + 11, none⟩) GB hgo (.slice (some ⟨gg, 0, none⟩) (n + 1) cap)
    have K4 := K3.trans (kept_set (fun b => b = o) _ o (i * 15 + 11) (.slice (some ⟨gg, 0, none⟩) (n + 1) cap) rfl) (fun b q => .inl (.inl q))
    refine hK.out _ _ YB4 (fun hS5 => ?_)
    clear hK KK
    try simp only [Act.put, List.getElem_toArray, List.getElem_cons_zero, List.getElem_cons_succ, List.setIfInBounds_toArray, List.set_cons_zero, List.set_cons_succ]
    refine wpAnyH_ready (rs := [10]) (by kernel_rfl) (by simp) ?_
    refine AllReadyH.cons rfl (fun KK hK => ?_) AllReadyH.nil
    rw [if_pos (by rfl)]
    refine wp_store_mid 30 _ _ rfl gg (n * 13) #[.int .i64 Y.h.k, .bool Y.h.b, .bool Y.h.n, .string Y.h.d, .int .i64 Y.h.e, .int .i64 Y.h.tk, .int .i64 Y.h.td, .int .i64 Y.h.tn, .int .i64 Y.h.tz, .string Y.h.x, .slice Y.h.ba Y.h.bn Y.h.bc, .slice Y.h.la Y.h.ln Y.h.lc, .slice Y.h.fa Y.h.fn Y.h.fc] rfl rfl (HTo.out _) vh_row hone.out ?_
    refine hK.out _ _ ((heap_setCells (fun e => hgy e.symm) _ _ _).trans YB4) (fun hS6 => ?_)
    clear hK KK
    try simp only [Act.put, List.getElem_toArray, List.getElem_cons_zero, List.getElem_cons_succ, List.setIfInBounds_toArray, List.set_cons_zero, List.set_cons_succ]
    refine wpAnyH_done (by kernel_rfl) ?_ _
    have HFF := Lib.hid (HF.out _ gg cap (K4.trans (kept_cells (fun b => b = gg) gg rfl Y.h.cells.toList _ (n * 13)) (fun b q => by subst q; exact HG.imp (fun q => .inr q) id)) HG ((heap_setCells (fun e => hgo e.symm) _ _ _).trans FB4) (Hfill _ (Whole.setCells Y.h.cells.toList (n * 13) GB4)))
    go_wp2_with fail
    go_end0
    exact HFF.out
end Go.Proofs.YtpcbhneaaibfiaaDoor
/- A complete value goes into the innermost map of a builder: put, the third way. -/
set_option linter.unusedSimpArgs false
set_option linter.unusedVariables false
namespace Go.Proofs.YtpcbhneaaibfiaaDoor
open Go.RowKit

theorem set_one {C D : Array Value} {i : Nat} (hs : i * 15 + 15 ≤ C.size) (hD : D.size = 15) (hC : ∀ j, j < 15 → C[i * 15 + j]? = D[j]?) (k : Nat) (hk : k < 15) (v : Value) :
    ∀ j, j < 15 → (C.setIfInBounds (i * 15 + k) v)[i * 15 + j]? = (D.setIfInBounds k v)[j]? := fun j hj => by
  rw [Array.getElem?_setIfInBounds, Array.getElem?_setIfInBounds, hC j hj, hD]
  by_cases e : k = j
  · subst e; rw [if_pos rfl, if_pos rfl, if_pos (by omega), if_pos hk]
  · rw [if_neg (by omega), if_neg e]
/-- The frame's block behind it. -/
def curF (cur : Array Value) (i : Nat) (u : Value) : Array Value := ((cur.setIfInBounds (i * 15 + 12) u).setIfInBounds (i * 15 + 13) (.string ⟨#[]⟩)).setIfInBounds (i * 15 + 14) (.bool false)
/-- What the third way leaves behind. -/
theorem map_end {B0 bb : Nat} {A O : Nat → Prop} {W W0 W' : World} {s : Bst} {ov : Value} {us : Nat → Value} {X Y V : Vt} {i o co g c : Nat} {cur : Array Value} {f : Nat → ByteArray × Vt}
    (h : BIn B0 bb A O W0 s ov us X) (hb : Below W.heap.size W W0) (hi : s.d = i + 1) (hm : (s.fr i).mp = true) (hn : (s.fr i).n + 1 ≤ s.nd) (hY : Y.In W0 W0.heap.size) (hYo : Y.Off (fun b => A b ∧ ¬ O b)) (hYs : Y.Same V) (hV : V.upto (48 - i))
    (eo : ov = .slice (some ⟨o, 0, none⟩) s.d co) (hB : B0 ≤ o) (hd : s.d ≤ co) (hco : co ≤ maxLen) (hcs : cur.size = co * 15) (hcur : ∀ t, t < s.d → ∀ j, j < 15 → cur[t * 15 + j]? = ((s.fr t).cells (us t))[j]?)
    (hf : ∀ t, t < (s.fr i).n → (f t).2.In W0 W0.heap.size ∧ (f t).2.Off (fun b => (A b ∧ ¬ O b) ∧ some b ≠ (us i).ownBlock) ∧ (f t).1 = (s.fr i).K t ∧ (f t).2.Same ((s.fr i).M t))
    (hk : Kept (fun b => b = o ∨ (us i).ownBlock = some b) W0 W') (hg : (us i).ownBlock = some g ∨ W0.heap.size ≤ g) (hW : Whole W' o 98 (curF cur i (.slice (some ⟨g, 0, none⟩) ((s.fr i).n + 1) c)))
    (ho : W'.ownsRow B0 76 14 (.slice (some ⟨g, 0, none⟩) ((s.fr i).n + 1) c) ((s.fr i).n + 1) (catN (fun t => fcs (f t)) (s.fr i).n ++ (fcs ((s.fr i).key, Y)).toList)) :
    BOut B0 bb A O W (putS s V) (.tuple #[]) (.returned (.tuple #[])) W' := by
  have hi' : i < s.d := by omega
  rw [putS_map hi hm]
  refine ⟨rfl, h.put_end (f' := oneF (s.fr i) V) (o := o) (g := g) (c := c) hb hi (by rw [eo]; rfl) hk hg ?_ ?_ (ok_map h.ok hi' hn hV)⟩
  · rw [eo]
    refine FrRow.turn (cur := cur) (i := i) hW hB hd hco hcs hcur (by unfold curF; rw [Array.size_setIfInBounds, Array.size_setIfInBounds, Array.size_setIfInBounds]) (fun j hj => by unfold curF; rw [Array.getElem?_setIfInBounds_ne (by omega), Array.getElem?_setIfInBounds_ne (by omega), Array.getElem?_setIfInBounds_ne (by omega)]) ?_ (fun t _ hti => by rw [if_neg hti])
    rw [if_pos rfl]
    have h15 : i * 15 + 15 ≤ cur.size := by omega
    have e1 := set_one h15 (Fr.cells_size _ _) (hcur i hi') 12 (by decide) (.slice (some ⟨g, 0, none⟩) ((s.fr i).n + 1) c)
    have e2 := set_one (by rw [Array.size_setIfInBounds]; exact h15) (by rw [Array.size_setIfInBounds]; exact Fr.cells_size _ _) e1 13 (by decide) (.string ⟨#[]⟩)
    have e3 := set_one (by rw [Array.size_setIfInBounds, Array.size_setIfInBounds]; exact h15) (by rw [Array.size_setIfInBounds, Array.size_setIfInBounds]; exact Fr.cells_size _ _) e2 14 (by decide) (.bool false)
    intro j hj
    rw [cells_map (f := oneF (s.fr i) V) rfl]
    rw [cells_map hm] at e3
    exact e3 j hj
  · intro S' hS'
    unfold Fr.row
    rw [if_pos (show (oneF (s.fr i) V).mp = true from rfl)]
    refine RowG.one (cs := fcs) (tr := Prod.snd) (S := fun b => A b ∧ ¬ O b) (q := fun t x => x.1 = (oneF (s.fr i) V).K t ∧ x.2.Same ((oneF (s.fr i) V).M t)) (v := us i) (f := f) (x := ((s.fr i).key, Y)) (fun t ht => ⟨(hf t ht).1, (hf t ht).2.1, ?_⟩) hY hYo ?_ hk (fun b hlt hb => ⟨fun q => ?_, hS' b hlt hb⟩) (fun b hlt hb e => ?_) ho
    · show (f t).1 = upd (s.fr i).K (s.fr i).n (s.fr i).key t ∧ (f t).2.Same (upd (s.fr i).M (s.fr i).n V t)
      rw [upd_other (by omega), upd_other (by omega)]
      exact (hf t ht).2.2
    · show (s.fr i).key = upd (s.fr i).K (s.fr i).n (s.fr i).key (s.fr i).n ∧ Y.Same (upd (s.fr i).M (s.fr i).n V (s.fr i).n)
      rw [upd_same, upd_same]
      exact ⟨rfl, hYs⟩
    · rcases q with q | q
      · exact hb.2 (h.Oov (by rw [eo, q]; rfl))
      · exact hb.2 (h.Ous hi' q)
    · rcases hg with hg | hg
      · exact hb.2 (h.Ous hi' (by rw [hg, e]))
      · omega
end Go.Proofs.YtpcbhneaaibfiaaDoor
