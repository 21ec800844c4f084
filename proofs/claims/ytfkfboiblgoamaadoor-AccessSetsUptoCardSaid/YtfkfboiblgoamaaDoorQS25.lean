/- Laid together for one claim: VtRefM, VtRefN, VtLastM. -/
import Derived.Test.YtfkfboiblgoamaaDoorQS20
import Derived.Test.YtfkfboiblgoamaaDoorQS11
import Derived.Test.YtfkfboiblgoamaaDoorQS24
/- Values built anew by the reference: plain. -/
namespace Go.Proofs.YtfkfboiblgoamaaDoor
open Go.RowKit

/-- What the reference's functions answer that build a value. -/
def RefOut (R0 : Vt) (w : World) (e : Ending) (w' : World) : Prop :=
  ∃ X : Vt, e = .returned (.agg #[.int .i64 X.h.k, .bool X.h.b, .bool X.h.n, .string X.h.d, .int .i64 X.h.e, .int .i64 X.h.tk, .int .i64 X.h.td, .int .i64 X.h.tn, .int .i64 X.h.tz, .string X.h.x, .slice X.h.ba X.h.bn X.h.bc, .slice X.h.la X.h.ln X.h.lc, .slice X.h.fa X.h.fn X.h.fc]) ∧ X.In w' w'.heap.size ∧ X.Same R0 ∧ Below w.heap.size w w'
def Vh.lst (k : Int) (a : Option Addr) (n c b : Nat) : Vh := ⟨k, false, false, ⟨#[]⟩, 0, 0, 0, 0, 0, ⟨#[]⟩, none, 0, 0, a, n, c, none, 0, 0, 0, 0, b, 0, 0, 0⟩
def Vh.fld (k : Int) (a : Option Addr) (n c b : Nat) : Vh := ⟨k, false, false, ⟨#[]⟩, 0, 0, 0, 0, 0, ⟨#[]⟩, none, 0, 0, none, 0, 0, a, n, c, 0, 0, 0, 0, b, 0⟩
theorem ba_nil {s : ByteArray} (h : s.toList = []) : s = ⟨#[]⟩ := by
  rw [Lib.toList_data] at h
  exact ByteArray.ext (Array.toList_eq_nil_iff.1 h)
/-- A list that is built anew out of the same values. -/
theorem lst_same {h : Vh} {Y : Nat → Int} {K : Nat → ByteArray} {F M : Nat → Vt} {m : Nat} (ho : h.own = true) (hk : h.k = 6) {M' : Nat → Vt} (hM : ∀ j, j < m → (M' j).Same (M j)) {a : Option Addr} {c b : Nat} {Y' : Nat → Int} {K' : Nat → ByteArray} {F' : Nat → Vt} :
    (Vt.mk (Vh.lst 6 a m c b) Y' M' K' F').Same (.mk { h with ln := m } Y M K F) := by
  obtain ⟨_, _, h1, h2, h3, h4, h5, _, h7⟩ := Vh.own_parts ho
  obtain ⟨a1, a2, a3⟩ := h2 (by omega)
  obtain ⟨b1, b2, b3, b4⟩ := h3 (by omega)
  have f0 : h.fn = 0 := h7 (by omega)
  refine ⟨(fun e => by cases e), ⟨hk.symm, (h1 (by omega)).symm, a1.symm, (ba_nil a2).symm, a3.symm, b1.symm, b2.symm, b3.symm, b4.symm, (ba_nil (h4 (by omega))).symm, (h5 (by omega)).symm, rfl, f0.symm⟩, fun i hi => absurd hi (Nat.not_lt_zero _), hM, fun i hi => absurd hi (Nat.not_lt_zero _)⟩
theorem fld_same {h : Vh} {Y : Nat → Int} {K : Nat → ByteArray} {L M : Nat → Vt} {m : Nat} (ho : h.own = true) (hk : h.k = 7) {M' : Nat → Vt} {K' : Nat → ByteArray} (hM : ∀ j, j < m → K' j = K j ∧ (M' j).Same (M j)) {a : Option Addr} {c b : Nat} {Y' : Nat → Int} {L' : Nat → Vt} :
    (Vt.mk (Vh.fld 7 a m c b) Y' L' K' M').Same (.mk { h with fn := m } Y L K M) := by
  obtain ⟨_, _, h1, h2, h3, h4, h5, h6, _⟩ := Vh.own_parts ho
  obtain ⟨a1, a2, a3⟩ := h2 (by omega)
  obtain ⟨b1, b2, b3, b4⟩ := h3 (by omega)
  have l0 : h.ln = 0 := h6 (by omega)
  refine ⟨(fun e => by cases e), ⟨hk.symm, (h1 (by omega)).symm, a1.symm, (ba_nil a2).symm, a3.symm, b1.symm, b2.symm, b3.symm, b4.symm, (ba_nil (h4 (by omega))).symm, (h5 (by omega)).symm, l0.symm, rfl⟩, fun i hi => absurd hi (Nat.not_lt_zero _), fun i hi => absurd hi (Nat.not_lt_zero _), hM⟩
theorem lst_in {W : World} {k : Int} (hk : w64 k) {a : Option Addr} {m c b : Nat} (hm : m ≤ 1048576) (hc : m ≤ c ∧ c ≤ maxLen) (ha : 0 < m → a = some ⟨b, 0, none⟩ ∧ b < W.heap.size) {M : Nat → Vt} (hM : ∀ j, j < m → LiesAt W b (j * 13) (M j).h.cells ∧ (M j).In W W.heap.size) {Y' : Nat → Int} {K' : Nat → ByteArray} {F' : Nat → Vt} :
    (Vt.mk (Vh.lst k a m c b) Y' M K' F').In W W.heap.size := by
  have z : w64 0 := ⟨by decide, by decide⟩
  exact ⟨⟨hk, z, z, z, z, z, by simp [Vh.lst, ByteArray.size], by simp [Vh.lst, ByteArray.size], Nat.zero_le _, hm, Nat.zero_le _, hc, ⟨Nat.le_refl _, Nat.zero_le _⟩⟩, fun q => absurd q (Nat.lt_irrefl _), fun i hi => absurd hi (Nat.not_lt_zero _), ha, fun i hi => ⟨by rw [show (Vh.lst k a m c b).lo + i * 13 = i * 13 from Nat.zero_add _]; exact (hM i hi).1, (hM i hi).2⟩, fun q => absurd q (Nat.lt_irrefl _), fun i hi => absurd hi (Nat.not_lt_zero _)⟩
theorem fld_in {W : World} {k : Int} (hk : w64 k) {a : Option Addr} {m c b : Nat} (hm : m ≤ 1048576) (hc : m ≤ c ∧ c ≤ maxLen) (ha : 0 < m → a = some ⟨b, 0, none⟩ ∧ b < W.heap.size) {K : Nat → ByteArray} {M : Nat → Vt} (hM : ∀ j, j < m → LiesAt W b (j * 14) (fcs (K j, M j)) ∧ (K j).size ≤ 1048576 ∧ (M j).In W W.heap.size) {Y' : Nat → Int} {L' : Nat → Vt} :
    (Vt.mk (Vh.fld k a m c b) Y' L' K M).In W W.heap.size := by
  have z : w64 0 := ⟨by decide, by decide⟩
  refine ⟨⟨hk, z, z, z, z, z, by simp [Vh.fld, ByteArray.size], by simp [Vh.fld, ByteArray.size], Nat.zero_le _, Nat.zero_le _, hm, ⟨Nat.le_refl _, Nat.zero_le _⟩, hc⟩, fun q => absurd q (Nat.lt_irrefl _), fun i hi => absurd hi (Nat.not_lt_zero _), fun q => absurd q (Nat.lt_irrefl _), fun i hi => absurd hi (Nat.not_lt_zero _), ha, fun i hi => ?_⟩
  obtain ⟨k1, k2⟩ := (hM i hi).1.fcs
  rw [show (Vh.fld k a m c b).fo + i * 14 = i * 14 from Nat.zero_add _]
  exact ⟨k1, (hM i hi).2.1, k2, (hM i hi).2.2⟩
end Go.Proofs.YtfkfboiblgoamaaDoor
/- Values built anew by the reference: how such a walk ends. -/
namespace Go.Proofs.YtfkfboiblgoamaaDoor
open Go.ChangeShapes Go.WideShapes Go.Joins Go.Deep Go.RowKit

theorem grown_set (W : World) (B i : Nat) (u : Value) : W.grownBy (W.setCell ⟨B, i, none⟩ u) (some B) :=
  ⟨rfl, rfl, rfl, by simp [World.setCell], fun k _ hk => Below.heap_setCell _ _ _ _ (by simp at hk ⊢; omega)⟩
theorem grown_row (W : World) (B : Nat) (cs : Array Value) : W.grownBy (W.setRow B cs) (some B) :=
  have b := below_setRow (Below.refl B W) (Nat.le_refl B) cs
  ⟨b.os, b.tape, b.output, b.size, fun k _ hk => setRow_other _ _ _ _ (by intro e; subst e; exact hk rfl)⟩
theorem cutAt {p q : Prop} (h : p → q) (hp : p) : q := h hp
/-- A function that gives a value: where the result may lie. -/
def FnS (R0 : Vt) (S : Nat → Prop) (w : World) (e : Ending) (w' : World) : Prop :=
  ∃ X : Vt, e = .returned (.agg #[.int .i64 X.h.k, .bool X.h.b, .bool X.h.n, .string X.h.d, .int .i64 X.h.e, .int .i64 X.h.tk, .int .i64 X.h.td, .int .i64 X.h.tn, .int .i64 X.h.tz, .string X.h.x, .slice X.h.ba X.h.bn X.h.bc, .slice X.h.la X.h.ln X.h.lc, .slice X.h.fa X.h.fn X.h.fc]) ∧ X.In w' w'.heap.size ∧ X.Off (fun b => S b ∨ w.heap.size ≤ b) ∧ X.Same R0 ∧ Below w.heap.size w w'
theorem setN_fch (y : ByteArray) (h g : Vh) : setN (fch y h) 1 g.cells.toList = fch y g := by
  simp [setN, fch, Vh.cells]
theorem Whole.setF {W : World} {B : Nat} {t : TypeId} {y : ByteArray} {h : Vh} (P : Whole W B t (fch y h)) (g : Vh) : Whole (W.setCells B 1 g.cells.toList) B t (fch y g) := by
  have := Whole.setCells g.cells.toList 1 P
  rwa [setN_fch] at this
theorem there_fch {W : World} {B : Nat} {t : TypeId} {y : ByteArray} {h : Vh} (P : Whole W B t (fch y h)) : W.there B 1 13 := whole_there P (Nat.le_refl _)
theorem lst_out {w W : World} {B m c : Nat} {S : Nat → Prop} {a : Option Addr} {q : Nat → Vt → Prop} {M : Nat → Vt} {R0 : Vt} (hr : RowG (fun x : Vt => x.h.cells) id 13 30 B S q W (.slice a m c) m) (hm : m ≤ 1048576) (hB : w.heap.size ≤ B) (hb : Below w.heap.size w W)
    (hq : ∀ j X, j < m → q j X → X.Same (M j)) (hso : ∀ (a : Option Addr) (c b : Nat) (M' : Nat → Vt), (∀ j, j < m → (M' j).Same (M j)) → (Vt.mk (Vh.lst 6 a m c b) (fun _ => 0) M' (fun _ => ByteArray.empty) (fun _ => .nil)).Same R0) :
    FnS R0 S w (.returned (.agg #[.int .i64 6, .bool false, .bool false, .string ⟨#[]⟩, .int .i64 0, .int .i64 0, .int .i64 0, .int .i64 0, .int .i64 0, .string ⟨#[]⟩, .slice none 0 0, .slice a m c, .slice none 0 0])) W := by
  obtain ⟨f, a', c', b, e, hcc, ha, hrows⟩ := RowG.done (fun x : Vt => vh_size x.h) hr
  injection e with e1 e2 e3
  subst e1 e3
  exact ⟨_, rfl, lst_in ⟨by decide, by decide⟩ hm hcc (fun h => ⟨(ha h).1, (ha h).2.2⟩) (fun j hj => ⟨(hrows j hj).1, (hrows j hj).2.1⟩),
    ⟨fun q => absurd q (Nat.lt_irrefl _), fun q => .inr (Nat.le_trans hB (ha q).2.1), fun j hj => (hrows j hj).2.2.1.mono fun b hb => .inl hb, fun q => absurd q (Nat.lt_irrefl _), fun i hi => absurd hi (Nat.not_lt_zero _)⟩,
    hso a c b f (fun j hj => hq j _ hj (hrows j hj).2.2.2), hb⟩
theorem fld_out {w W : World} {B m c : Nat} {S : Nat → Prop} {a : Option Addr} {q : Nat → ByteArray × Vt → Prop} {K : Nat → ByteArray} {M : Nat → Vt} {R0 : Vt} (hr : RowG fcs Prod.snd 14 61 B S q W (.slice a m c) m) (hm : m ≤ 1048576) (hB : w.heap.size ≤ B) (hb : Below w.heap.size w W)
    (hq : ∀ j x, j < m → q j x → x.1 = K j ∧ x.1.size ≤ 1048576 ∧ x.2.Same (M j)) (hso : ∀ (a : Option Addr) (c b : Nat) (K' : Nat → ByteArray) (M' : Nat → Vt), (∀ j, j < m → K' j = K j ∧ (M' j).Same (M j)) → (Vt.mk (Vh.fld 7 a m c b) (fun _ => 0) (fun _ => .nil) K' M').Same R0) :
    FnS R0 S w (.returned (.agg #[.int .i64 7, .bool false, .bool false, .string ⟨#[]⟩, .int .i64 0, .int .i64 0, .int .i64 0, .int .i64 0, .int .i64 0, .string ⟨#[]⟩, .slice none 0 0, .slice none 0 0, .slice a m c])) W := by
  obtain ⟨f, a', c', b, e, hcc, ha, hrows⟩ := hr.done fcs_size
  injection e with e1 e2 e3
  subst e1 e3
  exact ⟨_, rfl, fld_in (K := fun j => (f j).1) (M := fun j => (f j).2) ⟨by decide, by decide⟩ hm hcc (fun h => ⟨(ha h).1, (ha h).2.2⟩) (fun j hj => ⟨(hrows j hj).1, (hq j _ hj (hrows j hj).2.2.2).2.1, (hrows j hj).2.1⟩),
    ⟨fun q => absurd q (Nat.lt_irrefl _), fun q => absurd q (Nat.lt_irrefl _), fun i hi => absurd hi (Nat.not_lt_zero _), fun q => .inr (Nat.le_trans hB (ha q).2.1), fun j hj => (hrows j hj).2.2.1.mono fun b hb => .inl hb⟩,
    hso a c b _ _ (fun j hj => ⟨(hq j _ hj (hrows j hj).2.2.2).1, (hq j _ hj (hrows j hj).2.2.2).2.2⟩), hb⟩
end Go.Proofs.YtfkfboiblgoamaaDoor
/- What the reference makes of a value at a path: plain. -/
namespace Go.Proofs.YtfkfboiblgoamaaDoor
open Go.RowKit

/-- What the reference's functions answer that give a value or an error. -/
def ResOut (R : Vt × Int) (top : Nat) (w : World) (e : Ending) (w' : World) : Prop :=
  ∃ X : Vt, e = .returned (.tuple #[.agg #[.int .i64 X.h.k, .bool X.h.b, .bool X.h.n, .string X.h.d, .int .i64 X.h.e, .int .i64 X.h.tk, .int .i64 X.h.td, .int .i64 X.h.tn, .int .i64 X.h.tz, .string X.h.x, .slice X.h.ba X.h.bn X.h.bc, .slice X.h.la X.h.ln X.h.lc, .slice X.h.fa X.h.fn X.h.fc], .int .i64 R.2]) ∧
    X.In w' w'.heap.size ∧ X.Off (fun b => b < top ∨ w.heap.size ≤ b) ∧ (R.2 = 0 → X.Same R.1) ∧ (R.2 ≠ 0 → X = .z) ∧ Below w.heap.size w w'
theorem Vt.z_off (S : Nat → Prop) : Vt.z.Off S :=
  ⟨fun q => absurd q (Nat.lt_irrefl _), fun q => absurd q (Nat.lt_irrefl _), fun _ hi => absurd hi (Nat.not_lt_zero _), fun q => absurd q (Nat.lt_irrefl _), fun _ hi => absurd hi (Nat.not_lt_zero _)⟩
/-- A value with another part. -/
def Vt.setP (T : Vt) (i : Nat) (X : Vt) : Vt := if T.h.k = 6 then T.setL i X else T.setF i X
/-- What the reference's change makes, 'g' at the last step. -/
noncomputable def Vt.chgV (g : Vt → Stp → Vt × Int) : Nat → (Nat → Stp) → Vt → Vt × Int
  | 0, _, _ => (.z, 0)
  | n + 1, S, T => if n = 0 then g T (S 0) else if (T.find (S 0)).2 ≠ 0 then (.z, (T.find (S 0)).2) else
      if (Vt.chgV g n (fun i => S (i + 1)) (T.part (T.find (S 0)).1.toNat)).2 ≠ 0 then (.z, (Vt.chgV g n (fun i => S (i + 1)) (T.part (T.find (S 0)).1.toNat)).2)
      else (T.setP (T.find (S 0)).1.toNat (Vt.chgV g n (fun i => S (i + 1)) (T.part (T.find (S 0)).1.toNat)).1, 0)
theorem Vt.chgV_one (g : Vt → Stp → Vt × Int) (S : Nat → Stp) (T : Vt) : Vt.chgV g 1 S T = g T (S 0) := if_pos rfl
theorem Vt.chgV_bad {g : Vt → Stp → Vt × Int} {n : Nat} {S : Nat → Stp} {T : Vt} (h : (T.find (S 0)).2 ≠ 0) : Vt.chgV g (n + 2) S T = (.z, (T.find (S 0)).2) := by
  rw [Vt.chgV, if_neg (by omega), if_pos h]
theorem Vt.chgV_sub {g : Vt → Stp → Vt × Int} {n : Nat} {S : Nat → Stp} {T : Vt} (h : (T.find (S 0)).2 = 0) (h2 : (Vt.chgV g (n + 1) (fun i => S (i + 1)) (T.part (T.find (S 0)).1.toNat)).2 ≠ 0) :
    Vt.chgV g (n + 2) S T = (.z, (Vt.chgV g (n + 1) (fun i => S (i + 1)) (T.part (T.find (S 0)).1.toNat)).2) := by
  rw [Vt.chgV, if_neg (by omega), if_neg (by simp [h]), if_pos h2]
theorem Vt.chgV_ok {g : Vt → Stp → Vt × Int} {n : Nat} {S : Nat → Stp} {T : Vt} (h : (T.find (S 0)).2 = 0) (h2 : (Vt.chgV g (n + 1) (fun i => S (i + 1)) (T.part (T.find (S 0)).1.toNat)).2 = 0) :
    Vt.chgV g (n + 2) S T = (T.setP (T.find (S 0)).1.toNat (Vt.chgV g (n + 1) (fun i => S (i + 1)) (T.part (T.find (S 0)).1.toNat)).1, 0) := by
  rw [Vt.chgV, if_neg (by omega), if_neg (by simp [h]), if_neg (by simp [h2])]
theorem Vt.setP_ix {T : Vt} {s : Stp} {X : Vt} (h : (T.find s).2 = 0) : T.setP (T.find s).1.toNat X = if s.ix = true then T.setL (T.find s).1.toNat X else T.setF (T.find s).1.toNat X := by
  cases hx : s.ix with
  | true => obtain ⟨_, k6, _⟩ := Vt.part_ix h hx; rw [Vt.setP, if_pos k6, if_pos rfl]
  | false => obtain ⟨_, k7, _⟩ := Vt.part_key h hx; rw [Vt.setP, if_neg (by rw [k7]; decide), if_neg (by simp)]
/-- The way there fails: so does the change. -/
theorem Vt.chgV_atN {g : Vt → Stp → Vt × Int} : ∀ {n : Nat} {S : Nat → Stp} {T : Vt}, (T.atN S n).2 ≠ 0 → Vt.chgV g (n + 1) S T = (.z, (T.atN S n).2) := by
  intro n
  induction n with
  | zero => intro S T h; exact absurd rfl h
  | succ n ih =>
    intro S T h
    by_cases h0 : (T.find (S 0)).2 = 0
    · rw [Vt.atN_shift h0] at h ⊢
      have e := ih h
      rw [Vt.chgV_sub h0 (by rw [e]; exact h), e]
    · have e : (T.atN S (n + 1)).2 = (T.find (S 0)).2 := Vt.atN_bad (k := 0) rfl h0 (by omega)
      rw [Vt.chgV_bad h0, e]
theorem Vt.chgV_err {g : Vt → Stp → Vt × Int} : ∀ {n : Nat} {S : Nat → Stp} {T : Vt}, (T.atN S n).2 = 0 → (g (T.atN S n).1 (S n)).2 ≠ 0 → (g (T.atN S n).1 (S n)).1 = .z → Vt.chgV g (n + 1) S T = (.z, (g (T.atN S n).1 (S n)).2) := by
  intro n
  induction n with
  | zero => intro S T _ _ h; rw [Vt.chgV_one]; exact Prod.ext h rfl
  | succ n ih =>
    intro S T h h2 h3
    have h0 : (T.find (S 0)).2 = 0 := Vt.atN_find (k := 0) h (by omega)
    rw [Vt.atN_shift h0] at h h2 h3 ⊢
    have e := ih h h2 h3
    rw [Vt.chgV_sub h0 (by rw [e]; exact h2), e]
theorem Vt.chgV_chg {g : Vt → Stp → Vt × Int} {f : Vt → Vt} : ∀ {n : Nat} {S : Nat → Stp} {T : Vt}, (T.atN S n).2 = 0 → g (T.atN S n).1 (S n) = (f (T.atN S n).1, 0) → Vt.chgV g (n + 1) S T = (Vt.chg f n S T, 0) := by
  intro n
  induction n with
  | zero => intro S T _ h; rw [Vt.chgV_one]; exact h
  | succ n ih =>
    intro S T h h2
    have h0 : (T.find (S 0)).2 = 0 := Vt.atN_find (k := 0) h (by omega)
    rw [Vt.atN_shift h0] at h h2
    have e := ih h h2
    rw [Vt.chgV_ok h0 (by rw [e]), e, Vt.setP_ix h0]
    refine Prod.ext ?_ rfl
    show _ = Vt.chg f (n + 1) S T
    rw [Vt.chg]
    cases hx : (S 0).ix with
    | true => rw [(Vt.part_ix h0 hx).1, if_pos rfl, if_pos rfl]
    | false => rw [(Vt.part_key h0 hx).1, if_neg (by simp), if_neg (by simp)]
/-- The same change of a part is the same change of the whole. -/
theorem Vt.setP_same {W : World} {top : Nat} {T X Z : Vt} {i : Nat} (hT : T.In W top) (h : X.Same Z) : (T.setP i X).Same (T.setP i Z) := by
  cases T with
  | nil => exact hT.elim
  | mk h Y L K F =>
    have hw := hT.whole
    unfold Vt.setP
    split
    · refine ⟨(fun e => by cases e), Vh.flat.refl _, fun _ _ => rfl, fun j hj => ?_, fun j hj => ⟨rfl, Vt.Same.rfl' (hw.2 j hj)⟩⟩
      show Vt.Same (if j = i then X else L j) (if j = i then Z else L j)
      split
      · exact ‹X.Same Z›
      · exact Vt.Same.rfl' (hw.1 j hj)
    · refine ⟨(fun e => by cases e), Vh.flat.refl _, fun _ _ => rfl, fun j hj => Vt.Same.rfl' (hw.1 j hj), fun j hj => ⟨rfl, ?_⟩⟩
      show Vt.Same (if j = i then X else F j) (if j = i then Z else F j)
      split
      · exact ‹X.Same Z›
      · exact Vt.Same.rfl' (hw.2 j hj)
/-- What lies at a path in a good value is good. -/
theorem Vt.good_part {T : Vt} {s : Stp} (hg : T.good) (h0 : (T.find s).2 = 0) : (T.part (T.find s).1.toNat).good := by
  cases T with
  | nil => unfold Vt.part; split <;> exact trivial
  | mk h Y L K F =>
    obtain ⟨_, g2, g3⟩ := hg
    cases hx : s.ix with
    | true =>
      obtain ⟨e, _, hi, _⟩ := Vt.part_ix h0 hx
      rw [e]
      exact g2 _ hi
    | false =>
      obtain ⟨e, _, hi, _⟩ := Vt.part_key h0 hx
      rw [e]
      exact g3 _ hi
theorem Vt.good_atN {T : Vt} (hg : T.good) (S : Nat → Stp) : ∀ n, (T.atN S n).1.good := by
  intro n
  induction n with
  | zero => exact hg
  | succ n ih =>
    show (if (T.atN S n).2 ≠ 0 then T.atN S n else if ((T.atN S n).1.find (S n)).2 ≠ 0 then ((T.atN S n).1, ((T.atN S n).1.find (S n)).2) else ((T.atN S n).1.part ((T.atN S n).1.find (S n)).1.toNat, 0)).1.good
    split
    · exact ih
    · split
      · exact ih
      · exact Vt.good_part ih (by omega)
theorem Vt.good_own {T : Vt} (hg : T.good) (hT : T ≠ .nil) : T.h.own = true := by
  cases T with
  | nil => exact absurd rfl hT
  | mk h Y L K F => exact oneE_own hg.1
end Go.Proofs.YtfkfboiblgoamaaDoor
