/- Laid together for one claim: VtRefM, VtRefN, VtFresh, VtApp. -/
import Derived.Test.YtfkfboiblgoamaaQP14
import Derived.Test.YtfkfboiblgoamaaQP11
import Derived.Test.YtfkfboiblgoamaaQP18
import Derived.OwnWalkIn
/- Values built anew by the reference: plain. -/
namespace Go.Proofs.Ytfkfboiblgoamaa
open Go.RowKit

/-- What the reference's functions answer that build a value. -/
def RefOut (R0 : Vt) (w : World) (e : Ending) (w' : World) : Prop :=
  ∃ X : Vt, e = .returned (.agg #[.int .i64 X.h.k, .bool X.h.b, .bool X.h.n, .string X.h.d, .int .i64 X.h.e, .int .i64 X.h.tk, .int .i64 X.h.td, .int .i64 X.h.tn, .int .i64 X.h.tz, .string X.h.x, .slice X.h.ba X.h.bn X.h.bc, .slice X.h.la X.h.ln X.h.lc, .slice X.h.fa X.h.fn X.h.fc]) ∧ X.In w' w'.heap.size ∧ X.Same R0 ∧ Below w.heap.size w w'
def Vh.lst (k : Int) (a : Option Addr) (n c b : Nat) : Vh := ⟨k, false, false, ⟨#[]⟩, 0, 0, 0, 0, 0, ⟨#[]⟩, none, 0, 0, a, n, c, none, 0, 0, 0, 0, b, 0, 0, 0⟩
def Vh.fld (k : Int) (a : Option Addr) (n c b : Nat) : Vh := ⟨k, false, false, ⟨#[]⟩, 0, 0, 0, 0, 0, ⟨#[]⟩, none, 0, 0, none, 0, 0, a, n, c, 0, 0, 0, 0, b, 0⟩
theorem ba_nil {s : ByteArray} (h : s.toList = []) : s = ⟨#[]⟩ := by
  rw [Lib.toList_data] at h
  exact ByteArray.ext (Array.toList_eq_nil_iff.1 h)
/-- A list that is built anew out of the same values. -/
theorem lst_same {h : Vh} {Y : Nat → Int} {K : Nat → ByteArray} {F M : Nat → Vt} {m : Nat} (ho : h.own = true) (hk : h.k = 6) {M' : Nat → Vt} (hM : ∀ j, j < m → (M' j).Same (M j)) {a : Option Addr} {c b : Nat} {Y' : Nat → Int} {K' : Nat → ByteArray} {F' : Nat → Vt} :
    (Vt.mk (Vh.lst 6 a m c b) Y' M' K' F').Same (.mk { h with ln := m } Y M K F) := by
  obtain ⟨_, _, h1, h2, h3, h4, h5, _, h7⟩ := Vh.own_parts ho
  obtain ⟨a1, a2, a3⟩ := h2 (by omega)
  obtain ⟨b1, b2, b3, b4⟩ := h3 (by omega)
  have f0 : h.fn = 0 := h7 (by omega)
  refine ⟨(fun e => by cases e), ⟨hk.symm, (h1 (by omega)).symm, a1.symm, (ba_nil a2).symm, a3.symm, b1.symm, b2.symm, b3.symm, b4.symm, (ba_nil (h4 (by omega))).symm, (h5 (by omega)).symm, rfl, f0.symm⟩, fun i hi => absurd hi (Nat.not_lt_zero _), hM, fun i hi => absurd hi (Nat.not_lt_zero _)⟩
theorem fld_same {h : Vh} {Y : Nat → Int} {K : Nat → ByteArray} {L M : Nat → Vt} {m : Nat} (ho : h.own = true) (hk : h.k = 7) {M' : Nat → Vt} {K' : Nat → ByteArray} (hM : ∀ j, j < m → K' j = K j ∧ (M' j).Same (M j)) {a : Option Addr} {c b : Nat} {Y' : Nat → Int} {L' : Nat → Vt} :
    (Vt.mk (Vh.fld 7 a m c b) Y' L' K' M').Same (.mk { h with fn := m } Y L K M) := by
  obtain ⟨_, _, h1, h2, h3, h4, h5, h6, _⟩ := Vh.own_parts ho
  obtain ⟨a1, a2, a3⟩ := h2 (by omega)
  obtain ⟨b1, b2, b3, b4⟩ := h3 (by omega)
  have l0 : h.ln = 0 := h6 (by omega)
  refine ⟨(fun e => by cases e), ⟨hk.symm, (h1 (by omega)).symm, a1.symm, (ba_nil a2).symm, a3.symm, b1.symm, b2.symm, b3.symm, b4.symm, (ba_nil (h4 (by omega))).symm, (h5 (by omega)).symm, l0.symm, rfl⟩, fun i hi => absurd hi (Nat.not_lt_zero _), fun i hi => absurd hi (Nat.not_lt_zero _), hM⟩
theorem lst_in {W : World} {k : Int} (hk : w64 k) {a : Option Addr} {m c b : Nat} (hm : m ≤ 1048576) (hc : m ≤ c ∧ c ≤ maxLen) (ha : 0 < m → a = some ⟨b, 0, none⟩ ∧ b < W.heap.size) {M : Nat → Vt} (hM : ∀ j, j < m → LiesAt W b (j * 13) (M j).h.cells ∧ (M j).In W W.heap.size) {Y' : Nat → Int} {K' : Nat → ByteArray} {F' : Nat → Vt} :
    (Vt.mk (Vh.lst k a m c b) Y' M K' F').In W W.heap.size := by
  have z : w64 0 := ⟨by decide, by decide⟩
  exact ⟨⟨hk, z, z, z, z, z, by simp [Vh.lst, ByteArray.size], by simp [Vh.lst, ByteArray.size], Nat.zero_le _, hm, Nat.zero_le _, hc, ⟨Nat.le_refl _, Nat.zero_le _⟩⟩, fun q => absurd q (Nat.lt_irrefl _), fun i hi => absurd hi (Nat.not_lt_zero _), ha, fun i hi => ⟨by rw [show (Vh.lst k a m c b).lo + i * 13 = i * 13 from Nat.zero_add _]; exact (hM i hi).1, (hM i hi).2⟩, fun q => absurd q (Nat.lt_irrefl _), fun i hi => absurd hi (Nat.not_lt_zero _)⟩
theorem fld_in {W : World} {k : Int} (hk : w64 k) {a : Option Addr} {m c b : Nat} (hm : m ≤ 1048576) (hc : m ≤ c ∧ c ≤ maxLen) (ha : 0 < m → a = some ⟨b, 0, none⟩ ∧ b < W.heap.size) {K : Nat → ByteArray} {M : Nat → Vt} (hM : ∀ j, j < m → LiesAt W b (j * 14) (fcs (K j, M j)) ∧ (K j).size ≤ 1048576 ∧ (M j).In W W.heap.size) {Y' : Nat → Int} {L' : Nat → Vt} :
    (Vt.mk (Vh.fld k a m c b) Y' L' K M).In W W.heap.size := by
  have z : w64 0 := ⟨by decide, by decide⟩
  refine ⟨⟨hk, z, z, z, z, z, by simp [Vh.fld, ByteArray.size], by simp [Vh.fld, ByteArray.size], Nat.zero_le _, Nat.zero_le _, hm, ⟨Nat.le_refl _, Nat.zero_le _⟩, hc⟩, fun q => absurd q (Nat.lt_irrefl _), fun i hi => absurd hi (Nat.not_lt_zero _), fun q => absurd q (Nat.lt_irrefl _), fun i hi => absurd hi (Nat.not_lt_zero _), ha, fun i hi => ?_⟩
  obtain ⟨k1, k2⟩ := (hM i hi).1.fcs
  rw [show (Vh.fld k a m c b).fo + i * 14 = i * 14 from Nat.zero_add _]
  exact ⟨k1, (hM i hi).2.1, k2, (hM i hi).2.2⟩
end Go.Proofs.Ytfkfboiblgoamaa
/- Values built anew by the reference: how such a walk ends. -/
namespace Go.Proofs.Ytfkfboiblgoamaa
open Go.ChangeShapes Go.WideShapes Go.Joins Go.Deep Go.RowKit

theorem grown_set (W : World) (B i : Nat) (u : Value) : W.grownBy (W.setCell ⟨B, i, none⟩ u) (some B) :=
  ⟨rfl, rfl, rfl, by simp [World.setCell], fun k _ hk => Below.heap_setCell _ _ _ _ (by simp at hk ⊢; omega)⟩
theorem grown_row (W : World) (B : Nat) (cs : Array Value) : W.grownBy (W.setRow B cs) (some B) :=
  have b := below_setRow (Below.refl B W) (Nat.le_refl B) cs
  ⟨b.os, b.tape, b.output, b.size, fun k _ hk => setRow_other _ _ _ _ (by intro e; subst e; exact hk rfl)⟩
theorem cutAt {p q : Prop} (h : p → q) (hp : p) : q := h hp
/-- A function that gives a value: where the result may lie. -/
def FnS (R0 : Vt) (S : Nat → Prop) (w : World) (e : Ending) (w' : World) : Prop :=
  ∃ X : Vt, e = .returned (.agg #[.int .i64 X.h.k, .bool X.h.b, .bool X.h.n, .string X.h.d, .int .i64 X.h.e, .int .i64 X.h.tk, .int .i64 X.h.td, .int .i64 X.h.tn, .int .i64 X.h.tz, .string X.h.x, .slice X.h.ba X.h.bn X.h.bc, .slice X.h.la X.h.ln X.h.lc, .slice X.h.fa X.h.fn X.h.fc]) ∧ X.In w' w'.heap.size ∧ X.Off (fun b => S b ∨ w.heap.size ≤ b) ∧ X.Same R0 ∧ Below w.heap.size w w'
theorem setN_fch (y : ByteArray) (h g : Vh) : setN (fch y h) 1 g.cells.toList = fch y g := by
  simp [setN, fch, Vh.cells]
theorem Whole.setF {W : World} {B : Nat} {t : TypeId} {y : ByteArray} {h : Vh} (P : Whole W B t (fch y h)) (g : Vh) : Whole (W.setCells B 1 g.cells.toList) B t (fch y g) := by
  have := Whole.setCells g.cells.toList 1 P
  rwa [setN_fch] at this
theorem there_fch {W : World} {B : Nat} {t : TypeId} {y : ByteArray} {h : Vh} (P : Whole W B t (fch y h)) : W.there B 1 13 := whole_there P (Nat.le_refl _)
theorem lst_out {w W : World} {B m c : Nat} {S : Nat → Prop} {a : Option Addr} {q : Nat → Vt → Prop} {M : Nat → Vt} {R0 : Vt} (hr : RowG (fun x : Vt => x.h.cells) id 13 30 B S q W (.slice a m c) m) (hm : m ≤ 1048576) (hB : w.heap.size ≤ B) (hb : Below w.heap.size w W)
    (hq : ∀ j X, j < m → q j X → X.Same (M j)) (hso : ∀ (a : Option Addr) (c b : Nat) (M' : Nat → Vt), (∀ j, j < m → (M' j).Same (M j)) → (Vt.mk (Vh.lst 6 a m c b) (fun _ => 0) M' (fun _ => ByteArray.empty) (fun _ => .nil)).Same R0) :
    FnS R0 S w (.returned (.agg #[.int .i64 6, .bool false, .bool false, .string ⟨#[]⟩, .int .i64 0, .int .i64 0, .int .i64 0, .int .i64 0, .int .i64 0, .string ⟨#[]⟩, .slice none 0 0, .slice a m c, .slice none 0 0])) W := by
  obtain ⟨f, a', c', b, e, hcc, ha, hrows⟩ := RowG.done (fun x : Vt => vh_size x.h) hr
  injection e with e1 e2 e3
  subst e1 e3
  exact ⟨_, rfl, lst_in ⟨by decide, by decide⟩ hm hcc (fun h => ⟨(ha h).1, (ha h).2.2⟩) (fun j hj => ⟨(hrows j hj).1, (hrows j hj).2.1⟩),
    ⟨fun q => absurd q (Nat.lt_irrefl _), fun q => .inr (Nat.le_trans hB (ha q).2.1), fun j hj => (hrows j hj).2.2.1.mono fun b hb => .inl hb, fun q => absurd q (Nat.lt_irrefl _), fun i hi => absurd hi (Nat.not_lt_zero _)⟩,
    hso a c b f (fun j hj => hq j _ hj (hrows j hj).2.2.2), hb⟩
theorem fld_out {w W : World} {B m c : Nat} {S : Nat → Prop} {a : Option Addr} {q : Nat → ByteArray × Vt → Prop} {K : Nat → ByteArray} {M : Nat → Vt} {R0 : Vt} (hr : RowG fcs Prod.snd 14 65 B S q W (.slice a m c) m) (hm : m ≤ 1048576) (hB : w.heap.size ≤ B) (hb : Below w.heap.size w W)
    (hq : ∀ j x, j < m → q j x → x.1 = K j ∧ x.1.size ≤ 1048576 ∧ x.2.Same (M j)) (hso : ∀ (a : Option Addr) (c b : Nat) (K' : Nat → ByteArray) (M' : Nat → Vt), (∀ j, j < m → K' j = K j ∧ (M' j).Same (M j)) → (Vt.mk (Vh.fld 7 a m c b) (fun _ => 0) (fun _ => .nil) K' M').Same R0) :
    FnS R0 S w (.returned (.agg #[.int .i64 7, .bool false, .bool false, .string ⟨#[]⟩, .int .i64 0, .int .i64 0, .int .i64 0, .int .i64 0, .int .i64 0, .string ⟨#[]⟩, .slice none 0 0, .slice none 0 0, .slice a m c])) W := by
  obtain ⟨f, a', c', b, e, hcc, ha, hrows⟩ := hr.done fcs_size
  injection e with e1 e2 e3
  subst e1 e3
  exact ⟨_, rfl, fld_in (K := fun j => (f j).1) (M := fun j => (f j).2) ⟨by decide, by decide⟩ hm hcc (fun h => ⟨(ha h).1, (ha h).2.2⟩) (fun j hj => ⟨(hrows j hj).1, (hq j _ hj (hrows j hj).2.2.2).2.1, (hrows j hj).2.1⟩),
    ⟨fun q => absurd q (Nat.lt_irrefl _), fun q => absurd q (Nat.lt_irrefl _), fun i hi => absurd hi (Nat.not_lt_zero _), fun q => .inr (Nat.le_trans hB (ha q).2.1), fun j hj => (hrows j hj).2.2.1.mono fun b hb => .inl hb⟩,
    hso a c b _ _ (fun j hj => ⟨(hq j _ hj (hrows j hj).2.2.2).1, (hq j _ hj (hrows j hj).2.2.2).2.2⟩), hb⟩
end Go.Proofs.Ytfkfboiblgoamaa
/- An append of a whole slice to nil; sizes of parts. -/
namespace Go.Proofs.Ytfkfboiblgoamaa
open Go.ChangeShapes Go.WideShapes Go.Joins Go.Deep Go.RowKit

theorem run_append_fresh {P : Program} (w : World) (base : Nat) (t ty e : TypeId) (i : TypeInfo) (z : Value) (size bytes : Nat) (ht : P.underlying t = some (.slice e)) (hi : P.info? e = some i) (hz : i.zero = some z)
    (hsize : i.size = size) (hby : i.bytes = bytes) (hzs : z.cells.size = size) (hsz : 0 < size) (xa : Option Addr) (m c : Nat) (news : List Value) (hl : news.length = m * size)
    (hnews : 0 < m → ∃ ad, xa = some ad ∧ ∀ j u, news[j]? = some u → w.cell? (ad.add j) = some u) (h1 : ∀ u ∈ news, u.oneCell' = true) (h63 : m ≤ maxLen) (hbytes : m * bytes ≤ 140737488355328) (hbase : base ≤ w.heap.size) :
    ∃ v' w', (Builtin.append_ #[t, t] ty #[.slice none 0 0, .slice xa m c]).run P w = .ok v' w' ∧ w'.ownsRow base e size v' m news ∧ w.grownBy w' none ∧ (v'.ownBlock = none ∨ v'.ownBlock = some w.heap.size) := by
  by_cases hm : m = 0
  · subst hm
    have hn : news = [] := List.eq_nil_of_length_eq_zero (by simpa using hl)
    subst hn
    refine ⟨.slice none 0 0, w, ?_, World.ownsRow_nil w base e size, ⟨rfl, rfl, rfl, Nat.le_refl _, fun _ _ _ => rfl⟩, .inl rfl⟩
    cases xa <;> simp [Builtin.append_, run_underlying ht, sizeOf, typeInfo, hi, Builtin.lenOf, Builtin.firstCells, loadCells, loadCellsFrom]
  · obtain ⟨ad, rfl, hn⟩ := hnews (by omega)
    have h := run_append_told (P := P) w base t ty e i z size bytes ht hi hz hsize hby hzs hsz (.slice none 0 0) 0 [] (World.ownsRow_nil w base e size) ad m c news hl hn h1 (by omega) (by rw [Nat.zero_add]; exact hbytes) hbase (by omega)
    obtain ⟨v', w', hr, h2, h3, h4⟩ := h
    rw [Nat.zero_add, List.nil_append] at h2
    exact ⟨v', w', hr, h2, h3, h4⟩
theorem wpList_append_fresh {P : Program} (w : World) {ops : Array Oper} {rest : List Oper} {o : Oper} {a : Act} {Q : Exit → Act → World → Prop} (hgd : o.guard = none) (s x : Operand) (t : TypeId)
    (ho : o.op = .call { callee := .builtin .append, args := #[s, x], argTypes := #[t, t] })
    (base : Nat) (e : TypeId) (i : TypeInfo) (z : Value) (size bytes : Nat) (ht : P.underlying t = some (.slice e)) (hi : P.info? e = some i) (hz : i.zero = some z)
    (hsize : i.size = size) (hby : i.bytes = bytes) (hzs : z.cells.size = size) (hsz : 0 < size) (hs : a.eval s = .slice none 0 0)
    (xa : Option Addr) (m c : Nat) (news : List Value) (hx : a.eval x = .slice xa m c) (hl : news.length = m * size) (hnews : 0 < m → ∃ ad, xa = some ad ∧ ∀ j u, news[j]? = some u → w.cell? (ad.add j) = some u) (h1 : ∀ u ∈ news, u.oneCell' = true)
    (h63 : m ≤ maxLen) (hbytes : m * bytes ≤ 140737488355328) (hbase : base ≤ w.heap.size)
    (h : ∀ v' w', w'.ownsRow base e size v' m news → w.grownBy w' none → (v'.ownBlock = none ∨ v'.ownBlock = some w.heap.size) → wpList P ops Q rest (a.put o.dst v') w') : wpList P ops Q (o :: rest) a w := by
  refine wpList_plain hgd fun K hK => ?_
  obtain ⟨v', w', hr, h2, h3, h4⟩ := run_append_fresh (P := P) w base t o.type e i z size bytes ht hi hz hsize hby hzs hsz xa m c news hl hnews h1 h63 hbytes hbase
  unfold Oper.wp execOp
  simp only [ho, resolve, invoke, builtin, Sem.run_bind, Sem.run_pure, Result.andThen_ok, List.map_toArray, List.map_cons, List.map_nil, hs, hx, hr]
  exact hK _ _ (h v' w' h2 h3 h4)
/-- A map with one more field; a list with one more element. -/
def Vt.moreF : Vt → ByteArray → Vt → Vt
  | .nil, _, _ => .nil
  | .mk h Y L K F, key, X => .mk { h with fn := h.fn + 1 } Y L (fun j => if j < h.fn then K j else key) (fun j => if j < h.fn then F j else X)
def Vt.insL : Vt → Nat → Vt → Vt
  | .nil, _, _ => .nil
  | .mk h Y L K F, i, X => .mk { h with ln := h.ln + 1 } Y (fun j => if j < i then L j else if j = i then X else L (j - 1)) K F
theorem Vt.size_one (T : Vt) : 1 ≤ T.size := by
  cases T with
  | nil => exact Nat.le_refl _
  | mk h Y L K F => unfold Vt.size; omega
theorem sumN_ge {f : Nat → Nat} (hf : ∀ i, 1 ≤ f i) : ∀ n, n ≤ sumN f n := by
  intro n
  induction n with
  | zero => exact Nat.le_refl _
  | succ n ih => have := hf n; rw [sumN]; omega
theorem Vt.fn_le_size {T : Vt} (hk : T.h.k = 7) : T.h.fn ≤ T.size := by
  cases T with
  | nil => exact Nat.zero_le _
  | mk h Y L K F =>
    have e : (Vt.mk h Y L K F).size = 1 + sumN (fun i => (F i).size) h.fn := by
      have hk' : h.k = 7 := hk
      rw [Vt.size, if_pos hk']
    have := sumN_ge (f := fun i => (F i).size) (fun i => Vt.size_one _) h.fn
    show h.fn ≤ _
    omega
theorem Vt.ln_le_size {T : Vt} (hk : T.h.k ≠ 7) : T.h.ln ≤ T.size := by
  cases T with
  | nil => exact Nat.zero_le _
  | mk h Y L K F =>
    have e : (Vt.mk h Y L K F).size = 1 + sumN (fun i => (L i).size) h.ln := by
      have hk' : h.k ≠ 7 := hk
      rw [Vt.size, if_neg hk']
    have := sumN_ge (f := fun i => (L i).size) (fun i => Vt.size_one _) h.ln
    show h.ln ≤ _
    omega
theorem Vt.size_part {T : Vt} {s : Stp} (hT : T ≠ .nil) (h0 : (T.find s).2 = 0) : (T.part (T.find s).1.toNat).size ≤ T.size := by
  cases hx : s.ix with
  | true =>
    obtain ⟨e, k6, hi, _⟩ := Vt.part_ix h0 hx
    have hn : T.kn = T.h.ln := if_neg (by rw [k6]; decide)
    have := Vt.size_kid hT (i := (T.find s).1.toNat) (by rw [hn]; exact hi)
    rw [Vt.kid, if_neg (by rw [k6]; decide)] at this
    rw [e]
    omega
  | false =>
    obtain ⟨e, k7, hi, _⟩ := Vt.part_key h0 hx
    have hn : T.kn = T.h.fn := if_pos k7
    have := Vt.size_kid hT (i := (T.find s).1.toNat) (by rw [hn]; exact hi)
    rw [Vt.kid, if_pos k7] at this
    rw [e]
    omega
end Go.Proofs.Ytfkfboiblgoamaa
/- An append of any slice, an empty one too, to what a call owns: which block it wrote; also within a round. -/
namespace Go.Proofs.Ytfkfboiblgoamaa
open Go.ChangeShapes Go.WideShapes Go.Joins Go.Deep Go.RowKit

theorem run_append_zero {P : Program} (w : World) (t ty e : TypeId) (i : TypeInfo) (ht : P.underlying t = some (.slice e)) (hi : P.info? e = some i) (b xa : Option Addr) (n c c' : Nat) (hnc : n ≤ c) :
    (Builtin.append_ #[t, t] ty #[.slice b n c, .slice xa 0 c']).run P w = .ok (.slice b n c) w := by
  cases b <;> cases xa <;> simp [Builtin.append_, run_underlying ht, sizeOf, typeInfo, hi, Builtin.lenOf, Builtin.firstCells, loadCells, loadCellsFrom, hnc, storeCells]
theorem run_append_any {P : Program} (w : World) (base : Nat) (t ty e : TypeId) (i : TypeInfo) (z : Value) (size bytes : Nat) (ht : P.underlying t = some (.slice e)) (hi : P.info? e = some i) (hz : i.zero = some z)
    (hsize : i.size = size) (hby : i.bytes = bytes) (hzs : z.cells.size = size) (hsz : 0 < size) (v : Value) (n : Nat) (xs : List Value) (hown : w.ownsRow base e size v n xs)
    (xa : Option Addr) (m c : Nat) (news : List Value) (hl : news.length = m * size) (hnews : 0 < m → ∃ ad, xa = some ad ∧ ∀ j u, news[j]? = some u → w.cell? (ad.add j) = some u) (h1 : ∀ u ∈ news, u.oneCell' = true)
    (h63 : n + m ≤ maxLen) (hbytes : (n + m) * bytes ≤ 140737488355328) (hbase : base ≤ w.heap.size) :
    ∃ v' w', (Builtin.append_ #[t, t] ty #[v, .slice xa m c]).run P w = .ok v' w' ∧ w'.ownsRow base e size v' (n + m) (xs ++ news) ∧ w.grownBy w' v.ownBlock ∧ (v'.ownBlock = v.ownBlock ∨ v'.ownBlock = some w.heap.size) := by
  by_cases hm : m = 0
  · subst hm
    have hn : news = [] := List.eq_nil_of_length_eq_zero (by simpa using hl)
    subst hn
    have hg : w.grownBy w v.ownBlock := ⟨rfl, rfl, rfl, Nat.le_refl _, fun _ _ _ => rfl⟩
    rw [List.append_nil, Nat.add_zero]
    rcases hown.2 with ⟨rfl, rfl⟩ | ⟨g, cap, cur, rfl, _, _, hnc, _⟩
    · exact ⟨_, w, run_append_zero w t ty e i ht hi none xa 0 0 c (Nat.le_refl _), hown, hg, .inl rfl⟩
    · exact ⟨_, w, run_append_zero w t ty e i ht hi (some ⟨g, 0, none⟩) xa n cap c hnc, hown, hg, .inl rfl⟩
  · obtain ⟨ad, rfl, hn⟩ := hnews (by omega)
    exact run_append_told (P := P) w base t ty e i z size bytes ht hi hz hsize hby hzs hsz v n xs hown ad m c news hl hn h1 h63 hbytes hbase (by omega)
theorem wpList_append_any {P : Program} (w : World) {ops : Array Oper} {rest : List Oper} {o : Oper} {a : Act} {Q : Exit → Act → World → Prop} (hgd : o.guard = none) (s x : Operand) (t : TypeId)
    (ho : o.op = .call { callee := .builtin .append, args := #[s, x], argTypes := #[t, t] })
    (base : Nat) (e : TypeId) (i : TypeInfo) (z : Value) (size bytes : Nat) (ht : P.underlying t = some (.slice e)) (hi : P.info? e = some i) (hz : i.zero = some z)
    (hsize : i.size = size) (hby : i.bytes = bytes) (hzs : z.cells.size = size) (hsz : 0 < size)
    (v : Value) (n : Nat) (xs : List Value) (hs : a.eval s = v) (hown : w.ownsRow base e size v n xs)
    (xa : Option Addr) (m c : Nat) (news : List Value) (hx : a.eval x = .slice xa m c) (hl : news.length = m * size) (hnews : 0 < m → ∃ ad, xa = some ad ∧ ∀ j u, news[j]? = some u → w.cell? (ad.add j) = some u) (h1 : ∀ u ∈ news, u.oneCell' = true)
    (h63 : n + m ≤ maxLen) (hbytes : (n + m) * bytes ≤ 140737488355328) (hbase : base ≤ w.heap.size)
    (h : ∀ v' w', w'.ownsRow base e size v' (n + m) (xs ++ news) → w.grownBy w' v.ownBlock → (v'.ownBlock = v.ownBlock ∨ v'.ownBlock = some w.heap.size) → wpList P ops Q rest (a.put o.dst v') w') : wpList P ops Q (o :: rest) a w := by
  refine wpList_plain hgd fun K hK => ?_
  obtain ⟨v', w', hr, h2, h3, h4⟩ := run_append_any (P := P) w base t o.type e i z size bytes ht hi hz hsize hby hzs hsz v n xs hown xa m c news hl hnews h1 h63 hbytes hbase
  unfold Oper.wp execOp
  simp only [ho, resolve, invoke, builtin, Sem.run_bind, Sem.run_pure, Result.andThen_ok, List.map_toArray, List.map_cons, List.map_nil, hs, hx, hr]
  exact hK _ _ (h v' w' h2 h3 h4)
theorem wpListIn_append_any {F : Fence} {nf : Nat} {P : Program} (w : World) {ops : Array Oper} {rest : List Oper} {o : Oper} {a : Act} {Q : Exit → Act → World → Prop} (hgd : o.guard = none) (s x : Operand) (t : TypeId)
    (ho : o.op = .call { callee := .builtin .append, args := #[s, x], argTypes := #[t, t] })
    (base : Nat) (e : TypeId) (i : TypeInfo) (z : Value) (size bytes : Nat) (ht : P.underlying t = some (.slice e)) (hi : P.info? e = some i) (hz : i.zero = some z)
    (hsize : i.size = size) (hby : i.bytes = bytes) (hzs : z.cells.size = size) (hsz : 0 < size)
    (v : Value) (n : Nat) (xs : List Value) (hs : a.eval s = v) (hown : w.ownsRow base e size v n xs)
    (xa : Option Addr) (m c : Nat) (news : List Value) (hx : a.eval x = .slice xa m c) (hl : news.length = m * size) (hnews : 0 < m → ∃ ad, xa = some ad ∧ ∀ j u, news[j]? = some u → w.cell? (ad.add j) = some u) (h1 : ∀ u ∈ news, u.oneCell' = true)
    (h63 : n + m ≤ maxLen) (hbytes : (n + m) * bytes ≤ 140737488355328) (hbase : base ≤ w.heap.size)
    (h : ∀ v' w', w'.ownsRow base e size v' (n + m) (xs ++ news) → w.grownBy w' v.ownBlock → (v'.ownBlock = v.ownBlock ∨ v'.ownBlock = some w.heap.size) → wpListIn F nf P ops Q rest (a.put o.dst v') w') : wpListIn F nf P ops Q (o :: rest) a w := by
  refine wpListIn_plain hgd fun K hK => ?_
  obtain ⟨v', w', hr, h2, h3, h4⟩ := run_append_any (P := P) w base t o.type e i z size bytes ht hi hz hsize hby hzs hsz v n xs hown xa m c news hl hnews h1 h63 hbytes hbase
  unfold Oper.wpIn
  refine ⟨?_, ?_⟩
  · simp [Oper.about, ho, resolve, Target.leads, Sem.run_pure]
  · rw [Oper.semAt_plain F _ _ (by rw [ho]; intro c hc'; cases hc')]
    simp [execOp, ho, resolve, invoke, builtin, hs, hx, hr, Result.andThen]
    exact hK _ _ (h v' w' h2 h3 h4)
end Go.Proofs.Ytfkfboiblgoamaa
