/- Laid together for one claim: MemW, VtRows, VtMade, VtClone. -/
import Derived.Test.YtfkfboiblgoamaaQP05
import Derived.RangeFuncBox
import Derived.RangeFuncNested
import Derived.RangeFuncWrites
import Derived.Test.YtfkfboiblgoamaaQP02
import Derived.Lib.Hide
import Derived.BigRegion
import Derived.Laws.Tables
import Derived.Laws.CopyOwn
import Derived.WalkSpells
/- A block that is known whole: what it reads as, and what keeps it. -/
namespace Go.Proofs.Ytfkfboiblgoamaa
open Go.RowKit

/-! ### a block that is known whole -/
def Whole (W : World) (B : Nat) (t : TypeId) (cs : Array Value) : Prop := W.heap[B]? = some (.cells cs t (0, 0))
theorem Whole.lt {W : World} {B : Nat} {t : TypeId} {cs : Array Value} (h : Whole W B t cs) : B < W.heap.size := (Array.getElem?_eq_some_iff.1 h).1
theorem Whole.cell {W : World} {B : Nat} {t : TypeId} {cs : Array Value} (h : Whole W B t cs) (i : Nat) : W.cell? ⟨B, i, none⟩ = cs[i]? := by simp [World.cell?, show W.heap[B]? = _ from h]
theorem Whole.frozen {W : World} {B : Nat} {t : TypeId} {cs : Array Value} (h : Whole W B t cs) (i : Nat) : W.frozen? ⟨B, i, none⟩ = false := by simp [World.frozen?, show W.heap[B]? = _ from h]
theorem Whole.c {W : World} {B : Nat} {t : TypeId} {a : Value} (h : Whole W B t #[a]) : W.cell? ⟨B, 0, none⟩ = some a := h.cell 0
theorem Whole.c0 {W : World} {B : Nat} {t : TypeId} {a b : Value} (h : Whole W B t #[a, b]) : W.cell? ⟨B, 0, none⟩ = some a := h.cell 0
theorem Whole.c1 {W : World} {B : Nat} {t : TypeId} {a b : Value} (h : Whole W B t #[a, b]) : W.cell? ⟨B, 1, none⟩ = some b := h.cell 1
theorem Whole.new (W : World) (t : TypeId) (cs : Array Value) : Whole (W.alloc (.cells cs t)) W.heap.size t cs := World.alloc_heap_new W _
theorem Whole.kept {W W' : World} {row : Option Nat} {B : Nat} {t : TypeId} {cs : Array Value} (h : Whole W B t cs) (hg : W.grownBy W' row) (hne : some B ≠ row) : Whole W' B t cs := (hg.block B h.lt hne).trans h
theorem Whole.alloc {W : World} {B : Nat} {t : TypeId} {cs : Array Value} (h : Whole W B t cs) (o : Obj) : Whole (W.alloc o) B t cs := h.kept (World.grownBy_alloc W o none) (by simp)
theorem Whole.below {W W' : World} {n B : Nat} {t : TypeId} {cs : Array Value} (h : Whole W B t cs) (hb : Below n W W') (hn : B < n) : Whole W' B t cs := (hb.block B hn).trans h
theorem Whole.drew {W : World} {B : Nat} {t : TypeId} {cs : Array Value} (h : Whole W B t cs) : Whole W.drew B t cs := h
theorem Whole.far {W : World} {B : Nat} {t : TypeId} {cs : Array Value} (h : Whole W B t cs) {p : Addr} (hp : B ≠ p.block) (u : Value) : Whole (W.setCell p u) B t cs := (Below.heap_setCell W p u B hp).trans h
theorem Whole.set {W : World} {B : Nat} {t : TypeId} {cs : Array Value} (h : Whole W B t cs) (i : Nat) (u : Value) : Whole (W.setCell ⟨B, i, none⟩ u) B t (cs.setIfInBounds i u) := by
  unfold Whole at h ⊢
  simp [World.setCell, Array.getElem?_modify, h]
theorem Whole.s {W : World} {B : Nat} {t : TypeId} {a : Value} (h : Whole W B t #[a]) (u : Value) : Whole (W.setCell ⟨B, 0, none⟩ u) B t #[u] := h.set 0 u
theorem Whole.s2 {W : World} {B : Nat} {t : TypeId} {a b : Value} (h : Whole W B t #[a, b]) (u v : Value) : Whole ((W.setCell ⟨B, 0, none⟩ u).setCell ⟨B, 1, none⟩ v) B t #[u, v] := (h.set 0 u).set 1 v
theorem Whole.put {W : World} {B D : Nat} {t : TypeId} {cs : Array Value} {o : Obj} (h : Whole W B t cs) (hD : W.heap[D]? = some o) (hc : o.isCells = false) (o' : Obj) : Whole (W.putObj D o') B t cs :=
  h.kept (grownBy_putObj' W D o') (fun e => by cases e; rw [show W.heap[B]? = _ from h] at hD; cases hD; cases hc)
theorem whole_own {β : Type} (B : Nat) (t : TypeId) (f : β → Array Value) : Own (fun s W => Whole W B t (f s)) := fun s X Y row hs hg hrow =>
  hs.kept hg (fun e' => by obtain ⟨o, ho, hc⟩ := hrow B e'.symm; rw [show X.heap[B]? = _ from hs] at ho; cases ho; cases hc)

theorem keepsFrom_below {B n : Nat} {W W' : World} (h : Below n W W') (hn : W.heap.size ≤ n) : KeepsFrom B W W' :=
  ⟨h.size, fun k _ _ hk _ => (h.block k (by have := (Array.getElem?_eq_some_iff.1 hk).1; omega)).trans hk⟩
theorem keepsFrom_set {B b i : Nat} {W : World} (u : Value) (hb : b < B) : KeepsFrom B W (W.setCell ⟨b, i, none⟩ u) :=
  ⟨by simp, fun k _ hB hk _ => (Below.heap_setCell W ⟨b, i, none⟩ u k (by simp; omega)).trans hk⟩

end Go.Proofs.Ytfkfboiblgoamaa
/- Values: rows of values that a call makes. -/
namespace Go.Proofs.Ytfkfboiblgoamaa
open Go.ChangeShapes Go.WideShapes Go.Joins Go.Deep Go.RowKit

def catN (f : Nat → Array Value) : Nat → List Value
  | 0 => []
  | n + 1 => catN f n ++ (f n).toList
theorem catN_len {f : Nat → Array Value} {C : Nat} (hf : ∀ i, (f i).size = C) : ∀ n, (catN f n).length = n * C := by
  intro n
  induction n with
  | zero => simp [catN]
  | succ n ih => rw [catN, List.length_append, ih, Array.length_toList, hf, Nat.succ_mul]
theorem catN_get {f : Nat → Array Value} {C : Nat} (hf : ∀ i, (f i).size = C) {i j : Nat} (hj : j < C) : ∀ {n : Nat}, i < n → (catN f n)[i * C + j]? = (f i)[j]? := by
  intro n
  induction n with
  | zero => intro h; omega
  | succ n ih =>
    intro h
    rw [catN]
    have hl := catN_len hf n
    by_cases e : i = n
    · subst e
      rw [List.getElem?_append_right (by omega), hl, Nat.add_sub_cancel_left, Array.getElem?_toList]
    · have h1 : (i + 1) * C ≤ n * C := Nat.mul_le_mul_right C (by omega)
      rw [Nat.succ_mul] at h1
      rw [List.getElem?_append_left (by omega)]
      exact ih (by omega)
theorem cells_new (w : World) (t : TypeId) (cs : Array Value) : ∀ j u, cs.toList[j]? = some u → (w.alloc (.cells cs t)).cell? ((⟨w.heap.size, 0, none⟩ : Addr).add j) = some u := by
  intro j u h
  have hw := Whole.new w t cs
  have := hw.cell j
  rw [add_plain, Nat.zero_add, this, ← Array.getElem?_toList, h]
theorem own_lies {w : World} {base C n : Nat} {e : TypeId} {v : Value} {f : Nat → Array Value} (hf : ∀ i, (f i).size = C) (h : w.ownsRow base e C v n (catN f n)) :
    ∃ (a : Option Addr) (c b : Nat), v = .slice a n c ∧ (n ≤ c ∧ c ≤ maxLen) ∧ (0 < n → a = some ⟨b, 0, none⟩ ∧ base ≤ b ∧ b < w.heap.size) ∧ ∀ i, i < n → LiesAt w b (i * C) (f i) := by
  by_cases hn : n = 0
  · subst hn
    rcases h.2 with ⟨rfl, _⟩ | ⟨g, cap, cur, rfl, _, _, hc1, hc2, _⟩
    · exact ⟨none, 0, 0, rfl, ⟨Nat.le_refl _, Nat.zero_le _⟩, fun h => absurd h (Nat.lt_irrefl _), fun i h => absurd h (Nat.not_lt_zero _)⟩
    · exact ⟨_, cap, g, rfl, ⟨hc1, hc2⟩, fun h => absurd h (Nat.lt_irrefl _), fun i h => absurd h (Nat.not_lt_zero _)⟩
  · obtain ⟨g, cap, rfl, hb, hlt⟩ := own_form h (by omega)
    have hcc : n ≤ cap ∧ cap ≤ maxLen := by
      rcases h.2 with ⟨h0, _⟩ | ⟨g', cap', cur', h0, _, _, hc1, hc2, _⟩
      · cases h0
      · cases h0; exact ⟨hc1, hc2⟩
    refine ⟨_, cap, g, rfl, hcc, fun _ => ⟨rfl, hb, hlt⟩, fun i hi j hj => ?_⟩
    rw [hf] at hj
    have hg := catN_get hf hj hi
    have hsome : (f i)[j]? = some ((f i)[j]'(by rw [hf]; exact hj)) := Array.getElem?_eq_getElem _
    rw [hsome] at hg ⊢
    have := h.cells (g := g) rfl _ _ hg
    rwa [add_plain, Nat.zero_add] at this
theorem LiesAt.c13 {W : World} {b o : Nat} {h : Vh} (H : LiesAt W b o h.cells) :
    W.cell? ⟨b, o, none⟩ = some (.int .i64 h.k) ∧ W.cell? ⟨b, o + 1, none⟩ = some (.bool h.b) ∧ W.cell? ⟨b, o + 2, none⟩ = some (.bool h.n) ∧ W.cell? ⟨b, o + 3, none⟩ = some (.string h.d) ∧ W.cell? ⟨b, o + 4, none⟩ = some (.int .i64 h.e) ∧
    W.cell? ⟨b, o + 5, none⟩ = some (.int .i64 h.tk) ∧ W.cell? ⟨b, o + 6, none⟩ = some (.int .i64 h.td) ∧ W.cell? ⟨b, o + 7, none⟩ = some (.int .i64 h.tn) ∧ W.cell? ⟨b, o + 8, none⟩ = some (.int .i64 h.tz) ∧ W.cell? ⟨b, o + 9, none⟩ = some (.string h.x) ∧
    W.cell? ⟨b, o + 10, none⟩ = some (.slice h.ba h.bn h.bc) ∧ W.cell? ⟨b, o + 11, none⟩ = some (.slice h.la h.ln h.lc) ∧ W.cell? ⟨b, o + 12, none⟩ = some (.slice h.fa h.fn h.fc) :=
  have z : h.cells.size = 13 := rfl
  ⟨H 0 (by omega), H 1 (by omega), H 2 (by omega), H 3 (by omega), H 4 (by omega), H 5 (by omega), H 6 (by omega), H 7 (by omega), H 8 (by omega), H 9 (by omega), H 10 (by omega), H 11 (by omega), H 12 (by omega)⟩
theorem own_away {w : World} {base size n B : Nat} {e : TypeId} {v : Value} {xs : List Value} (h : w.ownsRow base e size v n xs) (hB : B < base) : some B ≠ v.ownBlock := fun e' => by have := (h.lt B e'.symm).1; omega
theorem vh_size (h : Vh) : h.cells.size = 13 := rfl
theorem vh_one (h : Vh) : ∀ u ∈ h.cells.toList, u.oneCell' = true := by
  intro u hu
  simp only [Vh.cells, List.mem_cons, List.not_mem_nil, or_false] at hu
  rcases hu with rfl | rfl | rfl | rfl | rfl | rfl | rfl | rfl | rfl | rfl | rfl | rfl | rfl <;> rfl
theorem Try.infoVal : (Try.prog.info? 30).map (fun i => (i.zero, i.size, i.bytes)) = some (some (.agg Vh.zero.cells), 13, 168) := by kernel_rfl
theorem Try.infoFld : (Try.prog.info? 65).map (fun i => (i.zero, i.size, i.bytes)) = some (some (.agg (#[.string ⟨#[]⟩] ++ Vh.zero.cells)), 14, 184) := by kernel_rfl
end Go.Proofs.Ytfkfboiblgoamaa
/- Values: where a tree lies (which blocks), rows of made values, and an append that says which block it wrote. -/
namespace Go.Proofs.Ytfkfboiblgoamaa
open Go.ChangeShapes Go.WideShapes Go.Joins Go.Deep Go.RowKit

/-- All blocks of a tree are among these. -/
def Vt.Off (S : Nat → Prop) : Vt → Prop
  | .nil => True
  | .mk h _ L _ F => (0 < h.bn → S h.bb) ∧ (0 < h.ln → S h.lb) ∧ (∀ i, i < h.ln → (L i).Off S) ∧ (0 < h.fn → S h.fb) ∧ (∀ i, i < h.fn → (F i).Off S)
theorem Vt.Off.mono {S S' : Nat → Prop} (hs : ∀ b, S b → S' b) : ∀ {T : Vt}, T.Off S → T.Off S' := by
  intro T
  induction T with
  | nil => exact fun _ => trivial
  | mk h Y L K F ihL ihF =>
    rintro ⟨a, b, c, d, e⟩
    exact ⟨fun q => hs _ (a q), fun q => hs _ (b q), fun i hi => ihL i (c i hi), fun q => hs _ (d q), fun i hi => ihF i (e i hi)⟩
theorem Vt.Off.and {S S' : Nat → Prop} : ∀ {T : Vt}, T.Off S → T.Off S' → T.Off (fun b => S b ∧ S' b) := by
  intro T
  induction T with
  | nil => exact fun _ _ => trivial
  | mk h Y L K F ihL ihF =>
    rintro ⟨a, b, c, d, e⟩ ⟨a', b', c', d', e'⟩
    exact ⟨fun q => ⟨a q, a' q⟩, fun q => ⟨b q, b' q⟩, fun i hi => ihL i (c i hi) (c' i hi), fun q => ⟨d q, d' q⟩, fun i hi => ihF i (e i hi) (e' i hi)⟩
theorem Vt.In.off {W : World} {top : Nat} : ∀ {T : Vt}, T.In W top → T.Off (· < top) := by
  intro T
  induction T with
  | nil => exact fun h => h.elim
  | mk h Y L K F ihL ihF =>
    rintro ⟨_, a, _, b, c, d, e⟩
    exact ⟨fun q => (a q).2, fun q => (b q).2, fun i hi => ihL i (c i hi).2, fun q => (d q).2, fun i hi => ihF i (e i hi).2.2.2⟩
/-- What a tree says of a world is told by its own blocks. -/
theorem Vt.In.turn {W W' : World} {top top' : Nat} {S : Nat → Prop} (hs : ∀ b, S b → b < top → W'.heap[b]? = W.heap[b]? ∧ b < top') : ∀ {T : Vt}, T.In W top → T.Off S → T.In W' top' := by
  have hc : ∀ b, S b → b < top → ∀ i, W'.cell? ⟨b, i, none⟩ = W.cell? ⟨b, i, none⟩ := fun b h1 h2 i => World.cell?_of_block (a := ⟨b, i, none⟩) (hs b h1 h2).1
  intro T
  induction T with
  | nil => exact fun h => h.elim
  | mk h Y L K F ihL ihF =>
    rintro ⟨h0, h1, h2, h3, h4, h5, h6⟩ ⟨a, b, c, d, e⟩
    refine ⟨h0, fun q => ⟨(h1 q).1, (hs _ (a q) (h1 q).2).2⟩, fun i hi => ?_, fun q => ⟨(h3 q).1, (hs _ (b q) (h3 q).2).2⟩, fun i hi => ⟨fun j hj => ?_, ihL i (h4 i hi).2 (c i hi)⟩, fun q => ⟨(h5 q).1, (hs _ (d q) (h5 q).2).2⟩, fun i hi => ⟨?_, (h6 i hi).2.1, fun j hj => ?_, ihF i (h6 i hi).2.2.2 (e i hi)⟩⟩
    · rw [hc _ (a (by omega)) (h1 (by omega)).2]; exact h2 i hi
    · rw [hc _ (b (by omega)) (h3 (by omega)).2]; exact (h4 i hi).1 j hj
    · rw [hc _ (d (by omega)) (h5 (by omega)).2]; exact (h6 i hi).1
    · rw [hc _ (d (by omega)) (h5 (by omega)).2]; exact (h6 i hi).2.2.1 j hj
theorem Vt.In.grown {W W' : World} {g : Option Nat} {T : Vt} (h : T.In W W.heap.size) (ho : T.Off (fun b => some b ≠ g)) (hg : W.grownBy W' g) : T.In W' W'.heap.size :=
  Vt.In.turn (S := fun b => some b ≠ g) (fun b hb hlt => ⟨hg.block b hlt hb, Nat.lt_of_lt_of_le hlt hg.size⟩) h ho
theorem Vt.In.later {W W' : World} {T : Vt} (h : T.In W W.heap.size) (hb : Below W.heap.size W W') : T.In W' W'.heap.size := (h.below hb).up hb.size

/-! ### an append that says which block it wrote -/
theorem run_append_told {P : Program} (w : World) (base : Nat) (t ty e : TypeId) (i : TypeInfo) (z : Value) (size bytes : Nat) (ht : P.underlying t = some (.slice e)) (hi : P.info? e = some i) (hz : i.zero = some z)
    (hsize : i.size = size) (hby : i.bytes = bytes) (hzs : z.cells.size = size) (hsz : 0 < size)
    (v : Value) (n : Nat) (xs : List Value) (hown : w.ownsRow base e size v n xs)
    (a : Addr) (m c : Nat) (news : List Value) (hl : news.length = m * size) (hnews : ∀ j u, news[j]? = some u → w.cell? (a.add j) = some u) (h1 : ∀ u ∈ news, u.oneCell' = true)
    (h63 : n + m ≤ maxLen) (hbytes : (n + m) * bytes ≤ 140737488355328) (hbase : base ≤ w.heap.size) (hm : 0 < m) :
    ∃ v' w', (Builtin.append_ #[t, t] ty #[v, .slice (some a) m c]).run P w = .ok v' w' ∧ w'.ownsRow base e size v' (n + m) (xs ++ news) ∧ w.grownBy w' v.ownBlock ∧
      (v'.ownBlock = v.ownBlock ∨ v'.ownBlock = some w.heap.size) := by
  obtain ⟨v', w', hr, h2, h3, _⟩ := run_append_own (P := P) w base t ty e i z size bytes ht hi hz hsize hby hzs hsz v n xs hown a m c news hl hnews h1 h63 hbytes hbase
  refine ⟨v', w', hr, h2, h3, ?_⟩
  subst hsize
  subst hby
  have hml : n + m ≤ 9223372036854775807 := by simp only [maxLen] at h63; omega
  rcases hown.2 with ⟨rfl, rfl⟩ | ⟨g, cap, cur, rfl, hbg, hg, hnc, hcm, hcs, htake⟩
  · have hr2 := run_append_nil (P := P) w t ty e i z ht hi hz a m c news hl hnews hm (by omega) (by have hb := hbytes; simp only [Nat.zero_add] at hb; omega)
    rw [hr2] at hr
    injection hr with e1 e2
    exact .inr (by rw [← e1]; rfl)
  · by_cases hroom : n + m ≤ cap
    · have hfit : n * i.size + news.length ≤ cur.size := by rw [hl, hcs, ← Nat.add_mul]; exact Nat.mul_le_mul_right _ hroom
      have hr2 := run_append_room (P := P) w t ty e i ht hi g n cap cur hg a m c news hl hnews h1 hroom hfit
      rw [hr2] at hr
      injection hr with e1 e2
      exact .inl (by rw [← e1]; rfl)
    · have holds : ∀ j u, xs[j]? = some u → w.cell? ((⟨g, 0, none⟩ : Addr).add j) = some u := hown.cells (g := g) rfl
      have hr2 := run_append_grow (P := P) w t ty e i z ht hi hz ⟨g, 0, none⟩ n cap xs hown.1 holds a m c news hl hnews (by omega) (by omega) (growslice_fits (by omega) hbytes)
      rw [hr2] at hr
      injection hr with e1 e2
      exact .inr (by rw [← e1]; rfl)
theorem wpList_append_told {P : Program} (w : World) {ops : Array Oper} {rest : List Oper} {o : Oper} {a : Act} {Q : Exit → Act → World → Prop} (hgd : o.guard = none) (s x : Operand) (t : TypeId)
    (ho : o.op = .call { callee := .builtin .append, args := #[s, x], argTypes := #[t, t] })
    (base : Nat) (e : TypeId) (i : TypeInfo) (z : Value) (size bytes : Nat) (ht : P.underlying t = some (.slice e)) (hi : P.info? e = some i) (hz : i.zero = some z)
    (hsize : i.size = size) (hby : i.bytes = bytes) (hzs : z.cells.size = size) (hsz : 0 < size)
    (v : Value) (n : Nat) (xs : List Value) (hs : a.eval s = v) (hown : w.ownsRow base e size v n xs)
    (ad : Addr) (m c : Nat) (news : List Value) (hx : a.eval x = .slice (some ad) m c) (hl : news.length = m * size) (hnews : ∀ j u, news[j]? = some u → w.cell? (ad.add j) = some u) (h1 : ∀ u ∈ news, u.oneCell' = true)
    (h63 : n + m ≤ maxLen) (hbytes : (n + m) * bytes ≤ 140737488355328) (hbase : base ≤ w.heap.size) (hm : 0 < m)
    (h : ∀ v' w', w'.ownsRow base e size v' (n + m) (xs ++ news) → w.grownBy w' v.ownBlock → (v'.ownBlock = v.ownBlock ∨ v'.ownBlock = some w.heap.size) → wpList P ops Q rest (a.put o.dst v') w') : wpList P ops Q (o :: rest) a w := by
  refine wpList_plain hgd fun K hK => ?_
  obtain ⟨v', w', hr, h2, h3, h4⟩ := run_append_told (P := P) w base t o.type e i z size bytes ht hi hz hsize hby hzs hsz v n xs hown ad m c news hl hnews h1 h63 hbytes hbase hm
  unfold Oper.wp execOp
  simp only [ho, resolve, invoke, builtin, Sem.run_bind, Sem.run_pure, Result.andThen_ok, List.map_toArray, List.map_cons, List.map_nil, hs, hx, hr]
  exact hK _ _ (h v' w' h2 h3 h4)

/-! ### rows of made values -/
section
variable {α : Type}
/-- A row of values that a call makes: what lies in it, and that no part of it lies in the row's own block. -/
def RowG (cs : α → Array Value) (tr : α → Vt) (C : Nat) (e : TypeId) (B : Nat) (S : Nat → Prop) (q : Nat → α → Prop) (W : World) (v : Value) (k : Nat) : Prop :=
  ∃ f : Nat → α, W.ownsRow B e C v k (catN (fun i => cs (f i)) k) ∧ ∀ i, i < k → (tr (f i)).In W W.heap.size ∧ (tr (f i)).Off (fun b => S b ∧ some b ≠ v.ownBlock) ∧ q i (f i)
variable {cs : α → Array Value} {tr : α → Vt} {C : Nat} {e : TypeId} {B : Nat} {S : Nat → Prop} {q : Nat → α → Prop} {W W' : World} {v : Value} {k : Nat}
theorem catN_congr {f g : Nat → Array Value} : ∀ {n : Nat}, (∀ i, i < n → f i = g i) → catN f n = catN g n := by
  intro n
  induction n with
  | zero => intro _; rfl
  | succ n ih =>
    intro h
    show catN f n ++ _ = catN g n ++ _
    rw [ih (fun i hi => h i (by omega)), h n (by omega)]
theorem RowG.nil [Inhabited α] : RowG cs tr C e B S q W (.slice none 0 0) 0 := ⟨fun _ => default, World.ownsRow_nil _ _ _ _, fun _ h => absurd h (Nat.not_lt_zero _)⟩
theorem RowG.below (h : RowG cs tr C e B S q W v k) (hb : Below W.heap.size W W') : RowG cs tr C e B S q W' v k := by
  obtain ⟨f, ho, hf⟩ := h
  refine ⟨f, ho.kept ⟨hb.os, hb.tape, hb.output, hb.size, fun i hi _ => hb.block i hi⟩ (row := none) ?_, fun i hi => ⟨(hf i hi).1.later hb, (hf i hi).2⟩⟩
  cases hv : v.ownBlock with
  | none => exact .inl rfl
  | some g => exact .inr (by simp)
theorem RowG.alloc (h : RowG cs tr C e B S q W v k) (o : Obj) : RowG cs tr C e B S q (W.alloc o) v k := h.below ((Below.refl _ W).alloc (Nat.le_refl _) o)
theorem RowG.drew (h : RowG cs tr C e B S q W v k) : RowG cs tr C e B S q W.drew v k := h.below (Below.refl _ W).drew
/-- A store into a block that is no part of it. -/
theorem RowG.turn (h : RowG cs tr C e B S q W v k) {g : Nat} (hg : W.grownBy W' (some g)) (hgB : g < B) (hS : ∀ b, S b → b ≠ g) : RowG cs tr C e B S q W' v k := by
  obtain ⟨f, ho, hf⟩ := h
  refine ⟨f, ho.kept hg ?_, fun i hi => ⟨(hf i hi).1.grown ((hf i hi).2.1.mono fun b hb e => hS b hb.1 (Option.some.inj e)) hg, (hf i hi).2⟩⟩
  exact .inr fun e => own_away ho hgB e.symm
/-- One more. -/
theorem RowG.push [Inhabited α] {f : Nat → α} {x : α} {w1 w3 : World} {v' : Value} (ho : w1.ownsRow B e C v k (catN (fun i => cs (f i)) k)) (hf : ∀ i, i < k → (tr (f i)).In w1 w1.heap.size ∧ (tr (f i)).Off (fun b => S b ∧ some b ≠ v.ownBlock) ∧ q i (f i))
    (hx : (tr x).In w1 w1.heap.size) (hS : (tr x).Off S) (hxo : ∀ g, v.ownBlock = some g → (tr x).Off (· ≠ g)) (hq : q k x)
    (ho3 : w3.ownsRow B e C v' (k + 1) (catN (fun i => cs (f i)) k ++ (cs x).toList)) (hg : w1.grownBy w3 v.ownBlock) (hv : v'.ownBlock = v.ownBlock ∨ v'.ownBlock = some w1.heap.size) :
    RowG cs tr C e B S q w3 v' (k + 1) := by
  have hxo' : (tr x).Off (fun b => some b ≠ v.ownBlock) := by
    cases hvb : v.ownBlock with
    | none => exact hS.mono fun b _ e => by cases e
    | some g => exact (hxo g hvb).mono fun b hb e => by cases e; exact hb rfl
  refine ⟨fun i => if i = k then x else f i, ?_, fun i hi => ?_⟩
  · have e1 : catN (fun i => cs (if i = k then x else f i)) (k + 1) = catN (fun i => cs (f i)) k ++ (cs x).toList := by
      show catN (fun i => cs (if i = k then x else f i)) k ++ (cs (if k = k then x else f k)).toList = _
      rw [catN_congr (g := fun i => cs (f i)) (fun i hi => by rw [if_neg (by omega)]), if_pos rfl]
    rw [e1]
    exact ho3
  · have key : ∀ {y : α}, (tr y).In w1 w1.heap.size → (tr y).Off (fun b => S b ∧ some b ≠ v.ownBlock) → (tr y).In w3 w3.heap.size ∧ (tr y).Off (fun b => S b ∧ some b ≠ v'.ownBlock) := by
      intro y h1 h2
      refine ⟨h1.grown (h2.mono fun b hb => hb.2) hg, ?_⟩
      rcases hv with e1 | e1
      · rw [e1]; exact h2
      · rw [e1]
        exact (h2.and h1.off).mono fun b hb => ⟨hb.1.1, fun e2 => by cases e2; exact absurd hb.2 (Nat.lt_irrefl _)⟩
    by_cases hik : i = k
    · subst hik
      simp only [if_true]
      obtain ⟨a, b⟩ := key hx (hS.and hxo')
      exact ⟨a, b, hq⟩
    · simp only [if_neg hik]
      obtain ⟨h1, h2, h3⟩ := hf i (by omega)
      obtain ⟨a, b⟩ := key h1 h2
      exact ⟨a, b, h3⟩
/-- What a finished row is. -/
theorem RowG.done (hC : ∀ x, (cs x).size = C) (h : RowG cs tr C e B S q W v k) : ∃ (f : Nat → α) (a : Option Addr) (c b : Nat), v = .slice a k c ∧ (k ≤ c ∧ c ≤ maxLen) ∧ (0 < k → a = some ⟨b, 0, none⟩ ∧ B ≤ b ∧ b < W.heap.size) ∧
    ∀ i, i < k → LiesAt W b (i * C) (cs (f i)) ∧ (tr (f i)).In W W.heap.size ∧ (tr (f i)).Off S ∧ q i (f i) := by
  obtain ⟨f, ho, hf⟩ := h
  obtain ⟨a, c, b, rfl, hcc, ha, hl⟩ := own_lies (fun i => hC (f i)) ho
  exact ⟨f, a, c, b, rfl, hcc, ha, fun i hi => ⟨hl i hi, (hf i hi).1, (hf i hi).2.1.mono fun _ h => h.1, (hf i hi).2.2⟩⟩
end
/-- A key and its value: their cells. -/
def fcs (x : ByteArray × Vt) : Array Value := #[.string x.1, .int .i64 x.2.h.k, .bool x.2.h.b, .bool x.2.h.n, .string x.2.h.d, .int .i64 x.2.h.e, .int .i64 x.2.h.tk, .int .i64 x.2.h.td, .int .i64 x.2.h.tn, .int .i64 x.2.h.tz, .string x.2.h.x, .slice x.2.h.ba x.2.h.bn x.2.h.bc, .slice x.2.h.la x.2.h.ln x.2.h.lc, .slice x.2.h.fa x.2.h.fn x.2.h.fc]
theorem fcs_size (x : ByteArray × Vt) : (fcs x).size = 14 := rfl
theorem fcs_one (x : ByteArray × Vt) : ∀ u ∈ (fcs x).toList, u.oneCell' = true := by
  intro u hu
  simp only [fcs, List.mem_cons, List.not_mem_nil, or_false] at hu
  rcases hu with rfl | rfl | rfl | rfl | rfl | rfl | rfl | rfl | rfl | rfl | rfl | rfl | rfl | rfl <;> rfl
theorem LiesAt.fcs {W : World} {b o : Nat} {x : ByteArray × Vt} (h : LiesAt W b o (Proofs.Ytfkfboiblgoamaa.fcs x)) : W.cell? ⟨b, o, none⟩ = some (.string x.1) ∧ LiesAt W b (o + 1) x.2.h.cells := by
  have z : (Proofs.Ytfkfboiblgoamaa.fcs x).size = 14 := rfl
  refine ⟨h 0 (by omega), fun j hj => ?_⟩
  have hj' : j < 13 := hj
  have := h (j + 1) (by omega)
  rw [show o + 1 + j = o + (j + 1) by omega, this]
  match j, hj' with
  | 0, _ | 1, _ | 2, _ | 3, _ | 4, _ | 5, _ | 6, _ | 7, _ | 8, _ | 9, _ | 10, _ | 11, _ | 12, _ => rfl
instance : Inhabited (ByteArray × Vt) := ⟨(ByteArray.empty, .nil)⟩
end Go.Proofs.Ytfkfboiblgoamaa
/- Values: bytes that are cloned (slices.Clone). -/
namespace Go.Proofs.Ytfkfboiblgoamaa
open Go.ChangeShapes Go.WideShapes Go.Joins Go.Deep Go.RowKit

theorem Try.infoByteV : (Try.prog.info? 5).map (fun i => (i.zero, i.size, i.bytes)) = some (some (.int .u8 0), 1, 1) := by kernel_rfl
def CloneOut (n : Nat) (Y : Nat → Int) (w : World) (e : Ending) (w' : World) : Prop :=
  ∃ (a : Option Addr) (c b : Nat), e = .returned (.slice a n c) ∧ (0 < n → a = some ⟨b, 0, none⟩ ∧ w.heap.size ≤ b ∧ b < w'.heap.size) ∧ (∀ i, i < n → w'.cell? ⟨b, i, none⟩ = some (.int .u8 (Y i))) ∧ Below w.heap.size w w'
theorem clone_end {w w' : World} {n base : Nat} {Y : Nat → Int} {v : Value} (h : w'.ownsRow base 5 1 v n ((List.range n).map fun i => Value.int .u8 (Y i))) (hb : Below w.heap.size w w') (hW : w.heap.size ≤ base) : CloneOut n Y w (.returned v) w' := by
  by_cases hn : n = 0
  · subst hn
    rcases h.2 with ⟨rfl, _⟩ | ⟨g, cap, cur, rfl, _⟩
    · exact ⟨none, 0, 0, rfl, fun h => absurd h (Nat.lt_irrefl _), fun i h => absurd h (Nat.not_lt_zero _), hb⟩
    · exact ⟨_, cap, g, rfl, fun h => absurd h (Nat.lt_irrefl _), fun i h => absurd h (Nat.not_lt_zero _), hb⟩
  · obtain ⟨g, cap, rfl, hg, hlt⟩ := own_form h (by omega)
    refine ⟨_, cap, g, rfl, fun _ => ⟨rfl, by omega, hlt⟩, fun i hi => ?_, hb⟩
    have := h.cells (g := g) rfl i (.int .u8 (Y i)) (by simp [hi])
    rwa [add_plain, Nat.zero_add] at this
set_option maxHeartbeats 1000000 in
set_option maxRecDepth 100000 in
theorem clone_any {a : Option Addr} {n c b o : Nat} {Y : Nat → Int} (hn : n ≤ 1048576) (w : World) (ha : 0 < n → a = some ⟨b, o, none⟩ ∧ b < w.heap.size) (hY : ∀ i, i < n → w.cell? ⟨b, o + i, none⟩ = some (.int .u8 (Y i))) :
    Calls Try.prog 56 #[.slice a n c] w (CloneOut n Y w) := by
  cases a with
  | none =>
    have h0 : n = 0 := Classical.byContradiction fun q => by have := (ha (by omega)).1; cases this
    subst h0
    have HQ : Hid (CloneOut 0 Y w (.returned (.slice none 0 0)) w) := Lib.hid ⟨none, 0, 0, rfl, fun h => absurd h (Nat.lt_irrefl _), fun i h => absurd h (Nat.not_lt_zero _), Below.refl _ _⟩
    clear ha hY
    have hnil := fun (w : World) (l c : Nat) => Lib.run_eql_slice_nil (P := Try.prog) w 26 5 none l c 0 0 Try.underlying26
    go_enter Try.func56, Try.ntmps56
    go_wp2
    go_ret
    exact HQ.out
  | some ad =>
    obtain ⟨i0, hi, hz0, hz1, hz2⟩ := info_parts Try.infoByteV
    have hown := World.ownsRow_made (base := w.heap.size) (e := 5) (size := 1) w #[] 0 (Nat.le_refl _) (by unfold maxLen; omega) rfl
    have hb0 := (Below.refl w.heap.size w).alloc (Nat.le_refl _) (.cells #[] 5)
    have hnews : Hid (∀ j u, ((List.range n).map fun i => Value.int .u8 (Y i))[j]? = some u → (w.alloc (.cells #[] 5)).cell? (ad.add j) = some u) := Lib.hid fun j u hu => by
      have hj : j < n := by
        rcases Nat.lt_or_ge j n with q | q
        · exact q
        · rw [List.getElem?_eq_none (by simp; exact q)] at hu; cases hu
      obtain ⟨e, hlt⟩ := ha (by omega)
      cases e
      rw [add_plain]
      refine (hb0.cell (p := ⟨b, o + j, none⟩) hlt).trans ?_
      rw [hY j hj]
      simp [hj] at hu
      rw [← hu]
    clear ha hY
    have hnil := fun (w : World) (l c : Nat) => Lib.run_eql_slice_nil (P := Try.prog) w 26 5 (some ad) l c 0 0 Try.underlying26
    go_enter Try.func56, Try.ntmps56
    go_wp2_with (at_builtin; refine wpList_append_own _ rfl _ _ 26 rfl w.heap.size 5 i0 (.int .u8 0) 1 1 Try.underlying26 hi hz0 hz1 hz2 rfl (by decide) _ _ _ rfl hown ad n c ((List.range n).map fun i => Value.int .u8 (Y i)) rfl ?c1 ?c2 ?c3 ?c4 ?c5 ?c6 ?_)
    case c1 => simp
    case c2 => exact hnews.out
    case c3 =>
      intro u hu
      obtain ⟨_, _, rfl⟩ := List.mem_map.1 hu
      rfl
    case c4 => unfold maxLen; omega
    case c5 => omega
    case c6 => simp
    intro v' w3 hown3 hgrow _
    have hb3 := hb0.grown hgrow (by simp) (fun k e => by cases e; exact Nat.le_refl _)
    clear hown hnews hgrow
    go_wp2
    go_ret
    exact clone_end hown3 hb3 (Nat.le_refl _)
end Go.Proofs.Ytfkfboiblgoamaa
