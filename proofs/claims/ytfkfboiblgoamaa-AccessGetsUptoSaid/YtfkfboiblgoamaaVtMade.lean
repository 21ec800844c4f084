/- Values: where a tree lies (which blocks), rows of made values, and an append that says which block it wrote. -/
import Derived.Test.YtfkfboiblgoamaaVtRows
import Derived.Laws.Tables
import Derived.Laws.CopyOwn
namespace Go.Proofs.Ytfkfboiblgoamaa
open Go.ChangeShapes Go.WideShapes Go.Joins Go.Deep Go.RowKit

/-- All blocks of a tree are among these. -/
def Vt.Off (S : Nat → Prop) : Vt → Prop
  | .nil => True
  | .mk h _ L _ F => (0 < h.bn → S h.bb) ∧ (0 < h.ln → S h.lb) ∧ (∀ i, i < h.ln → (L i).Off S) ∧ (0 < h.fn → S h.fb) ∧ (∀ i, i < h.fn → (F i).Off S)
theorem Vt.Off.mono {S S' : Nat → Prop} (hs : ∀ b, S b → S' b) : ∀ {T : Vt}, T.Off S → T.Off S' := by
  intro T
  induction T with
  | nil => exact fun _ => trivial
  | mk h Y L K F ihL ihF =>
    rintro ⟨a, b, c, d, e⟩
    exact ⟨fun q => hs _ (a q), fun q => hs _ (b q), fun i hi => ihL i (c i hi), fun q => hs _ (d q), fun i hi => ihF i (e i hi)⟩
theorem Vt.Off.and {S S' : Nat → Prop} : ∀ {T : Vt}, T.Off S → T.Off S' → T.Off (fun b => S b ∧ S' b) := by
  intro T
  induction T with
  | nil => exact fun _ _ => trivial
  | mk h Y L K F ihL ihF =>
    rintro ⟨a, b, c, d, e⟩ ⟨a', b', c', d', e'⟩
    exact ⟨fun q => ⟨a q, a' q⟩, fun q => ⟨b q, b' q⟩, fun i hi => ihL i (c i hi) (c' i hi), fun q => ⟨d q, d' q⟩, fun i hi => ihF i (e i hi) (e' i hi)⟩
theorem Vt.In.off {W : World} {top : Nat} : ∀ {T : Vt}, T.In W top → T.Off (· < top) := by
  intro T
  induction T with
  | nil => exact fun h => h.elim
  | mk h Y L K F ihL ihF =>
    rintro ⟨_, a, _, b, c, d, e⟩
    exact ⟨fun q => (a q).2, fun q => (b q).2, fun i hi => ihL i (c i hi).2, fun q => (d q).2, fun i hi => ihF i (e i hi).2.2.2⟩
/-- What a tree says of a world is told by its own blocks. -/
theorem Vt.In.turn {W W' : World} {top top' : Nat} {S : Nat → Prop} (hs : ∀ b, S b → b < top → W'.heap[b]? = W.heap[b]? ∧ b < top') : ∀ {T : Vt}, T.In W top → T.Off S → T.In W' top' := by
  have hc : ∀ b, S b → b < top → ∀ i, W'.cell? ⟨b, i, none⟩ = W.cell? ⟨b, i, none⟩ := fun b h1 h2 i => World.cell?_of_block (a := ⟨b, i, none⟩) (hs b h1 h2).1
  intro T
  induction T with
  | nil => exact fun h => h.elim
  | mk h Y L K F ihL ihF =>
    rintro ⟨h0, h1, h2, h3, h4, h5, h6⟩ ⟨a, b, c, d, e⟩
    refine ⟨h0, fun q => ⟨(h1 q).1, (hs _ (a q) (h1 q).2).2⟩, fun i hi => ?_, fun q => ⟨(h3 q).1, (hs _ (b q) (h3 q).2).2⟩, fun i hi => ⟨fun j hj => ?_, ihL i (h4 i hi).2 (c i hi)⟩, fun q => ⟨(h5 q).1, (hs _ (d q) (h5 q).2).2⟩, fun i hi => ⟨?_, (h6 i hi).2.1, fun j hj => ?_, ihF i (h6 i hi).2.2.2 (e i hi)⟩⟩
    · rw [hc _ (a (by omega)) (h1 (by omega)).2]; exact h2 i hi
    · rw [hc _ (b (by omega)) (h3 (by omega)).2]; exact (h4 i hi).1 j hj
    · rw [hc _ (d (by omega)) (h5 (by omega)).2]; exact (h6 i hi).1
    · rw [hc _ (d (by omega)) (h5 (by omega)).2]; exact (h6 i hi).2.2.1 j hj
theorem Vt.In.grown {W W' : World} {g : Option Nat} {T : Vt} (h : T.In W W.heap.size) (ho : T.Off (fun b => some b ≠ g)) (hg : W.grownBy W' g) : T.In W' W'.heap.size :=
  Vt.In.turn (S := fun b => some b ≠ g) (fun b hb hlt => ⟨hg.block b hlt hb, Nat.lt_of_lt_of_le hlt hg.size⟩) h ho
theorem Vt.In.later {W W' : World} {T : Vt} (h : T.In W W.heap.size) (hb : Below W.heap.size W W') : T.In W' W'.heap.size := (h.below hb).up hb.size

/-! ### an append that says which block it wrote -/
theorem run_append_told {P : Program} (w : World) (base : Nat) (t ty e : TypeId) (i : TypeInfo) (z : Value) (size bytes : Nat) (ht : P.underlying t = some (.slice e)) (hi : P.info? e = some i) (hz : i.zero = some z)
    (hsize : i.size = size) (hby : i.bytes = bytes) (hzs : z.cells.size = size) (hsz : 0 < size)
    (v : Value) (n : Nat) (xs : List Value) (hown : w.ownsRow base e size v n xs)
    (a : Addr) (m c : Nat) (news : List Value) (hl : news.length = m * size) (hnews : ∀ j u, news[j]? = some u → w.cell? (a.add j) = some u) (h1 : ∀ u ∈ news, u.oneCell' = true)
    (h63 : n + m ≤ maxLen) (hbytes : (n + m) * bytes ≤ 140737488355328) (hbase : base ≤ w.heap.size) (hm : 0 < m) :
    ∃ v' w', (Builtin.append_ #[t, t] ty #[v, .slice (some a) m c]).run P w = .ok v' w' ∧ w'.ownsRow base e size v' (n + m) (xs ++ news) ∧ w.grownBy w' v.ownBlock ∧
      (v'.ownBlock = v.ownBlock ∨ v'.ownBlock = some w.heap.size) := by
  obtain ⟨v', w', hr, h2, h3, _⟩ := run_append_own (P := P) w base t ty e i z size bytes ht hi hz hsize hby hzs hsz v n xs hown a m c news hl hnews h1 h63 hbytes hbase
  refine ⟨v', w', hr, h2, h3, ?_⟩
  subst hsize
  subst hby
  have hml : n + m ≤ 9223372036854775807 := by simp only [maxLen] at h63; omega
  rcases hown.2 with ⟨rfl, rfl⟩ | ⟨g, cap, cur, rfl, hbg, hg, hnc, hcm, hcs, htake⟩
  · have hr2 := run_append_nil (P := P) w t ty e i z ht hi hz a m c news hl hnews hm (by omega) (by have hb := hbytes; simp only [Nat.zero_add] at hb; omega)
    rw [hr2] at hr
    injection hr with e1 e2
    exact .inr (by rw [← e1]; rfl)
  · by_cases hroom : n + m ≤ cap
    · have hfit : n * i.size + news.length ≤ cur.size := by rw [hl, hcs, ← Nat.add_mul]; exact Nat.mul_le_mul_right _ hroom
      have hr2 := run_append_room (P := P) w t ty e i ht hi g n cap cur hg a m c news hl hnews h1 hroom hfit
      rw [hr2] at hr
      injection hr with e1 e2
      exact .inl (by rw [← e1]; rfl)
    · have holds : ∀ j u, xs[j]? = some u → w.cell? ((⟨g, 0, none⟩ : Addr).add j) = some u := hown.cells (g := g) rfl
      have hr2 := run_append_grow (P := P) w t ty e i z ht hi hz ⟨g, 0, none⟩ n cap xs hown.1 holds a m c news hl hnews (by omega) (by omega) (growslice_fits (by omega) hbytes)
      rw [hr2] at hr
      injection hr with e1 e2
      exact .inr (by rw [← e1]; rfl)
theorem wpList_append_told {P : Program} (w : World) {ops : Array Oper} {rest : List Oper} {o : Oper} {a : Act} {Q : Exit → Act → World → Prop} (hgd : o.guard = none) (s x : Operand) (t : TypeId)
    (ho : o.op = .call { callee := .builtin .append, args := #[s, x], argTypes := #[t, t] })
    (base : Nat) (e : TypeId) (i : TypeInfo) (z : Value) (size bytes : Nat) (ht : P.underlying t = some (.slice e)) (hi : P.info? e = some i) (hz : i.zero = some z)
    (hsize : i.size = size) (hby : i.bytes = bytes) (hzs : z.cells.size = size) (hsz : 0 < size)
    (v : Value) (n : Nat) (xs : List Value) (hs : a.eval s = v) (hown : w.ownsRow base e size v n xs)
    (ad : Addr) (m c : Nat) (news : List Value) (hx : a.eval x = .slice (some ad) m c) (hl : news.length = m * size) (hnews : ∀ j u, news[j]? = some u → w.cell? (ad.add j) = some u) (h1 : ∀ u ∈ news, u.oneCell' = true)
    (h63 : n + m ≤ maxLen) (hbytes : (n + m) * bytes ≤ 140737488355328) (hbase : base ≤ w.heap.size) (hm : 0 < m)
    (h : ∀ v' w', w'.ownsRow base e size v' (n + m) (xs ++ news) → w.grownBy w' v.ownBlock → (v'.ownBlock = v.ownBlock ∨ v'.ownBlock = some w.heap.size) → wpList P ops Q rest (a.put o.dst v') w') : wpList P ops Q (o :: rest) a w := by
  refine wpList_plain hgd fun K hK => ?_
  obtain ⟨v', w', hr, h2, h3, h4⟩ := run_append_told (P := P) w base t o.type e i z size bytes ht hi hz hsize hby hzs hsz v n xs hown ad m c news hl hnews h1 h63 hbytes hbase hm
  unfold Oper.wp execOp
  simp only [ho, resolve, invoke, builtin, Sem.run_bind, Sem.run_pure, Result.andThen_ok, List.map_toArray, List.map_cons, List.map_nil, hs, hx, hr]
  exact hK _ _ (h v' w' h2 h3 h4)

/-! ### rows of made values -/
section
variable {α : Type}
/-- A row of values that a call makes: what lies in it, and that no part of it lies in the row's own block. -/
def RowG (cs : α → Array Value) (tr : α → Vt) (C : Nat) (e : TypeId) (B : Nat) (S : Nat → Prop) (q : Nat → α → Prop) (W : World) (v : Value) (k : Nat) : Prop :=
  ∃ f : Nat → α, W.ownsRow B e C v k (catN (fun i => cs (f i)) k) ∧ ∀ i, i < k → (tr (f i)).In W W.heap.size ∧ (tr (f i)).Off (fun b => S b ∧ some b ≠ v.ownBlock) ∧ q i (f i)
variable {cs : α → Array Value} {tr : α → Vt} {C : Nat} {e : TypeId} {B : Nat} {S : Nat → Prop} {q : Nat → α → Prop} {W W' : World} {v : Value} {k : Nat}
theorem catN_congr {f g : Nat → Array Value} : ∀ {n : Nat}, (∀ i, i < n → f i = g i) → catN f n = catN g n := by
  intro n
  induction n with
  | zero => intro _; rfl
  | succ n ih =>
    intro h
    show catN f n ++ _ = catN g n ++ _
    rw [ih (fun i hi => h i (by omega)), h n (by omega)]
theorem RowG.nil [Inhabited α] : RowG cs tr C e B S q W (.slice none 0 0) 0 := ⟨fun _ => default, World.ownsRow_nil _ _ _ _, fun _ h => absurd h (Nat.not_lt_zero _)⟩
theorem RowG.below (h : RowG cs tr C e B S q W v k) (hb : Below W.heap.size W W') : RowG cs tr C e B S q W' v k := by
  obtain ⟨f, ho, hf⟩ := h
  refine ⟨f, ho.kept ⟨hb.os, hb.tape, hb.output, hb.size, fun i hi _ => hb.block i hi⟩ (row := none) ?_, fun i hi => ⟨(hf i hi).1.later hb, (hf i hi).2⟩⟩
  cases hv : v.ownBlock with
  | none => exact .inl rfl
  | some g => exact .inr (by simp)
theorem RowG.alloc (h : RowG cs tr C e B S q W v k) (o : Obj) : RowG cs tr C e B S q (W.alloc o) v k := h.below ((Below.refl _ W).alloc (Nat.le_refl _) o)
theorem RowG.drew (h : RowG cs tr C e B S q W v k) : RowG cs tr C e B S q W.drew v k := h.below (Below.refl _ W).drew
/-- A store into a block that is no part of it. -/
theorem RowG.turn (h : RowG cs tr C e B S q W v k) {g : Nat} (hg : W.grownBy W' (some g)) (hgB : g < B) (hS : ∀ b, S b → b ≠ g) : RowG cs tr C e B S q W' v k := by
  obtain ⟨f, ho, hf⟩ := h
  refine ⟨f, ho.kept hg ?_, fun i hi => ⟨(hf i hi).1.grown ((hf i hi).2.1.mono fun b hb e => hS b hb.1 (Option.some.inj e)) hg, (hf i hi).2⟩⟩
  exact .inr fun e => own_away ho hgB e.symm
/-- One more. -/
theorem RowG.push [Inhabited α] {f : Nat → α} {x : α} {w1 w3 : World} {v' : Value} (ho : w1.ownsRow B e C v k (catN (fun i => cs (f i)) k)) (hf : ∀ i, i < k → (tr (f i)).In w1 w1.heap.size ∧ (tr (f i)).Off (fun b => S b ∧ some b ≠ v.ownBlock) ∧ q i (f i))
    (hx : (tr x).In w1 w1.heap.size) (hS : (tr x).Off S) (hxo : ∀ g, v.ownBlock = some g → (tr x).Off (· ≠ g)) (hq : q k x)
    (ho3 : w3.ownsRow B e C v' (k + 1) (catN (fun i => cs (f i)) k ++ (cs x).toList)) (hg : w1.grownBy w3 v.ownBlock) (hv : v'.ownBlock = v.ownBlock ∨ v'.ownBlock = some w1.heap.size) :
    RowG cs tr C e B S q w3 v' (k + 1) := by
  have hxo' : (tr x).Off (fun b => some b ≠ v.ownBlock) := by
    cases hvb : v.ownBlock with
    | none => exact hS.mono fun b _ e => by cases e
    | some g => exact (hxo g hvb).mono fun b hb e => by cases e; exact hb rfl
  refine ⟨fun i => if i = k then x else f i, ?_, fun i hi => ?_⟩
  · have e1 : catN (fun i => cs (if i = k then x else f i)) (k + 1) = catN (fun i => cs (f i)) k ++ (cs x).toList := by
      show catN (fun i => cs (if i = k then x else f i)) k ++ (cs (if k = k then x else f k)).toList = _
      rw [catN_congr (g := fun i => cs (f i)) (fun i hi => by rw [if_neg (by omega)]), if_pos rfl]
    rw [e1]
    exact ho3
  · have key : ∀ {y : α}, (tr y).In w1 w1.heap.size → (tr y).Off (fun b => S b ∧ some b ≠ v.ownBlock) → (tr y).In w3 w3.heap.size ∧ (tr y).Off (fun b => S b ∧ some b ≠ v'.ownBlock) := by
      intro y h1 h2
      refine ⟨h1.grown (h2.mono fun b hb => hb.2) hg, ?_⟩
      rcases hv with e1 | e1
      · rw [e1]; exact h2
      · rw [e1]
        exact (h2.and h1.off).mono fun b hb => ⟨hb.1.1, fun e2 => by cases e2; exact absurd hb.2 (Nat.lt_irrefl _)⟩
    by_cases hik : i = k
    · subst hik
      simp only [if_true]
      obtain ⟨a, b⟩ := key hx (hS.and hxo')
      exact ⟨a, b, hq⟩
    · simp only [if_neg hik]
      obtain ⟨h1, h2, h3⟩ := hf i (by omega)
      obtain ⟨a, b⟩ := key h1 h2
      exact ⟨a, b, h3⟩
/-- What a finished row is. -/
theorem RowG.done (hC : ∀ x, (cs x).size = C) (h : RowG cs tr C e B S q W v k) : ∃ (f : Nat → α) (a : Option Addr) (c b : Nat), v = .slice a k c ∧ (0 < k → a = some ⟨b, 0, none⟩ ∧ B ≤ b ∧ b < W.heap.size) ∧
    ∀ i, i < k → LiesAt W b (i * C) (cs (f i)) ∧ (tr (f i)).In W W.heap.size ∧ (tr (f i)).Off S ∧ q i (f i) := by
  obtain ⟨f, ho, hf⟩ := h
  obtain ⟨a, c, b, rfl, ha, hl⟩ := own_lies (fun i => hC (f i)) ho
  exact ⟨f, a, c, b, rfl, ha, fun i hi => ⟨hl i hi, (hf i hi).1, (hf i hi).2.1.mono fun _ h => h.1, (hf i hi).2.2⟩⟩
end
/-- A key and its value: their cells. -/
def fcs (x : ByteArray × Vt) : Array Value := #[.string x.1, .int .i64 x.2.h.k, .bool x.2.h.b, .bool x.2.h.n, .string x.2.h.d, .int .i64 x.2.h.e, .int .i64 x.2.h.tk, .int .i64 x.2.h.td, .int .i64 x.2.h.tn, .int .i64 x.2.h.tz, .string x.2.h.x, .slice x.2.h.ba x.2.h.bn x.2.h.bc, .slice x.2.h.la x.2.h.ln x.2.h.lc, .slice x.2.h.fa x.2.h.fn x.2.h.fc]
theorem fcs_size (x : ByteArray × Vt) : (fcs x).size = 14 := rfl
theorem fcs_one (x : ByteArray × Vt) : ∀ u ∈ (fcs x).toList, u.oneCell' = true := by
  intro u hu
  simp only [fcs, List.mem_cons, List.not_mem_nil, or_false] at hu
  rcases hu with rfl | rfl | rfl | rfl | rfl | rfl | rfl | rfl | rfl | rfl | rfl | rfl | rfl | rfl <;> rfl
theorem LiesAt.fcs {W : World} {b o : Nat} {x : ByteArray × Vt} (h : LiesAt W b o (Proofs.Ytfkfboiblgoamaa.fcs x)) : W.cell? ⟨b, o, none⟩ = some (.string x.1) ∧ LiesAt W b (o + 1) x.2.h.cells := by
  have z : (Proofs.Ytfkfboiblgoamaa.fcs x).size = 14 := rfl
  refine ⟨h 0 (by omega), fun j hj => ?_⟩
  have hj' : j < 13 := hj
  have := h (j + 1) (by omega)
  rw [show o + 1 + j = o + (j + 1) by omega, this]
  match j, hj' with
  | 0, _ | 1, _ | 2, _ | 3, _ | 4, _ | 5, _ | 6, _ | 7, _ | 8, _ | 9, _ | 10, _ | 11, _ | 12, _ => rfl
instance : Inhabited (ByteArray × Vt) := ⟨(ByteArray.empty, .nil)⟩
end Go.Proofs.Ytfkfboiblgoamaa
