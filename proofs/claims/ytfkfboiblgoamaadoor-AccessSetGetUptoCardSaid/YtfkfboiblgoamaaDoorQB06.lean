/- Laid together for a claim: VtMade, VtClone, VtKeys, DigMath. -/
import Derived.Test.YtfkfboiblgoamaaDoorQB05
import Derived.Laws.Tables
import Derived.Laws.CopyOwn
import Derived.WalkSpells
import Derived.Test.YtfkfboiblgoamaaDoorQB01
import Derived.BigRegion
import Derived.WalkKit
/- Values: where a tree lies (which blocks), rows of made values, and an append that says which block it wrote. -/
namespace Go.Proofs.YtfkfboiblgoamaaDoor
open Go.ChangeShapes Go.WideShapes Go.Joins Go.Deep Go.RowKit

/-- All blocks of a tree are among these. -/
def Vt.Off (S : Nat → Prop) : Vt → Prop
  | .nil => True
  | .mk h _ L _ F => (0 < h.bn → S h.bb) ∧ (0 < h.ln → S h.lb) ∧ (∀ i, i < h.ln → (L i).Off S) ∧ (0 < h.fn → S h.fb) ∧ (∀ i, i < h.fn → (F i).Off S)
theorem Vt.Off.mono {S S' : Nat → Prop} (hs : ∀ b, S b → S' b) : ∀ {T : Vt}, T.Off S → T.Off S' := by
  intro T
  induction T with
  | nil => exact fun _ => trivial
  | mk h Y L K F ihL ihF =>
    rintro ⟨a, b, c, d, e⟩
    exact ⟨fun q => hs _ (a q), fun q => hs _ (b q), fun i hi => ihL i (c i hi), fun q => hs _ (d q), fun i hi => ihF i (e i hi)⟩
theorem Vt.Off.and {S S' : Nat → Prop} : ∀ {T : Vt}, T.Off S → T.Off S' → T.Off (fun b => S b ∧ S' b) := by
  intro T
  induction T with
  | nil => exact fun _ _ => trivial
  | mk h Y L K F ihL ihF =>
    rintro ⟨a, b, c, d, e⟩ ⟨a', b', c', d', e'⟩
    exact ⟨fun q => ⟨a q, a' q⟩, fun q => ⟨b q, b' q⟩, fun i hi => ihL i (c i hi) (c' i hi), fun q => ⟨d q, d' q⟩, fun i hi => ihF i (e i hi) (e' i hi)⟩
theorem Vt.In.off {W : World} {top : Nat} : ∀ {T : Vt}, T.In W top → T.Off (· < top) := by
  intro T
  induction T with
  | nil => exact fun h => h.elim
  | mk h Y L K F ihL ihF =>
    rintro ⟨_, a, _, b, c, d, e⟩
    exact ⟨fun q => (a q).2, fun q => (b q).2, fun i hi => ihL i (c i hi).2, fun q => (d q).2, fun i hi => ihF i (e i hi).2.2.2⟩
/-- What a tree says of a world is told by its own blocks. -/
theorem Vt.In.turn {W W' : World} {top top' : Nat} {S : Nat → Prop} (hs : ∀ b, S b → b < top → W'.heap[b]? = W.heap[b]? ∧ b < top') : ∀ {T : Vt}, T.In W top → T.Off S → T.In W' top' := by
  have hc : ∀ b, S b → b < top → ∀ i, W'.cell? ⟨b, i, none⟩ = W.cell? ⟨b, i, none⟩ := fun b h1 h2 i => World.cell?_of_block (a := ⟨b, i, none⟩) (hs b h1 h2).1
  intro T
  induction T with
  | nil => exact fun h => h.elim
  | mk h Y L K F ihL ihF =>
    rintro ⟨h0, h1, h2, h3, h4, h5, h6⟩ ⟨a, b, c, d, e⟩
    refine ⟨h0, fun q => ⟨(h1 q).1, (hs _ (a q) (h1 q).2).2⟩, fun i hi => ?_, fun q => ⟨(h3 q).1, (hs _ (b q) (h3 q).2).2⟩, fun i hi => ⟨fun j hj => ?_, ihL i (h4 i hi).2 (c i hi)⟩, fun q => ⟨(h5 q).1, (hs _ (d q) (h5 q).2).2⟩, fun i hi => ⟨?_, (h6 i hi).2.1, fun j hj => ?_, ihF i (h6 i hi).2.2.2 (e i hi)⟩⟩
    · rw [hc _ (a (by omega)) (h1 (by omega)).2]; exact h2 i hi
    · rw [hc _ (b (by omega)) (h3 (by omega)).2]; exact (h4 i hi).1 j hj
    · rw [hc _ (d (by omega)) (h5 (by omega)).2]; exact (h6 i hi).1
    · rw [hc _ (d (by omega)) (h5 (by omega)).2]; exact (h6 i hi).2.2.1 j hj
theorem Vt.In.grown {W W' : World} {g : Option Nat} {T : Vt} (h : T.In W W.heap.size) (ho : T.Off (fun b => some b ≠ g)) (hg : W.grownBy W' g) : T.In W' W'.heap.size :=
  Vt.In.turn (S := fun b => some b ≠ g) (fun b hb hlt => ⟨hg.block b hlt hb, Nat.lt_of_lt_of_le hlt hg.size⟩) h ho
theorem Vt.In.later {W W' : World} {T : Vt} (h : T.In W W.heap.size) (hb : Below W.heap.size W W') : T.In W' W'.heap.size := (h.below hb).up hb.size

/-! ### an append that says which block it wrote -/
theorem run_append_told {P : Program} (w : World) (base : Nat) (t ty e : TypeId) (i : TypeInfo) (z : Value) (size bytes : Nat) (ht : P.underlying t = some (.slice e)) (hi : P.info? e = some i) (hz : i.zero = some z)
    (hsize : i.size = size) (hby : i.bytes = bytes) (hzs : z.cells.size = size) (hsz : 0 < size)
    (v : Value) (n : Nat) (xs : List Value) (hown : w.ownsRow base e size v n xs)
    (a : Addr) (m c : Nat) (news : List Value) (hl : news.length = m * size) (hnews : ∀ j u, news[j]? = some u → w.cell? (a.add j) = some u) (h1 : ∀ u ∈ news, u.oneCell' = true)
    (h63 : n + m ≤ maxLen) (hbytes : (n + m) * bytes ≤ 140737488355328) (hbase : base ≤ w.heap.size) (hm : 0 < m) :
    ∃ v' w', (Builtin.append_ #[t, t] ty #[v, .slice (some a) m c]).run P w = .ok v' w' ∧ w'.ownsRow base e size v' (n + m) (xs ++ news) ∧ w.grownBy w' v.ownBlock ∧
      (v'.ownBlock = v.ownBlock ∨ v'.ownBlock = some w.heap.size) := by
  obtain ⟨v', w', hr, h2, h3, _⟩ := run_append_own (P := P) w base t ty e i z size bytes ht hi hz hsize hby hzs hsz v n xs hown a m c news hl hnews h1 h63 hbytes hbase
  refine ⟨v', w', hr, h2, h3, ?_⟩
  subst hsize
  subst hby
  have hml : n + m ≤ 9223372036854775807 := by simp only [maxLen] at h63; omega
  rcases hown.2 with ⟨rfl, rfl⟩ | ⟨g, cap, cur, rfl, hbg, hg, hnc, hcm, hcs, htake⟩
  · have hr2 := run_append_nil (P := P) w t ty e i z ht hi hz a m c news hl hnews hm (by omega) (by have hb := hbytes; simp only [Nat.zero_add] at hb; omega)
    rw [hr2] at hr
    injection hr with e1 e2
    exact .inr (by rw [← e1]; rfl)
  · by_cases hroom : n + m ≤ cap
    · have hfit : n * i.size + news.length ≤ cur.size := by rw [hl, hcs, ← Nat.add_mul]; exact Nat.mul_le_mul_right _ hroom
      have hr2 := run_append_room (P := P) w t ty e i ht hi g n cap cur hg a m c news hl hnews h1 hroom hfit
      rw [hr2] at hr
      injection hr with e1 e2
      exact .inl (by rw [← e1]; rfl)
    · have holds : ∀ j u, xs[j]? = some u → w.cell? ((⟨g, 0, none⟩ : Addr).add j) = some u := hown.cells (g := g) rfl
      have hr2 := run_append_grow (P := P) w t ty e i z ht hi hz ⟨g, 0, none⟩ n cap xs hown.1 holds a m c news hl hnews (by omega) (by omega) (growslice_fits (by omega) hbytes)
      rw [hr2] at hr
      injection hr with e1 e2
      exact .inr (by rw [← e1]; rfl)
theorem wpList_append_told {P : Program} (w : World) {ops : Array Oper} {rest : List Oper} {o : Oper} {a : Act} {Q : Exit → Act → World → Prop} (hgd : o.guard = none) (s x : Operand) (t : TypeId)
    (ho : o.op = .call { callee := .builtin .append, args := #[s, x], argTypes := #[t, t] })
    (base : Nat) (e : TypeId) (i : TypeInfo) (z : Value) (size bytes : Nat) (ht : P.underlying t = some (.slice e)) (hi : P.info? e = some i) (hz : i.zero = some z)
    (hsize : i.size = size) (hby : i.bytes = bytes) (hzs : z.cells.size = size) (hsz : 0 < size)
    (v : Value) (n : Nat) (xs : List Value) (hs : a.eval s = v) (hown : w.ownsRow base e size v n xs)
    (ad : Addr) (m c : Nat) (news : List Value) (hx : a.eval x = .slice (some ad) m c) (hl : news.length = m * size) (hnews : ∀ j u, news[j]? = some u → w.cell? (ad.add j) = some u) (h1 : ∀ u ∈ news, u.oneCell' = true)
    (h63 : n + m ≤ maxLen) (hbytes : (n + m) * bytes ≤ 140737488355328) (hbase : base ≤ w.heap.size) (hm : 0 < m)
    (h : ∀ v' w', w'.ownsRow base e size v' (n + m) (xs ++ news) → w.grownBy w' v.ownBlock → (v'.ownBlock = v.ownBlock ∨ v'.ownBlock = some w.heap.size) → wpList P ops Q rest (a.put o.dst v') w') : wpList P ops Q (o :: rest) a w := by
  refine wpList_plain hgd fun K hK => ?_
  obtain ⟨v', w', hr, h2, h3, h4⟩ := run_append_told (P := P) w base t o.type e i z size bytes ht hi hz hsize hby hzs hsz v n xs hown ad m c news hl hnews h1 h63 hbytes hbase hm
  unfold Oper.wp execOp
  simp only [ho, resolve, invoke, builtin, Sem.run_bind, Sem.run_pure, Result.andThen_ok, List.map_toArray, List.map_cons, List.map_nil, hs, hx, hr]
  exact hK _ _ (h v' w' h2 h3 h4)

/-! ### rows of made values -/
section
variable {α : Type}
/-- A row of values that a call makes: what lies in it, and that no part of it lies in the row's own block. -/
def RowG (cs : α → Array Value) (tr : α → Vt) (C : Nat) (e : TypeId) (B : Nat) (S : Nat → Prop) (q : Nat → α → Prop) (W : World) (v : Value) (k : Nat) : Prop :=
  ∃ f : Nat → α, W.ownsRow B e C v k (catN (fun i => cs (f i)) k) ∧ ∀ i, i < k → (tr (f i)).In W W.heap.size ∧ (tr (f i)).Off (fun b => S b ∧ some b ≠ v.ownBlock) ∧ q i (f i)
variable {cs : α → Array Value} {tr : α → Vt} {C : Nat} {e : TypeId} {B : Nat} {S : Nat → Prop} {q : Nat → α → Prop} {W W' : World} {v : Value} {k : Nat}
theorem catN_congr {f g : Nat → Array Value} : ∀ {n : Nat}, (∀ i, i < n → f i = g i) → catN f n = catN g n := by
  intro n
  induction n with
  | zero => intro _; rfl
  | succ n ih =>
    intro h
    show catN f n ++ _ = catN g n ++ _
    rw [ih (fun i hi => h i (by omega)), h n (by omega)]
theorem RowG.nil [Inhabited α] : RowG cs tr C e B S q W (.slice none 0 0) 0 := ⟨fun _ => default, World.ownsRow_nil _ _ _ _, fun _ h => absurd h (Nat.not_lt_zero _)⟩
theorem RowG.below (h : RowG cs tr C e B S q W v k) (hb : Below W.heap.size W W') : RowG cs tr C e B S q W' v k := by
  obtain ⟨f, ho, hf⟩ := h
  refine ⟨f, ho.kept ⟨hb.os, hb.tape, hb.output, hb.size, fun i hi _ => hb.block i hi⟩ (row := none) ?_, fun i hi => ⟨(hf i hi).1.later hb, (hf i hi).2⟩⟩
  cases hv : v.ownBlock with
  | none => exact .inl rfl
  | some g => exact .inr (by simp)
theorem RowG.alloc (h : RowG cs tr C e B S q W v k) (o : Obj) : RowG cs tr C e B S q (W.alloc o) v k := h.below ((Below.refl _ W).alloc (Nat.le_refl _) o)
theorem RowG.drew (h : RowG cs tr C e B S q W v k) : RowG cs tr C e B S q W.drew v k := h.below (Below.refl _ W).drew
/-- A store into a block that is no part of it. -/
theorem RowG.turn (h : RowG cs tr C e B S q W v k) {g : Nat} (hg : W.grownBy W' (some g)) (hgB : g < B) (hS : ∀ b, S b → b ≠ g) : RowG cs tr C e B S q W' v k := by
  obtain ⟨f, ho, hf⟩ := h
  refine ⟨f, ho.kept hg ?_, fun i hi => ⟨(hf i hi).1.grown ((hf i hi).2.1.mono fun b hb e => hS b hb.1 (Option.some.inj e)) hg, (hf i hi).2⟩⟩
  exact .inr fun e => own_away ho hgB e.symm
/-- One more. -/
theorem RowG.push [Inhabited α] {f : Nat → α} {x : α} {w1 w3 : World} {v' : Value} (ho : w1.ownsRow B e C v k (catN (fun i => cs (f i)) k)) (hf : ∀ i, i < k → (tr (f i)).In w1 w1.heap.size ∧ (tr (f i)).Off (fun b => S b ∧ some b ≠ v.ownBlock) ∧ q i (f i))
    (hx : (tr x).In w1 w1.heap.size) (hS : (tr x).Off S) (hxo : ∀ g, v.ownBlock = some g → (tr x).Off (· ≠ g)) (hq : q k x)
    (ho3 : w3.ownsRow B e C v' (k + 1) (catN (fun i => cs (f i)) k ++ (cs x).toList)) (hg : w1.grownBy w3 v.ownBlock) (hv : v'.ownBlock = v.ownBlock ∨ v'.ownBlock = some w1.heap.size) :
    RowG cs tr C e B S q w3 v' (k + 1) := by
  have hxo' : (tr x).Off (fun b => some b ≠ v.ownBlock) := by
    cases hvb : v.ownBlock with
    | none => exact hS.mono fun b _ e => by cases e
    | some g => exact (hxo g hvb).mono fun b hb e => by cases e; exact hb rfl
  refine ⟨fun i => if i = k then x else f i, ?_, fun i hi => ?_⟩
  · have e1 : catN (fun i => cs (if i = k then x else f i)) (k + 1) = catN (fun i => cs (f i)) k ++ (cs x).toList := by
      show catN (fun i => cs (if i = k then x else f i)) k ++ (cs (if k = k then x else f k)).toList = _
      rw [catN_congr (g := fun i => cs (f i)) (fun i hi => by rw [if_neg (by omega)]), if_pos rfl]
    rw [e1]
    exact ho3
  · have key : ∀ {y : α}, (tr y).In w1 w1.heap.size → (tr y).Off (fun b => S b ∧ some b ≠ v.ownBlock) → (tr y).In w3 w3.heap.size ∧ (tr y).Off (fun b => S b ∧ some b ≠ v'.ownBlock) := by
      intro y h1 h2
      refine ⟨h1.grown (h2.mono fun b hb => hb.2) hg, ?_⟩
      rcases hv with e1 | e1
      · rw [e1]; exact h2
      · rw [e1]
        exact (h2.and h1.off).mono fun b hb => ⟨hb.1.1, fun e2 => by cases e2; exact absurd hb.2 (Nat.lt_irrefl _)⟩
    by_cases hik : i = k
    · subst hik
      simp only [if_true]
      obtain ⟨a, b⟩ := key hx (hS.and hxo')
      exact ⟨a, b, hq⟩
    · simp only [if_neg hik]
      obtain ⟨h1, h2, h3⟩ := hf i (by omega)
      obtain ⟨a, b⟩ := key h1 h2
      exact ⟨a, b, h3⟩
/-- What a finished row is. -/
theorem RowG.done (hC : ∀ x, (cs x).size = C) (h : RowG cs tr C e B S q W v k) : ∃ (f : Nat → α) (a : Option Addr) (c b : Nat), v = .slice a k c ∧ (k ≤ c ∧ c ≤ maxLen) ∧ (0 < k → a = some ⟨b, 0, none⟩ ∧ B ≤ b ∧ b < W.heap.size) ∧
    ∀ i, i < k → LiesAt W b (i * C) (cs (f i)) ∧ (tr (f i)).In W W.heap.size ∧ (tr (f i)).Off S ∧ q i (f i) := by
  obtain ⟨f, ho, hf⟩ := h
  obtain ⟨a, c, b, rfl, hcc, ha, hl⟩ := own_lies (fun i => hC (f i)) ho
  exact ⟨f, a, c, b, rfl, hcc, ha, fun i hi => ⟨hl i hi, (hf i hi).1, (hf i hi).2.1.mono fun _ h => h.1, (hf i hi).2.2⟩⟩
end
/-- A key and its value: their cells. -/
def fcs (x : ByteArray × Vt) : Array Value := #[.string x.1, .int .i64 x.2.h.k, .bool x.2.h.b, .bool x.2.h.n, .string x.2.h.d, .int .i64 x.2.h.e, .int .i64 x.2.h.tk, .int .i64 x.2.h.td, .int .i64 x.2.h.tn, .int .i64 x.2.h.tz, .string x.2.h.x, .slice x.2.h.ba x.2.h.bn x.2.h.bc, .slice x.2.h.la x.2.h.ln x.2.h.lc, .slice x.2.h.fa x.2.h.fn x.2.h.fc]
theorem fcs_size (x : ByteArray × Vt) : (fcs x).size = 14 := rfl
theorem fcs_one (x : ByteArray × Vt) : ∀ u ∈ (fcs x).toList, u.oneCell' = true := by
  intro u hu
  simp only [fcs, List.mem_cons, List.not_mem_nil, or_false] at hu
  rcases hu with rfl | rfl | rfl | rfl | rfl | rfl | rfl | rfl | rfl | rfl | rfl | rfl | rfl | rfl <;> rfl
theorem LiesAt.fcs {W : World} {b o : Nat} {x : ByteArray × Vt} (h : LiesAt W b o (Proofs.YtfkfboiblgoamaaDoor.fcs x)) : W.cell? ⟨b, o, none⟩ = some (.string x.1) ∧ LiesAt W b (o + 1) x.2.h.cells := by
  have z : (Proofs.YtfkfboiblgoamaaDoor.fcs x).size = 14 := rfl
  refine ⟨h 0 (by omega), fun j hj => ?_⟩
  have hj' : j < 13 := hj
  have := h (j + 1) (by omega)
  rw [show o + 1 + j = o + (j + 1) by omega, this]
  match j, hj' with
  | 0, _ | 1, _ | 2, _ | 3, _ | 4, _ | 5, _ | 6, _ | 7, _ | 8, _ | 9, _ | 10, _ | 11, _ | 12, _ => rfl
instance : Inhabited (ByteArray × Vt) := ⟨(ByteArray.empty, .nil)⟩
end Go.Proofs.YtfkfboiblgoamaaDoor
/- Values: bytes that are cloned (slices.Clone). -/
namespace Go.Proofs.YtfkfboiblgoamaaDoor
open Go.ChangeShapes Go.WideShapes Go.Joins Go.Deep Go.RowKit

theorem Tryd.infoByteV : (Tryd.prog.info? 5).map (fun i => (i.zero, i.size, i.bytes)) = some (some (.int .u8 0), 1, 1) := by kernel_rfl
def CloneOut (n : Nat) (Y : Nat → Int) (w : World) (e : Ending) (w' : World) : Prop :=
  ∃ (a : Option Addr) (c b : Nat), e = .returned (.slice a n c) ∧ (0 < n → a = some ⟨b, 0, none⟩ ∧ w.heap.size ≤ b ∧ b < w'.heap.size) ∧ (∀ i, i < n → w'.cell? ⟨b, i, none⟩ = some (.int .u8 (Y i))) ∧ Below w.heap.size w w'
theorem clone_end {w w' : World} {n base : Nat} {Y : Nat → Int} {v : Value} (h : w'.ownsRow base 5 1 v n ((List.range n).map fun i => Value.int .u8 (Y i))) (hb : Below w.heap.size w w') (hW : w.heap.size ≤ base) : CloneOut n Y w (.returned v) w' := by
  by_cases hn : n = 0
  · subst hn
    rcases h.2 with ⟨rfl, _⟩ | ⟨g, cap, cur, rfl, _⟩
    · exact ⟨none, 0, 0, rfl, fun h => absurd h (Nat.lt_irrefl _), fun i h => absurd h (Nat.not_lt_zero _), hb⟩
    · exact ⟨_, cap, g, rfl, fun h => absurd h (Nat.lt_irrefl _), fun i h => absurd h (Nat.not_lt_zero _), hb⟩
  · obtain ⟨g, cap, rfl, hg, hlt⟩ := own_form h (by omega)
    refine ⟨_, cap, g, rfl, fun _ => ⟨rfl, by omega, hlt⟩, fun i hi => ?_, hb⟩
    have := h.cells (g := g) rfl i (.int .u8 (Y i)) (by simp [hi])
    rwa [add_plain, Nat.zero_add] at this
set_option maxHeartbeats 1000000 in
set_option maxRecDepth 100000 in
theorem clone_any {a : Option Addr} {n c b o : Nat} {Y : Nat → Int} (hn : n ≤ 1048576) (w : World) (ha : 0 < n → a = some ⟨b, o, none⟩ ∧ b < w.heap.size) (hY : ∀ i, i < n → w.cell? ⟨b, o + i, none⟩ = some (.int .u8 (Y i))) :
    Calls Tryd.prog 53 #[.slice a n c] w (CloneOut n Y w) := by
  cases a with
  | none =>
    have h0 : n = 0 := Classical.byContradiction fun q => by have := (ha (by omega)).1; cases this
    subst h0
    have HQ : Hid (CloneOut 0 Y w (.returned (.slice none 0 0)) w) := Lib.hid ⟨none, 0, 0, rfl, fun h => absurd h (Nat.lt_irrefl _), fun i h => absurd h (Nat.not_lt_zero _), Below.refl _ _⟩
    clear ha hY
    have hnil := fun (w : World) (l c : Nat) => Lib.run_eql_slice_nil (P := Tryd.prog) w 26 5 none l c 0 0 Tryd.underlying26
    go_enter Tryd.func53, Tryd.ntmps53
    go_wp2
    go_ret
    exact HQ.out
  | some ad =>
    obtain ⟨i0, hi, hz0, hz1, hz2⟩ := info_parts Tryd.infoByteV
    have hown := World.ownsRow_made (base := w.heap.size) (e := 5) (size := 1) w #[] 0 (Nat.le_refl _) (by unfold maxLen; omega) rfl
    have hb0 := (Below.refl w.heap.size w).alloc (Nat.le_refl _) (.cells #[] 5)
    have hnews : Hid (∀ j u, ((List.range n).map fun i => Value.int .u8 (Y i))[j]? = some u → (w.alloc (.cells #[] 5)).cell? (ad.add j) = some u) := Lib.hid fun j u hu => by
      have hj : j < n := by
        rcases Nat.lt_or_ge j n with q | q
        · exact q
        · rw [List.getElem?_eq_none (by simp; exact q)] at hu; cases hu
      obtain ⟨e, hlt⟩ := ha (by omega)
      cases e
      rw [add_plain]
      refine (hb0.cell (p := ⟨b, o + j, none⟩) hlt).trans ?_
      rw [hY j hj]
      simp [hj] at hu
      rw [← hu]
    clear ha hY
    have hnil := fun (w : World) (l c : Nat) => Lib.run_eql_slice_nil (P := Tryd.prog) w 26 5 (some ad) l c 0 0 Tryd.underlying26
    go_enter Tryd.func53, Tryd.ntmps53
    go_wp2_with (at_builtin; refine wpList_append_own _ rfl _ _ 26 rfl w.heap.size 5 i0 (.int .u8 0) 1 1 Tryd.underlying26 hi hz0 hz1 hz2 rfl (by decide) _ _ _ rfl hown ad n c ((List.range n).map fun i => Value.int .u8 (Y i)) rfl ?c1 ?c2 ?c3 ?c4 ?c5 ?c6 ?_)
    case c1 => simp
    case c2 => exact hnews.out
    case c3 =>
      intro u hu
      obtain ⟨_, _, rfl⟩ := List.mem_map.1 hu
      rfl
    case c4 => unfold maxLen; omega
    case c5 => omega
    case c6 => simp
    intro v' w3 hown3 hgrow _
    have hb3 := hb0.grown hgrow (by simp) (fun k e => by cases e; exact Nat.le_refl _)
    clear hown hnews hgrow
    go_wp2
    go_ret
    exact clone_end hown3 hb3 (Nat.le_refl _)
end Go.Proofs.YtfkfboiblgoamaaDoor
/- Values: what is wrong with keys (datakitref07.Keys). -/
namespace Go.Proofs.YtfkfboiblgoamaaDoor
open Go.RowKit

set_option maxHeartbeats 4000000 in
set_option maxRecDepth 100000 in
theorem keys_some {b o n c : Nat} {K : Nat → ByteArray} (hn : n ≤ 1048576) (w : World) (hb : b < w.heap.size) (hK : ∀ i, i < n → w.cell? ⟨b, o + i * 14, none⟩ = some (.string (K i)) ∧ (K i).size ≤ 1048576) :
    Calls Tryd.prog 62 #[.slice (some ⟨b, o, none⟩) n c] w fun r w' => r = .returned (.int .i64 (keysE K n)) ∧ Below w.heap.size w w' := by
  have HK := Lib.hid hK
  have HB := Lib.hid hb
  clear hK hb
  obtain ⟨R, hR⟩ : ∃ R, keysE K n = R := ⟨_, rfl⟩
  rw [hR]
  have HR := Lib.hid hR
  clear hR
  have hn0 : (0 : Int) ≤ n := by omega
  have hn2 : (n : Int) ≤ 1048576 := by omega
  go_enter Tryd.func62, Tryd.ntmps62
  go_wp2_with fail
  go_loopw [3] (fun i wr => ∃ k : Nat, k ≤ n ∧ i = .int .i64 k ∧ keysE K k = 0 ∧ Below w.heap.size w wr) (fun i _ => n - (intOf i).toNat)
  case atStart => exact ⟨0, by omega, rfl, rfl, Below.refl _ _⟩
  case round =>
    obtain ⟨k, hk, rfl, hk0, hbr⟩ := hrel
    have hki : (0 : Int) ≤ k := by omega
    by_cases hkn : k < n
    · obtain ⟨l0, l1⟩ := HK.out k hkn
      have l2 := (hbr.cell (p := ⟨b, o + k * 14, none⟩) HB.out).trans l0
      have hki2 : (k : Int) < n := by omega
      have HU := Lib.hid (rutf_any l1)
      have hlt := Nat.lt_of_lt_of_le HB.out hbr.size
      by_cases u : utfB (K k) = true
      case neg =>
        have u2 : utfB (K k) = false := by simpa using u
        have hR : R = 5 := by rw [← HR.out, keysE_bad hk0 hkn (by unfold keyE; simp [u2])]; unfold keyE; simp [u2]
        subst hR
        rw [u2] at HU
        generalize K k = x at *
        clear u u2 hk0 l0 HR
        go_wp2_with fail
        refine (HU.out _).mono ?_; rintro _ w1 ⟨rfl, hb1⟩
        go_wp2
        go_ret
        exact ⟨rfl, below_then hbr hb1⟩
      rw [u] at HU
      have kE : keyE K k = if 1024 < (K k).size then 10 else if ∃ j, j < k ∧ K j = K k then 8 else 0 := by unfold keyE; simp [u]
      by_cases z : 1024 < (K k).size
      · have hR : R = 10 := by rw [← HR.out, keysE_bad hk0 hkn (by rw [kE, if_pos z]; decide), kE, if_pos z]
        subst hR
        clear kE hk0 l0 u HR
        generalize K k = x at *
        have z2 : decide ((1024 : Int) < x.size) = true := decide_eq_true (by omega)
        go_wp2_with fail
        refine (HU.out _).mono ?_; rintro _ w1 ⟨rfl, hb1⟩
        replace l2 := (hb1.cell (p := ⟨b, o + k * 14, none⟩) hlt).trans l2
        go_wp2
        go_ret
        exact ⟨rfl, below_then hbr hb1⟩
      rw [if_neg z] at kE
      have HE := Lib.hid kE
      have H0 := Lib.hid hk0
      clear kE hk0 u
      obtain ⟨x, hx⟩ : ∃ x, K k = x := ⟨_, rfl⟩
      rw [hx] at l0 l1 l2 HU z HE
      have HX := Lib.hid hx
      clear hx
      have z2 : decide ((1024 : Int) < x.size) = false := decide_eq_false (by omega)
      go_wp2_with fail
      refine (HU.out _).mono ?_; rintro _ w1 ⟨rfl, hb1⟩
      replace l2 := (hb1.cell (p := ⟨b, o + k * 14, none⟩) hlt).trans l2
      replace hbr := below_then hbr hb1
      clear hb1 HU z hlt
      go_wp2_with fail
      go_loopw [4] (fun i wr => ∃ j : Nat, j ≤ k ∧ i = .int .i64 j ∧ Hid (∀ t, t < j → K t ≠ x) ∧ Below w.heap.size w wr) (fun i _ => k - (intOf i).toNat)
      case atStart => exact ⟨0, by omega, rfl, Lib.hid (fun t h => absurd h (Nat.not_lt_zero _)), hbr⟩
      case round =>
        clear hbr l2
        obtain ⟨j, hj, rfl, HJ, hbr⟩ := hrel
        have l2 := (hbr.cell (p := ⟨b, o + k * 14, none⟩) HB.out).trans l0
        have hji : (0 : Int) ≤ j := by omega
        by_cases hjk : j < k
        · obtain ⟨m0, m1⟩ := HK.out j (by omega)
          have m2 := (hbr.cell (p := ⟨b, o + j * 14, none⟩) HB.out).trans m0
          have hji2 : (j : Int) < k := by omega
          have hji3 : (j : Int) < n := by omega
          by_cases e : K j = x
          · have d1 : ((K j).toList == x.toList) = true := by rw [e]; exact beq_self_eq_true _
            have hR : R = 8 := by
              have k8 : keyE K k = 8 := by rw [HE.out, if_pos ⟨j, hjk, e⟩]
              rw [← HR.out, keysE_bad H0.out hkn (by rw [k8]; decide), k8]
            subst hR
            clear HR HE H0 e m0 l0 hjk hkn
            generalize K j = y at *
            go_wp2_with fail
            go_region
            go_wp2
            go_ret
            exact ⟨rfl, hbr.drew⟩
          · have d1 : ((K j).toList == x.toList) = false := by
              rw [beq_eq_false_iff_ne]
              intro q
              apply e
              rw [Lib.toList_data, Lib.toList_data] at q
              exact ByteArray.ext (Array.ext' q)
            have HJ2 : Hid (∀ t, t < j + 1 → K t ≠ x) := Lib.hid (fun t ht => by
              by_cases q : t = j
              · rw [q]; exact e
              · exact HJ.out t (by omega))
            clear e m0 HJ hkn
            generalize K j = y at *
            go_wp2_with fail
            go_region
            go_wp2
            go_roundw
            case rel => exact ⟨j + 1, by omega, by go_num, HJ2, hbr.drew⟩
            case measure => simp [intOf]; omega
        · obtain rfl : j = k := by omega
          have hN : keysE K (j + 1) = 0 := keysE_next H0.out (by rw [HE.out, if_neg (fun ⟨t, ht, q⟩ => HJ.out t ht q)])
          clear HE H0 HJ
          go_wp2_with fail
          go_wp2
          go_roundw
          case rel => exact ⟨j + 1, by omega, by go_num, hN, hbr⟩
          case measure => simp [intOf]; omega
    · obtain rfl : k = n := by omega
      have hR : R = 0 := by rw [← HR.out, hk0]
      subst hR
      clear hkn hk0 HR
      go_wp2
      go_ret
      exact ⟨rfl, hbr⟩
theorem keys_nil {K : Nat → ByteArray} (a : Option Addr) (c : Nat) (w : World) :
    Calls Tryd.prog 62 #[.slice a 0 c] w fun r w' => r = .returned (.int .i64 (keysE K 0)) ∧ Below w.heap.size w w' := by
  show Calls Tryd.prog 62 #[.slice a 0 c] w fun r w' => r = .returned (.int .i64 0) ∧ Below w.heap.size w w'
  go_enter Tryd.func62, Tryd.ntmps62
  go_wp2_with fail
  go_loopw [3] (fun i wr => i = .int .i64 0 ∧ Below w.heap.size w wr) (fun i _ => 0)
  case atStart => exact ⟨rfl, Below.refl _ _⟩
  case round =>
    obtain ⟨rfl, hbr⟩ := hrel
    go_wp2
    go_ret
    exact ⟨rfl, hbr⟩
end Go.Proofs.YtfkfboiblgoamaaDoor
/- Numerals: plain mathematics. -/
namespace Go.Proofs.YtfkfboiblgoamaaDoor
open Go.RowKit

namespace Dig
def isd (b : UInt8) : Prop := 48 ≤ b.toNat ∧ b.toNat ≤ 57
instance (b : UInt8) : Decidable (isd b) := by unfold isd; infer_instance
def alld (l : List UInt8) : Prop := ∀ b ∈ l, isd b
def val (l : List UInt8) : Nat := l.foldl (fun a b => 10 * a + (b.toNat - 48)) 0
def ch (d : Nat) : UInt8 := UInt8.ofNat (48 + d)
theorem ch_nat {d : Nat} (h : d < 10) : (ch d).toNat = 48 + d := by unfold ch; simp [UInt8.toNat_ofNat']; omega
theorem ch_of {b : UInt8} (h : isd b) : ch (b.toNat - 48) = b := by
  unfold isd at h
  apply UInt8.toNat_inj.1
  rw [ch_nat (by omega)]
  omega
theorem ch_isd {d : Nat} (h : d < 10) : isd (ch d) := by unfold isd; rw [ch_nat h]; omega
theorem ch48 {d : Nat} (h : d < 10) : (ch d == 48) = decide (d = 0) := by
  rw [Bool.eq_iff_iff, beq_iff_eq, decide_eq_true_iff]
  constructor
  · intro e
    have := congrArg UInt8.toNat e
    rw [ch_nat h] at this
    have : (48 : UInt8).toNat = 48 := rfl
    omega
  · rintro rfl; rfl
theorem val_nil : val [] = 0 := rfl
theorem val_snoc (l : List UInt8) (b : UInt8) : val (l ++ [b]) = 10 * val l + (b.toNat - 48) := by unfold val; rw [List.foldl_append]; rfl
def strip (l : List UInt8) : List UInt8 := l.dropWhile (fun b => b == 48)
theorem strip_nil : strip [] = [] := rfl
theorem strip_snoc (l : List UInt8) (b : UInt8) : strip (l ++ [b]) = if strip l = [] then strip [b] else strip l ++ [b] := by
  unfold strip
  induction l with
  | nil => simp
  | cons a t ih =>
    rw [List.cons_append, List.dropWhile_cons, List.dropWhile_cons]
    by_cases h : (a == 48) = true
    · rw [if_pos h, if_pos h]; exact ih
    · rw [if_neg h, if_neg h]; simp
/-- The numeral of a number. -/
def num (n : Nat) : List UInt8 := if n = 0 then [] else num (n / 10) ++ [ch (n % 10)]
termination_by n
decreasing_by omega
theorem num_zero : num 0 = [] := by unfold num; rfl
theorem num_pos {n : Nat} (h : n ≠ 0) : num n = num (n / 10) ++ [ch (n % 10)] := by rw [num, if_neg h]
theorem num_nil {n : Nat} : num n = [] ↔ n = 0 := by
  constructor
  · intro h
    rcases Nat.eq_zero_or_pos n with g | g
    · exact g
    · rw [num_pos (by omega)] at h; simp at h
  · rintro rfl; exact num_zero
theorem num_ind {P : Nat → Prop} (h0 : P 0) (h1 : ∀ n, n ≠ 0 → P (n / 10) → P n) (n : Nat) : P n := by
  induction n using Nat.strongRecOn with
  | _ n ih =>
    rcases Nat.eq_zero_or_pos n with g | g
    · rw [g]; exact h0
    · exact h1 n (by omega) (ih (n / 10) (by omega))
theorem val_num (n : Nat) : val (num n) = n := by
  induction n using num_ind with
  | h0 => rw [num_zero]; rfl
  | h1 n hn ih => rw [num_pos hn, val_snoc, ih, ch_nat (by omega)]; omega
theorem num_alld (n : Nat) : alld (num n) := by
  induction n using num_ind with
  | h0 => rw [num_zero]; intro b hb; cases hb
  | h1 n hn ih =>
    rw [num_pos hn]
    intro b hb
    rcases List.mem_append.1 hb with h | h
    · exact ih b h
    · rw [List.mem_singleton.1 h]; exact ch_isd (by omega)
theorem num_mul10 {v d : Nat} (hd : d < 10) (h : 10 * v + d ≠ 0) : num (10 * v + d) = num v ++ [ch d] := by
  rw [num_pos h, show (10 * v + d) / 10 = v by omega, show (10 * v + d) % 10 = d by omega]
theorem alld_snoc {l : List UInt8} {b : UInt8} (h : alld (l ++ [b])) : alld l ∧ isd b :=
  ⟨fun c hc => h c (List.mem_append.2 (Or.inl hc)), h b (List.mem_append.2 (Or.inr (List.mem_singleton.2 rfl)))⟩
theorem list_snoc {α : Type} {P : List α → Prop} (h0 : P []) (h1 : ∀ l b, P l → P (l ++ [b])) (l : List α) : P l := by
  have : ∀ r : List α, P r.reverse := fun r => by
    induction r with
    | nil => exact h0
    | cons a t ih => rw [List.reverse_cons]; exact h1 _ _ ih
  rw [← List.reverse_reverse l]; exact this _
theorem strip_num {l : List UInt8} : alld l → strip l = num (val l) := by
  induction l using list_snoc with
  | h0 => intro _; rw [val_nil, num_zero]; rfl
  | h1 l b ih =>
    intro h
    obtain ⟨h1, h2⟩ := alld_snoc h
    have h3 := h2
    unfold isd at h3
    rw [strip_snoc, ih h1, val_snoc]
    by_cases g : val l = 0
    · rw [if_pos (num_nil.2 g), g]
      by_cases k : b.toNat = 48
      · have e : b = 48 := UInt8.toNat_inj.1 k
        subst e
        rw [show 10 * 0 + ((48 : UInt8).toNat - 48) = 0 by decide, num_zero]; rfl
      · have e : (b == 48) = false := beq_eq_false_iff_ne.2 (fun e => k (by rw [e]; rfl))
        rw [num_mul10 (by omega) (by omega), num_zero, ch_of h2]
        simp [strip, e]
    · rw [if_neg (fun k => g (num_nil.1 k)), num_mul10 (by omega) (by omega), ch_of h2]
theorem num_strip (n : Nat) : strip (num n) = num n := by rw [strip_num (num_alld n), val_num]
theorem num_inj {a b : Nat} (h : num a = num b) : a = b := by rw [← val_num a, h, val_num]
theorem num_len (n k : Nat) : (num n).length ≤ k ↔ n < 10 ^ k := by
  induction n using num_ind generalizing k with
  | h0 => rw [num_zero]; simp; exact Nat.pow_pos (by omega)
  | h1 n hn ih =>
    rw [num_pos hn, List.length_append, List.length_singleton]
    cases k with
    | zero => simp; omega
    | succ k =>
      have := ih k
      rw [Nat.pow_succ]
      omega
theorem num_len_pos {n : Nat} (h : n ≠ 0) : 10 ^ ((num n).length - 1) ≤ n := by
  have := num_len n ((num n).length - 1)
  have h1 : (num n).length ≠ 0 := fun k => h (num_nil.1 (List.eq_nil_of_length_eq_zero k))
  omega
theorem num_lt (n : Nat) : n < 10 ^ (num n).length := (num_len n _).1 (Nat.le_refl _)
/-- A digit of a number, counted from its end. -/
def dg (n i : Nat) : Nat := n / 10 ^ i % 10
theorem dg_lt (n i : Nat) : dg n i < 10 := Nat.mod_lt _ (by omega)
theorem dg_zero {n i : Nat} (h : n < 10 ^ i) : dg n i = 0 := by unfold dg; rw [Nat.div_eq_of_lt h]
theorem dg_mod (n i : Nat) : n % 10 ^ (i + 1) = n % 10 ^ i + dg n i * 10 ^ i := by
  unfold dg
  rw [Nat.pow_succ, Nat.mod_mul, Nat.mul_comm]
theorem dg_succ (n i : Nat) : dg n (i + 1) = dg (n / 10) i := by unfold dg; rw [Nat.pow_succ, Nat.mul_comm, Nat.div_div_eq_div_mul]
theorem num_get (n : Nat) : ∀ i, i < (num n).length → (num n)[(num n).length - 1 - i]? = some (ch (dg n i)) := by
  induction n using num_ind with
  | h0 => intro i h; rw [num_zero] at h; simp at h
  | h1 n hn ih =>
    intro i h
    rw [num_pos hn] at h ⊢
    rw [List.length_append, List.length_singleton] at h ⊢
    cases i with
    | zero =>
      rw [List.getElem?_append_right (by omega)]
      simp [dg]
    | succ i =>
      have := ih i (by omega)
      rw [List.getElem?_append_left (by omega), show (num (n / 10)).length + 1 - 1 - (i + 1) = (num (n / 10)).length - 1 - i by omega, this, dg_succ]
/-- The bytes of the digits of a number, the first one first. -/
def digs (n k : Nat) : List UInt8 := (List.range k).map fun j => ch (dg n (k - 1 - j))
theorem digs_succ (n k : Nat) : digs n (k + 1) = digs (n / 10) k ++ [ch (n % 10)] := by
  unfold digs
  rw [List.range_succ, List.map_append]
  congr 1
  · apply List.map_congr_left
    intro j hj
    have hj2 := List.mem_range.1 hj
    rw [show k + 1 - 1 - j = (k - 1 - j) + 1 by omega, dg_succ]
  · simp [dg]
theorem digs_alld (n k : Nat) : alld (digs n k) := by
  intro b hb
  obtain ⟨j, _, rfl⟩ := List.mem_map.1 hb
  exact ch_isd (dg_lt _ _)
theorem digs_val (k : Nat) : ∀ n, n < 10 ^ k → val (digs n k) = n := by
  induction k with
  | zero => intro n h; simp at h; subst h; rfl
  | succ k ih =>
    intro n h
    rw [Nat.pow_succ] at h
    rw [digs_succ, val_snoc, ih (n / 10) (by omega), ch_nat (by omega)]
    omega
theorem digs_strip {n k : Nat} (h : n < 10 ^ k) : strip (digs n k) = num n := by rw [strip_num (digs_alld n k), digs_val k n h]
theorem val_lt {l : List UInt8} : alld l → val l < 10 ^ l.length := by
  induction l using list_snoc with
  | h0 => intro _; simp [val]
  | h1 l b ih =>
    intro h
    obtain ⟨h1, h2⟩ := alld_snoc h
    unfold isd at h2
    have := ih h1
    rw [val_snoc, List.length_append, List.length_singleton, Nat.pow_succ]
    omega
theorem val_app (a : List UInt8) (b : List UInt8) : val (a ++ b) = val a * 10 ^ b.length + val b := by
  induction b using list_snoc with
  | h0 => simp [val]
  | h1 b c ih =>
    rw [← List.append_assoc, val_snoc, ih, val_snoc, List.length_append, List.length_singleton, Nat.pow_succ, Nat.mul_add, ← Nat.mul_assoc, Nat.mul_comm 10 (val a), Nat.mul_assoc, Nat.mul_comm 10]
    omega
theorem num_unique {l : List UInt8} (h : alld l) (h0 : strip l = l) : l = num (val l) := by rw [← strip_num h, h0]
/-- Digits of the same length compare as their numbers do. -/
theorem val_take {l : List UInt8} {i : Nat} (h : i < l.length) : val (l.take (i + 1)) = 10 * val (l.take i) + (l[i].toNat - 48) := by
  rw [List.take_succ_eq_append_getElem h, val_snoc]
theorem num_div (n k : Nat) : val ((num n).take k) = n / 10 ^ ((num n).length - k) := by
  have e : val (num n) = val ((num n).take k) * 10 ^ ((num n).drop k).length + val ((num n).drop k) := by
    rw [← val_app, List.take_append_drop]
  rw [val_num, List.length_drop] at e
  have l := val_lt (l := (num n).drop k) (fun b hb => num_alld n b (List.mem_of_mem_drop hb))
  rw [List.length_drop] at l
  generalize (num n).length - k = q at *
  generalize val ((num n).take k) = v at *
  generalize val ((num n).drop k) = w at *
  have p : 0 < 10 ^ q := Nat.pow_pos (by omega)
  rw [e, Nat.mul_comm, Nat.mul_add_div p, Nat.div_eq_of_lt l]
  rfl
/-- Lists of digits of the same length compare as their numbers do. -/
theorem val_cons (b : UInt8) (l : List UInt8) : val (b :: l) = (b.toNat - 48) * 10 ^ l.length + val l := by
  have := val_app [b] l
  rw [List.singleton_append] at this
  rw [this]; simp [val]
theorem lex_val : ∀ (a b : List UInt8), a.length = b.length → alld a → alld b → (a < b ↔ val a < val b) := by
  intro a
  induction a with
  | nil => intro b h _ _; cases b with
    | nil => simp [val]
    | cons c t => simp at h
  | cons x s ih =>
    intro b h ha hb
    cases b with
    | nil => simp at h
    | cons y t =>
      have hl : s.length = t.length := by simpa using h
      have hs : alld s := fun c hc => ha c (List.mem_cons_of_mem _ hc)
      have ht : alld t := fun c hc => hb c (List.mem_cons_of_mem _ hc)
      have hx := ha x (List.mem_cons_self ..)
      have hy := hb y (List.mem_cons_self ..)
      have e := ih t hl hs ht
      have v1 := val_lt hs
      have v2 := val_lt ht
      rw [hl] at v1
      rw [List.cons_lt_cons_iff, e, val_cons, val_cons, hl, UInt8.lt_iff_toNat_lt]
      unfold isd at hx hy
      generalize 10 ^ t.length = p at *
      constructor
      · rintro (g | ⟨rfl, g⟩)
        · have : (x.toNat - 48 + 1) * p ≤ (y.toNat - 48) * p := Nat.mul_le_mul_right _ (by omega)
          rw [Nat.add_mul] at this
          omega
        · omega
      · intro g
        rcases Nat.lt_trichotomy x.toNat y.toNat with k | k | k
        · exact Or.inl k
        · have e2 : x = y := UInt8.toNat_inj.1 k
          subst e2
          exact Or.inr ⟨rfl, by omega⟩
        · have : (y.toNat - 48 + 1) * p ≤ (x.toNat - 48) * p := Nat.mul_le_mul_right _ (by omega)
          rw [Nat.add_mul] at this
          omega
/-- The order of two numbers. -/
def cmp (a b : Nat) : Int := if a < b then -1 else if a = b then 0 else 1
theorem num_short {a b : Nat} (h : (num a).length < (num b).length) : a < b := by
  have h1 := num_lt a
  have hb : b ≠ 0 := fun k => by rw [k, num_zero] at h; simp at h
  have h2 := num_len_pos hb
  have h3 : 10 ^ (num a).length ≤ 10 ^ ((num b).length - 1) := Nat.pow_le_pow_right (by omega) (by omega)
  omega
theorem num_lex {a b : Nat} (h : (num a).length = (num b).length) : num a < num b ↔ a < b := by
  rw [lex_val _ _ h (num_alld a) (num_alld b), val_num, val_num]
theorem val_rep0 (k : Nat) : val (List.replicate k 48) = 0 := by
  induction k with
  | zero => rfl
  | succ k ih => rw [List.replicate_succ', val_snoc, ih]; rfl
theorem num_app0 {n : Nat} (hn : n ≠ 0) (k : Nat) : num n ++ List.replicate k 48 = num (n * 10 ^ k) := by
  have hz : ∀ k, alld (num n ++ List.replicate k 48) := fun k b hb => by
    rcases List.mem_append.1 hb with h | h
    · exact num_alld n b h
    · rw [(List.mem_replicate.1 h).2]; exact by decide
  have hs : strip (num n ++ List.replicate k 48) = num n ++ List.replicate k 48 := by
    have := num_strip n
    have hne : num n ≠ [] := fun k => hn (num_nil.1 k)
    cases hnn : num n with
    | nil => exact absurd hnn hne
    | cons a t =>
      rw [hnn] at this
      unfold strip at this ⊢
      rw [List.dropWhile_cons] at this
      rw [List.cons_append, List.dropWhile_cons]
      by_cases g : (a == 48) = true
      · rw [if_pos g] at this
        have := congrArg List.length this
        have := (List.dropWhile_suffix (l := t) (fun b => b == 48)).length_le
        simp at *
        omega
      · rw [if_neg g]
  rw [num_unique (hz k) hs, val_app, val_num, List.length_replicate]
  rw [val_rep0]; rfl
end Dig
end Go.Proofs.YtfkfboiblgoamaaDoor
