/- Laid together for one claim: VkKeys, VtMade, VtClone, VtKeys. -/
import Derived.Test.YtfkfboiblgoamaaDoorQS06
import Derived.Maps.Views
import Derived.Maps.OwnOps
import Derived.Laws.Tables
import Derived.Laws.CopyOwn
import Derived.WalkSpells
import Derived.Test.YtfkfboiblgoamaaDoorQS01
import Derived.BigRegion
/- The program's value.key, value.keys: what is wrong with the keys of fields; the set of the keys that were seen. -/
namespace Go.Proofs.YtfkfboiblgoamaaDoor
open Go.RowKit Go.Maps
set_option linter.unusedSimpArgs false
set_option linter.unusedVariables false

theorem plainElem_bool_inv {H : Type} {P : Program} {e : TypeId} (he : P.underlying e = some .bool) {v : Value} {c : Bool} {ps : List MemPlace} (h : plainElem (H := H) P e v = some (.lit (.bool c), ps)) : v = .bool c := by
  unfold plainElem at h
  rw [he] at h
  cases v <;> simp at h
  rw [h.1]
/-- 'm[k]' (without 'ok') at elements of kind bool. -/
theorem wpList_lookup_own_bool {H : Type} {P : Program} (w : World) {ops : Array Oper} {rest : List Oper} {o : Oper} {a : Act} {Q : Exit → Act → World → Prop}
    (hg : o.guard = none) (m x : Operand) (t : TypeId) (hop : o.op = Op.lookup t m x false)
    (k e : TypeId) (K : Keyed P k) (ht : P.underlying t = some (.map k e)) (he : P.underlying e = some .bool) (hz : (zeroValue e).run P w = .ok (.bool false) w) (b n : Nat) (D : DataW H)
    (hm : a.eval m = .map (some b)) (hown : w.ownsMap P k (plainElem P e) b n D) (key : Value) (kl : Lit) (hx : a.eval x = key) (hkey : keyOf P k key = some kl)
    (c : Bool) (hat : D.atKey kl (.lit (.bool false)) = .lit (.bool c)) (hK : wpList P ops Q rest (a.put o.dst (.bool c)) w) :
    wpList P ops Q (o :: rest) a w := by
  refine wpList_plain hg fun K' hK' => ?_
  obtain ⟨v, ps, hrun, hv⟩ := hown.lookup K ht hz (plainElem_bool he false) hkey
  rw [hat] at hv
  obtain rfl := plainElem_bool_inv he hv
  unfold Oper.wp
  simp [execOp, hop, hm, hx, hrun, Result.andThen]
  exact hK' _ _ hK
/-- The keys that were seen. -/
def seenD (K : Nat → ByteArray) : Nat → DataW Unit
  | 0 => .map []
  | n + 1 => (seenD K n).put (.string (K n).data.toList) (.lit (.bool true))
theorem seenD_map (K : Nat → ByteArray) : ∀ n, IsMap (seenD K n)
  | 0 => isMap_empty
  | n + 1 => (seenD_map K n).put _ _
theorem seenD_at (K : Nat → ByteArray) (x : ByteArray) : ∀ n, (seenD K n).atKey (.string x.data.toList) (.lit (.bool false)) = .lit (.bool (@decide (∃ j, j < n ∧ K j = x) (Classical.propDecidable _)))
  | 0 => by
    rw [@decide_eq_false _ (Classical.propDecidable _) (by rintro ⟨j, h, -⟩; omega)]
    rfl
  | n + 1 => by
    by_cases e : K n = x
    · rw [@decide_eq_true _ (Classical.propDecidable _) ⟨n, Nat.lt_succ_self n, e⟩]
      show ((seenD K n).put (.string (K n).data.toList) (.lit (.bool true))).atKey _ _ = _
      rw [e]
      exact atKey_put_same (seenD_map K n) (show WideAt.IsKeyLit (.string _) from trivial) _ _
    · have h := seenD_at K x n
      have e2 : (∃ j, j < n + 1 ∧ K j = x) ↔ (∃ j, j < n ∧ K j = x) := by
        constructor
        · rintro ⟨j, h1, h2⟩
          refine ⟨j, ?_, h2⟩
          rcases Nat.lt_or_ge j n with q | q
          · exact q
          · exact absurd (by rw [show n = j by omega]; exact h2) e
        · rintro ⟨j, h1, h2⟩; exact ⟨j, by omega, h2⟩
      have e3 : (Lit.string x.data.toList) ≠ .string (K n).data.toList := fun q => e (by
        injection q with q
        exact ByteArray.ext (Array.toList_inj.1 q.symm))
      show ((seenD K n).put (.string (K n).data.toList) (.lit (.bool true))).atKey _ _ = _
      rw [atKey_put_other e3, h]
      by_cases q : ∃ j, j < n ∧ K j = x
      · rw [@decide_eq_true _ (Classical.propDecidable _) q, @decide_eq_true _ (Classical.propDecidable _) (e2.2 q)]
      · rw [@decide_eq_false _ (Classical.propDecidable _) q, @decide_eq_false _ (Classical.propDecidable _) (fun r => q (e2.1 r))]
def key1E (u : Bool) (n : Nat) : Int := if u = false then 5 else if 1024 < n then 10 else 0
theorem vkey_any {s : ByteArray} (hs : s.size ≤ 1048576) (w : World) :
    Calls Tryd.prog 78 #[.string s] w fun e w' => e = .returned (.int .i64 (key1E (utfB s) s.size)) ∧ w = w' := by
  have HU := Lib.hid (putf_any hs)
  have s0 : (0 : Int) ≤ s.size := by omega
  have s1 : (s.size : Int) ≤ 1048576 := by omega
  cases u : utfB s with
  | false =>
    rw [u] at HU
    clear u
    go_enter Tryd.func78, Tryd.ntmps78
    go_wp2_with fail
    refine (HU.out _).mono ?_; rintro _ w1 ⟨rfl, rfl⟩
    go_wp2
    go_ret
    exact ⟨rfl, rfl⟩
  | true =>
    rw [u] at HU
    clear u
    by_cases z : 1024 < s.size
    · have z2 : decide ((1024 : Int) < s.size) = true := decide_eq_true (by omega)
      have e : key1E true s.size = 10 := by unfold key1E; simp [z]
      rw [e]
      clear e
      go_enter Tryd.func78, Tryd.ntmps78
      go_wp2_with fail
      refine (HU.out _).mono ?_; rintro _ w1 ⟨rfl, rfl⟩
      go_wp2
      go_ret
      exact ⟨rfl, rfl⟩
    · have z2 : decide ((1024 : Int) < s.size) = false := decide_eq_false (by omega)
      have e : key1E true s.size = 0 := by unfold key1E; simp [z]
      rw [e]
      clear e
      go_enter Tryd.func78, Tryd.ntmps78
      go_wp2_with fail
      refine (HU.out _).mono ?_; rintro _ w1 ⟨rfl, rfl⟩
      go_wp2
      go_ret
      exact ⟨rfl, rfl⟩
end Go.Proofs.YtfkfboiblgoamaaDoor
/- Values: where a tree lies (which blocks), rows of made values, and an append that says which block it wrote. -/
namespace Go.Proofs.YtfkfboiblgoamaaDoor
open Go.ChangeShapes Go.WideShapes Go.Joins Go.Deep Go.RowKit

/-- All blocks of a tree are among these. -/
def Vt.Off (S : Nat → Prop) : Vt → Prop
  | .nil => True
  | .mk h _ L _ F => (0 < h.bn → S h.bb) ∧ (0 < h.ln → S h.lb) ∧ (∀ i, i < h.ln → (L i).Off S) ∧ (0 < h.fn → S h.fb) ∧ (∀ i, i < h.fn → (F i).Off S)
theorem Vt.Off.mono {S S' : Nat → Prop} (hs : ∀ b, S b → S' b) : ∀ {T : Vt}, T.Off S → T.Off S' := by
  intro T
  induction T with
  | nil => exact fun _ => trivial
  | mk h Y L K F ihL ihF =>
    rintro ⟨a, b, c, d, e⟩
    exact ⟨fun q => hs _ (a q), fun q => hs _ (b q), fun i hi => ihL i (c i hi), fun q => hs _ (d q), fun i hi => ihF i (e i hi)⟩
theorem Vt.Off.and {S S' : Nat → Prop} : ∀ {T : Vt}, T.Off S → T.Off S' → T.Off (fun b => S b ∧ S' b) := by
  intro T
  induction T with
  | nil => exact fun _ _ => trivial
  | mk h Y L K F ihL ihF =>
    rintro ⟨a, b, c, d, e⟩ ⟨a', b', c', d', e'⟩
    exact ⟨fun q => ⟨a q, a' q⟩, fun q => ⟨b q, b' q⟩, fun i hi => ihL i (c i hi) (c' i hi), fun q => ⟨d q, d' q⟩, fun i hi => ihF i (e i hi) (e' i hi)⟩
theorem Vt.In.off {W : World} {top : Nat} : ∀ {T : Vt}, T.In W top → T.Off (· < top) := by
  intro T
  induction T with
  | nil => exact fun h => h.elim
  | mk h Y L K F ihL ihF =>
    rintro ⟨_, a, _, b, c, d, e⟩
    exact ⟨fun q => (a q).2, fun q => (b q).2, fun i hi => ihL i (c i hi).2, fun q => (d q).2, fun i hi => ihF i (e i hi).2.2.2⟩
/-- What a tree says of a world is told by its own blocks. -/
theorem Vt.In.turn {W W' : World} {top top' : Nat} {S : Nat → Prop} (hs : ∀ b, S b → b < top → W'.heap[b]? = W.heap[b]? ∧ b < top') : ∀ {T : Vt}, T.In W top → T.Off S → T.In W' top' := by
  have hc : ∀ b, S b → b < top → ∀ i, W'.cell? ⟨b, i, none⟩ = W.cell? ⟨b, i, none⟩ := fun b h1 h2 i => World.cell?_of_block (a := ⟨b, i, none⟩) (hs b h1 h2).1
  intro T
  induction T with
  | nil => exact fun h => h.elim
  | mk h Y L K F ihL ihF =>
    rintro ⟨h0, h1, h2, h3, h4, h5, h6⟩ ⟨a, b, c, d, e⟩
    refine ⟨h0, fun q => ⟨(h1 q).1, (hs _ (a q) (h1 q).2).2⟩, fun i hi => ?_, fun q => ⟨(h3 q).1, (hs _ (b q) (h3 q).2).2⟩, fun i hi => ⟨fun j hj => ?_, ihL i (h4 i hi).2 (c i hi)⟩, fun q => ⟨(h5 q).1, (hs _ (d q) (h5 q).2).2⟩, fun i hi => ⟨?_, (h6 i hi).2.1, fun j hj => ?_, ihF i (h6 i hi).2.2.2 (e i hi)⟩⟩
    · rw [hc _ (a (by omega)) (h1 (by omega)).2]; exact h2 i hi
    · rw [hc _ (b (by omega)) (h3 (by omega)).2]; exact (h4 i hi).1 j hj
    · rw [hc _ (d (by omega)) (h5 (by omega)).2]; exact (h6 i hi).1
    · rw [hc _ (d (by omega)) (h5 (by omega)).2]; exact (h6 i hi).2.2.1 j hj
theorem Vt.In.grown {W W' : World} {g : Option Nat} {T : Vt} (h : T.In W W.heap.size) (ho : T.Off (fun b => some b ≠ g)) (hg : W.grownBy W' g) : T.In W' W'.heap.size :=
  Vt.In.turn (S := fun b => some b ≠ g) (fun b hb hlt => ⟨hg.block b hlt hb, Nat.lt_of_lt_of_le hlt hg.size⟩) h ho
theorem Vt.In.later {W W' : World} {T : Vt} (h : T.In W W.heap.size) (hb : Below W.heap.size W W') : T.In W' W'.heap.size := (h.below hb).up hb.size

/-! ### an append that says which block it wrote -/
theorem run_append_told {P : Program} (w : World) (base : Nat) (t ty e : TypeId) (i : TypeInfo) (z : Value) (size bytes : Nat) (ht : P.underlying t = some (.slice e)) (hi : P.info? e = some i) (hz : i.zero = some z)
    (hsize : i.size = size) (hby : i.bytes = bytes) (hzs : z.cells.size = size) (hsz : 0 < size)
    (v : Value) (n : Nat) (xs : List Value) (hown : w.ownsRow base e size v n xs)
    (a : Addr) (m c : Nat) (news : List Value) (hl : news.length = m * size) (hnews : ∀ j u, news[j]? = some u → w.cell? (a.add j) = some u) (h1 : ∀ u ∈ news, u.oneCell' = true)
    (h63 : n + m ≤ maxLen) (hbytes : (n + m) * bytes ≤ 140737488355328) (hbase : base ≤ w.heap.size) (hm : 0 < m) :
    ∃ v' w', (Builtin.append_ #[t, t] ty #[v, .slice (some a) m c]).run P w = .ok v' w' ∧ w'.ownsRow base e size v' (n + m) (xs ++ news) ∧ w.grownBy w' v.ownBlock ∧
      (v'.ownBlock = v.ownBlock ∨ v'.ownBlock = some w.heap.size) := by
  obtain ⟨v', w', hr, h2, h3, _⟩ := run_append_own (P := P) w base t ty e i z size bytes ht hi hz hsize hby hzs hsz v n xs hown a m c news hl hnews h1 h63 hbytes hbase
  refine ⟨v', w', hr, h2, h3, ?_⟩
  subst hsize
  subst hby
  have hml : n + m ≤ 9223372036854775807 := by simp only [maxLen] at h63; omega
  rcases hown.2 with ⟨rfl, rfl⟩ | ⟨g, cap, cur, rfl, hbg, hg, hnc, hcm, hcs, htake⟩
  · have hr2 := run_append_nil (P := P) w t ty e i z ht hi hz a m c news hl hnews hm (by omega) (by have hb := hbytes; simp only [Nat.zero_add] at hb; omega)
    rw [hr2] at hr
    injection hr with e1 e2
    exact .inr (by rw [← e1]; rfl)
  · by_cases hroom : n + m ≤ cap
    · have hfit : n * i.size + news.length ≤ cur.size := by rw [hl, hcs, ← Nat.add_mul]; exact Nat.mul_le_mul_right _ hroom
      have hr2 := run_append_room (P := P) w t ty e i ht hi g n cap cur hg a m c news hl hnews h1 hroom hfit
      rw [hr2] at hr
      injection hr with e1 e2
      exact .inl (by rw [← e1]; rfl)
    · have holds : ∀ j u, xs[j]? = some u → w.cell? ((⟨g, 0, none⟩ : Addr).add j) = some u := hown.cells (g := g) rfl
      have hr2 := run_append_grow (P := P) w t ty e i z ht hi hz ⟨g, 0, none⟩ n cap xs hown.1 holds a m c news hl hnews (by omega) (by omega) (growslice_fits (by omega) hbytes)
      rw [hr2] at hr
      injection hr with e1 e2
      exact .inr (by rw [← e1]; rfl)
theorem wpList_append_told {P : Program} (w : World) {ops : Array Oper} {rest : List Oper} {o : Oper} {a : Act} {Q : Exit → Act → World → Prop} (hgd : o.guard = none) (s x : Operand) (t : TypeId)
    (ho : o.op = .call { callee := .builtin .append, args := #[s, x], argTypes := #[t, t] })
    (base : Nat) (e : TypeId) (i : TypeInfo) (z : Value) (size bytes : Nat) (ht : P.underlying t = some (.slice e)) (hi : P.info? e = some i) (hz : i.zero = some z)
    (hsize : i.size = size) (hby : i.bytes = bytes) (hzs : z.cells.size = size) (hsz : 0 < size)
    (v : Value) (n : Nat) (xs : List Value) (hs : a.eval s = v) (hown : w.ownsRow base e size v n xs)
    (ad : Addr) (m c : Nat) (news : List Value) (hx : a.eval x = .slice (some ad) m c) (hl : news.length = m * size) (hnews : ∀ j u, news[j]? = some u → w.cell? (ad.add j) = some u) (h1 : ∀ u ∈ news, u.oneCell' = true)
    (h63 : n + m ≤ maxLen) (hbytes : (n + m) * bytes ≤ 140737488355328) (hbase : base ≤ w.heap.size) (hm : 0 < m)
    (h : ∀ v' w', w'.ownsRow base e size v' (n + m) (xs ++ news) → w.grownBy w' v.ownBlock → (v'.ownBlock = v.ownBlock ∨ v'.ownBlock = some w.heap.size) → wpList P ops Q rest (a.put o.dst v') w') : wpList P ops Q (o :: rest) a w := by
  refine wpList_plain hgd fun K hK => ?_
  obtain ⟨v', w', hr, h2, h3, h4⟩ := run_append_told (P := P) w base t o.type e i z size bytes ht hi hz hsize hby hzs hsz v n xs hown ad m c news hl hnews h1 h63 hbytes hbase hm
  unfold Oper.wp execOp
  simp only [ho, resolve, invoke, builtin, Sem.run_bind, Sem.run_pure, Result.andThen_ok, List.map_toArray, List.map_cons, List.map_nil, hs, hx, hr]
  exact hK _ _ (h v' w' h2 h3 h4)

/-! ### rows of made values -/
section
variable {α : Type}
/-- A row of values that a call makes: what lies in it, and that no part of it lies in the row's own block. -/
def RowG (cs : α → Array Value) (tr : α → Vt) (C : Nat) (e : TypeId) (B : Nat) (S : Nat → Prop) (q : Nat → α → Prop) (W : World) (v : Value) (k : Nat) : Prop :=
  ∃ f : Nat → α, W.ownsRow B e C v k (catN (fun i => cs (f i)) k) ∧ ∀ i, i < k → (tr (f i)).In W W.heap.size ∧ (tr (f i)).Off (fun b => S b ∧ some b ≠ v.ownBlock) ∧ q i (f i)
variable {cs : α → Array Value} {tr : α → Vt} {C : Nat} {e : TypeId} {B : Nat} {S : Nat → Prop} {q : Nat → α → Prop} {W W' : World} {v : Value} {k : Nat}
theorem catN_congr {f g : Nat → Array Value} : ∀ {n : Nat}, (∀ i, i < n → f i = g i) → catN f n = catN g n := by
  intro n
  induction n with
  | zero => intro _; rfl
  | succ n ih =>
    intro h
    show catN f n ++ _ = catN g n ++ _
    rw [ih (fun i hi => h i (by omega)), h n (by omega)]
theorem RowG.nil [Inhabited α] : RowG cs tr C e B S q W (.slice none 0 0) 0 := ⟨fun _ => default, World.ownsRow_nil _ _ _ _, fun _ h => absurd h (Nat.not_lt_zero _)⟩
theorem RowG.below (h : RowG cs tr C e B S q W v k) (hb : Below W.heap.size W W') : RowG cs tr C e B S q W' v k := by
  obtain ⟨f, ho, hf⟩ := h
  refine ⟨f, ho.kept ⟨hb.os, hb.tape, hb.output, hb.size, fun i hi _ => hb.block i hi⟩ (row := none) ?_, fun i hi => ⟨(hf i hi).1.later hb, (hf i hi).2⟩⟩
  cases hv : v.ownBlock with
  | none => exact .inl rfl
  | some g => exact .inr (by simp)
theorem RowG.alloc (h : RowG cs tr C e B S q W v k) (o : Obj) : RowG cs tr C e B S q (W.alloc o) v k := h.below ((Below.refl _ W).alloc (Nat.le_refl _) o)
theorem RowG.drew (h : RowG cs tr C e B S q W v k) : RowG cs tr C e B S q W.drew v k := h.below (Below.refl _ W).drew
/-- A store into a block that is no part of it. -/
theorem RowG.turn (h : RowG cs tr C e B S q W v k) {g : Nat} (hg : W.grownBy W' (some g)) (hgB : g < B) (hS : ∀ b, S b → b ≠ g) : RowG cs tr C e B S q W' v k := by
  obtain ⟨f, ho, hf⟩ := h
  refine ⟨f, ho.kept hg ?_, fun i hi => ⟨(hf i hi).1.grown ((hf i hi).2.1.mono fun b hb e => hS b hb.1 (Option.some.inj e)) hg, (hf i hi).2⟩⟩
  exact .inr fun e => own_away ho hgB e.symm
/-- One more. -/
theorem RowG.push [Inhabited α] {f : Nat → α} {x : α} {w1 w3 : World} {v' : Value} (ho : w1.ownsRow B e C v k (catN (fun i => cs (f i)) k)) (hf : ∀ i, i < k → (tr (f i)).In w1 w1.heap.size ∧ (tr (f i)).Off (fun b => S b ∧ some b ≠ v.ownBlock) ∧ q i (f i))
    (hx : (tr x).In w1 w1.heap.size) (hS : (tr x).Off S) (hxo : ∀ g, v.ownBlock = some g → (tr x).Off (· ≠ g)) (hq : q k x)
    (ho3 : w3.ownsRow B e C v' (k + 1) (catN (fun i => cs (f i)) k ++ (cs x).toList)) (hg : w1.grownBy w3 v.ownBlock) (hv : v'.ownBlock = v.ownBlock ∨ v'.ownBlock = some w1.heap.size) :
    RowG cs tr C e B S q w3 v' (k + 1) := by
  have hxo' : (tr x).Off (fun b => some b ≠ v.ownBlock) := by
    cases hvb : v.ownBlock with
    | none => exact hS.mono fun b _ e => by cases e
    | some g => exact (hxo g hvb).mono fun b hb e => by cases e; exact hb rfl
  refine ⟨fun i => if i = k then x else f i, ?_, fun i hi => ?_⟩
  · have e1 : catN (fun i => cs (if i = k then x else f i)) (k + 1) = catN (fun i => cs (f i)) k ++ (cs x).toList := by
      show catN (fun i => cs (if i = k then x else f i)) k ++ (cs (if k = k then x else f k)).toList = _
      rw [catN_congr (g := fun i => cs (f i)) (fun i hi => by rw [if_neg (by omega)]), if_pos rfl]
    rw [e1]
    exact ho3
  · have key : ∀ {y : α}, (tr y).In w1 w1.heap.size → (tr y).Off (fun b => S b ∧ some b ≠ v.ownBlock) → (tr y).In w3 w3.heap.size ∧ (tr y).Off (fun b => S b ∧ some b ≠ v'.ownBlock) := by
      intro y h1 h2
      refine ⟨h1.grown (h2.mono fun b hb => hb.2) hg, ?_⟩
      rcases hv with e1 | e1
      · rw [e1]; exact h2
      · rw [e1]
        exact (h2.and h1.off).mono fun b hb => ⟨hb.1.1, fun e2 => by cases e2; exact absurd hb.2 (Nat.lt_irrefl _)⟩
    by_cases hik : i = k
    · subst hik
      simp only [if_true]
      obtain ⟨a, b⟩ := key hx (hS.and hxo')
      exact ⟨a, b, hq⟩
    · simp only [if_neg hik]
      obtain ⟨h1, h2, h3⟩ := hf i (by omega)
      obtain ⟨a, b⟩ := key h1 h2
      exact ⟨a, b, h3⟩
/-- What a finished row is. -/
theorem RowG.done (hC : ∀ x, (cs x).size = C) (h : RowG cs tr C e B S q W v k) : ∃ (f : Nat → α) (a : Option Addr) (c b : Nat), v = .slice a k c ∧ (k ≤ c ∧ c ≤ maxLen) ∧ (0 < k → a = some ⟨b, 0, none⟩ ∧ B ≤ b ∧ b < W.heap.size) ∧
    ∀ i, i < k → LiesAt W b (i * C) (cs (f i)) ∧ (tr (f i)).In W W.heap.size ∧ (tr (f i)).Off S ∧ q i (f i) := by
  obtain ⟨f, ho, hf⟩ := h
  obtain ⟨a, c, b, rfl, hcc, ha, hl⟩ := own_lies (fun i => hC (f i)) ho
  exact ⟨f, a, c, b, rfl, hcc, ha, fun i hi => ⟨hl i hi, (hf i hi).1, (hf i hi).2.1.mono fun _ h => h.1, (hf i hi).2.2⟩⟩
end
/-- A key and its value: their cells. -/
def fcs (x : ByteArray × Vt) : Array Value := #[.string x.1, .int .i64 x.2.h.k, .bool x.2.h.b, .bool x.2.h.n, .string x.2.h.d, .int .i64 x.2.h.e, .int .i64 x.2.h.tk, .int .i64 x.2.h.td, .int .i64 x.2.h.tn, .int .i64 x.2.h.tz, .string x.2.h.x, .slice x.2.h.ba x.2.h.bn x.2.h.bc, .slice x.2.h.la x.2.h.ln x.2.h.lc, .slice x.2.h.fa x.2.h.fn x.2.h.fc]
theorem fcs_size (x : ByteArray × Vt) : (fcs x).size = 14 := rfl
theorem fcs_one (x : ByteArray × Vt) : ∀ u ∈ (fcs x).toList, u.oneCell' = true := by
  intro u hu
  simp only [fcs, List.mem_cons, List.not_mem_nil, or_false] at hu
  rcases hu with rfl | rfl | rfl | rfl | rfl | rfl | rfl | rfl | rfl | rfl | rfl | rfl | rfl | rfl <;> rfl
theorem LiesAt.fcs {W : World} {b o : Nat} {x : ByteArray × Vt} (h : LiesAt W b o (Proofs.YtfkfboiblgoamaaDoor.fcs x)) : W.cell? ⟨b, o, none⟩ = some (.string x.1) ∧ LiesAt W b (o + 1) x.2.h.cells := by
  have z : (Proofs.YtfkfboiblgoamaaDoor.fcs x).size = 14 := rfl
  refine ⟨h 0 (by omega), fun j hj => ?_⟩
  have hj' : j < 13 := hj
  have := h (j + 1) (by omega)
  rw [show o + 1 + j = o + (j + 1) by omega, this]
  match j, hj' with
  | 0, _ | 1, _ | 2, _ | 3, _ | 4, _ | 5, _ | 6, _ | 7, _ | 8, _ | 9, _ | 10, _ | 11, _ | 12, _ => rfl
instance : Inhabited (ByteArray × Vt) := ⟨(ByteArray.empty, .nil)⟩
end Go.Proofs.YtfkfboiblgoamaaDoor
/- Values: bytes that are cloned (slices.Clone). -/
namespace Go.Proofs.YtfkfboiblgoamaaDoor
open Go.ChangeShapes Go.WideShapes Go.Joins Go.Deep Go.RowKit

theorem Tryd.infoByteV : (Tryd.prog.info? 5).map (fun i => (i.zero, i.size, i.bytes)) = some (some (.int .u8 0), 1, 1) := by kernel_rfl
def CloneOut (n : Nat) (Y : Nat → Int) (w : World) (e : Ending) (w' : World) : Prop :=
  ∃ (a : Option Addr) (c b : Nat), e = .returned (.slice a n c) ∧ (0 < n → a = some ⟨b, 0, none⟩ ∧ w.heap.size ≤ b ∧ b < w'.heap.size) ∧ (∀ i, i < n → w'.cell? ⟨b, i, none⟩ = some (.int .u8 (Y i))) ∧ Below w.heap.size w w'
theorem clone_end {w w' : World} {n base : Nat} {Y : Nat → Int} {v : Value} (h : w'.ownsRow base 5 1 v n ((List.range n).map fun i => Value.int .u8 (Y i))) (hb : Below w.heap.size w w') (hW : w.heap.size ≤ base) : CloneOut n Y w (.returned v) w' := by
  by_cases hn : n = 0
  · subst hn
    rcases h.2 with ⟨rfl, _⟩ | ⟨g, cap, cur, rfl, _⟩
    · exact ⟨none, 0, 0, rfl, fun h => absurd h (Nat.lt_irrefl _), fun i h => absurd h (Nat.not_lt_zero _), hb⟩
    · exact ⟨_, cap, g, rfl, fun h => absurd h (Nat.lt_irrefl _), fun i h => absurd h (Nat.not_lt_zero _), hb⟩
  · obtain ⟨g, cap, rfl, hg, hlt⟩ := own_form h (by omega)
    refine ⟨_, cap, g, rfl, fun _ => ⟨rfl, by omega, hlt⟩, fun i hi => ?_, hb⟩
    have := h.cells (g := g) rfl i (.int .u8 (Y i)) (by simp [hi])
    rwa [add_plain, Nat.zero_add] at this
set_option maxHeartbeats 1000000 in
set_option maxRecDepth 100000 in
theorem clone_any {a : Option Addr} {n c b o : Nat} {Y : Nat → Int} (hn : n ≤ 1048576) (w : World) (ha : 0 < n → a = some ⟨b, o, none⟩ ∧ b < w.heap.size) (hY : ∀ i, i < n → w.cell? ⟨b, o + i, none⟩ = some (.int .u8 (Y i))) :
    Calls Tryd.prog 53 #[.slice a n c] w (CloneOut n Y w) := by
  cases a with
  | none =>
    have h0 : n = 0 := Classical.byContradiction fun q => by have := (ha (by omega)).1; cases this
    subst h0
    have HQ : Hid (CloneOut 0 Y w (.returned (.slice none 0 0)) w) := Lib.hid ⟨none, 0, 0, rfl, fun h => absurd h (Nat.lt_irrefl _), fun i h => absurd h (Nat.not_lt_zero _), Below.refl _ _⟩
    clear ha hY
    have hnil := fun (w : World) (l c : Nat) => Lib.run_eql_slice_nil (P := Tryd.prog) w 26 5 none l c 0 0 Tryd.underlying26
    go_enter Tryd.func53, Tryd.ntmps53
    go_wp2
    go_ret
    exact HQ.out
  | some ad =>
    obtain ⟨i0, hi, hz0, hz1, hz2⟩ := info_parts Tryd.infoByteV
    have hown := World.ownsRow_made (base := w.heap.size) (e := 5) (size := 1) w #[] 0 (Nat.le_refl _) (by unfold maxLen; omega) rfl
    have hb0 := (Below.refl w.heap.size w).alloc (Nat.le_refl _) (.cells #[] 5)
    have hnews : Hid (∀ j u, ((List.range n).map fun i => Value.int .u8 (Y i))[j]? = some u → (w.alloc (.cells #[] 5)).cell? (ad.add j) = some u) := Lib.hid fun j u hu => by
      have hj : j < n := by
        rcases Nat.lt_or_ge j n with q | q
        · exact q
        · rw [List.getElem?_eq_none (by simp; exact q)] at hu; cases hu
      obtain ⟨e, hlt⟩ := ha (by omega)
      cases e
      rw [add_plain]
      refine (hb0.cell (p := ⟨b, o + j, none⟩) hlt).trans ?_
      rw [hY j hj]
      simp [hj] at hu
      rw [← hu]
    clear ha hY
    have hnil := fun (w : World) (l c : Nat) => Lib.run_eql_slice_nil (P := Tryd.prog) w 26 5 (some ad) l c 0 0 Tryd.underlying26
    go_enter Tryd.func53, Tryd.ntmps53
    go_wp2_with (at_builtin; refine wpList_append_own _ rfl _ _ 26 rfl w.heap.size 5 i0 (.int .u8 0) 1 1 Tryd.underlying26 hi hz0 hz1 hz2 rfl (by decide) _ _ _ rfl hown ad n c ((List.range n).map fun i => Value.int .u8 (Y i)) rfl ?c1 ?c2 ?c3 ?c4 ?c5 ?c6 ?_)
    case c1 => simp
    case c2 => exact hnews.out
    case c3 =>
      intro u hu
      obtain ⟨_, _, rfl⟩ := List.mem_map.1 hu
      rfl
    case c4 => unfold maxLen; omega
    case c5 => omega
    case c6 => simp
    intro v' w3 hown3 hgrow _
    have hb3 := hb0.grown hgrow (by simp) (fun k e => by cases e; exact Nat.le_refl _)
    clear hown hnews hgrow
    go_wp2
    go_ret
    exact clone_end hown3 hb3 (Nat.le_refl _)
end Go.Proofs.YtfkfboiblgoamaaDoor
/- Values: what is wrong with keys (datakitref07.Keys). -/
namespace Go.Proofs.YtfkfboiblgoamaaDoor
open Go.RowKit

set_option maxHeartbeats 4000000 in
set_option maxRecDepth 100000 in
theorem keys_some {b o n c : Nat} {K : Nat → ByteArray} (hn : n ≤ 1048576) (w : World) (hb : b < w.heap.size) (hK : ∀ i, i < n → w.cell? ⟨b, o + i * 14, none⟩ = some (.string (K i)) ∧ (K i).size ≤ 1048576) :
    Calls Tryd.prog 62 #[.slice (some ⟨b, o, none⟩) n c] w fun r w' => r = .returned (.int .i64 (keysE K n)) ∧ Below w.heap.size w w' := by
  have HK := Lib.hid hK
  have HB := Lib.hid hb
  clear hK hb
  obtain ⟨R, hR⟩ : ∃ R, keysE K n = R := ⟨_, rfl⟩
  rw [hR]
  have HR := Lib.hid hR
  clear hR
  have hn0 : (0 : Int) ≤ n := by omega
  have hn2 : (n : Int) ≤ 1048576 := by omega
  go_enter Tryd.func62, Tryd.ntmps62
  go_wp2_with fail
  go_loopw [3] (fun i wr => ∃ k : Nat, k ≤ n ∧ i = .int .i64 k ∧ keysE K k = 0 ∧ Below w.heap.size w wr) (fun i _ => n - (intOf i).toNat)
  case atStart => exact ⟨0, by omega, rfl, rfl, Below.refl _ _⟩
  case round =>
    obtain ⟨k, hk, rfl, hk0, hbr⟩ := hrel
    have hki : (0 : Int) ≤ k := by omega
    by_cases hkn : k < n
    · obtain ⟨l0, l1⟩ := HK.out k hkn
      have l2 := (hbr.cell (p := ⟨b, o + k * 14, none⟩) HB.out).trans l0
      have hki2 : (k : Int) < n := by omega
      have HU := Lib.hid (rutf_any l1)
      have hlt := Nat.lt_of_lt_of_le HB.out hbr.size
      by_cases u : utfB (K k) = true
      case neg =>
        have u2 : utfB (K k) = false := by simpa using u
        have hR : R = 5 := by rw [← HR.out, keysE_bad hk0 hkn (by unfold keyE; simp [u2])]; unfold keyE; simp [u2]
        subst hR
        rw [u2] at HU
        generalize K k = x at *
        clear u u2 hk0 l0 HR
        go_wp2_with fail
        refine (HU.out _).mono ?_; rintro _ w1 ⟨rfl, hb1⟩
        go_wp2
        go_ret
        exact ⟨rfl, below_then hbr hb1⟩
      rw [u] at HU
      have kE : keyE K k = if 1024 < (K k).size then 10 else if ∃ j, j < k ∧ K j = K k then 8 else 0 := by unfold keyE; simp [u]
      by_cases z : 1024 < (K k).size
      · have hR : R = 10 := by rw [← HR.out, keysE_bad hk0 hkn (by rw [kE, if_pos z]; decide), kE, if_pos z]
        subst hR
        clear kE hk0 l0 u HR
        generalize K k = x at *
        have z2 : decide ((1024 : Int) < x.size) = true := decide_eq_true (by omega)
        go_wp2_with fail
        refine (HU.out _).mono ?_; rintro _ w1 ⟨rfl, hb1⟩
        replace l2 := (hb1.cell (p := ⟨b, o + k * 14, none⟩) hlt).trans l2
        go_wp2
        go_ret
        exact ⟨rfl, below_then hbr hb1⟩
      rw [if_neg z] at kE
      have HE := Lib.hid kE
      have H0 := Lib.hid hk0
      clear kE hk0 u
      obtain ⟨x, hx⟩ : ∃ x, K k = x := ⟨_, rfl⟩
      rw [hx] at l0 l1 l2 HU z HE
      have HX := Lib.hid hx
      clear hx
      have z2 : decide ((1024 : Int) < x.size) = false := decide_eq_false (by omega)
      go_wp2_with fail
      refine (HU.out _).mono ?_; rintro _ w1 ⟨rfl, hb1⟩
      replace l2 := (hb1.cell (p := ⟨b, o + k * 14, none⟩) hlt).trans l2
      replace hbr := below_then hbr hb1
      clear hb1 HU z hlt
      go_wp2_with fail
      go_loopw [4] (fun i wr => ∃ j : Nat, j ≤ k ∧ i = .int .i64 j ∧ Hid (∀ t, t < j → K t ≠ x) ∧ Below w.heap.size w wr) (fun i _ => k - (intOf i).toNat)
      case atStart => exact ⟨0, by omega, rfl, Lib.hid (fun t h => absurd h (Nat.not_lt_zero _)), hbr⟩
      case round =>
        clear hbr l2
        obtain ⟨j, hj, rfl, HJ, hbr⟩ := hrel
        have l2 := (hbr.cell (p := ⟨b, o + k * 14, none⟩) HB.out).trans l0
        have hji : (0 : Int) ≤ j := by omega
        by_cases hjk : j < k
        · obtain ⟨m0, m1⟩ := HK.out j (by omega)
          have m2 := (hbr.cell (p := ⟨b, o + j * 14, none⟩) HB.out).trans m0
          have hji2 : (j : Int) < k := by omega
          have hji3 : (j : Int) < n := by omega
          by_cases e : K j = x
          · have d1 : ((K j).toList == x.toList) = true := by rw [e]; exact beq_self_eq_true _
            have hR : R = 8 := by
              have k8 : keyE K k = 8 := by rw [HE.out, if_pos ⟨j, hjk, e⟩]
              rw [← HR.out, keysE_bad H0.out hkn (by rw [k8]; decide), k8]
            subst hR
            clear HR HE H0 e m0 l0 hjk hkn
            generalize K j = y at *
            go_wp2_with fail
            go_region
            go_wp2
            go_ret
            exact ⟨rfl, hbr.drew⟩
          · have d1 : ((K j).toList == x.toList) = false := by
              rw [beq_eq_false_iff_ne]
              intro q
              apply e
              rw [Lib.toList_data, Lib.toList_data] at q
              exact ByteArray.ext (Array.ext' q)
            have HJ2 : Hid (∀ t, t < j + 1 → K t ≠ x) := Lib.hid (fun t ht => by
              by_cases q : t = j
              · rw [q]; exact e
              · exact HJ.out t (by omega))
            clear e m0 HJ hkn
            generalize K j = y at *
            go_wp2_with fail
            go_region
            go_wp2
            go_roundw
            case rel => exact ⟨j + 1, by omega, by go_num, HJ2, hbr.drew⟩
            case measure => simp [intOf]; omega
        · obtain rfl : j = k := by omega
          have hN : keysE K (j + 1) = 0 := keysE_next H0.out (by rw [HE.out, if_neg (fun ⟨t, ht, q⟩ => HJ.out t ht q)])
          clear HE H0 HJ
          go_wp2_with fail
          go_wp2
          go_roundw
          case rel => exact ⟨j + 1, by omega, by go_num, hN, hbr⟩
          case measure => simp [intOf]; omega
    · obtain rfl : k = n := by omega
      have hR : R = 0 := by rw [← HR.out, hk0]
      subst hR
      clear hkn hk0 HR
      go_wp2
      go_ret
      exact ⟨rfl, hbr⟩
theorem keys_nil {K : Nat → ByteArray} (a : Option Addr) (c : Nat) (w : World) :
    Calls Tryd.prog 62 #[.slice a 0 c] w fun r w' => r = .returned (.int .i64 (keysE K 0)) ∧ Below w.heap.size w w' := by
  show Calls Tryd.prog 62 #[.slice a 0 c] w fun r w' => r = .returned (.int .i64 0) ∧ Below w.heap.size w w'
  go_enter Tryd.func62, Tryd.ntmps62
  go_wp2_with fail
  go_loopw [3] (fun i wr => i = .int .i64 0 ∧ Below w.heap.size w wr) (fun i _ => 0)
  case atStart => exact ⟨rfl, Below.refl _ _⟩
  case round =>
    obtain ⟨rfl, hbr⟩ := hrel
    go_wp2
    go_ret
    exact ⟨rfl, hbr⟩
end Go.Proofs.YtfkfboiblgoamaaDoor
