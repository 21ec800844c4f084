/- Laid together for one claim: VtFresh, VtApp, VtWkM, VtJoin. -/
import Derived.Test.YtfkfboiblgoamaaQN15
import Derived.OwnWalkIn
import Derived.Test.YtfkfboiblgoamaaQN13
import Derived.Test.YtfkfboiblgoamaaQN08
import Derived.Test.YtfkfboiblgoamaaQN04
import Derived.Test.YtfkfboiblgoamaaQN05
/- An append of a whole slice to nil; sizes of parts. -/
namespace Go.Proofs.Ytfkfboiblgoamaa
open Go.ChangeShapes Go.WideShapes Go.Joins Go.Deep Go.RowKit

theorem run_append_fresh {P : Program} (w : World) (base : Nat) (t ty e : TypeId) (i : TypeInfo) (z : Value) (size bytes : Nat) (ht : P.underlying t = some (.slice e)) (hi : P.info? e = some i) (hz : i.zero = some z)
    (hsize : i.size = size) (hby : i.bytes = bytes) (hzs : z.cells.size = size) (hsz : 0 < size) (xa : Option Addr) (m c : Nat) (news : List Value) (hl : news.length = m * size)
    (hnews : 0 < m → ∃ ad, xa = some ad ∧ ∀ j u, news[j]? = some u → w.cell? (ad.add j) = some u) (h1 : ∀ u ∈ news, u.oneCell' = true) (h63 : m ≤ maxLen) (hbytes : m * bytes ≤ 140737488355328) (hbase : base ≤ w.heap.size) :
    ∃ v' w', (Builtin.append_ #[t, t] ty #[.slice none 0 0, .slice xa m c]).run P w = .ok v' w' ∧ w'.ownsRow base e size v' m news ∧ w.grownBy w' none ∧ (v'.ownBlock = none ∨ v'.ownBlock = some w.heap.size) := by
  by_cases hm : m = 0
  · subst hm
    have hn : news = [] := List.eq_nil_of_length_eq_zero (by simpa using hl)
    subst hn
    refine ⟨.slice none 0 0, w, ?_, World.ownsRow_nil w base e size, ⟨rfl, rfl, rfl, Nat.le_refl _, fun _ _ _ => rfl⟩, .inl rfl⟩
    cases xa <;> simp [Builtin.append_, run_underlying ht, sizeOf, typeInfo, hi, Builtin.lenOf, Builtin.firstCells, loadCells, loadCellsFrom]
  · obtain ⟨ad, rfl, hn⟩ := hnews (by omega)
    have h := run_append_told (P := P) w base t ty e i z size bytes ht hi hz hsize hby hzs hsz (.slice none 0 0) 0 [] (World.ownsRow_nil w base e size) ad m c news hl hn h1 (by omega) (by rw [Nat.zero_add]; exact hbytes) hbase (by omega)
    obtain ⟨v', w', hr, h2, h3, h4⟩ := h
    rw [Nat.zero_add, List.nil_append] at h2
    exact ⟨v', w', hr, h2, h3, h4⟩
theorem wpList_append_fresh {P : Program} (w : World) {ops : Array Oper} {rest : List Oper} {o : Oper} {a : Act} {Q : Exit → Act → World → Prop} (hgd : o.guard = none) (s x : Operand) (t : TypeId)
    (ho : o.op = .call { callee := .builtin .append, args := #[s, x], argTypes := #[t, t] })
    (base : Nat) (e : TypeId) (i : TypeInfo) (z : Value) (size bytes : Nat) (ht : P.underlying t = some (.slice e)) (hi : P.info? e = some i) (hz : i.zero = some z)
    (hsize : i.size = size) (hby : i.bytes = bytes) (hzs : z.cells.size = size) (hsz : 0 < size) (hs : a.eval s = .slice none 0 0)
    (xa : Option Addr) (m c : Nat) (news : List Value) (hx : a.eval x = .slice xa m c) (hl : news.length = m * size) (hnews : 0 < m → ∃ ad, xa = some ad ∧ ∀ j u, news[j]? = some u → w.cell? (ad.add j) = some u) (h1 : ∀ u ∈ news, u.oneCell' = true)
    (h63 : m ≤ maxLen) (hbytes : m * bytes ≤ 140737488355328) (hbase : base ≤ w.heap.size)
    (h : ∀ v' w', w'.ownsRow base e size v' m news → w.grownBy w' none → (v'.ownBlock = none ∨ v'.ownBlock = some w.heap.size) → wpList P ops Q rest (a.put o.dst v') w') : wpList P ops Q (o :: rest) a w := by
  refine wpList_plain hgd fun K hK => ?_
  obtain ⟨v', w', hr, h2, h3, h4⟩ := run_append_fresh (P := P) w base t o.type e i z size bytes ht hi hz hsize hby hzs hsz xa m c news hl hnews h1 h63 hbytes hbase
  unfold Oper.wp execOp
  simp only [ho, resolve, invoke, builtin, Sem.run_bind, Sem.run_pure, Result.andThen_ok, List.map_toArray, List.map_cons, List.map_nil, hs, hx, hr]
  exact hK _ _ (h v' w' h2 h3 h4)
/-- A map with one more field; a list with one more element. -/
def Vt.moreF : Vt → ByteArray → Vt → Vt
  | .nil, _, _ => .nil
  | .mk h Y L K F, key, X => .mk { h with fn := h.fn + 1 } Y L (fun j => if j < h.fn then K j else key) (fun j => if j < h.fn then F j else X)
def Vt.insL : Vt → Nat → Vt → Vt
  | .nil, _, _ => .nil
  | .mk h Y L K F, i, X => .mk { h with ln := h.ln + 1 } Y (fun j => if j < i then L j else if j = i then X else L (j - 1)) K F
theorem Vt.size_one (T : Vt) : 1 ≤ T.size := by
  cases T with
  | nil => exact Nat.le_refl _
  | mk h Y L K F => unfold Vt.size; omega
theorem sumN_ge {f : Nat → Nat} (hf : ∀ i, 1 ≤ f i) : ∀ n, n ≤ sumN f n := by
  intro n
  induction n with
  | zero => exact Nat.le_refl _
  | succ n ih => have := hf n; rw [sumN]; omega
theorem Vt.fn_le_size {T : Vt} (hk : T.h.k = 7) : T.h.fn ≤ T.size := by
  cases T with
  | nil => exact Nat.zero_le _
  | mk h Y L K F =>
    have e : (Vt.mk h Y L K F).size = 1 + sumN (fun i => (F i).size) h.fn := by
      have hk' : h.k = 7 := hk
      rw [Vt.size, if_pos hk']
    have := sumN_ge (f := fun i => (F i).size) (fun i => Vt.size_one _) h.fn
    show h.fn ≤ _
    omega
theorem Vt.ln_le_size {T : Vt} (hk : T.h.k ≠ 7) : T.h.ln ≤ T.size := by
  cases T with
  | nil => exact Nat.zero_le _
  | mk h Y L K F =>
    have e : (Vt.mk h Y L K F).size = 1 + sumN (fun i => (L i).size) h.ln := by
      have hk' : h.k ≠ 7 := hk
      rw [Vt.size, if_neg hk']
    have := sumN_ge (f := fun i => (L i).size) (fun i => Vt.size_one _) h.ln
    show h.ln ≤ _
    omega
theorem Vt.size_part {T : Vt} {s : Stp} (hT : T ≠ .nil) (h0 : (T.find s).2 = 0) : (T.part (T.find s).1.toNat).size ≤ T.size := by
  cases hx : s.ix with
  | true =>
    obtain ⟨e, k6, hi, _⟩ := Vt.part_ix h0 hx
    have hn : T.kn = T.h.ln := if_neg (by rw [k6]; decide)
    have := Vt.size_kid hT (i := (T.find s).1.toNat) (by rw [hn]; exact hi)
    rw [Vt.kid, if_neg (by rw [k6]; decide)] at this
    rw [e]
    omega
  | false =>
    obtain ⟨e, k7, hi, _⟩ := Vt.part_key h0 hx
    have hn : T.kn = T.h.fn := if_pos k7
    have := Vt.size_kid hT (i := (T.find s).1.toNat) (by rw [hn]; exact hi)
    rw [Vt.kid, if_pos k7] at this
    rw [e]
    omega
end Go.Proofs.Ytfkfboiblgoamaa
/- An append of any slice, an empty one too, to what a call owns: which block it wrote; also within a round. -/
namespace Go.Proofs.Ytfkfboiblgoamaa
open Go.ChangeShapes Go.WideShapes Go.Joins Go.Deep Go.RowKit

theorem run_append_zero {P : Program} (w : World) (t ty e : TypeId) (i : TypeInfo) (ht : P.underlying t = some (.slice e)) (hi : P.info? e = some i) (b xa : Option Addr) (n c c' : Nat) (hnc : n ≤ c) :
    (Builtin.append_ #[t, t] ty #[.slice b n c, .slice xa 0 c']).run P w = .ok (.slice b n c) w := by
  cases b <;> cases xa <;> simp [Builtin.append_, run_underlying ht, sizeOf, typeInfo, hi, Builtin.lenOf, Builtin.firstCells, loadCells, loadCellsFrom, hnc, storeCells]
theorem run_append_any {P : Program} (w : World) (base : Nat) (t ty e : TypeId) (i : TypeInfo) (z : Value) (size bytes : Nat) (ht : P.underlying t = some (.slice e)) (hi : P.info? e = some i) (hz : i.zero = some z)
    (hsize : i.size = size) (hby : i.bytes = bytes) (hzs : z.cells.size = size) (hsz : 0 < size) (v : Value) (n : Nat) (xs : List Value) (hown : w.ownsRow base e size v n xs)
    (xa : Option Addr) (m c : Nat) (news : List Value) (hl : news.length = m * size) (hnews : 0 < m → ∃ ad, xa = some ad ∧ ∀ j u, news[j]? = some u → w.cell? (ad.add j) = some u) (h1 : ∀ u ∈ news, u.oneCell' = true)
    (h63 : n + m ≤ maxLen) (hbytes : (n + m) * bytes ≤ 140737488355328) (hbase : base ≤ w.heap.size) :
    ∃ v' w', (Builtin.append_ #[t, t] ty #[v, .slice xa m c]).run P w = .ok v' w' ∧ w'.ownsRow base e size v' (n + m) (xs ++ news) ∧ w.grownBy w' v.ownBlock ∧ (v'.ownBlock = v.ownBlock ∨ v'.ownBlock = some w.heap.size) := by
  by_cases hm : m = 0
  · subst hm
    have hn : news = [] := List.eq_nil_of_length_eq_zero (by simpa using hl)
    subst hn
    have hg : w.grownBy w v.ownBlock := ⟨rfl, rfl, rfl, Nat.le_refl _, fun _ _ _ => rfl⟩
    rw [List.append_nil, Nat.add_zero]
    rcases hown.2 with ⟨rfl, rfl⟩ | ⟨g, cap, cur, rfl, _, _, hnc, _⟩
    · exact ⟨_, w, run_append_zero w t ty e i ht hi none xa 0 0 c (Nat.le_refl _), hown, hg, .inl rfl⟩
    · exact ⟨_, w, run_append_zero w t ty e i ht hi (some ⟨g, 0, none⟩) xa n cap c hnc, hown, hg, .inl rfl⟩
  · obtain ⟨ad, rfl, hn⟩ := hnews (by omega)
    exact run_append_told (P := P) w base t ty e i z size bytes ht hi hz hsize hby hzs hsz v n xs hown ad m c news hl hn h1 h63 hbytes hbase (by omega)
theorem wpList_append_any {P : Program} (w : World) {ops : Array Oper} {rest : List Oper} {o : Oper} {a : Act} {Q : Exit → Act → World → Prop} (hgd : o.guard = none) (s x : Operand) (t : TypeId)
    (ho : o.op = .call { callee := .builtin .append, args := #[s, x], argTypes := #[t, t] })
    (base : Nat) (e : TypeId) (i : TypeInfo) (z : Value) (size bytes : Nat) (ht : P.underlying t = some (.slice e)) (hi : P.info? e = some i) (hz : i.zero = some z)
    (hsize : i.size = size) (hby : i.bytes = bytes) (hzs : z.cells.size = size) (hsz : 0 < size)
    (v : Value) (n : Nat) (xs : List Value) (hs : a.eval s = v) (hown : w.ownsRow base e size v n xs)
    (xa : Option Addr) (m c : Nat) (news : List Value) (hx : a.eval x = .slice xa m c) (hl : news.length = m * size) (hnews : 0 < m → ∃ ad, xa = some ad ∧ ∀ j u, news[j]? = some u → w.cell? (ad.add j) = some u) (h1 : ∀ u ∈ news, u.oneCell' = true)
    (h63 : n + m ≤ maxLen) (hbytes : (n + m) * bytes ≤ 140737488355328) (hbase : base ≤ w.heap.size)
    (h : ∀ v' w', w'.ownsRow base e size v' (n + m) (xs ++ news) → w.grownBy w' v.ownBlock → (v'.ownBlock = v.ownBlock ∨ v'.ownBlock = some w.heap.size) → wpList P ops Q rest (a.put o.dst v') w') : wpList P ops Q (o :: rest) a w := by
  refine wpList_plain hgd fun K hK => ?_
  obtain ⟨v', w', hr, h2, h3, h4⟩ := run_append_any (P := P) w base t o.type e i z size bytes ht hi hz hsize hby hzs hsz v n xs hown xa m c news hl hnews h1 h63 hbytes hbase
  unfold Oper.wp execOp
  simp only [ho, resolve, invoke, builtin, Sem.run_bind, Sem.run_pure, Result.andThen_ok, List.map_toArray, List.map_cons, List.map_nil, hs, hx, hr]
  exact hK _ _ (h v' w' h2 h3 h4)
theorem wpListIn_append_any {F : Fence} {nf : Nat} {P : Program} (w : World) {ops : Array Oper} {rest : List Oper} {o : Oper} {a : Act} {Q : Exit → Act → World → Prop} (hgd : o.guard = none) (s x : Operand) (t : TypeId)
    (ho : o.op = .call { callee := .builtin .append, args := #[s, x], argTypes := #[t, t] })
    (base : Nat) (e : TypeId) (i : TypeInfo) (z : Value) (size bytes : Nat) (ht : P.underlying t = some (.slice e)) (hi : P.info? e = some i) (hz : i.zero = some z)
    (hsize : i.size = size) (hby : i.bytes = bytes) (hzs : z.cells.size = size) (hsz : 0 < size)
    (v : Value) (n : Nat) (xs : List Value) (hs : a.eval s = v) (hown : w.ownsRow base e size v n xs)
    (xa : Option Addr) (m c : Nat) (news : List Value) (hx : a.eval x = .slice xa m c) (hl : news.length = m * size) (hnews : 0 < m → ∃ ad, xa = some ad ∧ ∀ j u, news[j]? = some u → w.cell? (ad.add j) = some u) (h1 : ∀ u ∈ news, u.oneCell' = true)
    (h63 : n + m ≤ maxLen) (hbytes : (n + m) * bytes ≤ 140737488355328) (hbase : base ≤ w.heap.size)
    (h : ∀ v' w', w'.ownsRow base e size v' (n + m) (xs ++ news) → w.grownBy w' v.ownBlock → (v'.ownBlock = v.ownBlock ∨ v'.ownBlock = some w.heap.size) → wpListIn F nf P ops Q rest (a.put o.dst v') w') : wpListIn F nf P ops Q (o :: rest) a w := by
  refine wpListIn_plain hgd fun K hK => ?_
  obtain ⟨v', w', hr, h2, h3, h4⟩ := run_append_any (P := P) w base t o.type e i z size bytes ht hi hz hsize hby hzs hsz v n xs hown xa m c news hl hnews h1 h63 hbytes hbase
  unfold Oper.wpIn
  refine ⟨?_, ?_⟩
  · simp [Oper.about, ho, resolve, Target.leads, Sem.run_pure]
  · rw [Oper.semAt_plain F _ _ (by rw [ho]; intro c hc'; cases hc')]
    simp [execOp, ho, resolve, invoke, builtin, hs, hx, hr, Result.andThen]
    exact hK _ _ (h v' w' h2 h3 h4)
end Go.Proofs.Ytfkfboiblgoamaa
/- All values in a value, with their paths, in order: plain. -/
namespace Go.Proofs.Ytfkfboiblgoamaa
open Go.RowKit

def stI (i : Nat) : Stp := ⟨true, ⟨#[]⟩, i⟩
def stK (key : ByteArray) : Stp := ⟨false, key, 0⟩
/-- All values in a value that stands at q, with their paths, in order. -/
def Vt.walk : Vt → List Stp → List (List Stp × Vt)
  | .nil, _ => []
  | .mk h Y L K F, q => (q, .mk h Y L K F) :: ((List.range h.ln).flatMap (fun i => (L i).walk (q ++ [stI i])) ++ (List.range h.fn).flatMap (fun i => (F i).walk (q ++ [stK (K i)])))
/-- The steps of a list, as a function. -/
def lst (l : List Stp) (i : Nat) : Stp := l.getD i default
theorem lst_cons (s : Stp) (l : List Stp) (i : Nat) : lst (s :: l) (i + 1) = lst l i := rfl
theorem lst_zero (s : Stp) (l : List Stp) : lst (s :: l) 0 = s := rfl
theorem lst_get {l : List Stp} {i : Nat} (h : i < l.length) : lst l i = l[i] := by unfold lst; simp [h]
theorem keysE_all {K : Nat → ByteArray} : ∀ {n : Nat}, keysE K n = 0 → ∀ i, i < n → keyE K i = 0 := by
  intro n
  induction n with
  | zero => intro _ i hi; exact absurd hi (Nat.not_lt_zero _)
  | succ n ih =>
    intro h i hi
    have h' : (if keysE K n ≠ 0 then keysE K n else keyE K n) = 0 := h
    by_cases q : keysE K n = 0
    · rw [if_neg (by simp [q])] at h'
      by_cases e : i = n
      · rw [e]; exact h'
      · exact ih q i (by omega)
    · rw [if_pos q] at h'
      exact absurd h' q
theorem keyE_parts {K : Nat → ByteArray} {i : Nat} (h : keyE K i = 0) : utfB (K i) = true ∧ (K i).size ≤ 1024 ∧ ∀ k, k < i → K k ≠ K i := by
  unfold keyE at h
  split at h
  · exact absurd h (by decide)
  rename_i h1
  split at h
  · exact absurd h (by decide)
  rename_i h2
  split at h
  · exact absurd h (by decide)
  rename_i h3
  exact ⟨by simpa using h1, by omega, fun k hk e => h3 ⟨k, hk, e⟩⟩
theorem oneE_keys {T : Vt} (h : oneE T = 0) : keysE T.K T.h.fn = 0 := by
  unfold oneE at h
  split at h
  · exact absurd h (by decide)
  split at h
  · exact absurd h (by decide)
  split at h
  · exact absurd h (by decide)
  split at h
  · exact absurd h (by decide)
  exact h
theorem good_key {h : Vh} {Y : Nat → Int} {L : Nat → Vt} {K : Nat → ByteArray} {F : Nat → Vt} (hg : (Vt.mk h Y L K F).good) {i : Nat} (hi : i < h.fn) : utfB (K i) = true ∧ (K i).size ≤ 1024 ∧ fidx K (K i) h.fn = i := by
  have hk := keysE_all (oneE_keys hg.1) i hi
  obtain ⟨a, b, c⟩ := keyE_parts hk
  exact ⟨a, b, fidx_first c rfl hi⟩
theorem good_lk {h : Vh} {Y : Nat → Int} {L : Nat → Vt} {K : Nat → ByteArray} {F : Nat → Vt} (hg : (Vt.mk h Y L K F).good) (hl : 0 < h.ln) : h.k = 6 :=
  Classical.byContradiction fun q => by have e : h.ln = 0 := (Vh.own_parts (oneE_own hg.1)).2.2.2.2.2.2.2.1 q; omega
theorem good_fk {h : Vh} {Y : Nat → Int} {L : Nat → Vt} {K : Nat → ByteArray} {F : Nat → Vt} (hg : (Vt.mk h Y L K F).good) (hl : 0 < h.fn) : h.k = 7 :=
  Classical.byContradiction fun q => by have e : h.fn = 0 := (Vh.own_parts (oneE_own hg.1)).2.2.2.2.2.2.2.2 q; omega
theorem find_stI {h : Vh} {Y : Nat → Int} {L : Nat → Vt} {K : Nat → ByteArray} {F : Nat → Vt} (hg : (Vt.mk h Y L K F).good) {i : Nat} (hi : i < h.ln) : (Vt.mk h Y L K F).find (stI i) = ((i : Int), 0) ∧ (Vt.mk h Y L K F).part i = L i := by
  have k6 := good_lk hg (by omega)
  exact ⟨find_at rfl k6 (fun q => by rcases q with q | q; { have : (stI i).n = (i : Int) := rfl; omega }; { have e1 : (Vt.mk h Y L K F).h.ln = h.ln := rfl; have e2 : (stI i).n = (i : Int) := rfl; omega }), if_pos k6⟩
theorem find_stK {h : Vh} {Y : Nat → Int} {L : Nat → Vt} {K : Nat → ByteArray} {F : Nat → Vt} (hg : (Vt.mk h Y L K F).good) {i : Nat} (hi : i < h.fn) : (Vt.mk h Y L K F).find (stK (K i)) = ((i : Int), 0) ∧ (Vt.mk h Y L K F).part i = F i := by
  have k7 := good_fk hg (by omega)
  have e := (good_key hg hi).2.2
  refine ⟨?_, if_neg (by rw [show (Vt.mk h Y L K F).h.k = 7 from k7]; decide)⟩
  have := find_key (T := Vt.mk h Y L K F) (s := stK (K i)) rfl k7 (by show fidx K (K i) h.fn < h.fn; omega)
  rw [this]
  show (((fidx K (K i) h.fn : Nat) : Int), (0 : Int)) = _
  rw [e]
/-- What comes in a walk is what its path leads to. -/
theorem Vt.walk_at : ∀ {T : Vt}, T.good → ∀ {d : Nat}, T.upto d → T.size ≤ 65536 → ∀ {q r : List Stp} {U : Vt}, (r, U) ∈ T.walk q → ∃ s : List Stp, r = q ++ s ∧ T.atN (lst s) s.length = (U, 0) ∧ s.length + 1 ≤ d ∧ ∀ x, x ∈ s → stepOk x := by
  intro T
  induction T with
  | nil => intro _ d _ _ q r U h; exact absurd h (by simp [Vt.walk])
  | mk h Y L K F ihL ihF =>
    intro hg d hu hsz q r U hm
    obtain ⟨hd, huL, huF⟩ := hu
    rw [Vt.walk] at hm
    rcases List.mem_cons.1 hm with e | hm
    · injection e with e1 e2
      subst e1 e2
      exact ⟨[], by simp, rfl, by simp; omega, fun x hx => absurd hx (by simp)⟩
    rcases List.mem_append.1 hm with hm | hm
    · obtain ⟨i, hi, hm⟩ := List.mem_flatMap.1 hm
      have hi' : i < h.ln := List.mem_range.1 hi
      have k6 := good_lk hg (by omega)
      have hle : h.ln ≤ (Vt.mk h Y L K F).size ∧ (L i).size ≤ (Vt.mk h Y L K F).size := by
        have e1 : (Vt.mk h Y L K F).kn = h.ln := if_neg (by rw [show (Vt.mk h Y L K F).h.k = 6 from k6]; decide)
        have e2 : (Vt.mk h Y L K F).kid i = L i := if_neg (by rw [show (Vt.mk h Y L K F).h.k = 6 from k6]; decide)
        have := Vt.size_kid (T := Vt.mk h Y L K F) (by intro e; cases e) (i := i) (by omega)
        have h2 := Vt.size_eq (T := Vt.mk h Y L K F) (by intro e; cases e)
        have h3 : h.ln ≤ sumN (fun i => ((Vt.mk h Y L K F).kid i).size) h.ln := by
          have : ∀ n, n ≤ sumN (fun i => ((Vt.mk h Y L K F).kid i).size) n := by
            intro n
            induction n with
            | zero => exact Nat.le_refl _
            | succ n ih =>
              have : 1 ≤ ((Vt.mk h Y L K F).kid n).size := by cases hq : (Vt.mk h Y L K F).kid n with | nil => exact Nat.le_refl _ | mk _ _ _ _ _ => unfold Vt.size; omega
              rw [sumN]; omega
          exact this _
        rw [e1] at h2
        rw [e2] at this
        omega
      obtain ⟨s, e, ha, hl, hs⟩ := ihL i (hg.2.1 i hi') (huL i hi') (by omega) hm
      obtain ⟨hf, hp⟩ := find_stI hg hi'
      refine ⟨stI i :: s, by rw [e]; simp, ?_, by simp only [List.length_cons]; omega, fun x hx => ?_⟩
      · rw [List.length_cons, Vt.atN_shift (S := lst (stI i :: s)) (by rw [lst_zero, hf]), lst_zero, hf]
        rw [show (((i : Int), (0 : Int)).1).toNat = i from Int.toNat_natCast i, hp]
        exact ha
      · rcases List.mem_cons.1 hx with rfl | hx
        · unfold stepOk
          rw [if_pos (show (stI i).ix = true from rfl)]
          exact ⟨by show ByteArray.toList ⟨#[]⟩ = []; rw [Lib.toList_data], by show (0 : Int) ≤ (i : Int); omega, by show (i : Int) ≤ 65536; omega⟩
        · exact hs x hx
    · obtain ⟨i, hi, hm⟩ := List.mem_flatMap.1 hm
      have hi' : i < h.fn := List.mem_range.1 hi
      have k7 := good_fk hg (by omega)
      have hle : (F i).size ≤ (Vt.mk h Y L K F).size := by
        have e1 : (Vt.mk h Y L K F).kn = h.fn := if_pos k7
        have e2 : (Vt.mk h Y L K F).kid i = F i := if_pos k7
        have := Vt.size_kid (T := Vt.mk h Y L K F) (by intro e; cases e) (i := i) (by omega)
        rw [e2] at this
        omega
      obtain ⟨s, e, ha, hl, hs⟩ := ihF i (hg.2.2 i hi') (huF i hi') (by omega) hm
      obtain ⟨hf, hp⟩ := find_stK hg hi'
      refine ⟨stK (K i) :: s, by rw [e]; simp, ?_, by simp only [List.length_cons]; omega, fun x hx => ?_⟩
      · rw [List.length_cons, Vt.atN_shift (S := lst (stK (K i) :: s)) (by rw [lst_zero, hf]), lst_zero, hf]
        rw [show (((i : Int), (0 : Int)).1).toNat = i from Int.toNat_natCast i, hp]
        exact ha
      · rcases List.mem_cons.1 hx with rfl | hx
        · unfold stepOk
          rw [if_neg (by simp [stK])]
          exact ⟨rfl, (good_key hg hi').2.1, (good_key hg hi').1⟩
        · exact hs x hx
theorem flat_len {α : Type} (f : Nat → List α) : ∀ n, ((List.range n).flatMap f).length = sumN (fun i => (f i).length) n := by
  intro n
  induction n with
  | zero => rfl
  | succ n ih => rw [List.range_succ, List.flatMap_append, List.length_append, ih, sumN]; simp
/-- As many come as there are values. -/
theorem Vt.walk_len : ∀ {T : Vt}, T.good → T.whole → ∀ q, (T.walk q).length = T.size := by
  intro T
  induction T with
  | nil => intro _ hw q; exact hw.elim
  | mk h Y L K F ihL ihF =>
    intro hg hw q
    rw [Vt.walk, List.length_cons, List.length_append, flat_len, flat_len]
    have e1 : sumN (fun i => ((L i).walk (q ++ [stI i])).length) h.ln = sumN (fun i => (L i).size) h.ln := sumN_congr fun i hi => ihL i (hg.2.1 i hi) (hw.1 i hi) _
    have e2 : sumN (fun i => ((F i).walk (q ++ [stK (K i)])).length) h.fn = sumN (fun i => (F i).size) h.fn := sumN_congr fun i hi => ihF i (hg.2.2 i hi) (hw.2 i hi) _
    rw [e1, e2]
    by_cases k7 : h.k = 7
    · have z : h.ln = 0 := (Vh.own_parts (oneE_own hg.1)).2.2.2.2.2.2.2.1 (by show h.k ≠ 6; omega)
      rw [Vt.size, if_pos k7, z]
      simp [sumN]; omega
    · have z : h.fn = 0 := (Vh.own_parts (oneE_own hg.1)).2.2.2.2.2.2.2.2 k7
      rw [Vt.size, if_neg k7, z]
      simp [sumN]; omega
end Go.Proofs.Ytfkfboiblgoamaa
/- Paths put together, walked: path.Join, path.At, path.Key, datakitref09.Longer. -/
namespace Go.Proofs.Ytfkfboiblgoamaa
open Go.RowKit
set_option linter.unusedSimpArgs false
set_option linter.unusedVariables false

def Pth.val (p : Pth) : Value := .slice p.a p.n p.c
def Pth.steps (p : Pth) : List Stp := (List.range p.n).map p.S
theorem Pth.steps_len (p : Pth) : p.steps.length = p.n := by simp [Pth.steps]
theorem Pth.steps_get {p : Pth} {i : Nat} (h : i < p.n) : p.S i = lst p.steps i := by
  rw [lst_get (by rw [Pth.steps_len]; exact h)]
  simp [Pth.steps]
/-- A path in new memory. -/
def PthOut (q : List Stp) (w : World) (e : Ending) (w' : World) : Prop :=
  ∃ r : Pth, e = .returned (.slice r.a r.n r.c) ∧ r.In w' w'.heap.size ∧ r.steps = q ∧ (0 < r.n → w.heap.size ≤ r.b) ∧ Below w.heap.size w w'
theorem Try.infoStp : (Try.prog.info? 59).map (fun i => (i.zero, i.size, i.bytes)) = some (some (.agg #[.bool false, .string ⟨#[]⟩, .int .i64 0]), 3, 32) := by kernel_rfl
theorem stp_sz (s : Stp) : s.cells.size = 3 := rfl
theorem stp_one (s : Stp) : ∀ u ∈ s.cells.toList, u.oneCell' = true := by
  intro u hu
  simp only [Stp.cells, List.mem_cons, List.not_mem_nil, or_false] at hu
  rcases hu with rfl | rfl | rfl <;> rfl
/-- A row of steps that a call has made is a path. -/
theorem pth_of {w W : World} {v : Value} {q : List Stp} (hr : W.ownsRow w.heap.size 59 3 v q.length (catN (fun i => (lst q i).cells) q.length)) (hn : q.length ≤ 1048576) (hok : ∀ s, s ∈ q → s.ok) (hb : Below w.heap.size w W) : PthOut q w (.returned v) W := by
  obtain ⟨a, c, b, rfl, hcc, ha, hl⟩ := own_lies (fun i => stp_sz (lst q i)) hr
  refine ⟨⟨a, q.length, c, b, 0, lst q⟩, rfl, ⟨fun h => ⟨(ha h).1, (ha h).2.2⟩, ⟨hn, hcc⟩, fun i hi => ⟨?_, ?_⟩⟩, ?_, fun h => (ha h).2.1, hb⟩
  · show LiesAt W b (0 + i * 3) (lst q i).cells
    rw [Nat.zero_add]
    exact hl i hi
  · show (lst q i).ok
    rw [lst_get hi]
    exact hok _ (List.getElem_mem hi)
  · refine List.ext_getElem (by simp [Pth.steps]) fun i h1 h2 => ?_
    simp [Pth.steps, lst_get h2]
theorem catN_split {f : Nat → Array Value} {m n : Nat} {g h : Nat → Array Value} (hg : ∀ i, i < m → f i = g i) (hh : ∀ i, i < n → f (m + i) = h i) : catN f (m + n) = catN g m ++ catN h n := by
  rw [catN_append, catN_congr hg, catN_congr hh]
theorem lst_left {a b : List Stp} {i : Nat} (h : i < a.length) : lst (a ++ b) i = lst a i := by unfold lst; simp [List.getD_eq_getElem?_getD, List.getElem?_append_left h]
theorem lst_right {a b : List Stp} (i : Nat) : lst (a ++ b) (a.length + i) = lst b i := by unfold lst; rw [List.getD_eq_getElem?_getD, List.getD_eq_getElem?_getD, List.getElem?_append_right (Nat.le_add_right _ _), Nat.add_sub_cancel_left]
set_option maxHeartbeats 4000000 in
set_option maxRecDepth 100000 in
theorem join_any {p q : Pth} {top : Nat} {w : World} (hp : p.In w top) (hq : q.In w top) (ht : top ≤ w.heap.size) (hn : p.n + q.n ≤ 1048576) :
    Calls Try.prog 31 #[.slice p.a p.n p.c, .slice q.a q.n q.c] w (PthOut (p.steps ++ q.steps) w) := by
  obtain ⟨i0, hi0, hz0, hz1, hz2⟩ := info_parts Try.infoStp
  have hokp : ∀ s, s ∈ p.steps ++ q.steps → s.ok := fun s hs => by
    rcases List.mem_append.1 hs with hs | hs
    · obtain ⟨i, hi, rfl⟩ := List.mem_map.1 hs
      exact (hp.2.2 i (List.mem_range.1 hi)).2
    · obtain ⟨i, hi, rfl⟩ := List.mem_map.1 hs
      exact (hq.2.2 i (List.mem_range.1 hi)).2
  have lp := p.steps_len
  have lq := q.steps_len
  have HE : Hid (∀ (v : Value) (W : World), W.ownsRow w.heap.size 59 3 v (p.n + q.n) (catN (fun i => (p.S i).cells) p.n ++ catN (fun i => (q.S i).cells) q.n) → Below w.heap.size w W → PthOut (p.steps ++ q.steps) w (.returned v) W) := Lib.hid fun v W ho hb => by
    refine pth_of ?_ (by rw [List.length_append]; omega) hokp hb
    rw [List.length_append, lp, lq, catN_split (g := fun i => (p.S i).cells) (h := fun i => (q.S i).cells) (fun i hi => by rw [lst_left (by omega), ← Pth.steps_get hi]) (fun i hi => by rw [show p.n + i = p.steps.length + i by omega, lst_right, ← Pth.steps_get hi])]
    exact ho
  have s1 := Lib.hid (fun (h : 0 < p.n) => (⟨⟨p.b, p.o, none⟩, (hp.1 h).1, rowL_src (fun j => stp_sz (p.S j)) (fun j hj => (hp.2.2 j hj).1)⟩ : ∃ ad, p.a = some ad ∧ ∀ j u, (catN (fun j => (p.S j).cells) p.n)[j]? = some u → w.cell? (ad.add j) = some u))
  have s2 := Lib.hid (catN_one (fun j => stp_one (p.S j)) p.n)
  have s0 := Lib.hid (catN_len (fun j => stp_sz (p.S j)) p.n)
  have s3 : Hid (p.n ≤ maxLen) := Lib.hid (by unfold maxLen; omega)
  have s4 : Hid (p.n * 32 ≤ 140737488355328) := Lib.hid (by omega)
  have s5 : Hid (w.heap.size ≤ w.heap.size) := Lib.hid (Nat.le_refl _)
  have t1 := Lib.hid (fun (w1 : World) (hb : Below w.heap.size w w1) (h : 0 < q.n) => (⟨⟨q.b, q.o, none⟩, (hq.1 h).1, rowL_src (fun j => stp_sz (q.S j)) (fun j hj => (Pth.In.below hq (hb.mono ht)).2.2 j hj |>.1)⟩ : ∃ ad, q.a = some ad ∧ ∀ j u, (catN (fun j => (q.S j).cells) q.n)[j]? = some u → w1.cell? (ad.add j) = some u))
  have t2 := Lib.hid (catN_one (fun j => stp_one (q.S j)) q.n)
  have t0 := Lib.hid (catN_len (fun j => stp_sz (q.S j)) q.n)
  have t3 : Hid (p.n + q.n ≤ maxLen) := Lib.hid (by unfold maxLen; omega)
  have t4 : Hid ((p.n + q.n) * 32 ≤ 140737488355328) := Lib.hid (by omega)
  clear hp hq hokp lp lq hn
  go_enter Try.func31, Try.ntmps31
  go_wp2_with (first | (at_builtin; refine wpList_append_fresh _ rfl _ _ 37 rfl w.heap.size 59 i0 _ 3 32 Try.underlying37 hi0 hz0 hz1 hz2 rfl (by decide) rfl p.a p.n p.c (catN (fun j => (p.S j).cells) p.n) rfl s0.out s1.out s2.out s3.out s4.out s5.out ?_))
  intro v1 w1 hown1 hgrow1 _
  have hb1 : Below w.heap.size w w1 := (Below.refl _ w).grown hgrow1 (Nat.le_refl _) (fun g hg => by cases hg)
  have hs1 := Lib.hid hb1.size
  have O1 := Lib.hid hown1
  clear s0 s1 s2 s3 s4 s5 hown1 hgrow1
  go_wp2_with (first | (at_builtin; refine wpList_append_any _ rfl _ _ 37 rfl w.heap.size 59 i0 _ 3 32 Try.underlying37 hi0 hz0 hz1 hz2 rfl (by decide) _ _ _ rfl O1.out q.a q.n q.c (catN (fun j => (q.S j).cells) q.n) rfl t0.out (t1.out w1 hb1) t2.out t3.out t4.out hs1.out ?_))
  intro v2 w2 hown2 hgrow2 _
  have hb2 := hb1.grown hgrow2 hs1.out (fun g hg => (O1.out.lt g hg).1)
  go_wp2
  go_ret
  exact HE.out _ _ hown2 hb2
/-- A step as the result. -/
theorem ret_stp {fn : Func} {p : Tmp} (h : fn.results = #[.cell p 59]) {tmps : Array Value} {W : World} {B : Nat} {s : Stp} (hp : tmps.getD p undef = .pointer (some ⟨B, 0, none⟩)) (H : Whole W B 59 s.cells) :
    (results fn tmps).run Try.prog W = .ok (.agg s.cells) W :=
  results_cell_row h tmps W B 59 s.cells (0, 0) _ hp H Try.underlying59 rfl stp_size
theorem stp_all (s : Stp) : s.cells.all (·.oneCell') = true := by simp [Stp.cells, Value.oneCell']
set_option maxHeartbeats 1000000 in
theorem at_step (i : Int) (w : World) : Calls Try.prog 47 #[.int .i64 i] w fun e w' => e = .returned (.agg #[.bool true, .string ⟨#[]⟩, .int .i64 i]) ∧ Below w.heap.size w w' := by
  have Y := Whole.new w 59 #[.bool false, .string ⟨#[]⟩, .int .i64 0]
  have hone := Lib.hid (stp_all ⟨true, ⟨#[]⟩, i⟩)
  go_enter Try.func47, Try.ntmps47
  go_wp2_with (refine wpList_store_row rfl 59 _ _ rfl w.heap.size (Stp.cells ⟨true, ⟨#[]⟩, i⟩) rfl rfl 59 _ Y stp_size rfl hone.out ?_)
  exact bodyPost_ret (v := .agg (Stp.cells ⟨true, ⟨#[]⟩, i⟩)) (ret_stp (p := 2) rfl rfl (Y.setRow _)) rfl ⟨rfl, below_setRow ((Below.refl _ w).alloc (Nat.le_refl _) _) (Nat.le_refl _) _⟩
set_option maxHeartbeats 1000000 in
theorem key_step (k : ByteArray) (w : World) : Calls Try.prog 48 #[.string k] w fun e w' => e = .returned (.agg #[.bool false, .string k, .int .i64 0]) ∧ Below w.heap.size w w' := by
  have Y := Whole.new w 59 #[.bool false, .string ⟨#[]⟩, .int .i64 0]
  have hone := Lib.hid (stp_all ⟨false, k, 0⟩)
  go_enter Try.func48, Try.ntmps48
  go_wp2_with (refine wpList_store_row rfl 59 _ _ rfl w.heap.size (Stp.cells ⟨false, k, 0⟩) rfl rfl 59 _ Y stp_size rfl hone.out ?_)
  exact bodyPost_ret (v := .agg (Stp.cells ⟨false, k, 0⟩)) (ret_stp (p := 2) rfl rfl (Y.setRow _)) rfl ⟨rfl, below_setRow ((Below.refl _ w).alloc (Nat.le_refl _) _) (Nat.le_refl _) _⟩
set_option maxHeartbeats 4000000 in
set_option maxRecDepth 100000 in
theorem longer_any {p : Pth} {s : Stp} {top : Nat} {w : World} (hp : p.In w top) (hs : s.ok) (ht : top ≤ w.heap.size) (hn : p.n + 1 ≤ 1048576) :
    Calls Try.prog 46 #[.slice p.a p.n p.c, .agg s.cells] w (PthOut (p.steps ++ [s]) w) := by
  obtain ⟨i0, hi0, hz0, hz1, hz2⟩ := info_parts Try.infoStp
  have hokp : ∀ x, x ∈ p.steps ++ [s] → x.ok := fun x hx => by
    rcases List.mem_append.1 hx with hx | hx
    · obtain ⟨i, hi, rfl⟩ := List.mem_map.1 hx
      exact (hp.2.2 i (List.mem_range.1 hi)).2
    · rw [List.mem_singleton.1 hx]; exact hs
  have lp := p.steps_len
  have HE : Hid (∀ (v : Value) (W : World), W.ownsRow w.heap.size 59 3 v (p.n + 1) (catN (fun i => (p.S i).cells) p.n ++ s.cells.toList) → Below w.heap.size w W → PthOut (p.steps ++ [s]) w (.returned v) W) := Lib.hid fun v W ho hb => by
    refine pth_of ?_ (by rw [List.length_append]; simp; omega) hokp hb
    rw [List.length_append, lp, show [s].length = 1 from rfl, catN_split (g := fun i => (p.S i).cells) (h := fun _ => s.cells) (fun i hi => by rw [lst_left (by omega), ← Pth.steps_get hi]) (fun i hi => by obtain rfl : i = 0 := (by omega); rw [← lp, lst_right]; rfl)]
    exact ho
  have Hb0 := (Below.refl w.heap.size w).alloc (Nat.le_refl _) (.cells s.cells 59)
  have S0 := Whole.new w 59 s.cells
  have hown0 : ((w.alloc (.cells s.cells 59)).alloc (.cells #[] 59)).ownsRow w.heap.size 59 3 (.slice (some ⟨(w.alloc (.cells s.cells 59)).heap.size, 0, none⟩) 0 0) 0 [] :=
    ⟨rfl, .inr ⟨_, 0, #[], rfl, by simp, World.alloc_heap_new _ _, Nat.le_refl _, Nat.zero_le _, rfl, rfl⟩⟩
  have s1 := Lib.hid (fun (w1 : World) (hb : Below w.heap.size w w1) (h : 0 < p.n) => (⟨⟨p.b, p.o, none⟩, (hp.1 h).1, rowL_src (fun j => stp_sz (p.S j)) (fun j hj => (Pth.In.below hp (hb.mono ht)).2.2 j hj |>.1)⟩ : ∃ ad, p.a = some ad ∧ ∀ j u, (catN (fun j => (p.S j).cells) p.n)[j]? = some u → w1.cell? (ad.add j) = some u))
  have s2 := Lib.hid (catN_one (fun j => stp_one (p.S j)) p.n)
  have s0 := Lib.hid (catN_len (fun j => stp_sz (p.S j)) p.n)
  have s3 : Hid (0 + p.n ≤ maxLen) := Lib.hid (by unfold maxLen; omega)
  have s4 : Hid ((0 + p.n) * 32 ≤ 140737488355328) := Lib.hid (by omega)
  have t2 := Lib.hid (stp_one s)
  have t3 : Hid (p.n + 1 ≤ maxLen) := Lib.hid (by unfold maxLen; omega)
  have t4 : Hid ((p.n + 1) * 32 ≤ 140737488355328) := Lib.hid (by omega)
  clear hp hokp lp hn hs
  have HB1 := Hb0.alloc (by simp) (.cells #[] 59)
  have HS1 := Lib.hid HB1.size
  have O0 := Lib.hid hown0
  have S1 := S0.alloc (.cells #[] 59)
  clear hown0 Hb0 S0
  simp only [Stp.cells] at HB1 HS1 O0 S1 ⊢
  rw [World.size_alloc] at O0
  go_enter Try.func46, Try.ntmps46
  go_wp2_with (first | (at_builtin; refine wpList_append_any _ rfl _ _ 37 rfl w.heap.size 59 i0 _ 3 32 Try.underlying37 hi0 hz0 hz1 hz2 rfl (by decide) _ _ _ rfl O0.out p.a p.n p.c (catN (fun j => (p.S j).cells) p.n) rfl s0.out (s1.out _ HB1) s2.out s3.out s4.out HS1.out ?_))
  intro v1 w1 hown1 hgrow1 _
  have hb1 := HB1.grown hgrow1 HS1.out (fun g hg => (O0.out.lt g hg).1)
  obtain ⟨a1, c1, b1, rfl, -, -, -⟩ := own_lies (fun j => stp_sz (p.S j)) hown1
  have S2 := S1.kept hgrow1 (fun e => by have := (O0.out.lt _ e.symm).1; first | omega | (cases e; done) | (simp [Value.ownBlock] at e))
  have hs2 := S2.lt
  have hsz1 := Lib.hid (hb1.alloc hb1.size (.cells #[.bool s.ix, .string s.key, .int .i64 s.n] 59)).size
  have O1 := Lib.hid (own_below hown1 ((Below.refl _ w1).alloc (Nat.le_refl _) (.cells #[.bool s.ix, .string s.key, .int .i64 s.n] 59)))
  have t1 := Lib.hid (cells_new w1 59 s.cells)
  have gB := hb1.alloc hb1.size (.cells #[.bool s.ix, .string s.key, .int .i64 s.n] 59)
  clear s0 s1 s2 s3 s4 HS1 O0 hown1 hgrow1 S1 HB1 hb1
  obtain ⟨k0, k1, k2⟩ := Whole.b3 (s := s) S2
  simp only [Stp.cells] at t1 t2
  go_wp2_with (first | (at_builtin; refine wpList_append_any _ rfl _ _ 37 rfl w.heap.size 59 i0 _ 3 32 Try.underlying37 hi0 hz0 hz1 hz2 rfl (by decide) _ _ _ rfl O1.out (some ⟨w1.heap.size, 0, none⟩) 1 1 [.bool s.ix, .string s.key, .int .i64 s.n] rfl rfl (fun _ => ⟨_, rfl, t1.out⟩) t2.out t3.out t4.out hsz1.out ?_))
  intro v2 w2 hown2 hgrow2 _
  have hb2 := gB.grown hgrow2 hsz1.out (fun g hg => (O1.out.lt g hg).1)
  go_wp2
  go_ret
  exact HE.out _ _ hown2 hb2
end Go.Proofs.Ytfkfboiblgoamaa
