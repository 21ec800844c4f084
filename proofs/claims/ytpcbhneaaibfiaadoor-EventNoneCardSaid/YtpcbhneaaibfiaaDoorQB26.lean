/- Laid together for a claim: EvAdd, VtFreshA, VtApp, VtStpL, VtRemM, VtPthM, EvPthM. -/
import Derived.Test.YtpcbhneaaibfiaaDoorQB22
import Derived.Test.YtpcbhneaaibfiaaDoorQB23
import Derived.Test.YtpcbhneaaibfiaaDoorQB24
import Derived.Test.YtpcbhneaaibfiaaDoorQB25
import Derived.Test.YtpcbhneaaibfiaaDoorQB05
import Derived.OwnWalkIn
import Derived.Test.YtpcbhneaaibfiaaDoorQB04
import Derived.Test.YtpcbhneaaibfiaaDoorQB11
import Derived.Test.YtpcbhneaaibfiaaDoorQB09
import Derived.Test.YtpcbhneaaibfiaaDoorQB20
/- An event is added: Add, for any event. -/
namespace Go.Proofs.YtpcbhneaaibfiaaDoor

theorem add_any {B0 bb : Nat} {A O : Nat → Prop} {W : World} {s : Bst} {x : Ev} (h : BInv B0 bb A O W s) (hinv : s.inv) (hx : x.ok) (hV : x.V.In W B0) (hB0 : B0 ≤ W.heap.size) :
    Calls Tryd.prog 23 #[.pointer (some ⟨bb, 0, none⟩), .agg x.cells] W (BOut B0 bb A O W (addS s x) (.int .i64 (addE s x))) := by
  have hV' := hV.up hB0
  cases hbd : s.bad with
  | true => exact add_bad h hx hV' hbd
  | false =>
    by_cases hs : shapeE x = 0
    · by_cases hf : followE s x = 0
      · by_cases hk : begE x
        · by_cases hd : 48 ≤ s.d
          · exact add_deep h hx hV' hbd hs hf hk hd
          · by_cases hn : 65536 ≤ s.nd
            · exact add_many h hx hV' hbd hs hf hk (by omega) hn
            · have ha : addE s x = 0 := by
                unfold addE
                rw [if_neg (by rw [hbd]; decide), if_neg (by simp [hs]), if_neg (by simp [hf]), if_neg (by omega), if_neg (by omega)]
              rcases hk with hk | hk | hk
              · exact add_one h hinv hx hV hB0 ha hk
              · exact add_beg2 h hinv hx hV hB0 ha hk
              · exact add_beg4 h hinv hx hV hB0 ha hk
        · have ha : addE s x = 0 := by
            unfold addE
            rw [if_neg (by rw [hbd]; decide), if_neg (by simp [hs]), if_neg (by simp [hf]), if_neg (fun q => hk q.1), if_neg (fun q => hk q.1)]
          have hkk := (shapeE_ok hs).1
          unfold begE at hk
          have hk3 : x.k = 3 ∨ x.k = 5 ∨ x.k = 6 := by omega
          rcases hk3 with hk3 | hk3 | hk3
          · exact add_end3 h hinv hx hV hB0 ha hk3
          · exact add_end5 h hinv hx hV hB0 ha hk3
          · exact add_key h hinv hx hV hB0 ha hk3
      · exact add_fol h hx hV' hbd hs hf
    · exact add_shape h hx hV' hbd hs
theorem inv_bad {s : Bst} (h : s.inv) : Bst.inv { s with bad := true } := ⟨ok_bad h.ok, h.dn, h.cnt, h.keyed, h.lst, h.val, h.out⟩
theorem add_inv {s : Bst} {x : Ev} (h : s.inv) (hx : x.ok) (hw : x.V.whole) : (addS s x).inv := by
  unfold addS
  split
  · exact h
  split
  · rename_i q; exact (step_inv h hx hw q).1
  · exact inv_bad h
theorem inv_zero : Bst.zero.inv := ⟨⟨Nat.zero_le _, Nat.zero_le _, fun i hi => absurd hi (Nat.not_lt_zero _), fun q => (by cases q)⟩, fun q => (by cases q), fun i hi => absurd hi (Nat.not_lt_zero _), fun i hi => absurd hi (Nat.not_lt_zero _), fun i hi => absurd hi (Nat.not_lt_zero _), fun i hi => absurd hi (Nat.not_lt_zero _), fun q => (by cases q)⟩
end Go.Proofs.YtpcbhneaaibfiaaDoor
/- An append of a whole slice to nil. -/
namespace Go.Proofs.YtpcbhneaaibfiaaDoor
open Go.ChangeShapes Go.WideShapes Go.Joins Go.Deep Go.RowKit

theorem run_append_fresh {P : Program} (w : World) (base : Nat) (t ty e : TypeId) (i : TypeInfo) (z : Value) (size bytes : Nat) (ht : P.underlying t = some (.slice e)) (hi : P.info? e = some i) (hz : i.zero = some z)
    (hsize : i.size = size) (hby : i.bytes = bytes) (hzs : z.cells.size = size) (hsz : 0 < size) (xa : Option Addr) (m c : Nat) (news : List Value) (hl : news.length = m * size)
    (hnews : 0 < m → ∃ ad, xa = some ad ∧ ∀ j u, news[j]? = some u → w.cell? (ad.add j) = some u) (h1 : ∀ u ∈ news, u.oneCell' = true) (h63 : m ≤ maxLen) (hbytes : m * bytes ≤ 140737488355328) (hbase : base ≤ w.heap.size) :
    ∃ v' w', (Builtin.append_ #[t, t] ty #[.slice none 0 0, .slice xa m c]).run P w = .ok v' w' ∧ w'.ownsRow base e size v' m news ∧ w.grownBy w' none ∧ (v'.ownBlock = none ∨ v'.ownBlock = some w.heap.size) := by
  by_cases hm : m = 0
  · subst hm
    have hn : news = [] := List.eq_nil_of_length_eq_zero (by simpa using hl)
    subst hn
    refine ⟨.slice none 0 0, w, ?_, World.ownsRow_nil w base e size, ⟨rfl, rfl, rfl, Nat.le_refl _, fun _ _ _ => rfl⟩, .inl rfl⟩
    cases xa <;> simp [Builtin.append_, run_underlying ht, sizeOf, typeInfo, hi, Builtin.lenOf, Builtin.firstCells, loadCells, loadCellsFrom]
  · obtain ⟨ad, rfl, hn⟩ := hnews (by omega)
    have h := run_append_told (P := P) w base t ty e i z size bytes ht hi hz hsize hby hzs hsz (.slice none 0 0) 0 [] (World.ownsRow_nil w base e size) ad m c news hl hn h1 (by omega) (by rw [Nat.zero_add]; exact hbytes) hbase (by omega)
    obtain ⟨v', w', hr, h2, h3, h4⟩ := h
    rw [Nat.zero_add, List.nil_append] at h2
    exact ⟨v', w', hr, h2, h3, h4⟩
theorem wpList_append_fresh {P : Program} (w : World) {ops : Array Oper} {rest : List Oper} {o : Oper} {a : Act} {Q : Exit → Act → World → Prop} (hgd : o.guard = none) (s x : Operand) (t : TypeId)
    (ho : o.op = .call { callee := .builtin .append, args := #[s, x], argTypes := #[t, t] })
    (base : Nat) (e : TypeId) (i : TypeInfo) (z : Value) (size bytes : Nat) (ht : P.underlying t = some (.slice e)) (hi : P.info? e = some i) (hz : i.zero = some z)
    (hsize : i.size = size) (hby : i.bytes = bytes) (hzs : z.cells.size = size) (hsz : 0 < size) (hs : a.eval s = .slice none 0 0)
    (xa : Option Addr) (m c : Nat) (news : List Value) (hx : a.eval x = .slice xa m c) (hl : news.length = m * size) (hnews : 0 < m → ∃ ad, xa = some ad ∧ ∀ j u, news[j]? = some u → w.cell? (ad.add j) = some u) (h1 : ∀ u ∈ news, u.oneCell' = true)
    (h63 : m ≤ maxLen) (hbytes : m * bytes ≤ 140737488355328) (hbase : base ≤ w.heap.size)
    (h : ∀ v' w', w'.ownsRow base e size v' m news → w.grownBy w' none → (v'.ownBlock = none ∨ v'.ownBlock = some w.heap.size) → wpList P ops Q rest (a.put o.dst v') w') : wpList P ops Q (o :: rest) a w := by
  refine wpList_plain hgd fun K hK => ?_
  obtain ⟨v', w', hr, h2, h3, h4⟩ := run_append_fresh (P := P) w base t o.type e i z size bytes ht hi hz hsize hby hzs hsz xa m c news hl hnews h1 h63 hbytes hbase
  unfold Oper.wp execOp
  simp only [ho, resolve, invoke, builtin, Sem.run_bind, Sem.run_pure, Result.andThen_ok, List.map_toArray, List.map_cons, List.map_nil, hs, hx, hr]
  exact hK _ _ (h v' w' h2 h3 h4)
end Go.Proofs.YtpcbhneaaibfiaaDoor
/- An append of any slice, an empty one too, to what a call owns: which block it wrote; also within a round. -/
namespace Go.Proofs.YtpcbhneaaibfiaaDoor
open Go.ChangeShapes Go.WideShapes Go.Joins Go.Deep Go.RowKit

theorem run_append_zero {P : Program} (w : World) (t ty e : TypeId) (i : TypeInfo) (ht : P.underlying t = some (.slice e)) (hi : P.info? e = some i) (b xa : Option Addr) (n c c' : Nat) (hnc : n ≤ c) :
    (Builtin.append_ #[t, t] ty #[.slice b n c, .slice xa 0 c']).run P w = .ok (.slice b n c) w := by
  cases b <;> cases xa <;> simp [Builtin.append_, run_underlying ht, sizeOf, typeInfo, hi, Builtin.lenOf, Builtin.firstCells, loadCells, loadCellsFrom, hnc, storeCells]
theorem run_append_any {P : Program} (w : World) (base : Nat) (t ty e : TypeId) (i : TypeInfo) (z : Value) (size bytes : Nat) (ht : P.underlying t = some (.slice e)) (hi : P.info? e = some i) (hz : i.zero = some z)
    (hsize : i.size = size) (hby : i.bytes = bytes) (hzs : z.cells.size = size) (hsz : 0 < size) (v : Value) (n : Nat) (xs : List Value) (hown : w.ownsRow base e size v n xs)
    (xa : Option Addr) (m c : Nat) (news : List Value) (hl : news.length = m * size) (hnews : 0 < m → ∃ ad, xa = some ad ∧ ∀ j u, news[j]? = some u → w.cell? (ad.add j) = some u) (h1 : ∀ u ∈ news, u.oneCell' = true)
    (h63 : n + m ≤ maxLen) (hbytes : (n + m) * bytes ≤ 140737488355328) (hbase : base ≤ w.heap.size) :
    ∃ v' w', (Builtin.append_ #[t, t] ty #[v, .slice xa m c]).run P w = .ok v' w' ∧ w'.ownsRow base e size v' (n + m) (xs ++ news) ∧ w.grownBy w' v.ownBlock ∧ (v'.ownBlock = v.ownBlock ∨ v'.ownBlock = some w.heap.size) := by
  by_cases hm : m = 0
  · subst hm
    have hn : news = [] := List.eq_nil_of_length_eq_zero (by simpa using hl)
    subst hn
    have hg : w.grownBy w v.ownBlock := ⟨rfl, rfl, rfl, Nat.le_refl _, fun _ _ _ => rfl⟩
    rw [List.append_nil, Nat.add_zero]
    rcases hown.2 with ⟨rfl, rfl⟩ | ⟨g, cap, cur, rfl, _, _, hnc, _⟩
    · exact ⟨_, w, run_append_zero w t ty e i ht hi none xa 0 0 c (Nat.le_refl _), hown, hg, .inl rfl⟩
    · exact ⟨_, w, run_append_zero w t ty e i ht hi (some ⟨g, 0, none⟩) xa n cap c hnc, hown, hg, .inl rfl⟩
  · obtain ⟨ad, rfl, hn⟩ := hnews (by omega)
    exact run_append_told (P := P) w base t ty e i z size bytes ht hi hz hsize hby hzs hsz v n xs hown ad m c news hl hn h1 h63 hbytes hbase (by omega)
theorem wpList_append_any {P : Program} (w : World) {ops : Array Oper} {rest : List Oper} {o : Oper} {a : Act} {Q : Exit → Act → World → Prop} (hgd : o.guard = none) (s x : Operand) (t : TypeId)
    (ho : o.op = .call { callee := .builtin .append, args := #[s, x], argTypes := #[t, t] })
    (base : Nat) (e : TypeId) (i : TypeInfo) (z : Value) (size bytes : Nat) (ht : P.underlying t = some (.slice e)) (hi : P.info? e = some i) (hz : i.zero = some z)
    (hsize : i.size = size) (hby : i.bytes = bytes) (hzs : z.cells.size = size) (hsz : 0 < size)
    (v : Value) (n : Nat) (xs : List Value) (hs : a.eval s = v) (hown : w.ownsRow base e size v n xs)
    (xa : Option Addr) (m c : Nat) (news : List Value) (hx : a.eval x = .slice xa m c) (hl : news.length = m * size) (hnews : 0 < m → ∃ ad, xa = some ad ∧ ∀ j u, news[j]? = some u → w.cell? (ad.add j) = some u) (h1 : ∀ u ∈ news, u.oneCell' = true)
    (h63 : n + m ≤ maxLen) (hbytes : (n + m) * bytes ≤ 140737488355328) (hbase : base ≤ w.heap.size)
    (h : ∀ v' w', w'.ownsRow base e size v' (n + m) (xs ++ news) → w.grownBy w' v.ownBlock → (v'.ownBlock = v.ownBlock ∨ v'.ownBlock = some w.heap.size) → wpList P ops Q rest (a.put o.dst v') w') : wpList P ops Q (o :: rest) a w := by
  refine wpList_plain hgd fun K hK => ?_
  obtain ⟨v', w', hr, h2, h3, h4⟩ := run_append_any (P := P) w base t o.type e i z size bytes ht hi hz hsize hby hzs hsz v n xs hown xa m c news hl hnews h1 h63 hbytes hbase
  unfold Oper.wp execOp
  simp only [ho, resolve, invoke, builtin, Sem.run_bind, Sem.run_pure, Result.andThen_ok, List.map_toArray, List.map_cons, List.map_nil, hs, hx, hr]
  exact hK _ _ (h v' w' h2 h3 h4)
theorem wpListIn_append_any {F : Fence} {nf : Nat} {P : Program} (w : World) {ops : Array Oper} {rest : List Oper} {o : Oper} {a : Act} {Q : Exit → Act → World → Prop} (hgd : o.guard = none) (s x : Operand) (t : TypeId)
    (ho : o.op = .call { callee := .builtin .append, args := #[s, x], argTypes := #[t, t] })
    (base : Nat) (e : TypeId) (i : TypeInfo) (z : Value) (size bytes : Nat) (ht : P.underlying t = some (.slice e)) (hi : P.info? e = some i) (hz : i.zero = some z)
    (hsize : i.size = size) (hby : i.bytes = bytes) (hzs : z.cells.size = size) (hsz : 0 < size)
    (v : Value) (n : Nat) (xs : List Value) (hs : a.eval s = v) (hown : w.ownsRow base e size v n xs)
    (xa : Option Addr) (m c : Nat) (news : List Value) (hx : a.eval x = .slice xa m c) (hl : news.length = m * size) (hnews : 0 < m → ∃ ad, xa = some ad ∧ ∀ j u, news[j]? = some u → w.cell? (ad.add j) = some u) (h1 : ∀ u ∈ news, u.oneCell' = true)
    (h63 : n + m ≤ maxLen) (hbytes : (n + m) * bytes ≤ 140737488355328) (hbase : base ≤ w.heap.size)
    (h : ∀ v' w', w'.ownsRow base e size v' (n + m) (xs ++ news) → w.grownBy w' v.ownBlock → (v'.ownBlock = v.ownBlock ∨ v'.ownBlock = some w.heap.size) → wpListIn F nf P ops Q rest (a.put o.dst v') w') : wpListIn F nf P ops Q (o :: rest) a w := by
  refine wpListIn_plain hgd fun K hK => ?_
  obtain ⟨v', w', hr, h2, h3, h4⟩ := run_append_any (P := P) w base t o.type e i z size bytes ht hi hz hsize hby hzs hsz v n xs hown xa m c news hl hnews h1 h63 hbytes hbase
  unfold Oper.wpIn
  refine ⟨?_, ?_⟩
  · simp [Oper.about, ho, resolve, Target.leads, Sem.run_pure]
  · rw [Oper.semAt_plain F _ _ (by rw [ho]; intro c hc'; cases hc')]
    simp [execOp, ho, resolve, invoke, builtin, hs, hx, hr, Result.andThen]
    exact hK _ _ (h v' w' h2 h3 h4)
end Go.Proofs.YtpcbhneaaibfiaaDoor
/- Steps, and lists of them: plain. -/
namespace Go.Proofs.YtpcbhneaaibfiaaDoor

def stI (i : Nat) : Stp := ⟨true, ⟨#[]⟩, i⟩
def stK (key : ByteArray) : Stp := ⟨false, key, 0⟩
/-- The steps of a list, as a function. -/
def lst (l : List Stp) (i : Nat) : Stp := l.getD i default
theorem lst_cons (s : Stp) (l : List Stp) (i : Nat) : lst (s :: l) (i + 1) = lst l i := rfl
theorem lst_zero (s : Stp) (l : List Stp) : lst (s :: l) 0 = s := rfl
theorem lst_get {l : List Stp} {i : Nat} (h : i < l.length) : lst l i = l[i] := by unfold lst; simp [h]
end Go.Proofs.YtpcbhneaaibfiaaDoor
/- Values without a part: plain. -/
namespace Go.Proofs.YtpcbhneaaibfiaaDoor
open Go.ChangeShapes Go.WideShapes Go.Joins Go.Deep Go.RowKit

def Vt.dropL : Vt → Nat → Vt
  | .nil, _ => .nil
  | .mk h Y L K F, i => .mk { h with ln := h.ln - 1 } Y (fun j => if j < i then L j else L (j + 1)) K F
def Vt.dropF : Vt → Nat → Vt
  | .nil, _ => .nil
  | .mk h Y L K F, i => .mk { h with fn := h.fn - 1 } Y L (fun j => if j < i then K j else K (j + 1)) (fun j => if j < i then F j else F (j + 1))
/-- A value without the part to which a step leads. -/
noncomputable def Vt.wo (T : Vt) (s : Stp) : Vt := if s.ix = true then T.dropL (T.find s).1.toNat else T.dropF (T.find s).1.toNat
theorem catN_append {f : Nat → Array Value} {m : Nat} : ∀ n, catN f (m + n) = catN f m ++ catN (fun j => f (m + j)) n := by
  intro n
  induction n with
  | zero => simp [catN]
  | succ n ih => rw [show m + (n + 1) = (m + n) + 1 by omega, catN, ih, catN, List.append_assoc]
/-- A row copied in two pieces. -/
theorem row_two {W : World} {g n i C : Nat} {t : TypeId} {f : Nat → Array Value} {cur : Array Value} (hf : ∀ j, (f j).size = C) (hi : i ≤ n) (hg : Whole W g t cur) (hs : cur.size = n * C) :
    Whole (W.setRow g (spl cur 0 (catN f i))) g t (spl cur 0 (catN f i)) ∧ (spl cur 0 (catN f i)).size = n * C ∧
      (∀ W', Whole W' g t (spl cur 0 (catN f i)) → ∀ j, j < n → LiesAt (W'.setRow g (spl (spl cur 0 (catN f i)) (i * C) (catN (fun j => f (i + j)) (n - i)))) g (j * C) (f j)) := by
  have hl1 := catN_len hf i
  have hl2 := catN_len (fun j => hf (i + j)) (n - i)
  have hle : i * C ≤ n * C := Nat.mul_le_mul_right C hi
  have hsum : i * C + (n - i) * C = n * C := by rw [← Nat.add_mul]; congr 1; omega
  have hfit1 : 0 + (catN f i).length ≤ cur.size := by omega
  have hsz1 : (spl cur 0 (catN f i)).size = n * C := (spl_size hfit1).trans hs
  have hfit2 : i * C + (catN (fun j => f (i + j)) (n - i)).length ≤ (spl cur 0 (catN f i)).size := by omega
  refine ⟨hg.setRow _, hsz1, fun W' hW' j hj k hk => ?_⟩
  rw [hf] at hk
  rw [(hW'.setRow _).cell]
  by_cases hji : j < i
  · have hlt : j * C + k < i * C := by
      have : (j + 1) * C ≤ i * C := Nat.mul_le_mul_right C hji
      rw [Nat.succ_mul] at this
      omega
    rw [spl_before hfit2 hlt]
    have := spl_in hfit1 (j := j * C + k) (by omega)
    rw [Nat.zero_add] at this
    rw [this]
    exact catN_get hf hk hji
  · have h1 : j * C = i * C + (j - i) * C := by rw [← Nat.add_mul]; congr 1; omega
    have hlt : (j - i) * C + k < (catN (fun j => f (i + j)) (n - i)).length := by
      have : (j - i + 1) * C ≤ (n - i) * C := Nat.mul_le_mul_right C (by omega)
      rw [Nat.succ_mul] at this
      omega
    rw [show j * C + k = i * C + ((j - i) * C + k) by omega, spl_in hfit2 hlt, catN_get (fun j => hf (i + j)) hk (by omega)]
    rw [show i + (j - i) = j by omega]
theorem elem_vals : Tryd.prog.elem 27 = 30 := by kernel_rfl
theorem elem_flds : Tryd.prog.elem 28 = 76 := by kernel_rfl
section
variable {ty el : TypeId} {C : Nat} (hu : Tryd.prog.underlying ty = some (.slice el)) (he : Tryd.prog.elem ty = el) (hs : (Tryd.prog.info? el).map (·.size) = some C)
include hu he hs
/-- The first elements of a slice. -/
theorem slice_head {b o n c i : Nat} (hi : i ≤ c) (hc : 0 < c) (W : World) : (Instr.sliceAt ty (.slice (some ⟨b, o, none⟩) n c) none (some (.int .i64 i)) none).run Tryd.prog W = .ok (.slice (some ⟨b, o, none⟩) i c) W := by
  have hu' : Tryd.prog.underlying ty = some (.slice (Tryd.prog.elem ty)) := by rw [he]; exact hu
  rw [run_sliceAt_slice _ _ _ _ _ _ hu', run_slice_h _ _ _ _ _ hu' .i64 i (by omega) (by omega), he]
  cases hq : Tryd.prog.info? el with
  | none => rw [hq] at hs; cases hs
  | some t =>
    have hi : t.size = C := by rw [hq] at hs; simpa using hs
    have hc' : c ≠ 0 := by omega
    simp [sizeOf, typeInfo, hq, hi, sliced, Result.andThen, hc', Addr.add]
/-- The last elements of a slice. -/
theorem slice_from {b o n c i : Nat} {z : Int} (hz : z = i) (hi : i ≤ n) : ∃ a1 : Addr, (i < n → i < c → a1 = ⟨b, o + i * C, none⟩) ∧
    ∀ W, (Instr.sliceAt ty (.slice (some ⟨b, o, none⟩) n c) (some (.int .i64 z)) none none).run Tryd.prog W = .ok (.slice (some a1) (n - i) (c - i)) W := by
  subst hz
  have hu' : Tryd.prog.underlying ty = some (.slice (Tryd.prog.elem ty)) := by rw [he]; exact hu
  refine ⟨if c = i then ⟨b, o, none⟩ else (⟨b, o, none⟩ : Addr).add (i * C), fun h1 h2 => by rw [if_neg (by omega), add_plain], fun W => ?_⟩
  rw [run_sliceAt_slice _ _ _ _ _ _ hu', run_slice_l _ _ _ _ _ hu' .i64 i (by omega) (by omega), he]
  cases hq : Tryd.prog.info? el with
  | none => rw [hq] at hs; cases hs
  | some t =>
    have hi : t.size = C := by rw [hq] at hs; simpa using hs
    by_cases h : c = i
    · simp [sizeOf, typeInfo, hq, hi, sliced, Result.andThen, h]
    · simp [sizeOf, typeInfo, hq, hi, sliced, Result.andThen, h]
end
/-- The end of a removal of an element. -/
theorem dropL_end {h : Vh} {Y : Nat → Int} {L : Nat → Vt} {K : Nat → ByteArray} {F : Nat → Vt} {w W : World} {n0 gg i : Nat} {M : Nat → Vt} (hT : (Vt.mk h Y L K F).In w n0) (hi : i < h.ln) (hb : Below w.heap.size w W) (hn0 : n0 ≤ w.heap.size) (hgg : w.heap.size ≤ gg) (hglt : gg < W.heap.size)
    (hM : M = fun j => if j < i then L j else L (j + 1)) (hrow : ∀ j, j < h.ln - 1 → LiesAt W gg (j * 13) (M j).h.cells) :
    FnOut ((Vt.mk h Y L K F).dropL i) n0 w (.returned (.agg #[.int .i64 h.k, .bool h.b, .bool h.n, .string h.d, .int .i64 h.e, .int .i64 h.tk, .int .i64 h.td, .int .i64 h.tn, .int .i64 h.tz, .string h.x, .slice h.ba h.bn h.bc, .slice (some ⟨gg, 0, none⟩) (h.ln - 1) (h.ln - 1), .slice h.fa h.fn h.fc])) W := by
  have hok := hT.1
  have hTW := hT.below (hb.mono hn0)
  have hz := hb.size
  have hln := hok.ln
  have hlc := hok.lc
  obtain ⟨h1, h2⟩ := list_anew (S := fun b => b < n0 ∨ w.heap.size ≤ b) (M := M) (c' := h.ln - 1) hT (hb.mono hn0) (by omega) hglt (.inr hgg) (fun b hb => .inl hb) (m := h.ln - 1) (by omega) ⟨Nat.le_refl _, by omega⟩ hrow
    (fun j hj => by
      have hl : ∃ t, t < h.ln ∧ M j = L t := by
        rw [hM]
        by_cases c : j < i
        · exact ⟨j, by omega, if_pos c⟩
        · exact ⟨j + 1, by omega, if_neg c⟩
      obtain ⟨t, ht, e⟩ := hl
      rw [e]
      have hl := (hTW.2.2.2.2.1 t ht).2
      exact ⟨hl.up (by omega), hl.off.mono fun b hb => .inl hb⟩)
  refine ⟨_, rfl, h1, h2, ?_, hb⟩
  refine ⟨(fun e => by cases e), ⟨rfl, rfl, rfl, rfl, rfl, rfl, rfl, rfl, rfl, rfl, rfl, rfl, rfl⟩, fun _ _ => rfl, fun j hj => ?_, fun j hj => ⟨rfl, Vt.Same.rfl' (hT.whole.2 j hj)⟩⟩
  have hj' : j < h.ln - 1 := hj
  show Vt.Same (M j) (if j < i then L j else L (j + 1))
  rw [hM]
  dsimp only
  split
  · exact Vt.Same.rfl' (hT.whole.1 j (by omega))
  · exact Vt.Same.rfl' (hT.whole.1 (j + 1) (by omega))
/-- The end of a removal of a field. -/
theorem dropF_end {h : Vh} {Y : Nat → Int} {L : Nat → Vt} {K : Nat → ByteArray} {F : Nat → Vt} {w W : World} {n0 gg i : Nat} {M : Nat → ByteArray × Vt} (hT : (Vt.mk h Y L K F).In w n0) (hi : i < h.fn) (hb : Below w.heap.size w W) (hn0 : n0 ≤ w.heap.size) (hgg : w.heap.size ≤ gg) (hglt : gg < W.heap.size)
    (hM : M = fun j => if j < i then (K j, F j) else (K (j + 1), F (j + 1))) (hrow : ∀ j, j < h.fn - 1 → LiesAt W gg (j * 14) (fcs (M j))) :
    FnOut ((Vt.mk h Y L K F).dropF i) n0 w (.returned (.agg #[.int .i64 h.k, .bool h.b, .bool h.n, .string h.d, .int .i64 h.e, .int .i64 h.tk, .int .i64 h.td, .int .i64 h.tn, .int .i64 h.tz, .string h.x, .slice h.ba h.bn h.bc, .slice h.la h.ln h.lc, .slice (some ⟨gg, 0, none⟩) (h.fn - 1) (h.fn - 1)])) W := by
  have hok := hT.1
  have hTW := hT.below (hb.mono hn0)
  have hz := hb.size
  have hln := hok.fn
  have hlc := hok.fc
  have hl : ∀ j, j < h.fn - 1 → ∃ t, t < h.fn ∧ M j = (K t, F t) := fun j hj => by
    rw [hM]
    by_cases c : j < i
    · exact ⟨j, by omega, if_pos c⟩
    · exact ⟨j + 1, by omega, if_neg c⟩
  obtain ⟨h1, h2⟩ := fields_anew (S := fun b => b < n0 ∨ w.heap.size ≤ b) (K' := fun j => (M j).1) (M := fun j => (M j).2) (c' := h.fn - 1) hT (hb.mono hn0) (by omega) hglt (.inr hgg) (fun b hb => .inl hb) (m := h.fn - 1) (by omega) ⟨Nat.le_refl _, by omega⟩ hrow
    (fun j hj => by
      obtain ⟨t, ht, e⟩ := hl j hj
      rw [e]
      have hl := hTW.2.2.2.2.2.2 t ht
      exact ⟨hl.2.1, hl.2.2.2.up (by omega), hl.2.2.2.off.mono fun b hb => .inl hb⟩)
  refine ⟨_, rfl, h1, h2, ?_, hb⟩
  refine ⟨(fun e => by cases e), ⟨rfl, rfl, rfl, rfl, rfl, rfl, rfl, rfl, rfl, rfl, rfl, rfl, rfl⟩, fun _ _ => rfl, fun j hj => Vt.Same.rfl' (hT.whole.1 j hj), fun j hj => ?_⟩
  have hj' : j < h.fn - 1 := hj
  show (M j).1 = (if j < i then K j else K (j + 1)) ∧ Vt.Same (M j).2 (if j < i then F j else F (j + 1))
  rw [hM]
  dsimp only
  by_cases c : j < i
  · rw [if_pos c, if_pos c, if_pos c]
    exact ⟨rfl, Vt.Same.rfl' (hT.whole.2 j (by omega))⟩
  · rw [if_neg c, if_neg c, if_neg c]
    exact ⟨rfl, Vt.Same.rfl' (hT.whole.2 (j + 1) (by omega))⟩
end Go.Proofs.YtpcbhneaaibfiaaDoor
/- Paths as lists of steps: plain. -/
namespace Go.Proofs.YtpcbhneaaibfiaaDoor
open Go.RowKit
set_option linter.unusedSimpArgs false
set_option linter.unusedVariables false

def Pth.val (p : Pth) : Value := .slice p.a p.n p.c
def Pth.steps (p : Pth) : List Stp := (List.range p.n).map p.S
theorem Pth.steps_len (p : Pth) : p.steps.length = p.n := by simp [Pth.steps]
theorem Pth.steps_get {p : Pth} {i : Nat} (h : i < p.n) : p.S i = lst p.steps i := by
  rw [lst_get (by rw [Pth.steps_len]; exact h)]
  simp [Pth.steps]
/-- A path in new memory. -/
def PthOut (q : List Stp) (w : World) (e : Ending) (w' : World) : Prop :=
  ∃ r : Pth, e = .returned (.slice r.a r.n r.c) ∧ r.In w' w'.heap.size ∧ r.steps = q ∧ (0 < r.n → w.heap.size ≤ r.b) ∧ Below w.heap.size w w'
theorem Tryd.infoStp : (Tryd.prog.info? 78).map (fun i => (i.zero, i.size, i.bytes)) = some (some (.agg #[.bool false, .string ⟨#[]⟩, .int .i64 0]), 3, 32) := by kernel_rfl
theorem stp_sz (s : Stp) : s.cells.size = 3 := rfl
theorem stp_one (s : Stp) : ∀ u ∈ s.cells.toList, u.oneCell' = true := by
  intro u hu
  simp only [Stp.cells, List.mem_cons, List.not_mem_nil, or_false] at hu
  rcases hu with rfl | rfl | rfl <;> rfl
/-- A row of steps that a call has made is a path. -/
theorem pth_of {w W : World} {v : Value} {q : List Stp} (hr : W.ownsRow w.heap.size 78 3 v q.length (catN (fun i => (lst q i).cells) q.length)) (hn : q.length ≤ 1048576) (hok : ∀ s, s ∈ q → s.ok) (hb : Below w.heap.size w W) : PthOut q w (.returned v) W := by
  obtain ⟨a, c, b, rfl, hcc, ha, hl⟩ := own_lies (fun i => stp_sz (lst q i)) hr
  refine ⟨⟨a, q.length, c, b, 0, lst q⟩, rfl, ⟨fun h => ⟨(ha h).1, (ha h).2.2⟩, ⟨hn, hcc⟩, fun i hi => ⟨?_, ?_⟩⟩, ?_, fun h => (ha h).2.1, hb⟩
  · show LiesAt W b (0 + i * 3) (lst q i).cells
    rw [Nat.zero_add]
    exact hl i hi
  · show (lst q i).ok
    rw [lst_get hi]
    exact hok _ (List.getElem_mem hi)
  · refine List.ext_getElem (by simp [Pth.steps]) fun i h1 h2 => ?_
    simp [Pth.steps, lst_get h2]
theorem catN_split {f : Nat → Array Value} {m n : Nat} {g h : Nat → Array Value} (hg : ∀ i, i < m → f i = g i) (hh : ∀ i, i < n → f (m + i) = h i) : catN f (m + n) = catN g m ++ catN h n := by
  rw [catN_append, catN_congr hg, catN_congr hh]
theorem lst_left {a b : List Stp} {i : Nat} (h : i < a.length) : lst (a ++ b) i = lst a i := by unfold lst; simp [List.getD_eq_getElem?_getD, List.getElem?_append_left h]
theorem lst_right {a b : List Stp} (i : Nat) : lst (a ++ b) (a.length + i) = lst b i := by unfold lst; rw [List.getD_eq_getElem?_getD, List.getD_eq_getElem?_getD, List.getElem?_append_right (Nat.le_add_right _ _), Nat.add_sub_cancel_left]
theorem ret_stp {fn : Func} {p : Tmp} (h : fn.results = #[.cell p 78]) {tmps : Array Value} {W : World} {B : Nat} {s : Stp} (hp : tmps.getD p undef = .pointer (some ⟨B, 0, none⟩)) (H : Whole W B 78 s.cells) :
    (results fn tmps).run Tryd.prog W = .ok (.agg s.cells) W :=
  results_cell_row h tmps W B 78 s.cells (0, 0) _ hp H Tryd.underlying78 rfl stp_size
theorem stp_all (s : Stp) : s.cells.all (·.oneCell') = true := by simp [Stp.cells, Value.oneCell']
end Go.Proofs.YtpcbhneaaibfiaaDoor
/- Paths of builders, and rows of steps that a call makes: plain. -/
namespace Go.Proofs.YtpcbhneaaibfiaaDoor
open Go.RowKit
set_option linter.unusedVariables false

/-- A row of steps that a call makes. -/
def StRow (B : Nat) (W : World) (v : Value) (q : List Stp) : Prop := W.ownsRow B 78 3 v q.length (catN (fun i => (lst q i).cells) q.length)
theorem StRow.nil (B : Nat) (W : World) : StRow B W (.slice none 0 0) [] := World.ownsRow_nil _ _ _ _
theorem StRow.sl {B : Nat} {W : World} {v : Value} {q : List Stp} (h : StRow B W v q) : ∃ a c, v = .slice a q.length c := by
  obtain ⟨_, h⟩ := h
  rcases h with ⟨rfl, h1⟩ | ⟨g, cap, cur, rfl, _⟩
  · rw [h1]; exact ⟨_, _, rfl⟩
  · exact ⟨_, _, rfl⟩
theorem StRow.below {B : Nat} {W W' : World} {v : Value} {q : List Stp} (h : StRow B W v q) (hb : Below W.heap.size W W') : StRow B W' v q := own_block h (fun g hg => hb.block g (own_lt h hg).2)
theorem StRow.push {B : Nat} {W : World} {v : Value} {q : List Stp} {s : Stp} (h : W.ownsRow B 78 3 v (q.length + 1) (catN (fun i => (lst q i).cells) q.length ++ s.cells.toList)) : StRow B W v (q ++ [s]) := by
  unfold StRow
  have e : catN (fun i => (lst (q ++ [s]) i).cells) (q ++ [s]).length = catN (fun i => (lst q i).cells) q.length ++ s.cells.toList := by
    rw [List.length_append]
    show catN (fun i => (lst (q ++ [s]) i).cells) q.length ++ (lst (q ++ [s]) q.length).cells.toList = _
    rw [catN_congr (g := fun i => (lst q i).cells) fun i hi => by rw [lst_left hi]]
    have := lst_right (a := q) (b := [s]) 0
    rw [Nat.add_zero] at this
    rw [this]
    rfl
  rw [e, List.length_append]
  exact h
/-- The steps of a frame. -/
def pathF (f : Fr) : List Stp := if f.mp = true then (if f.kd = true then [stK f.key] else []) else [stI f.n]
def pathN (fr : Nat → Fr) (j : Nat) : List Stp := catL (fun i => pathF (fr i)) j
/-- The path of what comes next. -/
def pathS (s : Bst) : List Stp := pathN s.fr s.d
theorem pathF_len (f : Fr) : (pathF f).length ≤ 1 := by
  unfold pathF
  split
  · split <;> simp
  · simp
theorem pathN_len (fr : Nat → Fr) : ∀ j, (pathN fr j).length ≤ j := by
  intro j
  induction j with
  | zero => exact Nat.le_refl _
  | succ j ih =>
    show (catL (fun i => pathF (fr i)) j ++ pathF (fr j)).length ≤ _
    rw [List.length_append]
    have := pathF_len (fr j)
    have ih' : (catL (fun i => pathF (fr i)) j).length ≤ j := ih
    omega
theorem catL_mem {α : Type} {f : Nat → List α} {x : α} : ∀ {n : Nat}, x ∈ catL f n → ∃ i, i < n ∧ x ∈ f i := by
  intro n
  induction n with
  | zero => intro h; cases h
  | succ n ih =>
    intro h
    rcases List.mem_append.1 h with h | h
    · obtain ⟨i, hi, hx⟩ := ih h; exact ⟨i, by omega, hx⟩
    · exact ⟨n, Nat.lt_succ_self n, h⟩
theorem pathN_ok {fr : Nat → Fr} {d : Nat} (h : ∀ i, i < d → (fr i).n ≤ 65536 ∧ (fr i).key.size ≤ 1048576) : ∀ st, st ∈ pathN fr d → st.ok := by
  intro st hst
  obtain ⟨i, hi, hx⟩ := catL_mem hst
  obtain ⟨h1, h2⟩ := h i hi
  unfold pathF at hx
  split at hx
  · split at hx
    · obtain rfl := List.mem_singleton.1 hx
      exact ⟨h2, by show w64 0; exact ⟨by decide, by decide⟩⟩
    · cases hx
  · obtain rfl := List.mem_singleton.1 hx
    exact ⟨Nat.zero_le _, by show w64 ((fr i).n : Int); exact ⟨by omega, by omega⟩⟩
theorem pathS_ok {s : Bst} (h : s.ok) : ∀ st, st ∈ pathS s → st.ok := pathN_ok fun i hi => ⟨Nat.le_trans (h.fr i hi).1 h.nd, (h.fr i hi).2.1⟩
theorem pathS_len {s : Bst} (h : s.ok) : (pathS s).length ≤ 48 := Nat.le_trans (pathN_len s.fr s.d) h.d
end Go.Proofs.YtpcbhneaaibfiaaDoor
