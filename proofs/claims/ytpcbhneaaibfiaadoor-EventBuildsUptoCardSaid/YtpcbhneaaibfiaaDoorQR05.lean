/- Laid together for a claim: EvRegT, EvApA, EvRSet. -/
import Derived.Test.YtpcbhneaaibfiaaDoorQB01
import Derived.OrdersHeld
import Derived.ProofKit
import Derived.Deep.RegionHeld
import Derived.Test.YtpcbhneaaibfiaaDoorQB23
import Derived.Deep.AppendLies
import Derived.Test.YtpcbhneaaibfiaaDoorQR04
import Derived.Test.YtpcbhneaaibfiaaDoorQR02
import Derived.Test.YtpcbhneaaibfiaaDoorQR03
set_option linter.unusedVariables false
set_option linter.unusedSimpArgs false
namespace Go.Proofs.YtpcbhneaaibfiaaDoor
open Go
section
variable {P : Program} {ops : Array Oper} {Q : Exit → Act → World → Prop} {md : Region.Mode} {S : World → Prop} {L : List Nat}
def wpAnyT (P : Program) (md : Region.Mode) (ops : Array Oper) (Q : Exit → Act → World → Prop) (S : World → Prop) (L : List Nat) : Nat → Array Bool → Act → World → Prop
  | 0, listed, a, w => Region.ready md ops listed = [] ∧ Q .normal a w
  | fuel + 1, listed, a, w => (Region.ready md ops listed = [] → Q .normal a w) ∧ ∀ i ∈ Region.ready md ops listed, wpOp P ops Q i (fun a' w' => (i ∈ L ∨ S w') ∧ wpAnyT P md ops Q S L fuel (listed.setIfInBounds i true) a' w') a w
theorem wpAny_of_T : ∀ (fuel : Nat) (listed : Array Bool) (a : Act) (w : World), wpAnyT P md ops Q S L fuel listed a w → wpAny P md ops Q fuel listed a w
  | 0, _, _, _, h => h
  | fuel + 1, _, _, _, h => ⟨h.1, fun i hi => wpOp_mono (fun a' w' h' => wpAny_of_T fuel _ a' w' h'.2) (h.2 i hi)⟩
def Closed (md : Region.Mode) (ops : Array Oper) (listed : Array Bool) : Prop := ∀ (j : Nat) (o : Oper), ops[j]? = some o → listed.getD j false = true → ∀ e ∈ o.after, Region.binds md e = true → listed.getD e.on false = true
theorem Closed.next {listed : Array Bool} {i : Nat} (h : Closed md ops listed) (hi : i ∈ Region.ready md ops listed) : Closed md ops (listed.setIfInBounds i true) := by
  intro j o ho hl e he hb
  by_cases c : i = j
  · subst c
    obtain ⟨-, o', ho', hall⟩ := mem_ready.1 hi
    have : o' = o := Option.some.inj (ho'.symm.trans ho)
    subst this
    exact getD_set_true (hall e he hb)
  · rw [getD_set_ne false c] at hl
    exact getD_set_true (h j o ho hl e he hb)
def closedB (md : Region.Mode) (ops : Array Oper) (listed : Array Bool) : Bool := (List.range ops.size).all fun j => !listed.getD j false || ((ops[j]?).map (·.after.all fun e => !Region.binds md e || listed.getD e.on false)).getD true
theorem closed_of {listed : Array Bool} (h : closedB md ops listed = true) : Closed md ops listed := by
  intro j o ho hl e he hb
  have hj : j < ops.size := (Array.getElem?_eq_some_iff.1 ho).1
  have h1 := List.all_eq_true.1 h j (List.mem_range.2 hj)
  rw [hl, ho] at h1
  simp only [Bool.not_true, Bool.false_or, Option.map_some, Option.getD_some] at h1
  have h2 := Array.all_eq_true_iff_forall_mem.1 h1 e he
  rw [hb] at h2
  simpa using h2
def chainB (md : Region.Mode) (ops : Array Oper) : List Nat → Bool
  | [] => true
  | [_] => true
  | x :: y :: l => ((ops[y]?).map (·.after.toList.any fun e => Region.binds md e && e.on == x)).getD false && chainB md ops (y :: l)
theorem chain_listed {listed : Array Bool} (hc : Closed md ops listed) : ∀ (l : List Nat) (x : Nat), chainB md ops (x :: l) = true → l ≠ [] → (∀ z, (x :: l).getLast? = some z → z ∈ Region.ready md ops listed ∨ listed.getD z false = true) → listed.getD x false = true := by
  intro l
  induction l with
  | nil => intro x _ h; exact absurd rfl h
  | cons y l ih =>
    intro x hch _ hz
    have h1 := hch
    unfold chainB at h1
    rw [Bool.and_eq_true] at h1
    cases ho : ops[y]? with
    | none => rw [ho] at h1; exact absurd h1.1 (by simp)
    | some o =>
      rw [ho] at h1
      simp only [Option.map_some, Option.getD_some] at h1
      obtain ⟨⟨e, he', hb⟩, h2⟩ := And.intro (List.any_eq_true.1 h1.1) h1.2
      have he : e ∈ o.after := by simpa using he'
      rw [Bool.and_eq_true] at hb
      have hx : e.on = x := by simpa using hb.2
      have hy : y ∈ Region.ready md ops listed ∨ listed.getD y false = true := by
        by_cases hl : l = []
        · subst hl; exact hz y rfl
        · exact .inr (ih y h2 hl fun z h => hz z (by rw [List.getLast?_cons_cons]; exact h))
      rw [← hx]
      rcases hy with hy | hy
      · obtain ⟨-, o', ho', hall⟩ := mem_ready.1 hy
        have : o' = o := Option.some.inj (ho'.symm.trans ho)
        subst this
        exact hall e he hb.1
      · exact hc y o ho hy e he hb.1
theorem wpAnyT_first {i : Nat} {oi : Oper} {v : Value} (hi : ops[i]? = some oi) (hsel : ∀ (j : Nat) (o : Oper) cs b, ops[j]? = some o → o.op ≠ .select cs b)
    (hQ : ∀ c a w, Q (.panic c) (a.put oi.dst v) w → Q (.panic c) a w) (hw : ∀ (listed : Array Bool), Closed md ops listed → ∀ e ∈ L, e ∈ Region.ready md ops listed → listed.getD i false = true) :
    ∀ (fuel : Nat) (listed : Array Bool) (a : Act) (w : World), Closed md ops listed →
      (∀ j oj, ops[j]? = some oj → j ≠ i → listed.getD j true = false → (∀ e ∈ oj.after, Region.binds md e = true → e.on ≠ i) → oi.apart ops oj = true) →
      i ∈ Region.ready md ops listed → YieldsIf P ops S oi v a → S w →
      wpAnyT P md ops Q S L fuel (listed.setIfInBounds i true) (a.put oi.dst v) w → wpAnyT P md ops Q S L (fuel + 1) listed a w := by
  intro fuel
  induction fuel with
  | zero =>
    intro listed a w _ _ hr hy hS H
    refine ⟨fun h => (by rw [h] at hr; cases hr), fun j hj => ?_⟩
    by_cases hji : j = i
    · subst hji; exact hy.wpOp hi hS ⟨.inr hS, H⟩
    · have := ready_mono hj hji
      rw [H.1] at this
      cases this
  | succ fuel ih =>
    intro listed a w hcl hfree hr hy hS H
    refine ⟨fun h => (by rw [h] at hr; cases hr), fun j hj => ?_⟩
    by_cases hji : j = i
    · subst hji; exact hy.wpOp hi hS ⟨.inr hS, H⟩
    have hni : listed.getD i false = false := by
      have h0 := (mem_ready.1 hr).1
      rcases Nat.lt_or_ge i listed.size with h' | h'
      · simp [h'] at h0 ⊢; exact h0
      · simp [Array.getElem?_eq_none h']
    have hjL : j ∉ L := fun q => by
      have := hw listed hcl j q hj
      rw [hni] at this
      cases this
    obtain ⟨hjun, oj, hoj, hall⟩ := mem_ready.1 hj
    have hnot : ∀ e ∈ oj.after, Region.binds md e = true → e.on ≠ i := fun e he hb heq => by
      have h1 := hall e he hb
      rw [heq, hni] at h1
      cases h1
    have h2 := wpOp_putIf hoj (hfree j oj hoj hji hjun hnot) (fun cs b => hsel i oi cs b hi) (fun cs b => hsel j oj cs b hoj) hQ hy (H.2 j (ready_mono hj hji))
    have hfree' : ∀ k ok, ops[k]? = some ok → k ≠ i → (listed.setIfInBounds j true).getD k true = false → (∀ e ∈ ok.after, Region.binds md e = true → e.on ≠ i) → oi.apart ops ok = true := fun k ok hk hki hun hno => by
      refine hfree k ok hk hki ?_ hno
      by_cases hjk : j = k
      · subst hjk; exact hjun
      · rw [getD_set_ne true hjk] at hun; exact hun
    refine wpOp_mono (fun a' w' h3 => ?_) h2
    obtain ⟨h4, h5, h6⟩ := h3
    have hS' : S w' := h5.resolve_left hjL
    refine ⟨.inr hS', ih (listed.setIfInBounds j true) a' w' (hcl.next hj) hfree' (ready_mono hr (Ne.symm hji)) h4 hS' ?_⟩
    rw [Array.setIfInBounds_comm _ _ hji]
    exact h6
def waitsB (md : Region.Mode) (ops : Array Oper) (i : Nat) (L : List Nat) (paths : List (List Nat)) : Bool := L.all fun e => paths.any fun p => chainB md ops (i :: p) && p.getLast? == some e
theorem waits_of {i : Nat} {paths : List (List Nat)} (h : waitsB md ops i L paths = true) : ∀ (listed : Array Bool), Closed md ops listed → ∀ e ∈ L, e ∈ Region.ready md ops listed → listed.getD i false = true := by
  intro listed hc e he hr
  obtain ⟨p, hp, h1⟩ := List.any_eq_true.1 (List.all_eq_true.1 h e he)
  rw [Bool.and_eq_true] at h1
  have h2 : p.getLast? = some e := by simpa using h1.2
  cases p with
  | nil => cases h2
  | cons y l =>
    refine chain_listed hc (y :: l) i h1.1 (by simp) fun z hz => ?_
    rw [List.getLast?_cons_cons, h2] at hz
    cases hz
    exact .inl hr
theorem wpAnyT_take {i : Nat} {oi : Oper} {v : Value} {fuel : Nat} {listed : Array Bool} {a : Act} {w : World} (paths : List (List Nat)) (hi : ops[i]? = some oi)
    (hs : Region.noSelect ops = true) (hf : Region.free md ops listed i = true) (hr : (Region.ready md ops listed).contains i = true) (hc : closedB md ops listed = true) (hw : waitsB md ops i L paths = true)
    (hQ : ∀ c a w, Q (.panic c) (a.put oi.dst v) w → Q (.panic c) a w) (hy : YieldsIf P ops S oi v a) (hS : S w)
    (h : wpAnyT P md ops Q S L fuel (listed.setIfInBounds i true) (a.put oi.dst v) w) : wpAnyT P md ops Q S L (fuel + 1) listed a w :=
  wpAnyT_first hi (Region.noSelect_spec hs) hQ (waits_of hw) fuel listed a w (closed_of hc) (Region.free_spec hi hf) (by simpa using hr) hy hS h
def okB (md : Region.Mode) (ops : Array Oper) (L : List Nat) (listed : Array Bool) (i : Nat) : Bool :=
  Region.noSelect ops && (Region.free md ops listed i && ((Region.ready md ops listed).contains i && (closedB md ops listed && waitsB md ops i L (L.map fun e => [e]))))
theorem tk {i : Nat} {oi : Oper} {v : Value} {fuel : Nat} {listed : Array Bool} {a : Act} {w : World} (hi : ops[i]? = some oi) (hc : okB md ops L listed i = true) (hw : Region.wanted oi (yielded ops a.tmps) = true)
    (hQ : ∀ c a w, Q (.panic c) (a.put oi.dst v) w → Q (.panic c) a w) (hS : S w) (hv : ∀ w, S w → (execOp a.eval oi).run P w = .ok (.value v) w)
    (h : wpAnyT P md ops Q S L fuel (listed.setIfInBounds i true) (a.put oi.dst v) w) : wpAnyT P md ops Q S L (fuel + 1) listed a w := by
  unfold okB at hc
  rw [Bool.and_eq_true, Bool.and_eq_true, Bool.and_eq_true, Bool.and_eq_true] at hc
  exact wpAnyT_take (L.map fun e => [e]) hi hc.1 hc.2.1 hc.2.2.1 hc.2.2.2.1 hc.2.2.2.2 hQ (Or.inl ⟨hw, hv⟩) hS h
def AllT (P : Program) (md : Region.Mode) (ops : Array Oper) (Q : Exit → Act → World → Prop) (S : World → Prop) (L : List Nat) (fuel : Nat) (listed : Array Bool) (a : Act) (w : World) (rs : List Nat) : Prop :=
  ∀ i ∈ rs, wpOp P ops Q i (fun a' w' => (i ∈ L ∨ S w') ∧ wpAnyT P md ops Q S L fuel (listed.setIfInBounds i true) a' w') a w
theorem AllT.nil {fuel : Nat} {listed : Array Bool} {a : Act} {w : World} : AllT P md ops Q S L fuel listed a w [] := fun _ h => by cases h
theorem AllT.cons {fuel : Nat} {listed : Array Bool} {a : Act} {w : World} {i : Nat} {o : Oper} {rs : List Nat} (ho : ops[i]? = some o)
    (h : ∀ K' : Act → World → Prop, Shut (∀ a w, (i ∈ L ∨ S w) → wpAnyT P md ops Q S L fuel (listed.setIfInBounds i true) a w → K' a w) → if Region.wanted o (yielded ops a.tmps) = true then Oper.wp P o a w K' Q else K' (a.put o.dst undef) w)
    (hs : AllT P md ops Q S L fuel listed a w rs) : AllT P md ops Q S L fuel listed a w (i :: rs) := fun j hj => by
  rcases List.mem_cons.1 hj with rfl | hj
  · exact wpOp_step ho (fun K' hK => h K' (fun a w hS hW => hK a w ⟨hS, hW⟩))
  · exact hs j hj
theorem wpAnyT_ready {rs : List Nat} {fuel : Nat} {listed : Array Bool} {a : Act} {w : World} (hr : Region.ready md ops listed = rs) (hne : rs ≠ []) (h : AllT P md ops Q S L fuel listed a w rs) : wpAnyT P md ops Q S L (fuel + 1) listed a w :=
  ⟨fun h0 => absurd (hr ▸ h0) hne, hr ▸ h⟩
theorem wpAnyT_done {listed : Array Bool} {a : Act} {w : World} (hr : Region.ready md ops listed = []) (h : Q .normal a w) : ∀ fuel, wpAnyT P md ops Q S L fuel listed a w
  | 0 => ⟨hr, h⟩
  | _ + 1 => ⟨fun _ => h, by rw [hr]; simp⟩
theorem wp_region_T (S : World → Prop) (L : List Nat) {id : Nat} {a : Act} {w : World} (hm : P.follows .mixedOrders = true) (h : wpAnyT P .any ops Q S L ops.size (Array.replicate ops.size false) a w.drew) : (Code.region id ops true).wp P Q a w :=
  wp_region_any hm (wpAny_of_T _ _ _ _ h)
end
end Go.Proofs.YtpcbhneaaibfiaaDoor
namespace Go.Proofs.YtpcbhneaaibfiaaDoor
open Go.ChangeShapes Go.WideShapes Go.Joins Go.Deep Go.RowKit
theorem own_slv {w : World} {base size n : Nat} {e : TypeId} {v : Value} {xs : List Value} (h : w.ownsRow base e size v n xs) : ∃ a c, v = .slice a n c := by
  rcases h.2 with ⟨rfl, h0⟩ | ⟨g, cap, cur, rfl, _⟩
  · exact ⟨none, 0, by rw [h0]⟩
  · exact ⟨_, _, rfl⟩
theorem own_empty {W : World} {B C g : Nat} {e : TypeId} (h : Whole W g e #[]) (hB : B ≤ g) : W.ownsRow B e C (.slice (some ⟨g, 0, none⟩) 0 0) 0 [] :=
  ⟨by simp, .inr ⟨g, 0, #[], rfl, hB, h, Nat.le_refl _, Nat.zero_le _, (Nat.zero_mul C).symm, List.take_nil⟩⟩
section
variable {P : Program} (w : World)
theorem step_append_any {ops : Array Oper} {o : Oper} {a : Act} {K : Act → World → Prop} {Q : Exit → Act → World → Prop} {E : Prop} (hgd : o.guard = none) (s x : Operand) (t : TypeId)
    (ho : o.op = .call { callee := .builtin .append, args := #[s, x], argTypes := #[t, t] })
    (base : Nat) (e : TypeId) (i : TypeInfo) (z : Value) (size bytes : Nat) (ht : P.underlying t = some (.slice e)) (hi : P.info? e = some i) (hz : i.zero = some z)
    (hsize : i.size = size) (hby : i.bytes = bytes) (hzs : z.cells.size = size) (hsz : 0 < size)
    (v : Value) (n : Nat) (xs : List Value) (hs : a.eval s = v) (hown : w.ownsRow base e size v n xs)
    (xa : Option Addr) (m c : Nat) (news : List Value) (hx : a.eval x = .slice xa m c) (hl : news.length = m * size) (hnews : 0 < m → ∃ ad, xa = some ad ∧ ∀ j u, news[j]? = some u → w.cell? (ad.add j) = some u) (h1 : ∀ u ∈ news, u.oneCell' = true)
    (N : Nat) (hN : n + m = N) (h63 : N ≤ maxLen) (hbytes : N * bytes ≤ 140737488355328) (hbase : base ≤ w.heap.size)
    (h : ∀ a' c' w', w'.ownsRow base e size (.slice a' N c') N (xs ++ news) → w.grownBy w' v.ownBlock → ((Value.slice a' N c').ownBlock = v.ownBlock ∨ (Value.slice a' N c').ownBlock = some w.heap.size) → K (a.put o.dst (.slice a' N c')) w') :
    if Region.wanted o (yielded ops a.tmps) = true then Oper.wp P o a w K Q else E := by
  have hw : Region.wanted o (yielded ops a.tmps) = true := by simp [Region.wanted, hgd]
  rw [if_pos hw]
  subst hN
  obtain ⟨v', w', hr, h2, h3, h4⟩ := run_append_any (P := P) w base t o.type e i z size bytes ht hi hz hsize hby hzs hsz v n xs hown xa m c news hl hnews h1 h63 hbytes hbase
  obtain ⟨a', c', rfl⟩ := own_slv h2
  unfold Oper.wp execOp
  simp only [ho, resolve, invoke, builtin, Sem.run_bind, Sem.run_pure, Result.andThen_ok, List.map_toArray, List.map_cons, List.map_nil, hs, hx, hr]
  exact h a' c' w' h2 h3 h4
end
end Go.Proofs.YtpcbhneaaibfiaaDoor
namespace Go.Proofs.YtpcbhneaaibfiaaDoor
open Go.RowKit
theorem ret_rst {fn : Func} {p : Tmp} (h : fn.results = #[.cell p 53]) {tmps : Array Value} {W : World} {B : Nat} {cs : Array Value} (hp : tmps.getD p undef = .pointer (some ⟨B, 0, none⟩)) (H : Whole W B 53 cs) (hc : cs.size = 4 := by rfl) :
    (results fn tmps).run Tryd.prog W = .ok (.agg cs) W :=
  results_cell_row h tmps W B 53 cs (0, 0) _ hp H Tryd.underlying53 rfl (by rw [hc]; exact st_row)
theorem ret_rst2 {fn : Func} {p q : Tmp} (h : fn.results = #[.cell p 53, .tmp q]) {tmps : Array Value} {W : World} {B : Nat} {cs : Array Value} (hp : tmps.getD p undef = .pointer (some ⟨B, 0, none⟩)) (H : Whole W B 53 cs) (hc : cs.size = 4 := by rfl) :
    (results fn tmps).run Tryd.prog W = .ok (.tuple #[.agg cs, tmps.getD q undef]) W := by
  have hp' : tmps[p]?.getD undef = .pointer (some ⟨B, 0, none⟩) := by simpa using hp
  simp [results, h, hp', asAddr, run_loadVar_row W B 53 53 cs (0, 0) _ H Tryd.underlying53 rfl (by rw [hc]; exact st_row)]
theorem info_open : (Tryd.prog.info? 90).map (fun i => (i.zero, i.size, i.bytes)) = some (some (.agg #[.bool false, .slice none 0 0, .int .i64 0, .bool false]), 4, 48) := by kernel_rfl
def SetOut (r : Rst) (y : Opn) (w : World) (e : Ending) (w' : World) : Prop := ∃ p : Ops, e = .returned (.agg #[.slice p.a p.n p.c, .slice r.T.a r.T.n r.T.c, .int .i64 r.nd, .bool r.wrong]) ∧ p.n = r.O.n ∧ (∀ i, i + 1 < r.O.n → p.O i = r.O.O i) ∧ p.O (r.O.n - 1) = y ∧ p.Row w' w.heap.size ∧ Below w.heap.size w w'
set_option maxHeartbeats 8000000 in
set_option maxRecDepth 100000 in
theorem rset_any {r : Rst} {y : Opn} {top : Nat} {w : World} (hr : r.In w top) (ht : top ≤ w.heap.size) (hn : 0 < r.O.n) : Calls Tryd.prog 45 #[.agg r.cells, .agg y.cells] w (SetOut r y w) := by
  obtain ⟨i0, hi0, hz0, hz1, hz2⟩ := info_parts info_open
  obtain ⟨⟨oa, on, oc, ob, oo, F⟩, ⟨ta, tn, tc, tb, to', TS⟩, nd, wrong⟩ := r
  obtain ⟨ymp, ⟨ka, kn, kc, kb, ko, K⟩, ycnt, ydue⟩ := y
  have hO := hr.1
  dsimp only at hn
  obtain ⟨ea, hlt⟩ := hO.1 hn
  dsimp only at ea hlt
  subst ea
  obtain ⟨m, hm⟩ : ∃ m, on = m + 1 := ⟨on - 1, by omega⟩
  have hmn : m + 1 = on := hm.symm
  have hc48 := hO.2.1.1
  have hcap := hO.2.1.2.1
  dsimp only at hc48 hcap
  obtain ⟨news, hnews⟩ : ∃ news, catN (fun i => (F i).cells) m = news := ⟨_, rfl⟩
  have HEnd : Hid (∀ (a2 : Option Addr) (c2 : Nat) (B : Nat) (w' : World), w.heap.size ≤ B → w'.ownsRow B 90 4 (.slice a2 on c2) on (([] ++ news) ++ (#[.bool ymp, .slice ka kn kc, .int .i64 ycnt, .bool ydue] : Array Value).toList) → Below w.heap.size w w' → SetOut ⟨⟨some ⟨ob, oo, none⟩, on, oc, ob, oo, F⟩, ⟨ta, tn, tc, tb, to', TS⟩, nd, wrong⟩ ⟨ymp, ⟨ka, kn, kc, kb, ko, K⟩, ycnt, ydue⟩ w (.returned (.agg #[.slice a2 on c2, .slice ta tn tc, .int .i64 nd, .bool wrong])) w') := Lib.hid fun a2 c2 B w' hB ho hb => by
    obtain ⟨p, e1, e2, e3, e4⟩ := ops_row (n := on) (O := fun i => if i < m then F i else ⟨ymp, ⟨ka, kn, kc, kb, ko, K⟩, ycnt, ydue⟩) (v := .slice a2 on c2) (W := w') (B := B) (by
      have e : catN (fun i => (if i < m then F i else ⟨ymp, ⟨ka, kn, kc, kb, ko, K⟩, ycnt, ydue⟩ : Opn).cells) on = news ++ (#[.bool ymp, .slice ka kn kc, .int .i64 ycnt, .bool ydue] : Array Value).toList := by
        rw [hm, ← hnews]
        exact catN_more (fun i hi => by rw [if_pos hi]) (by rw [if_neg (Nat.lt_irrefl m)]; rfl)
      rw [e, ← List.nil_append news]
      exact ho) hc48
    replace e4 := e4.low hB
    injection e1 with f1 f2 f3
    refine ⟨p, by rw [f1, f2, f3], e2, fun i hi => ?_, ?_, e4, hb⟩
    · have hi' : i + 1 < on := hi
      rw [e3]
      exact if_pos (by omega)
    · show p.O (on - 1) = _
      rw [e3]
      exact if_neg (by omega)
  have s1 := Lib.hid (fun (w1 : World) (hb : Below w.heap.size w w1) (_ : 0 < m) => (⟨⟨ob, oo, none⟩, rfl, hnews ▸ rowL_src (fun j => (show (F j).cells.size = 4 from rfl)) (fun j hj => ((hO.2.2 j (by show j < on; omega)).1.below (hb.mono ht) hlt))⟩ : ∃ ad, some (⟨ob, oo, none⟩ : Addr) = some ad ∧ ∀ j u, news[j]? = some u → w1.cell? (ad.add j) = some u))
  have s2 : Hid (∀ u ∈ news, u.oneCell' = true) := Lib.hid (hnews ▸ catN_one (fun j u hu => by simp only [Opn.cells, List.mem_cons, List.not_mem_nil, or_false] at hu; rcases hu with rfl | rfl | rfl | rfl <;> rfl) m)
  have s0 : Hid (news.length = m * 4) := Lib.hid (hnews ▸ catN_len (fun j => (show (F j).cells.size = 4 from rfl)) m)
  have s3 : Hid (m ≤ maxLen) := Lib.hid (by unfold maxLen; omega)
  have s4 : Hid (m * 48 ≤ 140737488355328) := Lib.hid (by omega)
  have t2 : Hid (∀ u ∈ (#[.bool ymp, .slice ka kn kc, .int .i64 ycnt, .bool ydue] : Array Value).toList, u.oneCell' = true) := Lib.hid (by simp [Value.oneCell'])
  have t3 : Hid (on ≤ maxLen) := Lib.hid (by unfold maxLen; omega)
  have t4 : Hid (on * 48 ≤ 140737488355328) := Lib.hid (by omega)
  clear hO hr ht hlt hnews
  have g0 := ((Below.refl w.heap.size w).alloc (Nat.le_refl _) (.cells #[.slice (some ⟨ob, oo, none⟩) on oc, .slice ta tn tc, .int .i64 nd, .bool wrong] 53)).alloc (by simp) (.cells #[.bool ymp, .slice ka kn kc, .int .i64 ycnt, .bool ydue] 90) |>.alloc (by simp; omega) (.cells #[.slice none 0 0, .slice none 0 0, .int .i64 0, .bool false] 53)
  have P0 := ((Whole.new w 53 #[.slice (some ⟨ob, oo, none⟩) on oc, .slice ta tn tc, .int .i64 nd, .bool wrong]).alloc (.cells #[.bool ymp, .slice ka kn kc, .int .i64 ycnt, .bool ydue] 90)).alloc (.cells #[.slice none 0 0, .slice none 0 0, .int .i64 0, .bool false] 53)
  have O0 := (Whole.new (w.alloc (.cells #[.slice (some ⟨ob, oo, none⟩) on oc, .slice ta tn tc, .int .i64 nd, .bool wrong] 53)) 90 #[.bool ymp, .slice ka kn kc, .int .i64 ycnt, .bool ydue]).alloc (.cells #[.slice none 0 0, .slice none 0 0, .int .i64 0, .bool false] 53)
  have Q0 := Whole.new ((w.alloc (.cells #[.slice (some ⟨ob, oo, none⟩) on oc, .slice ta tn tc, .int .i64 nd, .bool wrong] 53)).alloc (.cells #[.bool ymp, .slice ka kn kc, .int .i64 ycnt, .bool ydue] 90)) 53 #[.slice none 0 0, .slice none 0 0, .int .i64 0, .bool false]
  rw [World.size_alloc] at O0
  rw [World.size_alloc, World.size_alloc] at Q0
  have ei : ((on : Nat) : Int) - 1 = m := by omega
  have b0 : (0 : Int) ≤ m := by omega
  have b1 : (m : Int) ≤ oc := by omega
  have b2 : (m : Int) ≤ on := by omega
  have b3 : m ≤ oc := by omega
  have b4 : IntKind.i64.wrap (m : Int) = m := by rw [IntKind.wrap_i64]; omega
  clear hm
  simp only [Rst.cells, Opn.cells]
  go_enter Tryd.func45, Tryd.ntmps45
  go_upto_region 1 with (fail)
  generalize ((w.alloc (.cells #[.slice (some ⟨ob, oo, none⟩) on oc, .slice ta tn tc, .int .i64 nd, .bool wrong] 53)).alloc (.cells #[.bool ymp, .slice ka kn kc, .int .i64 ycnt, .bool ydue] 90)).alloc (.cells #[.slice none 0 0, .slice none 0 0, .int .i64 0, .bool false] 53) = w0 at *
  refine wp_region_T (fun Wz => Whole Wz (w.heap.size) 53 #[.slice (some ⟨ob, oo, none⟩) on oc, .slice ta tn tc, .int .i64 nd, .bool wrong] ∧ Whole Wz ((w.heap.size + 1)) 90 #[.bool ymp, .slice ka kn kc, .int .i64 ycnt, .bool ydue]) [13] (by kernel_rfl) ?_
  have g1 := Below.drew g0
  have P1 := Whole.drew P0
  have O1 := Whole.drew O0
  have Q1 := Whole.drew Q0
  clear g0 P0 O0 Q0
  generalize w0.drew = w1 at *
  have hlq := Whole.lt Q1
  have hq1 := g1.size
  have h := Below.refl w1.heap.size w1
  refine tk (i := 1) rfl (by kernel_rfl) (by rfl) (fun _ _ _ h => h) ⟨(P1.below h P1.lt), (O1.below h O1.lt)⟩ (by intro wS hSw; go_simp; try with_reducible rfl) ?_
  simp only [Act.put, actS]
  refine tk (i := 2) rfl (by kernel_rfl) (by rfl) (fun _ _ _ h => h) ⟨(P1.below h P1.lt), (O1.below h O1.lt)⟩ (by intro wS hSw; obtain ⟨Pz, Oz⟩ := hSw; obtain ⟨c0, -, -, -⟩ := Pz.o4s; go_simp; try with_reducible rfl) ?_
  simp only [Act.put, actS]
  refine tk (i := 3) rfl (by kernel_rfl) (by rfl) (fun _ _ _ h => h) ⟨(P1.below h P1.lt), (O1.below h O1.lt)⟩ (by intro wS hSw; go_simp; try with_reducible rfl) ?_
  simp only [Act.put, actS]
  refine tk (i := 4) rfl (by kernel_rfl) (by rfl) (fun _ _ _ h => h) ⟨(P1.below h P1.lt), (O1.below h O1.lt)⟩ (by intro wS hSw; obtain ⟨Pz, Oz⟩ := hSw; obtain ⟨c0, -, -, -⟩ := Pz.o4s; go_simp; try with_reducible rfl) ?_
  simp only [Act.put, actS]
  refine tk (i := 5) rfl (by kernel_rfl) (by rfl) (fun _ _ _ h => h) ⟨(P1.below h P1.lt), (O1.below h O1.lt)⟩ (by intro wS hSw; go_simp; try with_reducible rfl) ?_
  simp only [Act.put, actS]
  refine tk (i := 6) rfl (by kernel_rfl) (by rfl) (fun _ _ _ h => h) ⟨(P1.below h P1.lt), (O1.below h O1.lt)⟩ (by intro wS hSw; go_simp; try with_reducible rfl) ?_
  simp only [Act.put, actS]
  refine tk (i := 7) rfl (by kernel_rfl) (by rfl) (fun _ _ _ h => h) ⟨(P1.below h P1.lt), (O1.below h O1.lt)⟩ (by intro wS hSw; go_simp; try with_reducible rfl) ?_
  simp only [Act.put, actS]
  refine tk (i := 9) rfl (by kernel_rfl) (by rfl) (fun _ _ _ h => h) ⟨(P1.below h P1.lt), (O1.below h O1.lt)⟩ (by intro wS hSw; obtain ⟨Pz, Oz⟩ := hSw; obtain ⟨c0, c1, c2, c3⟩ := Oz.o4; go_simp; try with_reducible rfl) ?_
  simp only [Act.put, actS]
  refine wpAnyT_ready (rs := [0, 10]) (by kernel_rfl) (by simp) ?_
  refine (AllT.cons rfl (fun KK hK => ?_) (AllT.cons rfl (fun KK hK => ?_) AllT.nil))
  · go_simp
    have q := (Below.refl w1.heap.size w1).alloc (Nat.le_refl _) (.cells #[] 90)
    have A := Whole.new w1 90 #[]
    generalize w1.alloc (.cells #[] 90) = w2 at q A ⊢
    have Vr := Lib.hid (own_empty (C := 4) A h.size)
    replace h := below_then h q
    clear q A
    refine hK.out _ _ (.inr ⟨(P1.below h P1.lt), (O1.below h O1.lt)⟩) ?_
    clear hK KK
    try simp only [Act.put, actS]
    refine wpAnyT_ready (rs := [8, 10]) (by kernel_rfl) (by simp) ?_
    refine (AllT.cons rfl (fun KK hK => ?_) (AllT.cons rfl (fun KK hK => ?_) AllT.nil))
    · refine step_append_any _ (by rfl) _ _ _ (by rfl) _ 90 i0 _ 4 48 Tryd.underlying51 hi0 hz0 hz1 hz2 rfl (by decide) (.slice (some ⟨w1.heap.size, 0, none⟩) 0 0) 0 [] (by rfl) Vr.out (some ⟨ob, oo, none⟩) m oc news (by rfl) s0.out (s1.out _ (below_then g1 h)) s2.out m (by omega) s3.out s4.out h.size ?_
      intro a1 z1 w3 o hg ht
      replace h := h.grown hg h.size (fun g q => (own_lt Vr.out q).1)
      replace Vr := Lib.hid o
      clear o hg ht
      refine hK.out _ _ (.inr ⟨(P1.below h P1.lt), (O1.below h O1.lt)⟩) ?_
      clear hK KK
      try simp only [Act.put, actS]
      refine wpAnyT_ready (rs := [10]) (by kernel_rfl) (by simp) ?_
      refine (AllT.cons rfl (fun KK hK => ?_) AllT.nil)
      go_simp
      have q := (Below.refl w3.heap.size w3).alloc (Nat.le_refl _) (.cells #[.bool ymp, .slice ka kn kc, .int .i64 ycnt, .bool ydue] 90)
      have A := Whole.new w3 90 #[.bool ymp, .slice ka kn kc, .int .i64 ycnt, .bool ydue]
      generalize w3.alloc (.cells #[.bool ymp, .slice ka kn kc, .int .i64 ycnt, .bool ydue] 90) = w4 at q A ⊢
      replace Vr := Lib.hid (own_below Vr.out q)
      have Xe := A
      replace h := below_then h q
      clear q A
      refine hK.out _ _ (.inr ⟨(P1.below h P1.lt), (O1.below h O1.lt)⟩) ?_
      clear hK KK
      try simp only [Act.put, actS]
      refine wpAnyT_ready (rs := [11]) (by kernel_rfl) (by simp) ?_
      refine (AllT.cons rfl (fun KK hK => ?_) AllT.nil)
      refine step_append_any _ (by rfl) _ _ _ (by rfl) _ 90 i0 _ 4 48 Tryd.underlying51 hi0 hz0 hz1 hz2 rfl (by decide) (.slice a1 m z1) m _ (by rfl) Vr.out (some ⟨w3.heap.size, 0, none⟩) 1 1 (#[.bool ymp, .slice ka kn kc, .int .i64 ycnt, .bool ydue] : Array Value).toList (by rfl) (by rfl) (fun _ => ⟨_, rfl, World.news_of_block Xe⟩) t2.out on hmn t3.out t4.out h.size ?_
      intro a2 z2 w5 o hg ht
      clear Xe
      replace h := h.grown hg h.size (fun g q => (own_lt Vr.out q).1)
      replace Vr := Lib.hid o
      clear o hg ht
      refine hK.out _ _ (.inr ⟨(P1.below h P1.lt), (O1.below h O1.lt)⟩) ?_
      clear hK KK
      try simp only [Act.put, actS]
      refine tk (i := 12) rfl (by kernel_rfl) (by rfl) (fun _ _ _ h => h) ⟨(P1.below h P1.lt), (O1.below h O1.lt)⟩ (by intro wS hSw; go_simp; try with_reducible rfl) ?_
      simp only [Act.put, actS]
      refine wpAnyT_ready (rs := [13]) (by kernel_rfl) (by simp) ?_
      refine (AllT.cons rfl (fun KK hK => ?_) AllT.nil)
      have P2 := Whole.below P1 h (Whole.lt P1)
      have O2 := Whole.below O1 h (Whole.lt O1)
      have Q2 := Whole.below Q1 h (Whole.lt Q1)
      have g2 := below_then g1 h
      clear P1 O1 Q1 g1
      have sc := Whole.cell P2 0
      have sf := Whole.frozen P2 0
      simp only [List.getElem?_toArray, List.getElem?_cons_succ, List.getElem?_cons_zero] at sc
      go_simp
      replace Vr := Lib.hid (own_block (W' := w5.setCell ⟨w.heap.size, 0, none⟩ (.slice a2 on z2)) Vr.out (fun g q => Below.heap_setCell _ _ _ _ (by have := (own_lt Vr.out q).1; show g ≠ w.heap.size; omega)))
      clear sc sf h
      have P3 : Whole (w5.setCell ⟨w.heap.size, 0, none⟩ (.slice a2 on z2)) w.heap.size 53 #[(.slice a2 on z2), .slice ta tn tc, .int .i64 nd, .bool wrong] := Whole.set P2 0 (.slice a2 on z2)
      have O3 := Whole.far (p := ⟨w.heap.size, 0, none⟩) O2 (by show (w.heap.size + 1) ≠ w.heap.size; omega) (.slice a2 on z2)
      have Q3 := Whole.far (p := ⟨w.heap.size, 0, none⟩) Q2 (by show (w.heap.size + 2) ≠ w.heap.size; omega) (.slice a2 on z2)
      have g3 := Below.setCell (p := ⟨w.heap.size, 0, none⟩) g2 (by show _ ≤ w.heap.size; omega) (.slice a2 on z2)
      clear P2 O2 Q2 g2
      generalize w5.setCell ⟨w.heap.size, 0, none⟩ (.slice a2 on z2) = w6 at *
      refine hK.out _ _ (.inl (by decide)) ?_
      clear hK KK
      try simp only [Act.put, actS]
      refine wpAnyT_done (by kernel_rfl) ?_ _
      obtain ⟨d0, d1, d2, d3⟩ := P3.o4s
      have HEn := Lib.hid (HEnd.out a2 z2 _ (w6.setRow (w.heap.size + 2) #[.slice a2 on z2, .slice ta tn tc, .int .i64 nd, .bool wrong]) hq1 (own_block Vr.out (fun g hg => setRow_other _ _ _ _ (by have := (own_lt Vr.out hg).1; omega))) (below_setRow g3 (by omega) _))
      go_wp2_with (refine wpList_store_row rfl 53 _ _ rfl (w.heap.size + 2) #[.slice a2 on z2, .slice ta tn tc, .int .i64 nd, .bool wrong] rfl rfl 53 _ Q3 st_row rfl (by simp [Value.oneCell']) ?_)
      exact bodyPost_ret (v := .agg #[.slice a2 on z2, .slice ta tn tc, .int .i64 nd, .bool wrong]) (ret_rst (p := 4) rfl rfl (Whole.setRow Q3 _)) rfl HEn.out
    · go_simp
      have q := (Below.refl w2.heap.size w2).alloc (Nat.le_refl _) (.cells #[.bool ymp, .slice ka kn kc, .int .i64 ycnt, .bool ydue] 90)
      have A := Whole.new w2 90 #[.bool ymp, .slice ka kn kc, .int .i64 ycnt, .bool ydue]
      generalize w2.alloc (.cells #[.bool ymp, .slice ka kn kc, .int .i64 ycnt, .bool ydue] 90) = w3 at q A ⊢
      have hne : w1.heap.size ≠ w2.heap.size := by have := (own_lt Vr.out (g := w1.heap.size) rfl).2; omega
      replace Vr := Lib.hid (own_below Vr.out q)
      have Xe := A
      replace h := below_then h q
      clear q A
      refine hK.out _ _ (.inr ⟨(P1.below h P1.lt), (O1.below h O1.lt)⟩) ?_
      clear hK KK
      try simp only [Act.put, actS]
      refine wpAnyT_ready (rs := [8]) (by kernel_rfl) (by simp) ?_
      refine (AllT.cons rfl (fun KK hK => ?_) AllT.nil)
      refine step_append_any _ (by rfl) _ _ _ (by rfl) _ 90 i0 _ 4 48 Tryd.underlying51 hi0 hz0 hz1 hz2 rfl (by decide) (.slice (some ⟨w1.heap.size, 0, none⟩) 0 0) 0 [] (by rfl) Vr.out (some ⟨ob, oo, none⟩) m oc news (by rfl) s0.out (s1.out _ (below_then g1 h)) s2.out m (by omega) s3.out s4.out h.size ?_
      intro a1 z1 w4 o hg ht
      replace Xe := Xe.kept hg (fun e => hne (Option.some.inj (show some _ = some _ from e)).symm)
      replace h := h.grown hg h.size (fun g q => (own_lt Vr.out q).1)
      replace Vr := Lib.hid o
      clear o hg ht
      refine hK.out _ _ (.inr ⟨(P1.below h P1.lt), (O1.below h O1.lt)⟩) ?_
      clear hK KK
      try simp only [Act.put, actS]
      refine wpAnyT_ready (rs := [11]) (by kernel_rfl) (by simp) ?_
      refine (AllT.cons rfl (fun KK hK => ?_) AllT.nil)
      refine step_append_any _ (by rfl) _ _ _ (by rfl) _ 90 i0 _ 4 48 Tryd.underlying51 hi0 hz0 hz1 hz2 rfl (by decide) (.slice a1 m z1) m _ (by rfl) Vr.out (some ⟨w2.heap.size, 0, none⟩) 1 1 (#[.bool ymp, .slice ka kn kc, .int .i64 ycnt, .bool ydue] : Array Value).toList (by rfl) (by rfl) (fun _ => ⟨_, rfl, World.news_of_block Xe⟩) t2.out on hmn t3.out t4.out h.size ?_
      intro a2 z2 w5 o hg ht
      clear Xe
      replace h := h.grown hg h.size (fun g q => (own_lt Vr.out q).1)
      replace Vr := Lib.hid o
      clear o hg ht
      refine hK.out _ _ (.inr ⟨(P1.below h P1.lt), (O1.below h O1.lt)⟩) ?_
      clear hK KK
      try simp only [Act.put, actS]
      refine tk (i := 12) rfl (by kernel_rfl) (by rfl) (fun _ _ _ h => h) ⟨(P1.below h P1.lt), (O1.below h O1.lt)⟩ (by intro wS hSw; go_simp; try with_reducible rfl) ?_
      simp only [Act.put, actS]
      refine wpAnyT_ready (rs := [13]) (by kernel_rfl) (by simp) ?_
      refine (AllT.cons rfl (fun KK hK => ?_) AllT.nil)
      have P2 := Whole.below P1 h (Whole.lt P1)
      have O2 := Whole.below O1 h (Whole.lt O1)
      have Q2 := Whole.below Q1 h (Whole.lt Q1)
      have g2 := below_then g1 h
      clear P1 O1 Q1 g1
      have sc := Whole.cell P2 0
      have sf := Whole.frozen P2 0
      simp only [List.getElem?_toArray, List.getElem?_cons_succ, List.getElem?_cons_zero] at sc
      go_simp
      replace Vr := Lib.hid (own_block (W' := w5.setCell ⟨w.heap.size, 0, none⟩ (.slice a2 on z2)) Vr.out (fun g q => Below.heap_setCell _ _ _ _ (by have := (own_lt Vr.out q).1; show g ≠ w.heap.size; omega)))
      clear sc sf h
      have P3 : Whole (w5.setCell ⟨w.heap.size, 0, none⟩ (.slice a2 on z2)) w.heap.size 53 #[(.slice a2 on z2), .slice ta tn tc, .int .i64 nd, .bool wrong] := Whole.set P2 0 (.slice a2 on z2)
      have O3 := Whole.far (p := ⟨w.heap.size, 0, none⟩) O2 (by show (w.heap.size + 1) ≠ w.heap.size; omega) (.slice a2 on z2)
      have Q3 := Whole.far (p := ⟨w.heap.size, 0, none⟩) Q2 (by show (w.heap.size + 2) ≠ w.heap.size; omega) (.slice a2 on z2)
      have g3 := Below.setCell (p := ⟨w.heap.size, 0, none⟩) g2 (by show _ ≤ w.heap.size; omega) (.slice a2 on z2)
      clear P2 O2 Q2 g2
      generalize w5.setCell ⟨w.heap.size, 0, none⟩ (.slice a2 on z2) = w6 at *
      refine hK.out _ _ (.inl (by decide)) ?_
      clear hK KK
      try simp only [Act.put, actS]
      refine wpAnyT_done (by kernel_rfl) ?_ _
      obtain ⟨d0, d1, d2, d3⟩ := P3.o4s
      have HEn := Lib.hid (HEnd.out a2 z2 _ (w6.setRow (w.heap.size + 2) #[.slice a2 on z2, .slice ta tn tc, .int .i64 nd, .bool wrong]) hq1 (own_block Vr.out (fun g hg => setRow_other _ _ _ _ (by have := (own_lt Vr.out hg).1; omega))) (below_setRow g3 (by omega) _))
      go_wp2_with (refine wpList_store_row rfl 53 _ _ rfl (w.heap.size + 2) #[.slice a2 on z2, .slice ta tn tc, .int .i64 nd, .bool wrong] rfl rfl 53 _ Q3 st_row rfl (by simp [Value.oneCell']) ?_)
      exact bodyPost_ret (v := .agg #[.slice a2 on z2, .slice ta tn tc, .int .i64 nd, .bool wrong]) (ret_rst (p := 4) rfl rfl (Whole.setRow Q3 _)) rfl HEn.out
  · go_simp
    have q := (Below.refl w1.heap.size w1).alloc (Nat.le_refl _) (.cells #[.bool ymp, .slice ka kn kc, .int .i64 ycnt, .bool ydue] 90)
    have A := Whole.new w1 90 #[.bool ymp, .slice ka kn kc, .int .i64 ycnt, .bool ydue]
    generalize w1.alloc (.cells #[.bool ymp, .slice ka kn kc, .int .i64 ycnt, .bool ydue] 90) = w2 at q A ⊢
    have Xe := A
    replace h := below_then h q
    clear q A
    refine hK.out _ _ (.inr ⟨(P1.below h P1.lt), (O1.below h O1.lt)⟩) ?_
    clear hK KK
    try simp only [Act.put, actS]
    refine wpAnyT_ready (rs := [0]) (by kernel_rfl) (by simp) ?_
    refine (AllT.cons rfl (fun KK hK => ?_) AllT.nil)
    go_simp
    have q := (Below.refl w2.heap.size w2).alloc (Nat.le_refl _) (.cells #[] 90)
    have A := Whole.new w2 90 #[]
    generalize w2.alloc (.cells #[] 90) = w3 at q A ⊢
    have Vr := Lib.hid (own_empty (C := 4) A h.size)
    have hne : w2.heap.size ≠ w1.heap.size := by have := Xe.lt; omega
    replace Xe := Xe.below q Xe.lt
    replace h := below_then h q
    clear q A
    refine hK.out _ _ (.inr ⟨(P1.below h P1.lt), (O1.below h O1.lt)⟩) ?_
    clear hK KK
    try simp only [Act.put, actS]
    refine wpAnyT_ready (rs := [8]) (by kernel_rfl) (by simp) ?_
    refine (AllT.cons rfl (fun KK hK => ?_) AllT.nil)
    refine step_append_any _ (by rfl) _ _ _ (by rfl) _ 90 i0 _ 4 48 Tryd.underlying51 hi0 hz0 hz1 hz2 rfl (by decide) (.slice (some ⟨w2.heap.size, 0, none⟩) 0 0) 0 [] (by rfl) Vr.out (some ⟨ob, oo, none⟩) m oc news (by rfl) s0.out (s1.out _ (below_then g1 h)) s2.out m (by omega) s3.out s4.out h.size ?_
    intro a1 z1 w4 o hg ht
    replace Xe := Xe.kept hg (fun e => hne (Option.some.inj (show some _ = some _ from e)).symm)
    replace h := h.grown hg h.size (fun g q => (own_lt Vr.out q).1)
    replace Vr := Lib.hid o
    clear o hg ht
    refine hK.out _ _ (.inr ⟨(P1.below h P1.lt), (O1.below h O1.lt)⟩) ?_
    clear hK KK
    try simp only [Act.put, actS]
    refine wpAnyT_ready (rs := [11]) (by kernel_rfl) (by simp) ?_
    refine (AllT.cons rfl (fun KK hK => ?_) AllT.nil)
    refine step_append_any _ (by rfl) _ _ _ (by rfl) _ 90 i0 _ 4 48 Tryd.underlying51 hi0 hz0 hz1 hz2 rfl (by decide) (.slice a1 m z1) m _ (by rfl) Vr.out (some ⟨w1.heap.size, 0, none⟩) 1 1 (#[.bool ymp, .slice ka kn kc, .int .i64 ycnt, .bool ydue] : Array Value).toList (by rfl) (by rfl) (fun _ => ⟨_, rfl, World.news_of_block Xe⟩) t2.out on hmn t3.out t4.out h.size ?_
    intro a2 z2 w5 o hg ht
    clear Xe
    replace h := h.grown hg h.size (fun g q => (own_lt Vr.out q).1)
    replace Vr := Lib.hid o
    clear o hg ht
    refine hK.out _ _ (.inr ⟨(P1.below h P1.lt), (O1.below h O1.lt)⟩) ?_
    clear hK KK
    try simp only [Act.put, actS]
    refine tk (i := 12) rfl (by kernel_rfl) (by rfl) (fun _ _ _ h => h) ⟨(P1.below h P1.lt), (O1.below h O1.lt)⟩ (by intro wS hSw; go_simp; try with_reducible rfl) ?_
    simp only [Act.put, actS]
    refine wpAnyT_ready (rs := [13]) (by kernel_rfl) (by simp) ?_
    refine (AllT.cons rfl (fun KK hK => ?_) AllT.nil)
    have P2 := Whole.below P1 h (Whole.lt P1)
    have O2 := Whole.below O1 h (Whole.lt O1)
    have Q2 := Whole.below Q1 h (Whole.lt Q1)
    have g2 := below_then g1 h
    clear P1 O1 Q1 g1
    have sc := Whole.cell P2 0
    have sf := Whole.frozen P2 0
    simp only [List.getElem?_toArray, List.getElem?_cons_succ, List.getElem?_cons_zero] at sc
    go_simp
    replace Vr := Lib.hid (own_block (W' := w5.setCell ⟨w.heap.size, 0, none⟩ (.slice a2 on z2)) Vr.out (fun g q => Below.heap_setCell _ _ _ _ (by have := (own_lt Vr.out q).1; show g ≠ w.heap.size; omega)))
    clear sc sf h
    have P3 : Whole (w5.setCell ⟨w.heap.size, 0, none⟩ (.slice a2 on z2)) w.heap.size 53 #[(.slice a2 on z2), .slice ta tn tc, .int .i64 nd, .bool wrong] := Whole.set P2 0 (.slice a2 on z2)
    have O3 := Whole.far (p := ⟨w.heap.size, 0, none⟩) O2 (by show (w.heap.size + 1) ≠ w.heap.size; omega) (.slice a2 on z2)
    have Q3 := Whole.far (p := ⟨w.heap.size, 0, none⟩) Q2 (by show (w.heap.size + 2) ≠ w.heap.size; omega) (.slice a2 on z2)
    have g3 := Below.setCell (p := ⟨w.heap.size, 0, none⟩) g2 (by show _ ≤ w.heap.size; omega) (.slice a2 on z2)
    clear P2 O2 Q2 g2
    generalize w5.setCell ⟨w.heap.size, 0, none⟩ (.slice a2 on z2) = w6 at *
    refine hK.out _ _ (.inl (by decide)) ?_
    clear hK KK
    try simp only [Act.put, actS]
    refine wpAnyT_done (by kernel_rfl) ?_ _
    obtain ⟨d0, d1, d2, d3⟩ := P3.o4s
    have HEn := Lib.hid (HEnd.out a2 z2 _ (w6.setRow (w.heap.size + 2) #[.slice a2 on z2, .slice ta tn tc, .int .i64 nd, .bool wrong]) hq1 (own_block Vr.out (fun g hg => setRow_other _ _ _ _ (by have := (own_lt Vr.out hg).1; omega))) (below_setRow g3 (by omega) _))
    go_wp2_with (refine wpList_store_row rfl 53 _ _ rfl (w.heap.size + 2) #[.slice a2 on z2, .slice ta tn tc, .int .i64 nd, .bool wrong] rfl rfl 53 _ Q3 st_row rfl (by simp [Value.oneCell']) ?_)
    exact bodyPost_ret (v := .agg #[.slice a2 on z2, .slice ta tn tc, .int .i64 nd, .bool wrong]) (ret_rst (p := 4) rfl rfl (Whole.setRow Q3 _)) rfl HEn.out
end Go.Proofs.YtpcbhneaaibfiaaDoor
