/- UTF-8: positions behind characters: plain, and the functions that return structs. -/
import Derived.Test.YtjokidcjjfdkpaaUtfRange
namespace Go.Proofs.Ytjokidcjjfdkpaa
open Go.RowKit Go.Shelf
attribute [local go_sem] Oper.semAt_some

/-! ### plain -/
def aft (p : Int × Int) (r : Int) : Int × Int := if r = 10 then (p.1 + 1, 1) else (p.1, p.2 + 1)
def posOf (rs : List Int) : Int × Int := rs.foldl aft (1, 1)
theorem posOf_snoc (rs : List Int) (r : Int) : posOf (rs ++ [r]) = aft (posOf rs) r := by unfold posOf; rw [List.foldl_append]; rfl
def sumw (rs : List Int) : Nat := (Utf.encs rs).length
theorem sumw_snoc (rs : List Int) (r : Int) : sumw (rs ++ [r]) = sumw rs + Utf.wid r := by
  unfold sumw
  rw [Utf.encs_append, List.length_append]
  show _ + (Utf.enc r ++ []).length = _
  rw [List.append_nil, Utf.enc_length]
theorem posOf_bd (rs : List Int) : 1 ≤ (posOf rs).1 ∧ (posOf rs).1 ≤ rs.length + 1 ∧ 1 ≤ (posOf rs).2 ∧ (posOf rs).2 ≤ rs.length + 1 := by
  have key : ∀ (n : Nat) (l : List Int), l.length = n → 1 ≤ (posOf l).1 ∧ (posOf l).1 ≤ l.length + 1 ∧ 1 ≤ (posOf l).2 ∧ (posOf l).2 ≤ l.length + 1 := by
    intro n
    induction n with
    | zero => intro l hl; obtain rfl : l = [] := List.eq_nil_of_length_eq_zero hl; simp [posOf]
    | succ n ih =>
      intro l hl
      obtain ⟨p, r, rfl⟩ : ∃ p r, l = p ++ [r] := ⟨l.dropLast, l.getLast (by intro e; subst e; cases hl), (List.dropLast_concat_getLast _).symm⟩
      have h := ih p (by simpa using hl)
      rw [posOf_snoc]
      unfold aft
      simp only [List.length_append, List.length_cons, List.length_nil]
      split <;> dsimp only <;> omega
  exact key rs.length rs rfl
theorem sumw_bd (rs : List Int) : sumw rs ≤ 4 * rs.length := by
  induction rs with
  | nil => exact Nat.le_refl _
  | cons r rs ih =>
    unfold sumw at ih ⊢
    rw [Utf.encs_cons, List.length_append, Utf.enc_length, List.length_cons]
    have := Utf.wid_bd r
    omega

theorem off_snoc (pre : List Int) (x : Int) (k : Nat) (h : k ≤ pre.length) : Utf.off (pre ++ [x]) k = Utf.off pre k := by unfold Utf.off; rw [List.take_append_of_le_length h]
theorem off_all (l : List Int) : Utf.off l l.length = sumw l := by unfold Utf.off sumw; rw [List.take_length]

/-! ### after -/
theorem after_any (l c r : Int) (w : World) (h1 : 1 ≤ l) (h2 : l ≤ 100000) (h3 : 1 ≤ c) (h4 : c ≤ 100000) :
    Calls Try.prog 40 #[.agg #[.int .i64 l, .int .i64 c], .int .i64 r] w fun e w' => e = .returned (.agg #[.int .i64 (aft (l, c) r).1, .int .i64 (aft (l, c) r).2]) ∧ Below w.heap.size w w' := by
  by_cases hr : r = 10
  · have t : (r == 10) = true := by simpa using hr
    have e1 : aft (l, c) r = (l + 1, 1) := by unfold aft; rw [if_pos hr]
    rw [e1]
    clear hr e1
    go_enter Try.func40, Try.ntmps40
    go_wp2
    exact bodyPost_ret (v := .agg #[.int .i64 (l + 1), .int .i64 1]) (by simp [results, Try.results40, go_sem]) rfl ⟨rfl, ((Below.refl _ _).alloc (Nat.le_refl _) _).alloc (by simp) _⟩
  · have t : (r == 10) = false := by simpa using hr
    have e1 : aft (l, c) r = (l, c + 1) := by unfold aft; rw [if_neg hr]
    rw [e1]
    clear hr e1
    go_enter Try.func40, Try.ntmps40
    go_wp2
    exact bodyPost_ret (v := .agg #[.int .i64 l, .int .i64 (c + 1)]) (by simp [results, Try.results40, go_sem]) rfl ⟨rfl, ((Below.refl _ _).alloc (Nat.le_refl _) _).alloc (by simp) _⟩

/-! ### a block that is known whole -/
def Whole (W : World) (B : Nat) (t : TypeId) (cs : Array Value) : Prop := W.heap[B]? = some (.cells cs t (0, 0))
theorem Whole.lt {W : World} {B : Nat} {t : TypeId} {cs : Array Value} (h : Whole W B t cs) : B < W.heap.size := (Array.getElem?_eq_some_iff.1 h).1
theorem Whole.cell {W : World} {B : Nat} {t : TypeId} {cs : Array Value} (h : Whole W B t cs) (i : Nat) : W.cell? ⟨B, i, none⟩ = cs[i]? := by simp [World.cell?, show W.heap[B]? = _ from h]
theorem Whole.frozen {W : World} {B : Nat} {t : TypeId} {cs : Array Value} (h : Whole W B t cs) (i : Nat) : W.frozen? ⟨B, i, none⟩ = false := by simp [World.frozen?, show W.heap[B]? = _ from h]
theorem Whole.c {W : World} {B : Nat} {t : TypeId} {a : Value} (h : Whole W B t #[a]) : W.cell? ⟨B, 0, none⟩ = some a := h.cell 0
theorem Whole.c0 {W : World} {B : Nat} {t : TypeId} {a b : Value} (h : Whole W B t #[a, b]) : W.cell? ⟨B, 0, none⟩ = some a := h.cell 0
theorem Whole.c1 {W : World} {B : Nat} {t : TypeId} {a b : Value} (h : Whole W B t #[a, b]) : W.cell? ⟨B, 1, none⟩ = some b := h.cell 1
theorem Whole.new (W : World) (t : TypeId) (cs : Array Value) : Whole (W.alloc (.cells cs t)) W.heap.size t cs := World.alloc_heap_new W _
theorem Whole.kept {W W' : World} {row : Option Nat} {B : Nat} {t : TypeId} {cs : Array Value} (h : Whole W B t cs) (hg : W.grownBy W' row) (hne : some B ≠ row) : Whole W' B t cs := (hg.block B h.lt hne).trans h
theorem Whole.alloc {W : World} {B : Nat} {t : TypeId} {cs : Array Value} (h : Whole W B t cs) (o : Obj) : Whole (W.alloc o) B t cs := h.kept (World.grownBy_alloc W o none) (by simp)
theorem Whole.below {W W' : World} {n B : Nat} {t : TypeId} {cs : Array Value} (h : Whole W B t cs) (hb : Below n W W') (hn : B < n) : Whole W' B t cs := (hb.block B hn).trans h
theorem Whole.drew {W : World} {B : Nat} {t : TypeId} {cs : Array Value} (h : Whole W B t cs) : Whole W.drew B t cs := h
theorem Whole.far {W : World} {B : Nat} {t : TypeId} {cs : Array Value} (h : Whole W B t cs) {p : Addr} (hp : B ≠ p.block) (u : Value) : Whole (W.setCell p u) B t cs := (Below.heap_setCell W p u B hp).trans h
theorem Whole.set {W : World} {B : Nat} {t : TypeId} {cs : Array Value} (h : Whole W B t cs) (i : Nat) (u : Value) : Whole (W.setCell ⟨B, i, none⟩ u) B t (cs.setIfInBounds i u) := by
  unfold Whole at h ⊢
  simp [World.setCell, Array.getElem?_modify, h]
theorem Whole.s {W : World} {B : Nat} {t : TypeId} {a : Value} (h : Whole W B t #[a]) (u : Value) : Whole (W.setCell ⟨B, 0, none⟩ u) B t #[u] := h.set 0 u
theorem Whole.s2 {W : World} {B : Nat} {t : TypeId} {a b : Value} (h : Whole W B t #[a, b]) (u v : Value) : Whole ((W.setCell ⟨B, 0, none⟩ u).setCell ⟨B, 1, none⟩ v) B t #[u, v] := (h.set 0 u).set 1 v
theorem Whole.put {W : World} {B D : Nat} {t : TypeId} {cs : Array Value} {o : Obj} (h : Whole W B t cs) (hD : W.heap[D]? = some o) (hc : o.isCells = false) (o' : Obj) : Whole (W.putObj D o') B t cs :=
  h.kept (grownBy_putObj' W D o') (fun e => by cases e; rw [show W.heap[B]? = _ from h] at hD; cases hD; cases hc)
theorem whole_own {β : Type} (B : Nat) (t : TypeId) (f : β → Array Value) : Own (fun s W => Whole W B t (f s)) := fun s X Y row hs hg hrow =>
  hs.kept hg (fun e' => by obtain ⟨o, ho, hc⟩ := hrow B e'.symm; rw [show X.heap[B]? = _ from hs] at ho; cases ho; cases hc)

theorem keepsFrom_below {B n : Nat} {W W' : World} (h : Below n W W') (hn : W.heap.size ≤ n) : KeepsFrom B W W' :=
  ⟨h.size, fun k _ _ hk _ => (h.block k (by have := (Array.getElem?_eq_some_iff.1 hk).1; omega)).trans hk⟩
theorem keepsCell_below {B n : Nat} {W W' : World} (h : Below n W W') (hn : B < n) : KeepsCell B W W' := fun _ hv => (h.cell (p := ⟨B, 0, none⟩) hn).trans hv
theorem keepsCell_over {B n : Nat} {W W' : World} (h : Below n W W') (hn : W.heap.size ≤ n) : KeepsCell B W W' := by
  intro v hv
  have hlt : B < W.heap.size := by
    unfold World.cell? at hv
    rcases Nat.lt_or_ge B W.heap.size with h | h
    · exact h
    · rw [Array.getElem?_eq_none h] at hv; cases hv
  exact keepsCell_below h (by omega) v hv
theorem keepsFrom_set {B b i : Nat} {W : World} (u : Value) (hb : b < B) : KeepsFrom B W (W.setCell ⟨b, i, none⟩ u) :=
  ⟨by simp, fun k _ hB hk _ => (Below.heap_setCell W ⟨b, i, none⟩ u k (by simp; omega)).trans hk⟩

/-! ### Position -/
theorem position_bad {s : ByteArray} {rs : List Int} {rest : List UInt8} (h : Utf.Split s.data.toList rs rest) (hs : s.size ≤ maxLen) (hr : rest.length ≠ 0) (a : Int) (w : World) :
    Calls Try.prog 29 #[.string s, .int .i64 a] w fun e w' => e = .returned (.tuple #[.agg #[.int .i64 0, .int .i64 0], .int .i64 5]) ∧ Below w.heap.size w w' := by
  have HV := Lib.hid (valid_any h hs)
  rw [decide_eq_false hr] at HV
  clear h hr
  go_enter Try.func29, Try.ntmps29
  go_wp2_with (go_at_call 23; refine (HV.out _).mono ?_; rintro e w' ⟨rfl, rfl⟩)
  exact bodyPost_ret (v := .tuple #[.agg #[.int .i64 0, .int .i64 0], .int .i64 5]) (by simp [results, Try.results29, go_sem]) rfl ⟨rfl, (((Below.refl _ _).alloc (Nat.le_refl _) _).alloc (by simp) _).alloc (by simp; omega) _⟩
theorem position_zero {s : ByteArray} {rs : List Int} {rest : List UInt8} (h : Utf.Split s.data.toList rs rest) (hs : s.size ≤ maxLen) (hr : rest.length = 0) (w : World) :
    Calls Try.prog 29 #[.string s, .int .i64 0] w fun e w' => e = .returned (.tuple #[.agg #[.int .i64 1, .int .i64 1], .int .i64 0]) ∧ Below w.heap.size w w' := by
  have HV := Lib.hid (valid_any h hs)
  rw [decide_eq_true hr] at HV
  clear h hr
  go_enter Try.func29, Try.ntmps29
  go_wp2_with (go_at_call 23; refine (HV.out _).mono ?_; rintro e w' ⟨rfl, rfl⟩)
  exact bodyPost_ret (v := .tuple #[.agg #[.int .i64 1, .int .i64 1], .int .i64 0]) (by simp [results, Try.results29, go_sem]) rfl ⟨rfl, (((((Below.refl _ _).alloc (Nat.le_refl _) _).alloc (by simp) _).alloc (by simp; omega) _).alloc (by simp; omega) _).alloc (by simp; omega) _⟩

/-- What Position comes to behind the loop: the position behind some characters that end at a, or the error. -/
def PosEnd (rs : List Int) (a : Int) (e : Ending) : Prop :=
  (∃ k, 1 ≤ k ∧ k ≤ rs.length ∧ (Utf.off rs k : Int) = a ∧ e = .returned (.tuple #[.agg #[.int .i64 (posOf (rs.take k)).1, .int .i64 (posOf (rs.take k)).2], .int .i64 0])) ∨
  ((∀ k, 1 ≤ k → k ≤ rs.length → (Utf.off rs k : Int) ≠ a) ∧ e = .returned (.tuple #[.agg #[.int .i64 0, .int .i64 0], .int .i64 2]))

set_option maxRecDepth 100000 in
set_option maxHeartbeats 2000000 in
theorem position_loop {s : ByteArray} {rs : List Int} {rest : List UInt8} (h : Utf.Split s.data.toList rs rest) (hs : s.size ≤ 4096) (hr : rest.length = 0) (a : Int) (ha : a ≠ 0) (w : World) :
    Calls Try.prog 29 #[.string s, .int .i64 a] w fun e w' => PosEnd rs a e ∧ Below w.heap.size w w' := by
  have HV := Lib.hid (valid_any h (by unfold maxLen; omega))
  rw [decide_eq_true hr] at HV
  have hcl : rs.length ≤ s.size := by simpa using Utf.count_le h
  have ta : (a == 0) = false := by simpa using ha
  clear ha hr
  have HSP := Lib.hid h; clear h
  refine (callsIn_wide (n := 5)).1 ?_
  refine callsIn_of_wp_marks Try.func29 rfl trivial ?_ rfl
  simp only [Try.ntmps29, List.size_toArray, List.length_cons, List.length_nil, Nat.reduceAdd, Nat.reduceSub, Array.replicate_succ, Array.replicate_zero, List.push_toArray, List.append_toArray, List.nil_append, List.cons_append]
  gi_wp2_with (first | (refine ⟨trivial, ?_⟩; gi_at_call 23; refine (callsIn_wide.2 (HV.out _)).mono ?_; rintro e w' ⟨rfl, rfl⟩) | (refine ⟨trivial, ?_⟩; gi_at_call 37; refine (callsIn_wide.2 (runes_make s _)).mono ?_; rintro e w' ⟨rfl, rfl⟩))
  have b0 := Whole.new w 3 #[.int .i64 a]
  have b1 := Whole.new (w.alloc (.cells #[.int .i64 a] 3)) 48 #[.int .i64 0, .int .i64 0]
  have b2 := Whole.new ((w.alloc (.cells #[.int .i64 a] 3)).alloc (.cells #[.int .i64 0, .int .i64 0] 48)) 22 #[.int .i64 0]
  have b3 := Whole.new (((w.alloc (.cells #[.int .i64 a] 3)).alloc (.cells #[.int .i64 0, .int .i64 0] 48)).alloc (.cells #[.int .i64 0] 22)) 48 #[.int .i64 1, .int .i64 1]
  have b4 := Whole.new ((((w.alloc (.cells #[.int .i64 a] 3)).alloc (.cells #[.int .i64 0, .int .i64 0] 48)).alloc (.cells #[.int .i64 0] 22)).alloc (.cells #[.int .i64 1, .int .i64 1] 48)) 3 #[.int .i64 0]
  have b5 := Whole.new (((((w.alloc (.cells #[.int .i64 a] 3)).alloc (.cells #[.int .i64 0, .int .i64 0] 48)).alloc (.cells #[.int .i64 0] 22)).alloc (.cells #[.int .i64 1, .int .i64 1] 48)).alloc (.cells #[.int .i64 0] 3)) 9 #[.string s]
  simp only [World.size_alloc] at b1 b2 b3 b4 b5
  have hB0 : Below w.heap.size w ((((((w.alloc (.cells #[.int .i64 a] 3)).alloc (.cells #[.int .i64 0, .int .i64 0] 48)).alloc (.cells #[.int .i64 0] 22)).alloc (.cells #[.int .i64 1, .int .i64 1] 48)).alloc (.cells #[.int .i64 0] 3)).alloc (.cells #[.string s] 9)) :=
    ((((((Below.refl _ w).alloc (Nat.le_refl _) _).alloc (by simp) _).alloc (by simp; omega) _).alloc (by simp; omega) _).alloc (by simp; omega) _).alloc (by simp <;> omega) _
  refine wpIn_rangeFunc_ownG rfl (by omega : 1 ≤ 5) (gf := 42) (lb := #[.pointer (some ⟨w.heap.size + 1 + 1 + 1 + 1 + 1, 0, none⟩)]) rfl trivial (enters_of Try.func42 (by kernel_rfl) rfl)
    (runes_stops 4 (by omega) (w.heap.size + 1 + 1 + 1 + 1 + 1) HSP.out hs _ (by simp) (b5.cell 0)) keepsCell_t keepsCell_b (Below.refl _ _) (fun _ => rfl)
    (fun pre W => (Whole W (w.heap.size + 1 + 1 + 1) 48 #[.int .i64 (posOf pre).1, .int .i64 (posOf pre).2] ∧ Whole W (w.heap.size + 1 + 1 + 1 + 1) 3 #[.int .i64 (sumw pre)] ∧ Whole W w.heap.size 3 #[.int .i64 a] ∧ Whole W (w.heap.size + 1) 48 #[.int .i64 0, .int .i64 0] ∧ Whole W (w.heap.size + 1 + 1) 22 #[.int .i64 0]) ∧ Below w.heap.size w W ∧ (∀ k, 1 ≤ k → k ≤ pre.length → (Utf.off pre k : Int) ≠ a))
    (fun c pre W => (Whole W (w.heap.size + 1) 48 #[.int .i64 (posOf pre).1, .int .i64 (posOf pre).2] ∧ Whole W (w.heap.size + 1 + 1) 22 #[.int .i64 0]) ∧ Below w.heap.size w W ∧ (c = .ret ∧ 1 ≤ pre.length ∧ (sumw pre : Int) = a))
    (OwnFrom.and (OwnFrom.and (Own.from (whole_own _ _ _) _) (OwnFrom.and (Own.from (whole_own _ _ _) _) (OwnFrom.and (Own.from (whole_own _ _ _) _) (OwnFrom.and (Own.from (whole_own _ _ _) _) (Own.from (whole_own _ _ _) _))))) (OwnFrom.and (ownFrom_below (Nat.le_refl _) (by simp; omega)) (ownFrom_pure _ _)))
    (fun c => OwnFrom.and (OwnFrom.and (Own.from (whole_own _ _ _) _) (Own.from (whole_own _ _ _) _)) (OwnFrom.and (ownFrom_below (Nat.le_refl _) (by simp; omega)) (ownFrom_pure _ _)))
    ⟨⟨(b3.alloc _).alloc _, b4.alloc _, ((((b0.alloc _).alloc _).alloc _).alloc _).alloc _, (((b1.alloc _).alloc _).alloc _).alloc _, ((b2.alloc _).alloc _).alloc _⟩, hB0, fun k h1 h2 => by simp at h2; omega⟩
    (fun x => { tmps := #[.string s, .int .i64 a, undef, .pointer (some ⟨w.heap.size, 0, none⟩), .pointer (some ⟨w.heap.size + 1, 0, none⟩), .pointer (some ⟨w.heap.size + 1 + 1, 0, none⟩), .pointer (some ⟨w.heap.size + 1 + 1 + 1, 0, none⟩), .pointer (some ⟨w.heap.size + 1 + 1 + 1 + 1, 0, none⟩), .int .i64 x, .string s, .bool true, .bool false, undef, .agg #[.int .i64 1, .int .i64 1], .int .i64 a, .bool false, undef, .string s, .func (.func 42) #[] #[.pointer (some ⟨w.heap.size + 1 + 1 + 1 + 1 + 1, 0, none⟩)], .int .i64 x, undef, undef, undef, undef, undef, undef, undef, undef, undef, undef, undef, undef], defers := [] }) ?assign ?body ?done ?stop
  case assign =>
    intro l x W K hK
    gi_wp2
    exact hK
  case body =>
    rintro l pre x W ⟨⟨hp, hi, ha, hq, he⟩, hB, hno⟩ hlt
    have hmx : Try.prog.follows .mixedOrders = true := by kernel_rfl
    have ci := hi.cell 0
    have fi := hi.frozen 0
    simp only [List.getElem?_toArray, List.getElem?_cons_zero] at ci
    have sb := sumw_bd pre
    have wb := Utf.wid_bd x
    gi_wp2
    gi_region_with_o (refine ⟨trivial, ?_⟩; gi_at_call 34; refine (CallsIn.inRound l (callsIn_wide.2 (width_any _ _))).mono ?_; rintro e w' ⟨rfl, rfl⟩)
    all_goals
      have hi' := (hi.s (.int .i64 ((sumw pre : Int) + (Utf.wid x : Int)))).drew
      have hp' : Whole (W.setCell ⟨w.heap.size + 1 + 1 + 1 + 1, 0, none⟩ (.int .i64 ((sumw pre : Int) + (Utf.wid x : Int)))).drew (w.heap.size + 1 + 1 + 1) 48 #[.int .i64 (posOf pre).1, .int .i64 (posOf pre).2] := (hp.far (by simp <;> omega) _).drew
      have ha' : Whole (W.setCell ⟨w.heap.size + 1 + 1 + 1 + 1, 0, none⟩ (.int .i64 ((sumw pre : Int) + (Utf.wid x : Int)))).drew w.heap.size 3 #[.int .i64 a] := (ha.far (by simp <;> omega) _).drew
      have hq' : Whole (W.setCell ⟨w.heap.size + 1 + 1 + 1 + 1, 0, none⟩ (.int .i64 ((sumw pre : Int) + (Utf.wid x : Int)))).drew (w.heap.size + 1) 48 #[.int .i64 0, .int .i64 0] := (hq.far (by simp <;> omega) _).drew
      have he' : Whole (W.setCell ⟨w.heap.size + 1 + 1 + 1 + 1, 0, none⟩ (.int .i64 ((sumw pre : Int) + (Utf.wid x : Int)))).drew (w.heap.size + 1 + 1) 22 #[.int .i64 0] := (he.far (by simp <;> omega) _).drew
      have hkf' : KeepsFrom (w.heap.size + 1 + 1 + 1 + 1 + 1 + 1) W (W.setCell ⟨w.heap.size + 1 + 1 + 1 + 1, 0, none⟩ (.int .i64 ((sumw pre : Int) + (Utf.wid x : Int)))).drew := (keepsFrom_set _ (by omega)).trans (keepsFrom_below (Below.refl _ _).drew (Nat.le_refl _))
      have hkc' : KeepsCell (w.heap.size + 1 + 1 + 1 + 1 + 1) W (W.setCell ⟨w.heap.size + 1 + 1 + 1 + 1, 0, none⟩ (.int .i64 ((sumw pre : Int) + (Utf.wid x : Int)))).drew := keepsCell_t (keepsCell_set (by omega) _ _ _) (fun _ h => h)
      have hB' : Below w.heap.size w (W.setCell ⟨w.heap.size + 1 + 1 + 1 + 1, 0, none⟩ (.int .i64 ((sumw pre : Int) + (Utf.wid x : Int)))).drew := (hB.setCell (by simp <;> omega) _).drew
      have hwr : IntKind.i64.wrap ((sumw pre : Int) + (Utf.wid x : Int)) = (sumw pre : Int) + (Utf.wid x : Int) := by rw [IntKind.wrap_i64]; omega
      rw [hwr]
      clear hwr
      generalize (W.setCell ⟨w.heap.size + 1 + 1 + 1 + 1, 0, none⟩ (.int .i64 ((sumw pre : Int) + (Utf.wid x : Int)))).drew = W2 at *
      clear hi hp ha hq he ci fi hB
      obtain ⟨pb1, pb2, pb3, pb4⟩ := posOf_bd pre
      have HPO := Lib.hid (posOf_snoc pre x)
      have HSW := Lib.hid (sumw_snoc pre x)
      have HA := Lib.hid (after_any (posOf pre).1 (posOf pre).2 x)
      have HNO := Lib.hid hno; clear hno
      rw [← HPO.out] at HA
      have hsz := hB'.size
      have cp0 := hp'.c0
      have cp1 := hp'.c1
      generalize (posOf pre).1 = pl at *
      generalize (posOf pre).2 = pc at *
      by_cases hst : (sumw pre : Int) + (Utf.wid x : Int) = a
      · have tst : (((sumw pre : Int) + (Utf.wid x : Int)) == a) = true := by simpa using hst
        have HST := Lib.hid hst; clear hst
        gi_wp2_with (refine ⟨trivial, ?_⟩; gi_at_call 40; refine (CallsIn.inRound l (callsIn_wide.2 (HA.out _ (by omega) (by omega) (by omega) (by omega)))).mono ?_; rintro e w3 ⟨rfl, hb3⟩; have hi3 := hi'.below hb3 hi'.lt; have hp3 := hp'.below hb3 hp'.lt; have ha3 := ha'.below hb3 ha'.lt; have hq3 := hq'.below hb3 hq'.lt; have he3 := he'.below hb3 he'.lt; have ci3 := hi3.c; have cp30 := hp3.c0; have cp31 := hp3.c1; have fp3 := hp3.frozen; have ca3 := ha3.c; have cq30 := hq3.c0; have cq31 := hq3.c1; have fq3 := hq3.frozen; have ce3 := he3.c; have fe3 := he3.frozen)
        refine ⟨by simp only [World.size_alloc]; exact hkf'.trans ((keepsFrom_below hb3 (Nat.le_refl _)).trans ((keepsFrom_set _ (by omega)).trans ((keepsFrom_set _ (by omega)).trans ((keepsFrom_set _ (by omega)).trans ((keepsFrom_set _ (by omega)).trans (keepsFrom_set _ (by omega))))))), ⟨?_, ?_⟩, ?_, rfl, by simp, ?_⟩
        · exact (((hq3.far (by simp <;> omega) _).far (by simp <;> omega) _).s2 _ _).far (by simp <;> omega) _
        · exact ((((he3.far (by simp <;> omega) _).far (by simp <;> omega) _).far (by simp <;> omega) _).far (by simp <;> omega) _).s _
        · exact (((((hB'.trans (hb3.mono hsz)).setCell (by simp <;> omega) _).setCell (by simp <;> omega) _).setCell (by simp <;> omega) _).setCell (by simp <;> omega) _).setCell (by simp <;> omega) _
        · rw [HSW.out]; have := HST.out; omega
      · have tst : (((sumw pre : Int) + (Utf.wid x : Int)) == a) = false := by simpa using hst
        have HST := Lib.hid hst; clear hst
        gi_wp2_with (refine ⟨trivial, ?_⟩; gi_at_call 40; refine (CallsIn.inRound l (callsIn_wide.2 (HA.out _ (by omega) (by omega) (by omega) (by omega)))).mono ?_; rintro e w3 ⟨rfl, hb3⟩; have hi3 := hi'.below hb3 hi'.lt; have hp3 := hp'.below hb3 hp'.lt; have ha3 := ha'.below hb3 ha'.lt; have hq3 := hq'.below hb3 hq'.lt; have he3 := he'.below hb3 he'.lt; have ci3 := hi3.c; have cp30 := hp3.c0; have cp31 := hp3.c1; have fp3 := hp3.frozen; have ca3 := ha3.c; have cq30 := hq3.c0; have cq31 := hq3.c1; have fq3 := hq3.frozen; have ce3 := he3.c; have fe3 := he3.frozen)
        refine ⟨by simp only [World.size_alloc]; exact hkf'.trans ((keepsFrom_below hb3 (Nat.le_refl _)).trans ((keepsFrom_set _ (by omega)).trans (keepsFrom_set _ (by omega)))), keepsCell_t hkc' (keepsCell_t (keepsCell_over hb3 (Nat.le_refl _)) (keepsCell_t (keepsCell_set (by omega) _ _ _) (keepsCell_set (by omega) _ _ _))), ⟨?_, ?_, ?_, ?_, ?_⟩, ?_, ?_⟩
        · exact hp3.s2 _ _
        · rw [HSW.out]; exact (hi3.far (by simp <;> omega) _).far (by simp <;> omega) _
        · exact (ha3.far (by simp <;> omega) _).far (by simp <;> omega) _
        · exact (hq3.far (by simp <;> omega) _).far (by simp <;> omega) _
        · exact (he3.far (by simp <;> omega) _).far (by simp <;> omega) _
        · exact (((hB'.trans (hb3.mono hsz)).setCell (by simp <;> omega) _).setCell (by simp <;> omega) _)
        · intro k k1 k2
          rcases Nat.lt_or_ge pre.length k with k3 | k3
          · obtain rfl : k = (pre ++ [x]).length := by simp at k2 ⊢; omega
            rw [off_all, HSW.out]; have := HST.out; omega
          · rw [off_snoc _ _ _ k3]; exact HNO.out k k1 k3
  case done =>
    rintro D ys W hD rfl ⟨⟨hp, hi, ha, hq, he⟩, hB, hno⟩ hK
    simp only [World.size_alloc] at hD
    have HNO := Lib.hid hno; clear hno
    have cq0 := hq.c0
    have cq1 := hq.c1
    have fq := hq.frozen
    have ce := he.c
    have fe := he.frozen
    have hK2 : (((W.setCell ⟨w.heap.size + 1, 0, none⟩ (.int .i64 0)).setCell ⟨w.heap.size + 1, 1, none⟩ (.int .i64 0)).setCell ⟨w.heap.size + 1 + 1, 0, none⟩ (.int .i64 2)).heap[D]? = some (.deferred (some [])) :=
      (Below.heap_setCell _ _ _ D (by simp; omega)).trans ((Below.heap_setCell _ _ _ D (by simp; omega)).trans ((Below.heap_setCell _ _ _ D (by simp; omega)).trans hK))
    have hq2 := ((hq.s2 (.int .i64 0) (.int .i64 0)).far (p := ⟨w.heap.size + 1 + 1, 0, none⟩) (by simp <;> omega) (.int .i64 2)).put hK2 rfl (.deferred none)
    have he2 := ((((he.far (p := ⟨w.heap.size + 1, 0, none⟩) (by simp <;> omega) (.int .i64 0)).far (p := ⟨w.heap.size + 1, 1, none⟩) (by simp <;> omega) (.int .i64 0))).s (.int .i64 2)).put hK2 rfl (.deferred none)
    have hB2 := ((((hB.setCell (p := ⟨w.heap.size + 1, 0, none⟩) (by simp <;> omega) (.int .i64 0)).setCell (p := ⟨w.heap.size + 1, 1, none⟩) (by simp <;> omega) (.int .i64 0))).setCell (p := ⟨w.heap.size + 1 + 1, 0, none⟩) (by simp <;> omega) (.int .i64 2)).trans (belowK_b (w := w) (Nat.le_refl _) _ D _ (.deferred none) (by omega) hK2 rfl rfl)
    gi_wp2
    refine ⟨by simp, .inl ⟨_, _, rfl, run_takeDeferred hK2, ?_⟩⟩
    refine ⟨.tuple #[.agg #[.int .i64 0, .int .i64 0], .int .i64 2], ?_, .inr ⟨HNO.out, rfl⟩, hB2⟩
    generalize World.putObj _ D (.deferred none) = W9 at *
    simp [results, Try.results29, go_sem, hq2.c0, hq2.c1, he2.c]
  case stop =>
    rintro D c pre W hD hpre ⟨⟨hq, he⟩, hB, rfl, hn, hs⟩ hK
    have hq2 := hq.put hK rfl (.deferred none)
    have he2 := he.put hK rfl (.deferred none)
    have HPR := Lib.hid (List.prefix_iff_eq_take.1 hpre); have hlp := hpre.length_le; clear hpre
    have HS := Lib.hid hs; clear hs
    gi_wp2
    refine ⟨by simp, .inl ⟨_, _, rfl, run_takeDeferred hK, ?_⟩⟩
    refine ⟨.tuple #[.agg #[.int .i64 (posOf pre).1, .int .i64 (posOf pre).2], .int .i64 0], ?_, .inl ⟨pre.length, hn, hlp, ?_, ?_⟩, hB.trans (belowK_b (w := w) (Nat.le_refl _) W D _ _ (by simp at hD; omega) hK rfl rfl)⟩
    · generalize World.putObj _ D (.deferred none) = W9 at *
      simp [results, Try.results29, go_sem, hq2.c0, hq2.c1, he2.c]
    · unfold Utf.off; rw [← HPR.out]; exact HS.out
    · rw [← HPR.out]
end Go.Proofs.Ytjokidcjjfdkpaa
