/- Laid together for a claim: VtChgM, VtWide, VtBytes, VtFind. -/
import Derived.Test.YtfkfboiblgoamaaDoorQB13
import Derived.Test.YtfkfboiblgoamaaDoorQB09
import Derived.OwnWalk
import Derived.Test.YtfkfboiblgoamaaDoorQB05
import Derived.Test.YtfkfboiblgoamaaDoorQB01
import Derived.Laws.BytesArg
import Derived.Test.YtfkfboiblgoamaaDoorQB08
import Derived.StillTailTactics
import Derived.Deep.QuietTactic
import Derived.BigQuiet
import Derived.WalkSmall
/- Values changed at a path: plain. -/
namespace Go.Proofs.YtfkfboiblgoamaaDoor
open Go.RowKit

def Vt.setL : Vt → Nat → Vt → Vt
  | .nil, _, _ => .nil
  | .mk h Y L K F, i, X => .mk h Y (fun j => if j = i then X else L j) K F
def Vt.setF : Vt → Nat → Vt → Vt
  | .nil, _, _ => .nil
  | .mk h Y L K F, i, X => .mk h Y L K (fun j => if j = i then X else F j)
/-- A value changed at a path (each step of which leads somewhere). -/
noncomputable def Vt.chg (g : Vt → Vt) : Nat → (Nat → Stp) → Vt → Vt
  | 0, _, T => g T
  | n + 1, S, T => if (S 0).ix = true then T.setL (T.find (S 0)).1.toNat (Vt.chg g n (fun i => S (i + 1)) (T.L (T.find (S 0)).1.toNat)) else T.setF (T.find (S 0)).1.toNat (Vt.chg g n (fun i => S (i + 1)) (T.F (T.find (S 0)).1.toNat))
theorem Vt.atN_le {T : Vt} {S : Nat → Stp} {k n : Nat} (h : (T.atN S n).2 = 0) (hk : k ≤ n) : (T.atN S k).2 = 0 :=
  Classical.byContradiction fun q => q (by rw [← Vt.atN_stays q n hk]; exact h)
theorem Vt.atN_find {T : Vt} {S : Nat → Stp} {k n : Nat} (h : (T.atN S n).2 = 0) (hk : k < n) : ((T.atN S k).1.find (S k)).2 = 0 := by
  refine Classical.byContradiction fun q => ?_
  have := Vt.atN_bad (Vt.atN_le h (Nat.le_of_lt hk)) q hk
  rw [h] at this
  exact q this.symm
theorem Vt.atN_shift {T : Vt} {S : Nat → Stp} (h0 : (T.find (S 0)).2 = 0) : ∀ n, T.atN S (n + 1) = (T.part (T.find (S 0)).1.toNat).atN (fun i => S (i + 1)) n := by
  intro n
  induction n with
  | zero => exact Vt.atN_next (k := 0) rfl h0
  | succ n ih =>
    show (if (T.atN S (n + 1)).2 ≠ 0 then T.atN S (n + 1) else if ((T.atN S (n + 1)).1.find (S (n + 1))).2 ≠ 0 then ((T.atN S (n + 1)).1, ((T.atN S (n + 1)).1.find (S (n + 1))).2) else ((T.atN S (n + 1)).1.part ((T.atN S (n + 1)).1.find (S (n + 1))).1.toNat, 0)) = _
    rw [ih]
    rfl
theorem Vt.part_ix {T : Vt} {s : Stp} (h : (T.find s).2 = 0) (hx : s.ix = true) : T.part (T.find s).1.toNat = T.L (T.find s).1.toNat ∧ T.h.k = 6 ∧ (T.find s).1.toNat < T.h.ln ∧ (T.find s).1 = ((T.find s).1.toNat : Nat) := by
  obtain ⟨i, e, hc⟩ := Vt.find_ok h
  rw [e, Int.toNat_natCast]
  rcases hc with ⟨_, k6, hi, _⟩ | ⟨hf, _⟩
  · exact ⟨if_pos k6, k6, hi, rfl⟩
  · rw [hx] at hf; cases hf
theorem Vt.part_key {T : Vt} {s : Stp} (h : (T.find s).2 = 0) (hx : s.ix = false) : T.part (T.find s).1.toNat = T.F (T.find s).1.toNat ∧ T.h.k = 7 ∧ (T.find s).1.toNat < T.h.fn ∧ (T.find s).1 = ((T.find s).1.toNat : Nat) ∧ (T.find s).1.toNat = fidx T.K s.key T.h.fn := by
  obtain ⟨i, e, hc⟩ := Vt.find_ok h
  rw [e, Int.toNat_natCast]
  rcases hc with ⟨hf, _⟩ | ⟨_, k7, hi, hi2⟩
  · rw [hx] at hf; cases hf
  · exact ⟨if_neg (by rw [k7]; decide), k7, hi, rfl, hi2⟩
end Go.Proofs.YtfkfboiblgoamaaDoor
/- Rows of structs: the builtin copy, whatever the elements' size; slices of a path. -/
namespace Go.Proofs.YtfkfboiblgoamaaDoor
open Go.ChangeShapes Go.WideShapes Go.Joins Go.Deep Go.RowKit

/-- What a row holds after a copy into it. -/
def spl (cur : Array Value) (off : Nat) (cs : List Value) : Array Value := (cur.toList.take off ++ cs ++ cur.toList.drop (off + cs.length)).toArray
theorem spl_nil (cur : Array Value) (off : Nat) : spl cur off [] = cur := by simp [spl]
theorem run_copy_wide {P : Program} (w : World) (dT sT ty elem : TypeId) (dp sp : Option Addr) (dLen dCap sLen sCap size g off : Nat) (cur : Array Value) (t : TypeId) (cs : List Value)
    (hu : P.underlying dT = some (.slice elem)) (hs : (P.info? elem).map (·.size) = some size) (h0 : 0 < size) (hg : w.heap[g]? = some (.cells cur t (0, 0))) (hn : cs.length = Nat.min sLen dLen * size)
    (hpos : 0 < cs.length → dp = some ⟨g, off, none⟩ ∧ ∃ ad, sp = some ad ∧ ∀ j v, cs[j]? = some v → w.cell? (ad.add j) = some v) (hfit : off + cs.length ≤ cur.size) (h1 : ∀ v ∈ cs, v.oneCell' = true) :
    (Builtin.copy_ #[dT, sT] ty #[.slice dp dLen dCap, .slice sp sLen sCap]).run P w = .ok (goInt (Nat.min sLen dLen)) (w.setRow g (spl cur off cs)) := by
  cases hq : P.info? elem with
  | none => simp [hq] at hs
  | some i =>
    have hi : i.size = size := by simpa [hq] using hs
    by_cases hz : cs.length = 0
    · obtain rfl : cs = [] := List.eq_nil_of_length_eq_zero hz
      have hm : Nat.min sLen dLen = 0 := by
        rcases Nat.mul_eq_zero.1 (hn.symm.trans rfl) with h | h
        · exact h
        · omega
      rw [spl_nil, setRow_self w g cur t (0, 0) hg, hm]
      have hl : ∀ (x : Addr), (loadCells x 0).run P w = .ok #[] w := fun x => by simpa using run_loadCells_list (P := P) w x [] (by simp)
      cases dp <;> cases sp <;> simp [Builtin.copy_, run_underlying hu, Builtin.lenOf, Builtin.firstCells, sizeOf, typeInfo, hq, hm, storeCells, hl]
    · obtain ⟨rfl, ad, rfl, hsrc⟩ := hpos (by omega)
      have hl := run_loadCells_list (P := P) w ad cs hsrc
      have hst := run_storeCells_at P g off t cs 0 cur w hg (by simpa using hfit) h1
      simp [Builtin.copy_, run_underlying hu, Builtin.lenOf, Builtin.firstCells, sizeOf, typeInfo, hq, hi, ← hn, hl, hst, spl]
theorem wpList_copy_wide {P : Program} (w : World) {ops : Array Oper} {rest : List Oper} {o : Oper} {a : Act} {Q : Exit → Act → World → Prop} (hgd : o.guard = none) (d s : Operand) (dT sT : TypeId)
    (ho : o.op = .call { callee := .builtin .copy, args := #[d, s], argTypes := #[dT, sT] }) (elem : TypeId) (size : Nat) (hu : P.underlying dT = some (.slice elem)) (hsz : (P.info? elem).map (·.size) = some size) (h0 : 0 < size)
    (dp sp : Option Addr) (dLen dCap sLen sCap : Nat) (hd : a.eval d = .slice dp dLen dCap) (hs : a.eval s = .slice sp sLen sCap)
    (g off : Nat) (cur : Array Value) (t : TypeId) (hg : w.heap[g]? = some (.cells cur t (0, 0))) (cs : List Value) (hn : cs.length = Nat.min sLen dLen * size)
    (hpos : 0 < cs.length → dp = some ⟨g, off, none⟩ ∧ ∃ ad, sp = some ad ∧ ∀ j v, cs[j]? = some v → w.cell? (ad.add j) = some v) (hfit : off + cs.length ≤ cur.size) (h1 : ∀ v ∈ cs, v.oneCell' = true)
    (h : wpList P ops Q rest (a.put o.dst (goInt (Nat.min sLen dLen))) (w.setRow g (spl cur off cs))) : wpList P ops Q (o :: rest) a w := by
  refine wpList_plain hgd fun K hK => ?_
  have hrun := run_copy_wide (P := P) w dT sT o.type elem dp sp dLen dCap sLen sCap size g off cur t cs hu hsz h0 hg hn hpos hfit h1
  unfold Oper.wp
  simp [execOp, ho, resolve, invoke, builtin, hd, hs, hrun, Result.andThen]
  exact hK _ _ h
theorem spl_size {cur : Array Value} {off : Nat} {cs : List Value} (h : off + cs.length ≤ cur.size) : (spl cur off cs).size = cur.size := by
  simp [spl]
  omega
theorem spl_in {cur : Array Value} {off : Nat} {cs : List Value} (h : off + cs.length ≤ cur.size) {j : Nat} (hj : j < cs.length) : (spl cur off cs)[off + j]? = cs[j]? := by
  have h1 : (cur.toList.take off).length = off := by simp; omega
  simp only [spl, List.getElem?_toArray]
  rw [List.append_assoc, List.getElem?_append_right (by omega), h1, Nat.add_sub_cancel_left, List.getElem?_append_left hj]
theorem spl_before {cur : Array Value} {off : Nat} {cs : List Value} (h : off + cs.length ≤ cur.size) {j : Nat} (hj : j < off) : (spl cur off cs)[j]? = cur[j]? := by
  have h1 : (cur.toList.take off).length = off := by simp; omega
  simp only [spl, List.getElem?_toArray]
  rw [List.append_assoc, List.getElem?_append_left (by omega), List.getElem?_take, if_pos hj, Array.getElem?_toList]
theorem spl_behind {cur : Array Value} {off : Nat} {cs : List Value} (h : off + cs.length ≤ cur.size) {j : Nat} (hj : off + cs.length ≤ j) : (spl cur off cs)[j]? = cur[j]? := by
  have h1 : (cur.toList.take off).length = off := by simp; omega
  simp only [spl, List.getElem?_toArray]
  rw [List.append_assoc, List.getElem?_append_right (by omega), h1, List.getElem?_append_right (by omega), List.getElem?_drop, Array.getElem?_toList]
  congr 1
  omega
/-- A whole row of values, read as one list of cells. -/
theorem rowL_src {W : World} {b o n C : Nat} {f : Nat → Array Value} (hC : ∀ i, (f i).size = C) (hl : ∀ i, i < n → LiesAt W b (o + i * C) (f i)) : ∀ j v, (catN f n)[j]? = some v → W.cell? ((⟨b, o, none⟩ : Addr).add j) = some v := by
  intro j v hv
  have hj : j < n * C := by
    have := (List.getElem?_eq_some_iff.1 hv).1
    rwa [catN_len hC] at this
  have hC0 : 0 < C := by
    rcases Nat.eq_zero_or_pos C with h | h
    · rw [h, Nat.mul_zero] at hj; omega
    · exact h
  have hi : j / C < n := (Nat.div_lt_iff_lt_mul hC0).2 hj
  have hm := Nat.mod_lt j hC0
  have e : j / C * C + j % C = j := by rw [Nat.mul_comm]; exact Nat.div_add_mod j C
  have h1 := catN_get (f := f) hC hm hi
  rw [e] at h1
  have h2 := hl _ hi (j % C) (by rw [hC]; exact hm)
  rw [add_plain, show o + j = o + j / C * C + j % C by omega, h2, ← h1, hv]
theorem catN_one {f : Nat → Array Value} (h : ∀ i, ∀ u ∈ (f i).toList, u.oneCell' = true) : ∀ n, ∀ u ∈ catN f n, u.oneCell' = true := by
  intro n
  induction n with
  | zero => intro u hu; simp [catN] at hu
  | succ n ih =>
    intro u hu
    rw [catN] at hu
    rcases List.mem_append.1 hu with h1 | h1
    · exact ih u h1
    · exact h n u h1
theorem fld_row : (Tryd.prog.info? 61).map (·.size) = some 14 := by kernel_rfl
end Go.Proofs.YtfkfboiblgoamaaDoor
/- Values: bytes as a text. -/
namespace Go.Proofs.YtfkfboiblgoamaaDoor
open Go.RowKit

/-- The bytes of a value, as a text. -/
def Vt.bs (T : Vt) : ByteArray := strOfNums ((List.range T.h.bn).map T.Y)
theorem conv_bs {W : World} {top : Nat} {T : Vt} (hT : T.In W top) : (convert 26 9 (.slice T.h.ba T.h.bn T.h.bc)).run Tryd.prog W = .ok (.string T.bs) W := by
  cases T with
  | nil => exact hT.elim
  | mk h Y L K F =>
    obtain ⟨_, h1, h2, _⟩ := hT
    unfold Vt.bs
    simp only [Vt.h, Vt.Y]
    by_cases hz : h.bn = 0
    · rw [hz]
      have e0 : strOfNums ((List.range 0).map Y) = ByteArray.empty := rfl
      rw [e0]
      cases hb : h.ba with
      | none => exact run_convert_bytes_nil W 26 5 Tryd.underlying26 Tryd.underlying5 0 h.bc _ Tryd.underlying9
      | some a =>
        rw [run_convert_bytes_string W 26 9 5 _ 0 h.bc Tryd.underlying26 Tryd.underlying5 Tryd.underlying9,
          run_bytesToString W a 0 h.bc [] (by simp [loadCells, loadCellsFrom])]
        rfl
    · obtain ⟨hba, _⟩ := h1 (by omega)
      rw [hba]
      exact run_convert_bytes_arg W 26 5 Tryd.underlying26 Tryd.underlying5 h.bb h.bo h.bn h.bc _ (by simp) (fun i hi => by
        rw [(h2 i hi).1]
        simp [List.getD, hi]) _ Tryd.underlying9
theorem byte_inj {a b : Int} (a0 : 0 ≤ a) (a1 : a < 256) (b0 : 0 ≤ b) (b1 : b < 256) (h : UInt8.ofNat a.toNat = UInt8.ofNat b.toNat) : a = b := by
  have := congrArg UInt8.toNat h
  simp only [UInt8.toNat_ofNat'] at this
  omega
theorem bs_eq {W V : World} {t u : Nat} {T U : Vt} (hT : T.In W t) (hU : U.In V u) : T.bs = U.bs ↔ T.h.bn = U.h.bn ∧ ∀ i, i < T.h.bn → T.Y i = U.Y i := by
  have bT : ∀ i, i < T.h.bn → 0 ≤ T.Y i ∧ T.Y i < 256 := by
    cases T with
    | nil => exact hT.elim
    | mk h Y L K F => exact fun i hi => (hT.2.2.1 i hi).2
  have bU : ∀ i, i < U.h.bn → 0 ≤ U.Y i ∧ U.Y i < 256 := by
    cases U with
    | nil => exact hU.elim
    | mk h Y L K F => exact fun i hi => (hU.2.2.1 i hi).2
  constructor
  · intro h
    have h2 : T.bs.data.toList = U.bs.data.toList := by rw [h]
    unfold Vt.bs at h2
    rw [strOfNums_data, strOfNums_data] at h2
    have hl := congrArg List.length h2
    simp only [List.length_map, List.length_range] at hl
    refine ⟨hl, fun i hi => ?_⟩
    have h3 := congrArg (fun l => l[i]?) h2
    simp only [List.map_map, List.getElem?_map, List.getElem?_range hi, List.getElem?_range (show i < U.h.bn by omega), Option.map_some, Option.some.injEq, Function.comp] at h3
    have a := bT i hi
    have b := bU i (by omega)
    exact byte_inj a.1 a.2 b.1 b.2 h3
  · rintro ⟨h1, h2⟩
    unfold Vt.bs
    rw [← h1]
    congr 1
    exact List.map_congr_left fun i hi => h2 i (List.mem_range.1 hi)
theorem num_neq2 (a : Bool) (s : ByteArray) (e : Int) (a' : Bool) (s' : ByteArray) (e' : Int) (W : World) : (binOp .neq 23 (.agg #[.bool a, .string s, .int .i64 e]) (.agg #[.bool a', .string s', .int .i64 e'])).run Tryd.prog W = .ok (.bool (!(decide (a = a' ∧ s.toList = s'.toList ∧ e = e')))) W := by
  by_cases h1 : a = a'
  · subst h1
    by_cases h2 : s.toList = s'.toList
    · by_cases h3 : e = e'
      · subst h3
        simp [go_sem, h2]
      · simp [go_sem, h2, h3]
    · simp [go_sem, h2]
  · simp [go_sem, h1]
theorem tim_neq2 (a b c d a' b' c' d' : Int) (W : World) : (binOp .neq 25 (.agg #[.int .i64 a, .int .i64 b, .int .i64 c, .int .i64 d]) (.agg #[.int .i64 a', .int .i64 b', .int .i64 c', .int .i64 d'])).run Tryd.prog W = .ok (.bool (!(decide (a = a' ∧ b = b' ∧ c = c' ∧ d = d')))) W := by
  by_cases h1 : a = a'
  · by_cases h2 : b = b'
    · by_cases h3 : c = c'
      · by_cases h4 : d = d'
        · subst h1 h2 h3 h4
          simp [go_sem]
        · simp [go_sem, h1, h2, h3, h4]
      · simp [go_sem, h1, h2, h3]
    · simp [go_sem, h1, h2]
  · simp [go_sem, h1]
theorem ba_eq {s t : ByteArray} (h : s.toList = t.toList) : s = t := by
  rw [Lib.toList_data, Lib.toList_data] at h
  exact ByteArray.ext (Array.ext' h)
end Go.Proofs.YtfkfboiblgoamaaDoor
/- Paths: what a step leads to, walked (access.index, fits, find; datakitref09.Find, Part). -/
namespace Go.Proofs.YtfkfboiblgoamaaDoor
open Go.RowKit

noncomputable def idxZ (K : Nat → ByteArray) (key : ByteArray) (n : Nat) : Int := if fidx K key n < n then (fidx K key n : Nat) else -1
def Vt.fits (T : Vt) (s : Stp) : Bool := if s.ix = true then T.h.k == 6 else T.h.k == 7
set_option maxHeartbeats 4000000 in
set_option maxRecDepth 100000 in
theorem index_any {T : Vt} {top : Nat} {key : ByteArray} {w : World} (hT : T.In w top) (ht : top ≤ w.heap.size) :
    Calls Tryd.prog 34 #[.agg T.h.cells, .string key] w fun r w' => r = .returned (.int .i64 (idxZ T.K key T.h.fn)) ∧ Below w.heap.size w w' := by
  cases T with
  | nil => exact hT.elim
  | mk h Y L K F =>
  have hb0 := (Below.refl w.heap.size w).alloc (Nat.le_refl _) (.cells h.cells 30)
  have hfn := hT.1.fn
  have HFa : Hid (0 < h.fn → h.fa = some ⟨h.fb, h.fo, none⟩ ∧ h.fb < w.heap.size) := Lib.hid fun hp => ⟨(hT.2.2.2.2.2.1 hp).1, Nat.lt_of_lt_of_le (hT.2.2.2.2.2.1 hp).2 ht⟩
  have HT := Lib.hid hT.2.2.2.2.2.2
  clear hT
  obtain ⟨R, hR⟩ : ∃ R, idxZ K key h.fn = R := ⟨_, rfl⟩
  simp only [Vt.h, Vt.K]
  rw [hR]
  have HR := Lib.hid hR
  clear hR
  obtain ⟨k, b, n, dd, e, tk, td, tn, tz, x, ba, bn, bc, la, ln, lc, fa, fn, fc, bb, bo, lb, lo, fb, fo⟩ := h
  dsimp only at HFa HT hfn HR
  simp only [Vh.cells] at hb0 ⊢
  have n2 : (0 : Int) ≤ fn := by omega
  have n3 : (fn : Int) ≤ 1048576 := by omega
  go_enter Tryd.func34, Tryd.ntmps34
  go_wp2_with fail
  go_loopw [10] (fun i wr => ∃ j : Nat, j ≤ fn ∧ i = .int .i64 j ∧ Hid (∀ t, t < j → K t ≠ key) ∧ Below w.heap.size w wr) (fun i _ => fn - (intOf i).toNat)
  case atStart => exact ⟨0, by omega, rfl, Lib.hid fun t h => absurd h (Nat.not_lt_zero _), hb0⟩
  case round =>
    clear hb0
    obtain ⟨j, hj, rfl, HJ, hbr⟩ := hrel
    have hji : (0 : Int) ≤ j := by omega
    by_cases hjn : j < fn
    · obtain ⟨e1, hlt⟩ := HFa.out (by omega)
      subst e1
      have hji2 : (j : Int) < fn := by omega
      obtain ⟨k0, k1, k2, k3⟩ := HT.out j hjn
      have hl := lies_c14 (lies_fcs ((hbr.cell (p := ⟨fb, fo + j * 14, none⟩) hlt).trans k0) (k2.below hbr hlt))
      obtain ⟨l0, l1, l2, l3, l4, l5, l6, l7, l8, l9, l10, l11, l12, l13⟩ := hl
      have hba := hbr.alloc hbr.size (.cells (fch (K j) (F j).h) 61)
      clear k0 k1 k2 k3
      simp only [fch] at hba
      generalize (F j).h = G at *
      by_cases c : K j = key
      · have hR : R = j := by
          rw [← HR.out]
          unfold idxZ
          rw [fidx_first HJ.out c hjn, if_pos hjn]
        subst hR
        have d1 : ((K j).toList == key.toList) = true := by rw [c]; exact beq_self_eq_true _
        clear HR HJ c HT
        generalize K j = y at *
        go_wp2_with fail
        go_ret
        exact ⟨rfl, hba⟩
      · have d1 : ((K j).toList == key.toList) = false := beq_eq_false_iff_ne.2 fun q => c (ba_eq q)
        have HJ2 : Hid (∀ t, t < j + 1 → K t ≠ key) := Lib.hid fun t ht => by
          by_cases q : t = j
          · subst q; exact c
          · exact HJ.out t (by omega)
        clear HJ c
        generalize K j = y at *
        go_wp2_with fail
        go_roundw
        case rel => exact ⟨j + 1, by omega, by go_num, HJ2, hba⟩
        case measure => simp [intOf]; omega
    · obtain rfl : j = fn := by omega
      have hR : R = -1 := by
        rw [← HR.out]
        unfold idxZ
        rw [fidx_none HJ.out, if_neg (Nat.lt_irrefl _)]
      subst hR
      clear HR HJ HT hjn
      go_wp2
      go_ret
      exact ⟨rfl, hbr⟩
set_option maxHeartbeats 4000000 in
set_option maxRecDepth 100000 in
theorem fits_any {T : Vt} {s : Stp} {w : World} (hk : w64 T.h.k) :
    Calls Tryd.prog 33 #[.agg T.h.cells, .agg s.cells] w fun r w' => r = .returned (.bool (T.fits s)) ∧ Below w.heap.size w w' := by
  have hb0 := ((Below.refl w.heap.size w).alloc (Nat.le_refl _) (.cells T.h.cells 30)).alloc (by simp) (.cells s.cells 50)
  obtain ⟨ix, key, n⟩ := s
  have hk1 := hk.1
  have hk2 := hk.2
  clear hk
  unfold Vt.fits
  generalize T.h = h at *
  obtain ⟨k, b, n', dd, e, tk, td, tn, tz, x, ba, bn, bc, la, ln, lc, fa, fn, fc, bb, bo, lb, lo, fb, fo⟩ := h
  simp only [Vh.cells, Stp.cells] at hb0 hk1 hk2 ⊢
  cases ix
  · rw [if_neg (by decide)]
    go_enter Tryd.func33, Tryd.ntmps33
    go_wp2_with fail
    go_ret
    exact ⟨rfl, hb0⟩
  · rw [if_pos rfl]
    go_enter Tryd.func33, Tryd.ntmps33
    go_wp2_with fail
    go_ret
    exact ⟨rfl, hb0⟩
theorem Whole.b3 {W : World} {B : Nat} {t : TypeId} {s : Stp} (H : Whole W B t s.cells) : W.cell? ⟨B, 0, none⟩ = some (.bool s.ix) ∧ W.cell? ⟨B, 1, none⟩ = some (.string s.key) ∧ W.cell? ⟨B, 2, none⟩ = some (.int .i64 s.n) := ⟨H.cell 0, H.cell 1, H.cell 2⟩
theorem below_row {W W' : World} {T : Vt} {top : Nat} (h : T.In W top) (ht : top ≤ W.heap.size) (hb : Below W.heap.size W W') : T.In W' top ∧ top ≤ W'.heap.size := ⟨Vt.In.below (hb.mono ht) h, Nat.le_trans ht hb.size⟩
set_option maxHeartbeats 8000000 in
set_option maxRecDepth 100000 in
theorem find_any {T : Vt} {s : Stp} {top : Nat} {w : World} (hT : T.In w top) (ht : top ≤ w.heap.size) (hs : w64 s.n) :
    Calls Tryd.prog 24 #[.agg T.h.cells, .agg s.cells] w fun r w' => r = .returned (.tuple #[.int .i64 (T.find s).1, .int .i64 (T.find s).2]) ∧ Below w.heap.size w w' := by
  have hb0 := ((Below.refl w.heap.size w).alloc (Nat.le_refl _) (.cells T.h.cells 30)).alloc (by simp) (.cells s.cells 50)
  have P := (Whole.new w 30 T.h.cells).alloc (.cells s.cells 50)
  have Q := Whole.new (w.alloc (.cells T.h.cells 30)) 50 s.cells
  rw [World.size_alloc] at Q
  have hok : T.h.ok := by cases T with | nil => exact hT.elim | mk h Y L K F => exact hT.1
  have HFi := Lib.hid (fun (w1 : World) => fits_any (T := T) (s := s) (w := w1) hok.k)
  have HIx := Lib.hid (fun (w1 : World) (hb : Below w.heap.size w w1) => index_any (T := T) (key := s.key) (Vt.In.below (hb.mono ht) hT) (Nat.le_trans ht hb.size))
  obtain ⟨R, hR⟩ : ∃ R, T.find s = R := ⟨_, rfl⟩
  rw [hR]
  unfold Vt.find at hR
  have HR := Lib.hid hR
  have hk := hok.k
  have hln := hok.ln
  have hfn := hok.fn
  have hfi := fidx_le T.K s.key T.h.fn
  unfold Vt.fits at HFi
  unfold idxZ at HIx
  clear hR hok hT
  generalize hfx : fidx T.K s.key T.h.fn = fx at *
  clear hfx
  obtain ⟨R1, R2⟩ := R
  generalize T.h = h at *
  obtain ⟨k, b, n', dd, e, tk, td, tn, tz, x, ba, bn, bc, la, ln, lc, fa, fn, fc, bb, bo, lb, lo, fb, fo⟩ := h
  obtain ⟨ix, key, n⟩ := s
  dsimp only at HFi HIx HR hk hln hfn hs hfi
  simp only [Vh.cells, Stp.cells] at hb0 P Q HFi HIx ⊢
  have hs1 := hs.1
  have hs2 := hs.2
  have hk1 := hk.1
  have hk2 := hk.2
  clear hs hk
  have n0 : (0 : Int) ≤ ln := by omega
  have n1 : (ln : Int) ≤ 1048576 := by omega
  cases ix
  · rw [if_neg (by decide)] at HFi
    have hr := HR.out
    rw [if_neg (by decide)] at hr
    by_cases k7 : k = 7
    case neg =>
      rw [if_pos k7, Prod.mk.injEq] at hr
      obtain ⟨rfl, rfl⟩ := hr
      have e7 : (k == 7) = false := beq_eq_false_iff_ne.2 k7
      rw [e7] at HFi
      clear HR e7 k7 HIx
      go_enter Tryd.func24, Tryd.ntmps24
      go_wp2_with fail
      refine (HFi.out _).mono ?_; rintro _ w1 ⟨rfl, hb1⟩
      go_wp2
      go_ret2
      exact ⟨rfl, below_then hb0 hb1⟩
    rw [if_neg (by simp [k7])] at hr
    have e7 : (k == 7) = true := beq_iff_eq.2 k7
    rw [e7] at HFi
    have HIx2 : Hid (∀ w1, Below w.heap.size w w1 → Calls Tryd.prog 34 #[.agg #[.int .i64 k, .bool b, .bool n', .string dd, .int .i64 e, .int .i64 tk, .int .i64 td, .int .i64 tn, .int .i64 tz, .string x, .slice ba bn bc, .slice la ln lc, .slice fa fn fc], .string key] w1 fun r w' => r = .returned (.int .i64 (if fx < fn then (fx : Int) else -1)) ∧ Below w1.heap.size w1 w') := Lib.hid HIx.out
    clear HR e7 k7 HIx
    by_cases c : fx < fn
    · rw [if_pos c, Prod.mk.injEq] at hr
      obtain ⟨rfl, rfl⟩ := hr
      simp only [if_pos c] at HIx2
      have i0 : (0 : Int) ≤ fx := by omega
      have i1 : (fx : Int) ≤ 1048576 := by omega
      clear c
      go_enter Tryd.func24, Tryd.ntmps24
      go_wp2_with fail
      refine (HFi.out _).mono ?_; rintro _ w1 ⟨rfl, hb1⟩
      have g1 := below_then hb0 hb1
      have P1 := P.below hb1 P.lt
      have Q1 := Q.below hb1 Q.lt
      obtain ⟨c0, c1, c2, c3, c4, c5, c6, c7, c8, c9, c10, c11, c12⟩ := Whole.c13 (h := ⟨k, b, n', dd, e, tk, td, tn, tz, x, ba, bn, bc, la, ln, lc, fa, fn, fc, bb, bo, lb, lo, fb, fo⟩) P1
      obtain ⟨q0, q1, q2⟩ := Whole.b3 (s := ⟨false, key, n⟩) Q1
      dsimp only at c0 c1 c2 c3 c4 c5 c6 c7 c8 c9 c10 c11 c12 q0 q1 q2
      go_wp2_with fail
      refine (HIx2.out _ g1).mono ?_; rintro _ w2 ⟨rfl, hb2⟩
      have g2 := below_then g1 hb2
      obtain ⟨r0, r1, r2⟩ := Whole.b3 (s := ⟨false, key, n⟩) (Q1.below hb2 Q1.lt)
      dsimp only at r0 r1 r2
      clear c0 c1 c2 c3 c4 c5 c6 c7 c8 c9 c10 c11 c12 q0 q1 q2 P1 Q1 P Q hb0 hb1 hb2 g1
      go_wp2_with fail
      go_ret2
      exact ⟨rfl, g2⟩
    · rw [if_neg c, Prod.mk.injEq] at hr
      obtain ⟨rfl, rfl⟩ := hr
      simp only [if_neg c] at HIx2
      clear c
      go_enter Tryd.func24, Tryd.ntmps24
      go_wp2_with fail
      refine (HFi.out _).mono ?_; rintro _ w1 ⟨rfl, hb1⟩
      have g1 := below_then hb0 hb1
      have P1 := P.below hb1 P.lt
      have Q1 := Q.below hb1 Q.lt
      obtain ⟨c0, c1, c2, c3, c4, c5, c6, c7, c8, c9, c10, c11, c12⟩ := Whole.c13 (h := ⟨k, b, n', dd, e, tk, td, tn, tz, x, ba, bn, bc, la, ln, lc, fa, fn, fc, bb, bo, lb, lo, fb, fo⟩) P1
      obtain ⟨q0, q1, q2⟩ := Whole.b3 (s := ⟨false, key, n⟩) Q1
      dsimp only at c0 c1 c2 c3 c4 c5 c6 c7 c8 c9 c10 c11 c12 q0 q1 q2
      go_wp2_with fail
      refine (HIx2.out _ g1).mono ?_; rintro _ w2 ⟨rfl, hb2⟩
      have g2 := below_then g1 hb2
      clear c0 c1 c2 c3 c4 c5 c6 c7 c8 c9 c10 c11 c12 q0 q1 q2 P1 Q1 P Q hb0 hb1 hb2 g1
      go_wp2_with fail
      go_ret2
      exact ⟨rfl, g2⟩
  · rw [if_pos rfl] at HFi
    have hr := HR.out
    rw [if_pos rfl] at hr
    by_cases k6 : k = 6
    case neg =>
      rw [if_pos k6, Prod.mk.injEq] at hr
      obtain ⟨rfl, rfl⟩ := hr
      have e6 : (k == 6) = false := beq_eq_false_iff_ne.2 k6
      rw [e6] at HFi
      clear HR e6 k6 HIx
      go_enter Tryd.func24, Tryd.ntmps24
      go_wp2_with fail
      refine (HFi.out _).mono ?_; rintro _ w1 ⟨rfl, hb1⟩
      go_wp2
      go_ret2
      exact ⟨rfl, below_then hb0 hb1⟩
    rw [if_neg (by simp [k6])] at hr
    have e6 : (k == 6) = true := beq_iff_eq.2 k6
    rw [e6] at HFi
    clear HR e6 k6 HIx
    by_cases c : n < 0
    · rw [if_pos (.inl c), Prod.mk.injEq] at hr
      obtain ⟨rfl, rfl⟩ := hr
      go_enter Tryd.func24, Tryd.ntmps24
      go_wp2_with fail
      refine (HFi.out _).mono ?_; rintro _ w1 ⟨rfl, hb1⟩
      obtain ⟨q0, q1, q2⟩ := Whole.b3 (s := ⟨true, key, n⟩) (Q.below hb1 Q.lt)
      dsimp only at q0 q1 q2
      go_wp2_with fail
      go_ret2
      exact ⟨rfl, below_then hb0 hb1⟩
    have cn : decide (n < 0) = false := decide_eq_false c
    have c0' : 0 ≤ n := by omega
    by_cases c2' : (ln : Int) ≤ n
    · rw [if_pos (.inr c2'), Prod.mk.injEq] at hr
      obtain ⟨rfl, rfl⟩ := hr
      go_enter Tryd.func24, Tryd.ntmps24
      go_wp2_with fail
      refine (HFi.out _).mono ?_; rintro _ w1 ⟨rfl, hb1⟩
      obtain ⟨q0, q1, q2⟩ := Whole.b3 (s := ⟨true, key, n⟩) (Q.below hb1 Q.lt)
      obtain ⟨-, -, -, -, -, -, -, -, -, -, -, c11, -⟩ := Whole.c13 (h := ⟨k, b, n', dd, e, tk, td, tn, tz, x, ba, bn, bc, la, ln, lc, fa, fn, fc, bb, bo, lb, lo, fb, fo⟩) (P.below hb1 P.lt)
      dsimp only at q0 q1 q2 c11
      go_wp2_with fail
      go_ret2
      exact ⟨rfl, below_then hb0 hb1⟩
    · rw [if_neg (by omega), Prod.mk.injEq] at hr
      obtain ⟨rfl, rfl⟩ := hr
      have cd : decide ((ln : Int) ≤ n) = false := decide_eq_false c2'
      go_enter Tryd.func24, Tryd.ntmps24
      go_wp2_with fail
      refine (HFi.out _).mono ?_; rintro _ w1 ⟨rfl, hb1⟩
      obtain ⟨q0, q1, q2⟩ := Whole.b3 (s := ⟨true, key, n⟩) (Q.below hb1 Q.lt)
      obtain ⟨-, -, -, -, -, -, -, -, -, -, -, c11, -⟩ := Whole.c13 (h := ⟨k, b, n', dd, e, tk, td, tn, tz, x, ba, bn, bc, la, ln, lc, fa, fn, fc, bb, bo, lb, lo, fb, fo⟩) (P.below hb1 P.lt)
      dsimp only at q0 q1 q2 c11
      go_wp2_with fail
      go_ret2
      exact ⟨rfl, below_then hb0 hb1⟩
end Go.Proofs.YtfkfboiblgoamaaDoor
