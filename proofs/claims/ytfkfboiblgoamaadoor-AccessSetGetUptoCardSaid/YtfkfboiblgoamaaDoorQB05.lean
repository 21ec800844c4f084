/- Laid together for a claim: VUtfWalksD, VUtfWalksE, VtUtf, VtSame, VtRows, VkKeys. -/
import Derived.Test.YtfkfboiblgoamaaDoorQB04
import Derived.Test.YtfkfboiblgoamaaDoorQB01
import Derived.OwnWalk
import Derived.Maps.AppendAt
import Derived.Laws.AppendOwn
import Derived.Deep.QuietTactic
import Derived.BigQuiet
import Derived.Lib.Hide
import Derived.BigRegion
import Derived.Maps.Views
import Derived.Maps.OwnOps
/- UTF-8: counting characters, boundaries, validity; the law's own first example. -/
namespace Go.Proofs.YtfkfboiblgoamaaDoor
open Go.RowKit

/-- What Decode returns at any offset. -/
def decN (s : ByteArray) (a : Int) : Int × Nat := if 0 ≤ a ∧ a < s.size then Utf.dec (from_ s a.toNat) else (0, 0)
theorem decode_any (s : ByteArray) (a : Int) (w : World) (hs : s.size ≤ maxLen) : Calls Tryd.prog 63 #[.string s, .int .i64 a] w fun e w' => e = .returned (.tuple #[.int .i64 (decN s a).1, .int .i64 (decN s a).2]) ∧ w = w' := by
  unfold decN
  by_cases h : 0 ≤ a ∧ a < s.size
  · rw [if_pos h]
    obtain ⟨n, rfl⟩ := Int.eq_ofNat_of_zero_le h.1
    rw [Int.toNat_natCast]
    exact decode_at s n w hs (by omega)
  · rw [if_neg h]
    exact decode_none s a w hs (by omega)
theorem rdecode_any (s : ByteArray) (a : Int) (w : World) (hs : s.size ≤ maxLen) : Calls Tryd.prog 68 #[.string s, .int .i64 a] w fun e w' => e = .returned (.tuple #[.int .i64 (decN s a).1, .int .i64 (decN s a).2]) ∧ Below w.heap.size w w' := by
  unfold decN
  by_cases h : 0 ≤ a ∧ a < s.size
  · rw [if_pos h]
    obtain ⟨n, rfl⟩ := Int.eq_ofNat_of_zero_le h.1
    rw [Int.toNat_natCast]
    exact rdecode_at s n w hs (by omega)
  · rw [if_neg h]
    exact (rdecode_none s a w hs (by omega)).mono fun _ _ ⟨x, y⟩ => ⟨x, below_refl_eq y⟩

/-! ### characters and a rest -/
theorem at_char {s : ByteArray} {rs : List Int} {rest : List UInt8} (h : Utf.Split s.data.toList rs rest) (k : Nat) (hk : k < rs.length) : Utf.off rs k < s.size ∧ Utf.dec (from_ s (Utf.off rs k)) = (rs[k], Utf.wid rs[k]) :=
  ⟨by simpa using Utf.off_lt h k hk, Utf.dec_off h k hk⟩
theorem at_end {s : ByteArray} {rs : List Int} {rest : List UInt8} (h : Utf.Split s.data.toList rs rest) : s.size = Utf.off rs rs.length + rest.length ∧ Utf.dec (from_ s (Utf.off rs rs.length)) = (0, 0) :=
  ⟨by have := Utf.len_split h; simpa using this, Utf.dec_end h⟩

theorem decode_char {s : ByteArray} {rs : List Int} {rest : List UInt8} (h : Utf.Split s.data.toList rs rest) (hs : s.size ≤ maxLen) (k : Nat) (hk : k < rs.length) (w : World) :
    Calls Tryd.prog 63 #[.string s, .int .i64 (Utf.off rs k)] w fun e w' => e = .returned (.tuple #[.int .i64 rs[k], .int .i64 (Utf.wid rs[k])]) ∧ w = w' := by
  obtain ⟨h1, h2⟩ := at_char h k hk
  have := decode_at s (Utf.off rs k) w hs h1
  rw [h2] at this
  exact this
theorem rdecode_char {s : ByteArray} {rs : List Int} {rest : List UInt8} (h : Utf.Split s.data.toList rs rest) (hs : s.size ≤ maxLen) (k : Nat) (hk : k < rs.length) (w : World) :
    Calls Tryd.prog 68 #[.string s, .int .i64 (Utf.off rs k)] w fun e w' => e = .returned (.tuple #[.int .i64 rs[k], .int .i64 (Utf.wid rs[k])]) ∧ Below w.heap.size w w' := by
  obtain ⟨h1, h2⟩ := at_char h k hk
  have := rdecode_at s (Utf.off rs k) w hs h1
  rw [h2] at this
  exact this
theorem decode_rest {s : ByteArray} {rs : List Int} {rest : List UInt8} (h : Utf.Split s.data.toList rs rest) (hs : s.size ≤ maxLen) (hr : 0 < rest.length) (w : World) :
    Calls Tryd.prog 63 #[.string s, .int .i64 (Utf.off rs rs.length)] w fun e w' => e = .returned (.tuple #[.int .i64 0, .int .i64 0]) ∧ w = w' := by
  obtain ⟨h1, h2⟩ := at_end h
  have := decode_at s (Utf.off rs rs.length) w hs (by omega)
  rw [h2] at this
  exact this
theorem rdecode_rest {s : ByteArray} {rs : List Int} {rest : List UInt8} (h : Utf.Split s.data.toList rs rest) (hs : s.size ≤ maxLen) (hr : 0 < rest.length) (w : World) :
    Calls Tryd.prog 68 #[.string s, .int .i64 (Utf.off rs rs.length)] w fun e w' => e = .returned (.tuple #[.int .i64 0, .int .i64 0]) ∧ Below w.heap.size w w' := by
  obtain ⟨h1, h2⟩ := at_end h
  have := rdecode_at s (Utf.off rs rs.length) w hs (by omega)
  rw [h2] at this
  exact this

/-- Len: the number of characters, or ErrText. -/
def lenN (rs : List Int) (rest : List UInt8) : Int := if rest.length = 0 then rs.length else 0
def lenE (rest : List UInt8) : Int := if rest.length = 0 then 0 else 5
theorem len_any {s : ByteArray} {rs : List Int} {rest : List UInt8} (h : Utf.Split s.data.toList rs rest) (hs : s.size ≤ maxLen) (w : World) :
    Calls Tryd.prog 52 #[.string s] w fun e w' => e = .returned (.tuple #[.int .i64 (lenN rs rest), .int .i64 (lenE rest)]) ∧ w = w' := by
  have hend := at_end h
  have hcnt := Utf.count_le h
  have HE := hend.1
  have hcl : rs.length ≤ s.size := by simpa using hcnt
  have HN : Hid (lenN rs rest = if rest.length = 0 then (rs.length : Int) else 0) := Lib.hid rfl
  have HM : Hid (lenE rest = if rest.length = 0 then 0 else 5) := Lib.hid rfl
  have hs' := hs
  unfold maxLen at hs'
  have HS := Lib.hid hs; clear hs
  have HSP := Lib.hid h; clear h hend hcnt
  have HE' := Lib.hid HE; clear HE
  go_enter Tryd.func52, Tryd.ntmps52
  go_wp2
  go_loop [4, 5] (fun n i => ∃ k : Nat, k ≤ rs.length ∧ n = .int .i64 k ∧ i = .int .i64 (Utf.off rs k)) (fun n _ => rs.length - (intOf n).toNat)
  case atStart => exact ⟨0, by omega, rfl, rfl⟩
  case round =>
    obtain ⟨k, hk, rfl, rfl⟩ := hrel
    by_cases hlt : k < rs.length
    · have hlt' : Utf.off rs k < s.size := (at_char HSP.out k hlt).1
      have hw := Utf.wid_bd rs[k]
      have hle : Utf.off rs k + Utf.wid rs[k] ≤ s.size := by rw [← Utf.off_succ rs k hlt]; simpa using Utf.off_le HSP.out (k + 1)
      have t1 : ((Utf.wid rs[k] : Int) == 0) = false := by simp; omega
      have HO := Lib.hid (Utf.off_succ rs k hlt)
      go_wp2_with (go_at_call 63; refine (decode_char HSP.out HS.out k hlt _).mono ?_; rintro e w' ⟨rfl, rfl⟩)
      go_round
      case rel => exact ⟨k + 1, by omega, by go_num, by rw [HO.out]; go_num⟩
      case measure => simp [intOf]; omega
    · obtain rfl : k = rs.length := by omega
      by_cases hr : rest.length = 0
      · have hlt' : ¬ Utf.off rs rs.length < s.size := by have := HE'.out; omega
        have HR := Lib.hid hr; clear hr
        go_wp2
        go_ret2
        rw [HN.out, HM.out, if_pos HR.out, if_pos HR.out]
        exact ⟨rfl, rfl⟩
      · have hlt' : Utf.off rs rs.length < s.size := by have := HE'.out; omega
        have HR := Lib.hid hr; clear hr
        go_wp2_with (go_at_call 63; refine (decode_rest HSP.out HS.out (by have := HR.out; omega) _).mono ?_; rintro e w' ⟨rfl, rfl⟩)
        go_ret2
        rw [HN.out, HM.out, if_neg HR.out, if_neg HR.out]
        exact ⟨rfl, rfl⟩
theorem valid_any {s : ByteArray} {rs : List Int} {rest : List UInt8} (h : Utf.Split s.data.toList rs rest) (hs : s.size ≤ maxLen) (w : World) :
    Calls Tryd.prog 44 #[.string s] w fun e w' => e = .returned (.bool (decide (rest.length = 0))) ∧ w = w' := by
  have HL := Lib.hid (len_any h hs)
  clear h
  by_cases hr : rest.length = 0
  · have e1 : lenE rest = 0 := by unfold lenE; rw [if_pos hr]
    rw [e1] at HL
    rw [decide_eq_true hr]
    clear e1 hr
    go_enter Tryd.func44, Tryd.ntmps44
    go_wp2_with (go_at_call 52; refine (HL.out _).mono ?_; rintro e w' ⟨rfl, rfl⟩)
    go_ret
    exact ⟨rfl, rfl⟩
  · have e1 : lenE rest = 5 := by unfold lenE; rw [if_neg hr]
    rw [e1] at HL
    rw [decide_eq_false hr]
    clear e1 hr
    go_enter Tryd.func44, Tryd.ntmps44
    go_wp2_with (go_at_call 52; refine (HL.out _).mono ?_; rintro e w' ⟨rfl, rfl⟩)
    go_ret
    exact ⟨rfl, rfl⟩
end Go.Proofs.YtfkfboiblgoamaaDoor
/- UTF-8: cutting by characters, and the reference's boundaries. -/
namespace Go.Proofs.YtfkfboiblgoamaaDoor
open Go.RowKit

/-! ### the reference's boundaries -/
def bounds (rs : List Int) (n : Nat) : List Value := (List.range n).map fun i => Value.int .i64 (Utf.off rs i)
theorem bounds_succ (rs : List Int) (n : Nat) : bounds rs (n + 1) = bounds rs n ++ [.int .i64 (Utf.off rs n)] := by unfold bounds; rw [List.range_succ, List.map_append]; rfl
theorem bounds_len (rs : List Int) (n : Nat) : (bounds rs n).length = n := by unfold bounds; simp
theorem bounds_get (rs : List Int) (n i : Nat) (h : i < n) : (bounds rs n)[i]? = some (.int .i64 (Utf.off rs i)) := by unfold bounds; simp [h]

theorem Tryd.infoInt : (Tryd.prog.info? 3).map (fun i => (i.zero, i.size, i.bytes)) = some (some (.int .i64 0), 1, 8) := by kernel_rfl

set_option maxHeartbeats 1000000 in
theorem boundaries_any {s : ByteArray} {rs : List Int} {rest : List UInt8} (h : Utf.Split s.data.toList rs rest) (hs : s.size ≤ 1048576) (w : World) :
    Calls Tryd.prog 55 #[.string s] w fun e w' =>
      ∃ v : Value, e = .returned (.tuple #[v, .bool (decide (rest.length = 0))]) ∧ w'.ownsRow w.heap.size 3 1 v (rs.length + 1) (bounds rs (rs.length + 1)) ∧ Below w.heap.size w w' := by
  obtain ⟨i0, hi, hz0, hz1, hz2⟩ := info_parts Tryd.infoInt
  have HE := (at_end h).1
  have hcl : rs.length ≤ s.size := by simpa using Utf.count_le h
  have HS : Hid (s.size ≤ maxLen) := Lib.hid (by unfold maxLen; omega)
  have HSP := Lib.hid h; clear h
  have HE' := Lib.hid HE; clear HE
  go_enter Tryd.func55, Tryd.ntmps55
  go_wp2
  go_loopw [4, 5] (fun v i wr => ∃ k : Nat, k ≤ rs.length ∧ i = .int .i64 (Utf.off rs k) ∧ wr.ownsRow w.heap.size 3 1 v (k + 1) (bounds rs (k + 1)) ∧ Below w.heap.size w wr) (fun _ i _ => s.size - (intOf i).toNat)
  case atStart =>
    exact ⟨0, by omega, rfl, World.ownsRow_lit w #[.int .i64 0] 1 (Nat.le_refl _) (by decide) (by decide), (Below.refl _ _).alloc (Nat.le_refl _) _⟩
  case round =>
    obtain ⟨k, hk, rfl, hown, hbr⟩ := hrel
    by_cases hlt : k < rs.length
    · have hlt' : Utf.off rs k < s.size := (at_char HSP.out k hlt).1
      have hw := Utf.wid_bd rs[k]
      have HO := Lib.hid (Utf.off_succ rs k hlt)
      have hle : Utf.off rs k + Utf.wid rs[k] ≤ s.size := by rw [← HO.out]; simpa using Utf.off_le HSP.out (k + 1)
      have t1 : ((Utf.wid rs[k] : Int) == 0) = false := by simp; omega
      have HC := Lib.hid (rdecode_char HSP.out HS.out k hlt)
      go_wp2_with (first | (go_at_call 68; refine (HC.out _).mono ?_; rintro e w2 ⟨rfl, hb2⟩; have hown2 := own_below hown hb2; have hsz2 := hb2.size; replace hbr := hbr.trans (hb2.mono hbr.size)) | (at_builtin; refine wpList_append_own _ rfl _ _ 77 rfl w.heap.size 3 i0 (.int .i64 0) 1 8 Tryd.underlying77 hi hz0 hz1 hz2 rfl (by decide) _ _ _ rfl (hown2.alloc _) ⟨w2.heap.size, 0, none⟩ 1 1 [.int .i64 (Utf.off rs k + Utf.wid rs[k])] rfl rfl ?c1 ?c2 ?c3 ?c4 ?c5 ?_))
      case c1 => exact cell_one_new _ _ _
      case c2 => simp [Value.oneCell']
      case c3 => unfold maxLen; omega
      case c4 => omega
      case c5 => have := hbr.size; simp; omega
      intro v' w3 hown3 hgrow _
      have hb3 := below_grown hbr hbr.size hown2 (Nat.le_refl _) hgrow
      rw [← Int.natCast_add, ← HO.out, ← bounds_succ] at hown3
      clear hown hown2 hgrow
      go_wp2
      go_roundw
      case rel => exact ⟨k + 1, by omega, by rw [HO.out]; go_num, hown3, hb3⟩
      case measure => simp [intOf]; omega
    · obtain rfl : k = rs.length := by omega
      by_cases hr : rest.length = 0
      · have hlt' : ¬ Utf.off rs rs.length < s.size := by have := HE'.out; omega
        have HR := Lib.hid hr; clear hr
        go_wp2
        go_ret2
        rw [decide_eq_true HR.out]
        exact ⟨_, rfl, hown, hbr⟩
      · have hlt' : Utf.off rs rs.length < s.size := by have := HE'.out; omega
        have HC := Lib.hid (rdecode_rest HSP.out HS.out (by omega))
        have HR := Lib.hid hr; clear hr
        go_wp2_with (go_at_call 68; refine (HC.out _).mono ?_; rintro e w2 ⟨rfl, hb2⟩; have hown2 := own_below hown hb2; replace hbr := hbr.trans (hb2.mono hbr.size))
        go_ret2
        rw [decide_eq_false HR.out]
        exact ⟨_, rfl, hown2, hbr⟩

theorem rvalid_any {s : ByteArray} {rs : List Int} {rest : List UInt8} (h : Utf.Split s.data.toList rs rest) (hs : s.size ≤ 1048576) (w : World) :
    Calls Tryd.prog 47 #[.string s] w fun e w' => e = .returned (.bool (decide (rest.length = 0))) ∧ Below w.heap.size w w' := by
  have HB := Lib.hid (boundaries_any h hs)
  clear h
  generalize decide (rest.length = 0) = b at *
  go_enter Tryd.func47, Tryd.ntmps47
  go_wp2_with fail
  refine (HB.out _).mono ?_; rintro e w1 ⟨v, rfl, hown, hb1⟩
  go_wp2_with fail
  go_ret
  exact ⟨rfl, hb1⟩
/-! ### Slice -/
theorem off_le_of {rs : List Int} {i j : Nat} (h : i ≤ j) : Utf.off rs i ≤ Utf.off rs j := by
  have := Utf.off_mono rs i (j - i)
  rwa [show i + (j - i) = j by omega] at this
theorem below_drewN' {B : Nat} {a w : World} (h : Below B a w) (n : Nat) : Below B a (w.drewN n) := ⟨h.os, h.tape, h.output, h.size, h.block⟩
end Go.Proofs.YtfkfboiblgoamaaDoor
/- Values: which texts are valid, as one word for the program's function and the reference's. -/
namespace Go.Proofs.YtfkfboiblgoamaaDoor
open Go.RowKit

/-- What is left of a text behind its last character. -/
noncomputable def Utf.left (s : ByteArray) : List UInt8 := Classical.choose (Classical.choose_spec (Utf.split_ex s.data.toList))
theorem Utf.left_split (s : ByteArray) : ∃ rs, Utf.Split s.data.toList rs (Utf.left s) := ⟨_, Classical.choose_spec (Classical.choose_spec (Utf.split_ex s.data.toList))⟩
noncomputable def utfB (s : ByteArray) : Bool := decide ((Utf.left s).length = 0)
theorem rutf_any {s : ByteArray} (hs : s.size ≤ 1048576) (w : World) : Calls Tryd.prog 47 #[.string s] w fun e w' => e = .returned (.bool (utfB s)) ∧ Below w.heap.size w w' := by
  obtain ⟨rs, h⟩ := Utf.left_split s
  exact rvalid_any h hs w
theorem putf_any {s : ByteArray} (hs : s.size ≤ 1048576) (w : World) : Calls Tryd.prog 44 #[.string s] w fun e w' => e = .returned (.bool (utfB s)) ∧ w = w' := by
  obtain ⟨rs, h⟩ := Utf.left_split s
  exact valid_any h (by unfold maxLen; omega) w
/-- What is wrong with a key among those ahead of it. -/
noncomputable def keyE (K : Nat → ByteArray) (i : Nat) : Int := if utfB (K i) = false then 5 else if 1024 < (K i).size then 10 else if ∃ k, k < i ∧ K k = K i then 8 else 0
noncomputable def keysE (K : Nat → ByteArray) : Nat → Int
  | 0 => 0
  | n + 1 => if keysE K n ≠ 0 then keysE K n else keyE K n
theorem keysE_stays {K : Nat → ByteArray} {n : Nat} (h : keysE K n ≠ 0) : ∀ m, n ≤ m → keysE K m = keysE K n := by
  intro m hm
  induction m with
  | zero =>
    obtain rfl : n = 0 := by omega
    rfl
  | succ m ih =>
    by_cases hn : n = m + 1
    · rw [hn]
    · have e := ih (by omega)
      show (if keysE K m ≠ 0 then keysE K m else keyE K m) = _
      rw [if_pos (by rw [e]; exact h), e]
theorem keysE_bad {K : Nat → ByteArray} {k n : Nat} (h : keysE K k = 0) (hk : k < n) (hb : keyE K k ≠ 0) : keysE K n = keyE K k := by
  have e : keysE K (k + 1) = keyE K k := by
    show (if keysE K k ≠ 0 then keysE K k else keyE K k) = _
    rw [if_neg (by simp [h])]
  rw [keysE_stays (by rw [e]; exact hb) n (by omega), e]
theorem keysE_next {K : Nat → ByteArray} {k : Nat} (h : keysE K k = 0) (hb : keyE K k = 0) : keysE K (k + 1) = 0 := by
  show (if keysE K k ≠ 0 then keysE K k else keyE K k) = _
  rw [if_neg (by simp [h]), hb]
end Go.Proofs.YtfkfboiblgoamaaDoor
/- Values: when two trees are the same (whatever their addresses), sizes, depths: plain. -/
namespace Go.Proofs.YtfkfboiblgoamaaDoor
open Go.RowKit

/-- The flat parts agree (but for addresses). -/
structure Vh.flat (h g : Vh) : Prop where
  k : h.k = g.k
  b : h.b = g.b
  n : h.n = g.n
  d : h.d = g.d
  e : h.e = g.e
  tk : h.tk = g.tk
  td : h.td = g.td
  tn : h.tn = g.tn
  tz : h.tz = g.tz
  x : h.x = g.x
  bn : h.bn = g.bn
  ln : h.ln = g.ln
  fn : h.fn = g.fn
theorem Vh.flat.refl (h : Vh) : h.flat h := ⟨rfl, rfl, rfl, rfl, rfl, rfl, rfl, rfl, rfl, rfl, rfl, rfl, rfl⟩
theorem Vh.flat.symm {h g : Vh} (a : h.flat g) : g.flat h := ⟨a.k.symm, a.b.symm, a.n.symm, a.d.symm, a.e.symm, a.tk.symm, a.td.symm, a.tn.symm, a.tz.symm, a.x.symm, a.bn.symm, a.ln.symm, a.fn.symm⟩
theorem Vh.flat.trans {h g l : Vh} (a : h.flat g) (b : g.flat l) : h.flat l := ⟨a.k.trans b.k, a.b.trans b.b, a.n.trans b.n, a.d.trans b.d, a.e.trans b.e, a.tk.trans b.tk, a.td.trans b.td, a.tn.trans b.tn, a.tz.trans b.tz, a.x.trans b.x, a.bn.trans b.bn, a.ln.trans b.ln, a.fn.trans b.fn⟩
/-- Two trees are the same, whatever their addresses. -/
def Vt.Same : Vt → Vt → Prop
  | .nil, _ => False
  | .mk h Y L K F, U => U ≠ .nil ∧ h.flat U.h ∧ (∀ i, i < h.bn → Y i = U.Y i) ∧ (∀ i, i < h.ln → (L i).Same (U.L i)) ∧ (∀ i, i < h.fn → K i = U.K i ∧ (F i).Same (U.F i))
theorem Vt.Same.left {T U : Vt} (h : T.Same U) : T ≠ .nil := by
  cases T with
  | nil => exact h.elim
  | mk => intro e; cases e
theorem Vt.Same.right {T U : Vt} (h : T.Same U) : U ≠ .nil := by
  cases T with
  | nil => exact h.elim
  | mk => exact h.1
theorem Vt.Same.flat {T U : Vt} (h : T.Same U) : T.h.flat U.h := by
  cases T with
  | nil => exact h.elim
  | mk => exact h.2.1
theorem Vt.Same.Y {T U : Vt} (h : T.Same U) {i : Nat} (hi : i < T.h.bn) : T.Y i = U.Y i := by
  cases T with
  | nil => exact h.elim
  | mk => exact h.2.2.1 i hi
theorem Vt.Same.L {T U : Vt} (h : T.Same U) {i : Nat} (hi : i < T.h.ln) : (T.L i).Same (U.L i) := by
  cases T with
  | nil => exact h.elim
  | mk => exact h.2.2.2.1 i hi
theorem Vt.Same.K {T U : Vt} (h : T.Same U) {i : Nat} (hi : i < T.h.fn) : T.K i = U.K i := by
  cases T with
  | nil => exact h.elim
  | mk => exact (h.2.2.2.2 i hi).1
theorem Vt.Same.F {T U : Vt} (h : T.Same U) {i : Nat} (hi : i < T.h.fn) : (T.F i).Same (U.F i) := by
  cases T with
  | nil => exact h.elim
  | mk => exact (h.2.2.2.2 i hi).2
theorem Vt.same_mk {T U : Vt} (ht : T ≠ .nil) (hu : U ≠ .nil) (h : T.h.flat U.h) (hy : ∀ i, i < T.h.bn → T.Y i = U.Y i) (hl : ∀ i, i < T.h.ln → (T.L i).Same (U.L i)) (hf : ∀ i, i < T.h.fn → T.K i = U.K i ∧ (T.F i).Same (U.F i)) : T.Same U := by
  cases T with
  | nil => exact absurd rfl ht
  | mk => exact ⟨hu, h, hy, hl, hf⟩
theorem Vt.Same.symm : ∀ {T U : Vt}, T.Same U → U.Same T := by
  intro T
  induction T with
  | nil => intro U h; exact h.elim
  | mk h Y L K F ihL ihF =>
    intro U hs
    have fl := hs.flat
    refine Vt.same_mk hs.right hs.left fl.symm ?_ ?_ ?_
    · intro i hi
      exact (hs.Y (show i < h.bn by rw [show h.bn = U.h.bn from fl.bn]; exact hi)).symm
    · intro i hi
      exact ihL i (hs.L (show i < h.ln by rw [show h.ln = U.h.ln from fl.ln]; exact hi))
    · intro i hi
      have hi' : i < h.fn := by rw [show h.fn = U.h.fn from fl.fn]; exact hi
      exact ⟨(hs.K hi').symm, ihF i (hs.F hi')⟩
theorem Vt.Same.trans : ∀ {T U V : Vt}, T.Same U → U.Same V → T.Same V := by
  intro T
  induction T with
  | nil => intro U V h; exact h.elim
  | mk h Y L K F ihL ihF =>
    intro U V a b
    have fl := a.flat
    have g1 : h.bn = U.h.bn := fl.bn
    have g2 : h.ln = U.h.ln := fl.ln
    have g3 : h.fn = U.h.fn := fl.fn
    refine Vt.same_mk a.left b.right (fl.trans b.flat) ?_ ?_ ?_
    · intro i hi
      exact (a.Y hi).trans (b.Y (by rw [← g1]; exact hi))
    · intro i hi
      exact ihL i (a.L hi) (b.L (by rw [← g2]; exact hi))
    · intro i hi
      exact ⟨(a.K hi).trans (b.K (by rw [← g3]; exact hi)), ihF i (a.F hi) (b.F (by rw [← g3]; exact hi))⟩
/-- A tree that has no hole in it. -/
def Vt.whole : Vt → Prop
  | .nil => False
  | .mk h _ L _ F => (∀ i, i < h.ln → (L i).whole) ∧ (∀ i, i < h.fn → (F i).whole)
theorem Vt.Same.rfl' : ∀ {T : Vt}, T.whole → T.Same T := by
  intro T
  induction T with
  | nil => intro h; exact h
  | mk h Y L K F ihL ihF =>
    intro hw
    exact ⟨(fun e => by cases e), Vh.flat.refl h, fun _ _ => rfl, fun i hi => ihL i (hw.1 i hi), fun i hi => ⟨rfl, ihF i (hw.2 i hi)⟩⟩
theorem Vt.In.whole {W : World} {top : Nat} : ∀ {T : Vt}, T.In W top → T.whole := by
  intro T
  induction T with
  | nil => exact fun h => h
  | mk h Y L K F ihL ihF =>
    intro hT
    obtain ⟨_, _, _, _, h4, _, h6⟩ := hT
    exact ⟨fun i hi => ihL i (h4 i hi).2, fun i hi => ihF i (h6 i hi).2.2.2⟩
theorem Vt.Same.whole : ∀ {T U : Vt}, T.Same U → T.whole := by
  intro T
  induction T with
  | nil => intro U h; exact h
  | mk h Y L K F ihL ihF => intro U hs; exact ⟨fun i hi => ihL i (hs.L hi), fun i hi => ihF i (hs.F hi)⟩
/-- The values in a value: a map's, or the list's. -/
def Vt.kn (T : Vt) : Nat := if T.h.k = 7 then T.h.fn else T.h.ln
def Vt.kid (T : Vt) (i : Nat) : Vt := if T.h.k = 7 then T.F i else T.L i
/-- A sum over the first elements. -/
def sumN (f : Nat → Nat) : Nat → Nat
  | 0 => 0
  | n + 1 => sumN f n + f n
theorem sumN_le {f : Nat → Nat} {i : Nat} : ∀ {n : Nat}, i < n → f i ≤ sumN f n := by
  intro n
  induction n with
  | zero => intro h; omega
  | succ n ih =>
    intro h
    show f i ≤ sumN f n + f n
    by_cases e : i = n
    · subst e; omega
    · have := ih (by omega); omega
theorem sumN_mono {f : Nat → Nat} {m : Nat} : ∀ {n : Nat}, m ≤ n → sumN f m ≤ sumN f n := by
  intro n
  induction n with
  | zero => intro h; rw [Nat.le_zero.1 h]; exact Nat.le_refl _
  | succ n ih =>
    intro h
    show sumN f m ≤ sumN f n + f n
    by_cases e : m = n + 1
    · subst e; exact Nat.le_refl _
    · have := ih (by omega); omega
theorem sumN_congr {f g : Nat → Nat} : ∀ {n : Nat}, (∀ i, i < n → f i = g i) → sumN f n = sumN g n := by
  intro n
  induction n with
  | zero => intro _; rfl
  | succ n ih =>
    intro h
    show sumN f n + f n = sumN g n + g n
    rw [ih (fun i hi => h i (by omega)), h n (by omega)]
/-- The number of values in a value. -/
def Vt.size : Vt → Nat
  | .nil => 1
  | .mk h _ L _ F => 1 + if h.k = 7 then sumN (fun i => (F i).size) h.fn else sumN (fun i => (L i).size) h.ln
theorem Vt.size_eq {T : Vt} (hT : T ≠ .nil) : T.size = 1 + sumN (fun i => (T.kid i).size) T.kn := by
  cases T with
  | nil => exact absurd rfl hT
  | mk h Y L K F =>
    by_cases k7 : h.k = 7
    · have e1 : (Vt.mk h Y L K F).kn = h.fn := if_pos k7
      have e2 : ∀ i, (Vt.mk h Y L K F).kid i = F i := fun i => if_pos k7
      show 1 + (if h.k = 7 then _ else _) = _
      rw [if_pos k7, e1]
      simp only [e2]
    · have e1 : (Vt.mk h Y L K F).kn = h.ln := if_neg k7
      have e2 : ∀ i, (Vt.mk h Y L K F).kid i = L i := fun i => if_neg k7
      show 1 + (if h.k = 7 then _ else _) = _
      rw [if_neg k7, e1]
      simp only [e2]
theorem Vt.size_kid {T : Vt} (h : T ≠ .nil) {i : Nat} (hi : i < T.kn) : (T.kid i).size < T.size := by
  rw [Vt.size_eq h]
  have := sumN_le (f := fun i => (T.kid i).size) hi
  omega
end Go.Proofs.YtfkfboiblgoamaaDoor
/- Values: rows of values that a call makes. -/
namespace Go.Proofs.YtfkfboiblgoamaaDoor
open Go.ChangeShapes Go.WideShapes Go.Joins Go.Deep Go.RowKit

def catN (f : Nat → Array Value) : Nat → List Value
  | 0 => []
  | n + 1 => catN f n ++ (f n).toList
theorem catN_len {f : Nat → Array Value} {C : Nat} (hf : ∀ i, (f i).size = C) : ∀ n, (catN f n).length = n * C := by
  intro n
  induction n with
  | zero => simp [catN]
  | succ n ih => rw [catN, List.length_append, ih, Array.length_toList, hf, Nat.succ_mul]
theorem catN_get {f : Nat → Array Value} {C : Nat} (hf : ∀ i, (f i).size = C) {i j : Nat} (hj : j < C) : ∀ {n : Nat}, i < n → (catN f n)[i * C + j]? = (f i)[j]? := by
  intro n
  induction n with
  | zero => intro h; omega
  | succ n ih =>
    intro h
    rw [catN]
    have hl := catN_len hf n
    by_cases e : i = n
    · subst e
      rw [List.getElem?_append_right (by omega), hl, Nat.add_sub_cancel_left, Array.getElem?_toList]
    · have h1 : (i + 1) * C ≤ n * C := Nat.mul_le_mul_right C (by omega)
      rw [Nat.succ_mul] at h1
      rw [List.getElem?_append_left (by omega)]
      exact ih (by omega)
theorem cells_new (w : World) (t : TypeId) (cs : Array Value) : ∀ j u, cs.toList[j]? = some u → (w.alloc (.cells cs t)).cell? ((⟨w.heap.size, 0, none⟩ : Addr).add j) = some u := by
  intro j u h
  have hw := Whole.new w t cs
  have := hw.cell j
  rw [add_plain, Nat.zero_add, this, ← Array.getElem?_toList, h]
theorem own_lies {w : World} {base C n : Nat} {e : TypeId} {v : Value} {f : Nat → Array Value} (hf : ∀ i, (f i).size = C) (h : w.ownsRow base e C v n (catN f n)) :
    ∃ (a : Option Addr) (c b : Nat), v = .slice a n c ∧ (n ≤ c ∧ c ≤ maxLen) ∧ (0 < n → a = some ⟨b, 0, none⟩ ∧ base ≤ b ∧ b < w.heap.size) ∧ ∀ i, i < n → LiesAt w b (i * C) (f i) := by
  by_cases hn : n = 0
  · subst hn
    rcases h.2 with ⟨rfl, _⟩ | ⟨g, cap, cur, rfl, _, _, hc1, hc2, _⟩
    · exact ⟨none, 0, 0, rfl, ⟨Nat.le_refl _, Nat.zero_le _⟩, fun h => absurd h (Nat.lt_irrefl _), fun i h => absurd h (Nat.not_lt_zero _)⟩
    · exact ⟨_, cap, g, rfl, ⟨hc1, hc2⟩, fun h => absurd h (Nat.lt_irrefl _), fun i h => absurd h (Nat.not_lt_zero _)⟩
  · obtain ⟨g, cap, rfl, hb, hlt⟩ := own_form h (by omega)
    have hcc : n ≤ cap ∧ cap ≤ maxLen := by
      rcases h.2 with ⟨h0, _⟩ | ⟨g', cap', cur', h0, _, _, hc1, hc2, _⟩
      · cases h0
      · cases h0; exact ⟨hc1, hc2⟩
    refine ⟨_, cap, g, rfl, hcc, fun _ => ⟨rfl, hb, hlt⟩, fun i hi j hj => ?_⟩
    rw [hf] at hj
    have hg := catN_get hf hj hi
    have hsome : (f i)[j]? = some ((f i)[j]'(by rw [hf]; exact hj)) := Array.getElem?_eq_getElem _
    rw [hsome] at hg ⊢
    have := h.cells (g := g) rfl _ _ hg
    rwa [add_plain, Nat.zero_add] at this
theorem LiesAt.c13 {W : World} {b o : Nat} {h : Vh} (H : LiesAt W b o h.cells) :
    W.cell? ⟨b, o, none⟩ = some (.int .i64 h.k) ∧ W.cell? ⟨b, o + 1, none⟩ = some (.bool h.b) ∧ W.cell? ⟨b, o + 2, none⟩ = some (.bool h.n) ∧ W.cell? ⟨b, o + 3, none⟩ = some (.string h.d) ∧ W.cell? ⟨b, o + 4, none⟩ = some (.int .i64 h.e) ∧
    W.cell? ⟨b, o + 5, none⟩ = some (.int .i64 h.tk) ∧ W.cell? ⟨b, o + 6, none⟩ = some (.int .i64 h.td) ∧ W.cell? ⟨b, o + 7, none⟩ = some (.int .i64 h.tn) ∧ W.cell? ⟨b, o + 8, none⟩ = some (.int .i64 h.tz) ∧ W.cell? ⟨b, o + 9, none⟩ = some (.string h.x) ∧
    W.cell? ⟨b, o + 10, none⟩ = some (.slice h.ba h.bn h.bc) ∧ W.cell? ⟨b, o + 11, none⟩ = some (.slice h.la h.ln h.lc) ∧ W.cell? ⟨b, o + 12, none⟩ = some (.slice h.fa h.fn h.fc) :=
  have z : h.cells.size = 13 := rfl
  ⟨H 0 (by omega), H 1 (by omega), H 2 (by omega), H 3 (by omega), H 4 (by omega), H 5 (by omega), H 6 (by omega), H 7 (by omega), H 8 (by omega), H 9 (by omega), H 10 (by omega), H 11 (by omega), H 12 (by omega)⟩
theorem own_away {w : World} {base size n B : Nat} {e : TypeId} {v : Value} {xs : List Value} (h : w.ownsRow base e size v n xs) (hB : B < base) : some B ≠ v.ownBlock := fun e' => by have := (h.lt B e'.symm).1; omega
theorem vh_size (h : Vh) : h.cells.size = 13 := rfl
theorem vh_one (h : Vh) : ∀ u ∈ h.cells.toList, u.oneCell' = true := by
  intro u hu
  simp only [Vh.cells, List.mem_cons, List.not_mem_nil, or_false] at hu
  rcases hu with rfl | rfl | rfl | rfl | rfl | rfl | rfl | rfl | rfl | rfl | rfl | rfl | rfl <;> rfl
theorem Tryd.infoVal : (Tryd.prog.info? 30).map (fun i => (i.zero, i.size, i.bytes)) = some (some (.agg Vh.zero.cells), 13, 168) := by kernel_rfl
theorem Tryd.infoFld : (Tryd.prog.info? 61).map (fun i => (i.zero, i.size, i.bytes)) = some (some (.agg (#[.string ⟨#[]⟩] ++ Vh.zero.cells)), 14, 184) := by kernel_rfl
end Go.Proofs.YtfkfboiblgoamaaDoor
/- The program's value.key, value.keys: what is wrong with the keys of fields; the set of the keys that were seen. -/
namespace Go.Proofs.YtfkfboiblgoamaaDoor
open Go.RowKit Go.Maps
set_option linter.unusedSimpArgs false
set_option linter.unusedVariables false

theorem plainElem_bool_inv {H : Type} {P : Program} {e : TypeId} (he : P.underlying e = some .bool) {v : Value} {c : Bool} {ps : List MemPlace} (h : plainElem (H := H) P e v = some (.lit (.bool c), ps)) : v = .bool c := by
  unfold plainElem at h
  rw [he] at h
  cases v <;> simp at h
  rw [h.1]
/-- 'm[k]' (without 'ok') at elements of kind bool. -/
theorem wpList_lookup_own_bool {H : Type} {P : Program} (w : World) {ops : Array Oper} {rest : List Oper} {o : Oper} {a : Act} {Q : Exit → Act → World → Prop}
    (hg : o.guard = none) (m x : Operand) (t : TypeId) (hop : o.op = Op.lookup t m x false)
    (k e : TypeId) (K : Keyed P k) (ht : P.underlying t = some (.map k e)) (he : P.underlying e = some .bool) (hz : (zeroValue e).run P w = .ok (.bool false) w) (b n : Nat) (D : DataW H)
    (hm : a.eval m = .map (some b)) (hown : w.ownsMap P k (plainElem P e) b n D) (key : Value) (kl : Lit) (hx : a.eval x = key) (hkey : keyOf P k key = some kl)
    (c : Bool) (hat : D.atKey kl (.lit (.bool false)) = .lit (.bool c)) (hK : wpList P ops Q rest (a.put o.dst (.bool c)) w) :
    wpList P ops Q (o :: rest) a w := by
  refine wpList_plain hg fun K' hK' => ?_
  obtain ⟨v, ps, hrun, hv⟩ := hown.lookup K ht hz (plainElem_bool he false) hkey
  rw [hat] at hv
  obtain rfl := plainElem_bool_inv he hv
  unfold Oper.wp
  simp [execOp, hop, hm, hx, hrun, Result.andThen]
  exact hK' _ _ hK
/-- The keys that were seen. -/
def seenD (K : Nat → ByteArray) : Nat → DataW Unit
  | 0 => .map []
  | n + 1 => (seenD K n).put (.string (K n).data.toList) (.lit (.bool true))
theorem seenD_map (K : Nat → ByteArray) : ∀ n, IsMap (seenD K n)
  | 0 => isMap_empty
  | n + 1 => (seenD_map K n).put _ _
theorem seenD_at (K : Nat → ByteArray) (x : ByteArray) : ∀ n, (seenD K n).atKey (.string x.data.toList) (.lit (.bool false)) = .lit (.bool (@decide (∃ j, j < n ∧ K j = x) (Classical.propDecidable _)))
  | 0 => by
    rw [@decide_eq_false _ (Classical.propDecidable _) (by rintro ⟨j, h, -⟩; omega)]
    rfl
  | n + 1 => by
    by_cases e : K n = x
    · rw [@decide_eq_true _ (Classical.propDecidable _) ⟨n, Nat.lt_succ_self n, e⟩]
      show ((seenD K n).put (.string (K n).data.toList) (.lit (.bool true))).atKey _ _ = _
      rw [e]
      exact atKey_put_same (seenD_map K n) (show WideAt.IsKeyLit (.string _) from trivial) _ _
    · have h := seenD_at K x n
      have e2 : (∃ j, j < n + 1 ∧ K j = x) ↔ (∃ j, j < n ∧ K j = x) := by
        constructor
        · rintro ⟨j, h1, h2⟩
          refine ⟨j, ?_, h2⟩
          rcases Nat.lt_or_ge j n with q | q
          · exact q
          · exact absurd (by rw [show n = j by omega]; exact h2) e
        · rintro ⟨j, h1, h2⟩; exact ⟨j, by omega, h2⟩
      have e3 : (Lit.string x.data.toList) ≠ .string (K n).data.toList := fun q => e (by
        injection q with q
        exact ByteArray.ext (Array.toList_inj.1 q.symm))
      show ((seenD K n).put (.string (K n).data.toList) (.lit (.bool true))).atKey _ _ = _
      rw [atKey_put_other e3, h]
      by_cases q : ∃ j, j < n ∧ K j = x
      · rw [@decide_eq_true _ (Classical.propDecidable _) q, @decide_eq_true _ (Classical.propDecidable _) (e2.2 q)]
      · rw [@decide_eq_false _ (Classical.propDecidable _) q, @decide_eq_false _ (Classical.propDecidable _) (fun r => q (e2.1 r))]
def key1E (u : Bool) (n : Nat) : Int := if u = false then 5 else if 1024 < n then 10 else 0
theorem vkey_any {s : ByteArray} (hs : s.size ≤ 1048576) (w : World) :
    Calls Tryd.prog 78 #[.string s] w fun e w' => e = .returned (.int .i64 (key1E (utfB s) s.size)) ∧ w = w' := by
  have HU := Lib.hid (putf_any hs)
  have s0 : (0 : Int) ≤ s.size := by omega
  have s1 : (s.size : Int) ≤ 1048576 := by omega
  cases u : utfB s with
  | false =>
    rw [u] at HU
    clear u
    go_enter Tryd.func78, Tryd.ntmps78
    go_wp2_with fail
    refine (HU.out _).mono ?_; rintro _ w1 ⟨rfl, rfl⟩
    go_wp2
    go_ret
    exact ⟨rfl, rfl⟩
  | true =>
    rw [u] at HU
    clear u
    by_cases z : 1024 < s.size
    · have z2 : decide ((1024 : Int) < s.size) = true := decide_eq_true (by omega)
      have e : key1E true s.size = 10 := by unfold key1E; simp [z]
      rw [e]
      clear e
      go_enter Tryd.func78, Tryd.ntmps78
      go_wp2_with fail
      refine (HU.out _).mono ?_; rintro _ w1 ⟨rfl, rfl⟩
      go_wp2
      go_ret
      exact ⟨rfl, rfl⟩
    · have z2 : decide ((1024 : Int) < s.size) = false := decide_eq_false (by omega)
      have e : key1E true s.size = 0 := by unfold key1E; simp [z]
      rw [e]
      clear e
      go_enter Tryd.func78, Tryd.ntmps78
      go_wp2_with fail
      refine (HU.out _).mono ?_; rintro _ w1 ⟨rfl, rfl⟩
      go_wp2
      go_ret
      exact ⟨rfl, rfl⟩
end Go.Proofs.YtfkfboiblgoamaaDoor
