/- Laid together for a claim: VUtfWalksD, VUtfWalksE, VtUtf, VtPath, MemW, VtRows, VtMade. -/
import Derived.Test.YtpcbhneaaibfiaaDoorQB03
import Derived.OwnWalk
import Derived.Maps.AppendAt
import Derived.Laws.AppendOwn
import Derived.Deep.QuietTactic
import Derived.BigQuiet
import Derived.Test.YtpcbhneaaibfiaaDoorQB01
import Derived.RangeFuncBox
import Derived.RangeFuncNested
import Derived.RangeFuncWrites
import Derived.Lib.Hide
import Derived.BigRegion
import Derived.Laws.Tables
import Derived.Laws.CopyOwn
set_option linter.unusedVariables false
set_option linter.unusedSimpArgs false
namespace Go.Proofs.YtpcbhneaaibfiaaDoor
open Go.RowKit
theorem at_char {s : ByteArray} {rs : List Int} {rest : List UInt8} (h : Utf.Split s.data.toList rs rest) (k : Nat) (hk : k < rs.length) : Utf.off rs k < s.size ∧ Utf.dec (from_ s (Utf.off rs k)) = (rs[k], Utf.wid rs[k]) :=
  ⟨by simpa using Utf.off_lt h k hk, Utf.dec_off h k hk⟩
theorem at_end {s : ByteArray} {rs : List Int} {rest : List UInt8} (h : Utf.Split s.data.toList rs rest) : s.size = Utf.off rs rs.length + rest.length ∧ Utf.dec (from_ s (Utf.off rs rs.length)) = (0, 0) :=
  ⟨by have := Utf.len_split h; simpa using this, Utf.dec_end h⟩
theorem decode_char {s : ByteArray} {rs : List Int} {rest : List UInt8} (h : Utf.Split s.data.toList rs rest) (hs : s.size ≤ maxLen) (k : Nat) (hk : k < rs.length) (w : World) :
    Calls Tryd.prog 80 #[.string s, .int .i64 (Utf.off rs k)] w fun e w' => e = .returned (.tuple #[.int .i64 rs[k], .int .i64 (Utf.wid rs[k])]) ∧ w = w' := by
  obtain ⟨h1, h2⟩ := at_char h k hk
  have := decode_at s (Utf.off rs k) w hs h1
  rw [h2] at this
  exact this
theorem rdecode_char {s : ByteArray} {rs : List Int} {rest : List UInt8} (h : Utf.Split s.data.toList rs rest) (hs : s.size ≤ maxLen) (k : Nat) (hk : k < rs.length) (w : World) :
    Calls Tryd.prog 75 #[.string s, .int .i64 (Utf.off rs k)] w fun e w' => e = .returned (.tuple #[.int .i64 rs[k], .int .i64 (Utf.wid rs[k])]) ∧ Below w.heap.size w w' := by
  obtain ⟨h1, h2⟩ := at_char h k hk
  have := rdecode_at s (Utf.off rs k) w hs h1
  rw [h2] at this
  exact this
theorem decode_rest {s : ByteArray} {rs : List Int} {rest : List UInt8} (h : Utf.Split s.data.toList rs rest) (hs : s.size ≤ maxLen) (hr : 0 < rest.length) (w : World) :
    Calls Tryd.prog 80 #[.string s, .int .i64 (Utf.off rs rs.length)] w fun e w' => e = .returned (.tuple #[.int .i64 0, .int .i64 0]) ∧ w = w' := by
  obtain ⟨h1, h2⟩ := at_end h
  have := decode_at s (Utf.off rs rs.length) w hs (by omega)
  rw [h2] at this
  exact this
theorem rdecode_rest {s : ByteArray} {rs : List Int} {rest : List UInt8} (h : Utf.Split s.data.toList rs rest) (hs : s.size ≤ maxLen) (hr : 0 < rest.length) (w : World) :
    Calls Tryd.prog 75 #[.string s, .int .i64 (Utf.off rs rs.length)] w fun e w' => e = .returned (.tuple #[.int .i64 0, .int .i64 0]) ∧ Below w.heap.size w w' := by
  obtain ⟨h1, h2⟩ := at_end h
  have := rdecode_at s (Utf.off rs rs.length) w hs (by omega)
  rw [h2] at this
  exact this
def lenN (rs : List Int) (rest : List UInt8) : Int := if rest.length = 0 then rs.length else 0
def lenE (rest : List UInt8) : Int := if rest.length = 0 then 0 else 5
theorem len_any {s : ByteArray} {rs : List Int} {rest : List UInt8} (h : Utf.Split s.data.toList rs rest) (hs : s.size ≤ maxLen) (w : World) :
    Calls Tryd.prog 69 #[.string s] w fun e w' => e = .returned (.tuple #[.int .i64 (lenN rs rest), .int .i64 (lenE rest)]) ∧ w = w' := by
  have hend := at_end h
  have hcnt := Utf.count_le h
  have HE := hend.1
  have hcl : rs.length ≤ s.size := by simpa using hcnt
  have HN : Hid (lenN rs rest = if rest.length = 0 then (rs.length : Int) else 0) := Lib.hid rfl
  have HM : Hid (lenE rest = if rest.length = 0 then 0 else 5) := Lib.hid rfl
  have hs' := hs
  unfold maxLen at hs'
  have HS := Lib.hid hs; clear hs
  have HSP := Lib.hid h; clear h hend hcnt
  have HE' := Lib.hid HE; clear HE
  go_enter Tryd.func69, Tryd.ntmps69
  go_wp2
  go_loop [4, 5] (fun n i => ∃ k : Nat, k ≤ rs.length ∧ n = .int .i64 k ∧ i = .int .i64 (Utf.off rs k)) (fun n _ => rs.length - (intOf n).toNat)
  case atStart => exact ⟨0, by omega, rfl, rfl⟩
  case round =>
    obtain ⟨k, hk, rfl, rfl⟩ := hrel
    by_cases hlt : k < rs.length
    · have hlt' : Utf.off rs k < s.size := (at_char HSP.out k hlt).1
      have hw := Utf.wid_bd rs[k]
      have hle : Utf.off rs k + Utf.wid rs[k] ≤ s.size := by rw [← Utf.off_succ rs k hlt]; simpa using Utf.off_le HSP.out (k + 1)
      have t1 : ((Utf.wid rs[k] : Int) == 0) = false := by simp; omega
      have HO := Lib.hid (Utf.off_succ rs k hlt)
      go_wp2_with (go_at_call 80; refine (decode_char HSP.out HS.out k hlt _).mono ?_; rintro e w' ⟨rfl, rfl⟩)
      go_round
      case rel => exact ⟨k + 1, by omega, by go_num, by rw [HO.out]; go_num⟩
      case measure => simp [intOf]; omega
    · obtain rfl : k = rs.length := by omega
      by_cases hr : rest.length = 0
      · have hlt' : ¬ Utf.off rs rs.length < s.size := by have := HE'.out; omega
        have HR := Lib.hid hr; clear hr
        go_wp2
        go_ret2
        rw [HN.out, HM.out, if_pos HR.out, if_pos HR.out]
        exact ⟨rfl, rfl⟩
      · have hlt' : Utf.off rs rs.length < s.size := by have := HE'.out; omega
        have HR := Lib.hid hr; clear hr
        go_wp2_with (go_at_call 80; refine (decode_rest HSP.out HS.out (by have := HR.out; omega) _).mono ?_; rintro e w' ⟨rfl, rfl⟩)
        go_ret2
        rw [HN.out, HM.out, if_neg HR.out, if_neg HR.out]
        exact ⟨rfl, rfl⟩
theorem valid_any {s : ByteArray} {rs : List Int} {rest : List UInt8} (h : Utf.Split s.data.toList rs rest) (hs : s.size ≤ maxLen) (w : World) :
    Calls Tryd.prog 62 #[.string s] w fun e w' => e = .returned (.bool (decide (rest.length = 0))) ∧ w = w' := by
  have HL := Lib.hid (len_any h hs)
  clear h
  by_cases hr : rest.length = 0
  · have e1 : lenE rest = 0 := by unfold lenE; rw [if_pos hr]
    rw [e1] at HL
    rw [decide_eq_true hr]
    clear e1 hr
    go_enter Tryd.func62, Tryd.ntmps62
    go_wp2_with (go_at_call 69; refine (HL.out _).mono ?_; rintro e w' ⟨rfl, rfl⟩)
    go_ret
    exact ⟨rfl, rfl⟩
  · have e1 : lenE rest = 5 := by unfold lenE; rw [if_neg hr]
    rw [e1] at HL
    rw [decide_eq_false hr]
    clear e1 hr
    go_enter Tryd.func62, Tryd.ntmps62
    go_wp2_with (go_at_call 69; refine (HL.out _).mono ?_; rintro e w' ⟨rfl, rfl⟩)
    go_ret
    exact ⟨rfl, rfl⟩
def bounds (rs : List Int) (n : Nat) : List Value := (List.range n).map fun i => Value.int .i64 (Utf.off rs i)
theorem bounds_succ (rs : List Int) (n : Nat) : bounds rs (n + 1) = bounds rs n ++ [.int .i64 (Utf.off rs n)] := by unfold bounds; rw [List.range_succ, List.map_append]; rfl
theorem Tryd.infoInt : (Tryd.prog.info? 3).map (fun i => (i.zero, i.size, i.bytes)) = some (some (.int .i64 0), 1, 8) := by kernel_rfl
set_option maxHeartbeats 1000000 in
theorem boundaries_any {s : ByteArray} {rs : List Int} {rest : List UInt8} (h : Utf.Split s.data.toList rs rest) (hs : s.size ≤ 1048576) (w : World) :
    Calls Tryd.prog 67 #[.string s] w fun e w' =>
      ∃ v : Value, e = .returned (.tuple #[v, .bool (decide (rest.length = 0))]) ∧ w'.ownsRow w.heap.size 3 1 v (rs.length + 1) (bounds rs (rs.length + 1)) ∧ Below w.heap.size w w' := by
  obtain ⟨i0, hi, hz0, hz1, hz2⟩ := info_parts Tryd.infoInt
  have HE := (at_end h).1
  have hcl : rs.length ≤ s.size := by simpa using Utf.count_le h
  have HS : Hid (s.size ≤ maxLen) := Lib.hid (by unfold maxLen; omega)
  have HSP := Lib.hid h; clear h
  have HE' := Lib.hid HE; clear HE
  go_enter Tryd.func67, Tryd.ntmps67
  go_wp2
  go_loopw [4, 5] (fun v i wr => ∃ k : Nat, k ≤ rs.length ∧ i = .int .i64 (Utf.off rs k) ∧ wr.ownsRow w.heap.size 3 1 v (k + 1) (bounds rs (k + 1)) ∧ Below w.heap.size w wr) (fun _ i _ => s.size - (intOf i).toNat)
  case atStart =>
    exact ⟨0, by omega, rfl, World.ownsRow_lit w #[.int .i64 0] 1 (Nat.le_refl _) (by decide) (by decide), (Below.refl _ _).alloc (Nat.le_refl _) _⟩
  case round =>
    obtain ⟨k, hk, rfl, hown, hbr⟩ := hrel
    by_cases hlt : k < rs.length
    · have hlt' : Utf.off rs k < s.size := (at_char HSP.out k hlt).1
      have hw := Utf.wid_bd rs[k]
      have HO := Lib.hid (Utf.off_succ rs k hlt)
      have hle : Utf.off rs k + Utf.wid rs[k] ≤ s.size := by rw [← HO.out]; simpa using Utf.off_le HSP.out (k + 1)
      have t1 : ((Utf.wid rs[k] : Int) == 0) = false := by simp; omega
      have HC := Lib.hid (rdecode_char HSP.out HS.out k hlt)
      go_wp2_with (first | (go_at_call 75; refine (HC.out _).mono ?_; rintro e w2 ⟨rfl, hb2⟩; have hown2 := own_below hown hb2; have hsz2 := hb2.size; replace hbr := hbr.trans (hb2.mono hbr.size)) | (at_builtin; refine wpList_append_own _ rfl _ _ 111 rfl w.heap.size 3 i0 (.int .i64 0) 1 8 Tryd.underlying111 hi hz0 hz1 hz2 rfl (by decide) _ _ _ rfl (hown2.alloc _) ⟨w2.heap.size, 0, none⟩ 1 1 [.int .i64 (Utf.off rs k + Utf.wid rs[k])] rfl rfl ?c1 ?c2 ?c3 ?c4 ?c5 ?_))
      case c1 => exact cell_one_new _ _ _
      case c2 => simp [Value.oneCell']
      case c3 => unfold maxLen; omega
      case c4 => omega
      case c5 => have := hbr.size; simp; omega
      intro v' w3 hown3 hgrow _
      have hb3 := below_grown hbr hbr.size hown2 (Nat.le_refl _) hgrow
      rw [← Int.natCast_add, ← HO.out, ← bounds_succ] at hown3
      clear hown hown2 hgrow
      go_wp2
      go_roundw
      case rel => exact ⟨k + 1, by omega, by rw [HO.out]; go_num, hown3, hb3⟩
      case measure => simp [intOf]; omega
    · obtain rfl : k = rs.length := by omega
      by_cases hr : rest.length = 0
      · have hlt' : ¬ Utf.off rs rs.length < s.size := by have := HE'.out; omega
        have HR := Lib.hid hr; clear hr
        go_wp2
        go_ret2
        rw [decide_eq_true HR.out]
        exact ⟨_, rfl, hown, hbr⟩
      · have hlt' : Utf.off rs rs.length < s.size := by have := HE'.out; omega
        have HC := Lib.hid (rdecode_rest HSP.out HS.out (by omega))
        have HR := Lib.hid hr; clear hr
        go_wp2_with (go_at_call 75; refine (HC.out _).mono ?_; rintro e w2 ⟨rfl, hb2⟩; have hown2 := own_below hown hb2; replace hbr := hbr.trans (hb2.mono hbr.size))
        go_ret2
        rw [decide_eq_false HR.out]
        exact ⟨_, rfl, hown2, hbr⟩
theorem rvalid_any {s : ByteArray} {rs : List Int} {rest : List UInt8} (h : Utf.Split s.data.toList rs rest) (hs : s.size ≤ 1048576) (w : World) :
    Calls Tryd.prog 58 #[.string s] w fun e w' => e = .returned (.bool (decide (rest.length = 0))) ∧ Below w.heap.size w w' := by
  have HB := Lib.hid (boundaries_any h hs)
  clear h
  generalize decide (rest.length = 0) = b at *
  go_enter Tryd.func58, Tryd.ntmps58
  go_wp2_with fail
  refine (HB.out _).mono ?_; rintro e w1 ⟨v, rfl, hown, hb1⟩
  go_wp2_with fail
  go_ret
  exact ⟨rfl, hb1⟩
theorem below_drewN' {B : Nat} {a w : World} (h : Below B a w) (n : Nat) : Below B a (w.drewN n) := ⟨h.os, h.tape, h.output, h.size, h.block⟩
noncomputable def Utf.left (s : ByteArray) : List UInt8 := Classical.choose (Classical.choose_spec (Utf.split_ex s.data.toList))
theorem Utf.left_split (s : ByteArray) : ∃ rs, Utf.Split s.data.toList rs (Utf.left s) := ⟨_, Classical.choose_spec (Classical.choose_spec (Utf.split_ex s.data.toList))⟩
noncomputable def utfB (s : ByteArray) : Bool := decide ((Utf.left s).length = 0)
theorem rutf_any {s : ByteArray} (hs : s.size ≤ 1048576) (w : World) : Calls Tryd.prog 58 #[.string s] w fun e w' => e = .returned (.bool (utfB s)) ∧ Below w.heap.size w w' := by
  obtain ⟨rs, h⟩ := Utf.left_split s
  exact rvalid_any h hs w
theorem putf_any {s : ByteArray} (hs : s.size ≤ 1048576) (w : World) : Calls Tryd.prog 62 #[.string s] w fun e w' => e = .returned (.bool (utfB s)) ∧ w = w' := by
  obtain ⟨rs, h⟩ := Utf.left_split s
  exact valid_any h (by unfold maxLen; omega) w
noncomputable def keyE (K : Nat → ByteArray) (i : Nat) : Int := if utfB (K i) = false then 5 else if 1024 < (K i).size then 10 else if ∃ k, k < i ∧ K k = K i then 8 else 0
noncomputable def keysE (K : Nat → ByteArray) : Nat → Int
  | 0 => 0
  | n + 1 => if keysE K n ≠ 0 then keysE K n else keyE K n
theorem keysE_stays {K : Nat → ByteArray} {n : Nat} (h : keysE K n ≠ 0) : ∀ m, n ≤ m → keysE K m = keysE K n := by
  intro m hm
  induction m with
  | zero =>
    obtain rfl : n = 0 := by omega
    rfl
  | succ m ih =>
    by_cases hn : n = m + 1
    · rw [hn]
    · have e := ih (by omega)
      show (if keysE K m ≠ 0 then keysE K m else keyE K m) = _
      rw [if_pos (by rw [e]; exact h), e]
theorem keysE_bad {K : Nat → ByteArray} {k n : Nat} (h : keysE K k = 0) (hk : k < n) (hb : keyE K k ≠ 0) : keysE K n = keyE K k := by
  have e : keysE K (k + 1) = keyE K k := by
    show (if keysE K k ≠ 0 then keysE K k else keyE K k) = _
    rw [if_neg (by simp [h])]
  rw [keysE_stays (by rw [e]; exact hb) n (by omega), e]
theorem keysE_next {K : Nat → ByteArray} {k : Nat} (h : keysE K k = 0) (hb : keyE K k = 0) : keysE K (k + 1) = 0 := by
  show (if keysE K k ≠ 0 then keysE K k else keyE K k) = _
  rw [if_neg (by simp [h]), hb]
end Go.Proofs.YtpcbhneaaibfiaaDoor
namespace Go.Proofs.YtpcbhneaaibfiaaDoor
open Go.ChangeShapes Go.WideShapes Go.Joins Go.Deep Go.RowKit
structure Stp where
  ix : Bool
  key : ByteArray
  n : Int
instance : Inhabited Stp := ⟨⟨false, ByteArray.empty, 0⟩⟩
def Stp.cells (s : Stp) : Array Value := #[.bool s.ix, .string s.key, .int .i64 s.n]
structure Stp.ok (s : Stp) : Prop where
  key : s.key.size ≤ 1048576
  n : w64 s.n
structure Pth where
  a : Option Addr
  n : Nat
  c : Nat
  b : Nat
  o : Nat
  S : Nat → Stp
def Pth.In (W : World) (top : Nat) (p : Pth) : Prop := (0 < p.n → p.a = some ⟨p.b, p.o, none⟩ ∧ p.b < top) ∧ (p.n ≤ 1048576 ∧ p.n ≤ p.c ∧ p.c ≤ maxLen) ∧ ∀ i, i < p.n → LiesAt W p.b (p.o + i * 3) (p.S i).cells ∧ (p.S i).ok
theorem Pth.In.below {W W' : World} {top : Nat} {p : Pth} (h : p.In W top) (hb : Below top W W') : p.In W' top :=
  ⟨h.1, h.2.1, fun i hi => ⟨(h.2.2 i hi).1.below hb (h.1 (by omega)).2, (h.2.2 i hi).2⟩⟩
theorem Pth.In.up {W : World} {top top' : Nat} {p : Pth} (h : p.In W top) (hle : top ≤ top') : p.In W top' :=
  ⟨fun q => ⟨(h.1 q).1, Nat.lt_of_lt_of_le (h.1 q).2 hle⟩, h.2⟩
theorem LiesAt.s3 {W : World} {b o : Nat} {s : Stp} (H : LiesAt W b o s.cells) : W.cell? ⟨b, o, none⟩ = some (.bool s.ix) ∧ W.cell? ⟨b, o + 1, none⟩ = some (.string s.key) ∧ W.cell? ⟨b, o + 2, none⟩ = some (.int .i64 s.n) :=
  have z : s.cells.size = 3 := rfl
  ⟨H 0 (by omega), H 1 (by omega), H 2 (by omega)⟩
section
variable {H : Type} {enc : TypeId × Value → H} {w : World} {base : Nat} {spare : Nat → Bool} {held : Bool}
end
noncomputable def fidx (K : Nat → ByteArray) (key : ByteArray) : Nat → Nat
  | 0 => 0
  | n + 1 => if fidx K key n < n then fidx K key n else if K n = key then n else n + 1
theorem fidx_none {K : Nat → ByteArray} {key : ByteArray} : ∀ {n : Nat}, (∀ i, i < n → K i ≠ key) → fidx K key n = n := by
  intro n
  induction n with
  | zero => intro _; rfl
  | succ n ih =>
    intro h
    unfold fidx
    rw [ih (fun i hi => h i (by omega)), if_neg (by omega), if_neg (h n (by omega))]
theorem fidx_first {K : Nat → ByteArray} {key : ByteArray} {i : Nat} (hi : ∀ j, j < i → K j ≠ key) (hk : K i = key) : ∀ {n : Nat}, i < n → fidx K key n = i := by
  intro n
  induction n with
  | zero => intro h; omega
  | succ n ih =>
    intro h
    unfold fidx
    by_cases e : i = n
    · subst e
      rw [fidx_none hi, if_neg (by omega), if_pos hk]
    · rw [ih (by omega), if_pos (by omega)]
noncomputable def Vt.find (T : Vt) (s : Stp) : Int × Int :=
  if s.ix = true then (if T.h.k ≠ 6 then (0, 6) else if s.n < 0 ∨ (T.h.ln : Int) ≤ s.n then (0, 7) else (s.n, 0))
  else if T.h.k ≠ 7 then (0, 6) else if fidx T.K s.key T.h.fn < T.h.fn then ((fidx T.K s.key T.h.fn : Nat), 0) else (0, 7)
def Vt.part (T : Vt) (i : Nat) : Vt := if T.h.k = 6 then T.L i else T.F i
theorem Vt.find_ok {T : Vt} {s : Stp} (h : (T.find s).2 = 0) : ∃ i : Nat, (T.find s).1 = i ∧ ((s.ix = true ∧ T.h.k = 6 ∧ i < T.h.ln ∧ s.n = i) ∨ (s.ix = false ∧ T.h.k = 7 ∧ i < T.h.fn ∧ i = fidx T.K s.key T.h.fn)) := by
  unfold Vt.find at h ⊢
  split at h
  · rename_i hx
    rw [if_pos hx]
    split at h
    · simp at h
    · rename_i h6
      split at h
      · simp at h
      · rename_i hn
        rw [if_neg h6, if_neg hn]
        exact ⟨s.n.toNat, by dsimp only; omega, .inl ⟨hx, by omega, by omega, by omega⟩⟩
  · rename_i hx
    rw [if_neg hx]
    split at h
    · simp at h
    · rename_i h7
      split at h
      · rename_i hf
        rw [if_neg h7, if_pos hf]
        exact ⟨_, rfl, .inr ⟨by simpa using hx, by omega, hf, rfl⟩⟩
      · simp at h
theorem Vt.In.part {W : World} {top : Nat} {T : Vt} (h : T.In W top) {s : Stp} (h0 : (T.find s).2 = 0) : (T.part (T.find s).1.toNat).In W top := by
  obtain ⟨i, e, hc⟩ := Vt.find_ok h0
  rw [e, Int.toNat_natCast]
  cases T with
  | nil => exact h.elim
  | mk g Y L K F =>
    obtain ⟨_, _, _, _, h4, _, h6⟩ := h
    unfold Vt.part
    rcases hc with ⟨_, k6, hi, _⟩ | ⟨_, k7, hi, _⟩
    · rw [if_pos k6]; exact (h4 i hi).2
    · rw [if_neg (by rw [k7]; decide)]; exact (h6 i hi).2.2.2
end Go.Proofs.YtpcbhneaaibfiaaDoor
namespace Go.Proofs.YtpcbhneaaibfiaaDoor
open Go.RowKit
def Whole (W : World) (B : Nat) (t : TypeId) (cs : Array Value) : Prop := W.heap[B]? = some (.cells cs t (0, 0))
theorem Whole.lt {W : World} {B : Nat} {t : TypeId} {cs : Array Value} (h : Whole W B t cs) : B < W.heap.size := (Array.getElem?_eq_some_iff.1 h).1
theorem Whole.cell {W : World} {B : Nat} {t : TypeId} {cs : Array Value} (h : Whole W B t cs) (i : Nat) : W.cell? ⟨B, i, none⟩ = cs[i]? := by simp [World.cell?, show W.heap[B]? = _ from h]
theorem Whole.frozen {W : World} {B : Nat} {t : TypeId} {cs : Array Value} (h : Whole W B t cs) (i : Nat) : W.frozen? ⟨B, i, none⟩ = false := by simp [World.frozen?, show W.heap[B]? = _ from h]
theorem Whole.c {W : World} {B : Nat} {t : TypeId} {a : Value} (h : Whole W B t #[a]) : W.cell? ⟨B, 0, none⟩ = some a := h.cell 0
theorem Whole.c0 {W : World} {B : Nat} {t : TypeId} {a b : Value} (h : Whole W B t #[a, b]) : W.cell? ⟨B, 0, none⟩ = some a := h.cell 0
theorem Whole.c1 {W : World} {B : Nat} {t : TypeId} {a b : Value} (h : Whole W B t #[a, b]) : W.cell? ⟨B, 1, none⟩ = some b := h.cell 1
theorem Whole.new (W : World) (t : TypeId) (cs : Array Value) : Whole (W.alloc (.cells cs t)) W.heap.size t cs := World.alloc_heap_new W _
theorem Whole.kept {W W' : World} {row : Option Nat} {B : Nat} {t : TypeId} {cs : Array Value} (h : Whole W B t cs) (hg : W.grownBy W' row) (hne : some B ≠ row) : Whole W' B t cs := (hg.block B h.lt hne).trans h
theorem Whole.alloc {W : World} {B : Nat} {t : TypeId} {cs : Array Value} (h : Whole W B t cs) (o : Obj) : Whole (W.alloc o) B t cs := h.kept (World.grownBy_alloc W o none) (by simp)
theorem Whole.below {W W' : World} {n B : Nat} {t : TypeId} {cs : Array Value} (h : Whole W B t cs) (hb : Below n W W') (hn : B < n) : Whole W' B t cs := (hb.block B hn).trans h
theorem Whole.drew {W : World} {B : Nat} {t : TypeId} {cs : Array Value} (h : Whole W B t cs) : Whole W.drew B t cs := h
theorem Whole.far {W : World} {B : Nat} {t : TypeId} {cs : Array Value} (h : Whole W B t cs) {p : Addr} (hp : B ≠ p.block) (u : Value) : Whole (W.setCell p u) B t cs := (Below.heap_setCell W p u B hp).trans h
theorem Whole.set {W : World} {B : Nat} {t : TypeId} {cs : Array Value} (h : Whole W B t cs) (i : Nat) (u : Value) : Whole (W.setCell ⟨B, i, none⟩ u) B t (cs.setIfInBounds i u) := by
  unfold Whole at h ⊢
  simp [World.setCell, Array.getElem?_modify, h]
theorem Whole.s {W : World} {B : Nat} {t : TypeId} {a : Value} (h : Whole W B t #[a]) (u : Value) : Whole (W.setCell ⟨B, 0, none⟩ u) B t #[u] := h.set 0 u
theorem Whole.s2 {W : World} {B : Nat} {t : TypeId} {a b : Value} (h : Whole W B t #[a, b]) (u v : Value) : Whole ((W.setCell ⟨B, 0, none⟩ u).setCell ⟨B, 1, none⟩ v) B t #[u, v] := (h.set 0 u).set 1 v
theorem Whole.put {W : World} {B D : Nat} {t : TypeId} {cs : Array Value} {o : Obj} (h : Whole W B t cs) (hD : W.heap[D]? = some o) (hc : o.isCells = false) (o' : Obj) : Whole (W.putObj D o') B t cs :=
  h.kept (grownBy_putObj' W D o') (fun e => by cases e; rw [show W.heap[B]? = _ from h] at hD; cases hD; cases hc)
end Go.Proofs.YtpcbhneaaibfiaaDoor
namespace Go.Proofs.YtpcbhneaaibfiaaDoor
open Go.ChangeShapes Go.WideShapes Go.Joins Go.Deep Go.RowKit
def catN (f : Nat → Array Value) : Nat → List Value
  | 0 => []
  | n + 1 => catN f n ++ (f n).toList
theorem catN_len {f : Nat → Array Value} {C : Nat} (hf : ∀ i, (f i).size = C) : ∀ n, (catN f n).length = n * C := by
  intro n
  induction n with
  | zero => simp [catN]
  | succ n ih => rw [catN, List.length_append, ih, Array.length_toList, hf, Nat.succ_mul]
theorem catN_get {f : Nat → Array Value} {C : Nat} (hf : ∀ i, (f i).size = C) {i j : Nat} (hj : j < C) : ∀ {n : Nat}, i < n → (catN f n)[i * C + j]? = (f i)[j]? := by
  intro n
  induction n with
  | zero => intro h; omega
  | succ n ih =>
    intro h
    rw [catN]
    have hl := catN_len hf n
    by_cases e : i = n
    · subst e
      rw [List.getElem?_append_right (by omega), hl, Nat.add_sub_cancel_left, Array.getElem?_toList]
    · have h1 : (i + 1) * C ≤ n * C := Nat.mul_le_mul_right C (by omega)
      rw [Nat.succ_mul] at h1
      rw [List.getElem?_append_left (by omega)]
      exact ih (by omega)
theorem cells_new (w : World) (t : TypeId) (cs : Array Value) : ∀ j u, cs.toList[j]? = some u → (w.alloc (.cells cs t)).cell? ((⟨w.heap.size, 0, none⟩ : Addr).add j) = some u := by
  intro j u h
  have hw := Whole.new w t cs
  have := hw.cell j
  rw [add_plain, Nat.zero_add, this, ← Array.getElem?_toList, h]
theorem own_lies {w : World} {base C n : Nat} {e : TypeId} {v : Value} {f : Nat → Array Value} (hf : ∀ i, (f i).size = C) (h : w.ownsRow base e C v n (catN f n)) :
    ∃ (a : Option Addr) (c b : Nat), v = .slice a n c ∧ (n ≤ c ∧ c ≤ maxLen) ∧ (0 < n → a = some ⟨b, 0, none⟩ ∧ base ≤ b ∧ b < w.heap.size) ∧ ∀ i, i < n → LiesAt w b (i * C) (f i) := by
  by_cases hn : n = 0
  · subst hn
    rcases h.2 with ⟨rfl, _⟩ | ⟨g, cap, cur, rfl, _, _, hc1, hc2, _⟩
    · exact ⟨none, 0, 0, rfl, ⟨Nat.le_refl _, Nat.zero_le _⟩, fun h => absurd h (Nat.lt_irrefl _), fun i h => absurd h (Nat.not_lt_zero _)⟩
    · exact ⟨_, cap, g, rfl, ⟨hc1, hc2⟩, fun h => absurd h (Nat.lt_irrefl _), fun i h => absurd h (Nat.not_lt_zero _)⟩
  · obtain ⟨g, cap, rfl, hb, hlt⟩ := own_form h (by omega)
    have hcc : n ≤ cap ∧ cap ≤ maxLen := by
      rcases h.2 with ⟨h0, _⟩ | ⟨g', cap', cur', h0, _, _, hc1, hc2, _⟩
      · cases h0
      · cases h0; exact ⟨hc1, hc2⟩
    refine ⟨_, cap, g, rfl, hcc, fun _ => ⟨rfl, hb, hlt⟩, fun i hi j hj => ?_⟩
    rw [hf] at hj
    have hg := catN_get hf hj hi
    have hsome : (f i)[j]? = some ((f i)[j]'(by rw [hf]; exact hj)) := Array.getElem?_eq_getElem _
    rw [hsome] at hg ⊢
    have := h.cells (g := g) rfl _ _ hg
    rwa [add_plain, Nat.zero_add] at this
theorem LiesAt.c13 {W : World} {b o : Nat} {h : Vh} (H : LiesAt W b o h.cells) :
    W.cell? ⟨b, o, none⟩ = some (.int .i64 h.k) ∧ W.cell? ⟨b, o + 1, none⟩ = some (.bool h.b) ∧ W.cell? ⟨b, o + 2, none⟩ = some (.bool h.n) ∧ W.cell? ⟨b, o + 3, none⟩ = some (.string h.d) ∧ W.cell? ⟨b, o + 4, none⟩ = some (.int .i64 h.e) ∧
    W.cell? ⟨b, o + 5, none⟩ = some (.int .i64 h.tk) ∧ W.cell? ⟨b, o + 6, none⟩ = some (.int .i64 h.td) ∧ W.cell? ⟨b, o + 7, none⟩ = some (.int .i64 h.tn) ∧ W.cell? ⟨b, o + 8, none⟩ = some (.int .i64 h.tz) ∧ W.cell? ⟨b, o + 9, none⟩ = some (.string h.x) ∧
    W.cell? ⟨b, o + 10, none⟩ = some (.slice h.ba h.bn h.bc) ∧ W.cell? ⟨b, o + 11, none⟩ = some (.slice h.la h.ln h.lc) ∧ W.cell? ⟨b, o + 12, none⟩ = some (.slice h.fa h.fn h.fc) :=
  have z : h.cells.size = 13 := rfl
  ⟨H 0 (by omega), H 1 (by omega), H 2 (by omega), H 3 (by omega), H 4 (by omega), H 5 (by omega), H 6 (by omega), H 7 (by omega), H 8 (by omega), H 9 (by omega), H 10 (by omega), H 11 (by omega), H 12 (by omega)⟩
theorem own_away {w : World} {base size n B : Nat} {e : TypeId} {v : Value} {xs : List Value} (h : w.ownsRow base e size v n xs) (hB : B < base) : some B ≠ v.ownBlock := fun e' => by have := (h.lt B e'.symm).1; omega
theorem vh_size (h : Vh) : h.cells.size = 13 := rfl
theorem vh_one (h : Vh) : ∀ u ∈ h.cells.toList, u.oneCell' = true := by
  intro u hu
  simp only [Vh.cells, List.mem_cons, List.not_mem_nil, or_false] at hu
  rcases hu with rfl | rfl | rfl | rfl | rfl | rfl | rfl | rfl | rfl | rfl | rfl | rfl | rfl <;> rfl
theorem Tryd.infoVal : (Tryd.prog.info? 30).map (fun i => (i.zero, i.size, i.bytes)) = some (some (.agg Vh.zero.cells), 13, 168) := by kernel_rfl
theorem Tryd.infoFld : (Tryd.prog.info? 76).map (fun i => (i.zero, i.size, i.bytes)) = some (some (.agg (#[.string ⟨#[]⟩] ++ Vh.zero.cells)), 14, 184) := by kernel_rfl
def Vt.Off (S : Nat → Prop) : Vt → Prop
  | .nil => True
  | .mk h _ L _ F => (0 < h.bn → S h.bb) ∧ (0 < h.ln → S h.lb) ∧ (∀ i, i < h.ln → (L i).Off S) ∧ (0 < h.fn → S h.fb) ∧ (∀ i, i < h.fn → (F i).Off S)
theorem Vt.Off.mono {S S' : Nat → Prop} (hs : ∀ b, S b → S' b) : ∀ {T : Vt}, T.Off S → T.Off S' := by
  intro T
  induction T with
  | nil => exact fun _ => trivial
  | mk h Y L K F ihL ihF =>
    rintro ⟨a, b, c, d, e⟩
    exact ⟨fun q => hs _ (a q), fun q => hs _ (b q), fun i hi => ihL i (c i hi), fun q => hs _ (d q), fun i hi => ihF i (e i hi)⟩
theorem Vt.Off.and {S S' : Nat → Prop} : ∀ {T : Vt}, T.Off S → T.Off S' → T.Off (fun b => S b ∧ S' b) := by
  intro T
  induction T with
  | nil => exact fun _ _ => trivial
  | mk h Y L K F ihL ihF =>
    rintro ⟨a, b, c, d, e⟩ ⟨a', b', c', d', e'⟩
    exact ⟨fun q => ⟨a q, a' q⟩, fun q => ⟨b q, b' q⟩, fun i hi => ihL i (c i hi) (c' i hi), fun q => ⟨d q, d' q⟩, fun i hi => ihF i (e i hi) (e' i hi)⟩
theorem Vt.In.off {W : World} {top : Nat} : ∀ {T : Vt}, T.In W top → T.Off (· < top) := by
  intro T
  induction T with
  | nil => exact fun h => h.elim
  | mk h Y L K F ihL ihF =>
    rintro ⟨_, a, _, b, c, d, e⟩
    exact ⟨fun q => (a q).2, fun q => (b q).2, fun i hi => ihL i (c i hi).2, fun q => (d q).2, fun i hi => ihF i (e i hi).2.2.2⟩
theorem Vt.In.turn {W W' : World} {top top' : Nat} {S : Nat → Prop} (hs : ∀ b, S b → b < top → W'.heap[b]? = W.heap[b]? ∧ b < top') : ∀ {T : Vt}, T.In W top → T.Off S → T.In W' top' := by
  have hc : ∀ b, S b → b < top → ∀ i, W'.cell? ⟨b, i, none⟩ = W.cell? ⟨b, i, none⟩ := fun b h1 h2 i => World.cell?_of_block (a := ⟨b, i, none⟩) (hs b h1 h2).1
  intro T
  induction T with
  | nil => exact fun h => h.elim
  | mk h Y L K F ihL ihF =>
    rintro ⟨h0, h1, h2, h3, h4, h5, h6⟩ ⟨a, b, c, d, e⟩
    refine ⟨h0, fun q => ⟨(h1 q).1, (hs _ (a q) (h1 q).2).2⟩, fun i hi => ?_, fun q => ⟨(h3 q).1, (hs _ (b q) (h3 q).2).2⟩, fun i hi => ⟨fun j hj => ?_, ihL i (h4 i hi).2 (c i hi)⟩, fun q => ⟨(h5 q).1, (hs _ (d q) (h5 q).2).2⟩, fun i hi => ⟨?_, (h6 i hi).2.1, fun j hj => ?_, ihF i (h6 i hi).2.2.2 (e i hi)⟩⟩
    · rw [hc _ (a (by omega)) (h1 (by omega)).2]; exact h2 i hi
    · rw [hc _ (b (by omega)) (h3 (by omega)).2]; exact (h4 i hi).1 j hj
    · rw [hc _ (d (by omega)) (h5 (by omega)).2]; exact (h6 i hi).1
    · rw [hc _ (d (by omega)) (h5 (by omega)).2]; exact (h6 i hi).2.2.1 j hj
theorem Vt.In.grown {W W' : World} {g : Option Nat} {T : Vt} (h : T.In W W.heap.size) (ho : T.Off (fun b => some b ≠ g)) (hg : W.grownBy W' g) : T.In W' W'.heap.size :=
  Vt.In.turn (S := fun b => some b ≠ g) (fun b hb hlt => ⟨hg.block b hlt hb, Nat.lt_of_lt_of_le hlt hg.size⟩) h ho
theorem Vt.In.later {W W' : World} {T : Vt} (h : T.In W W.heap.size) (hb : Below W.heap.size W W') : T.In W' W'.heap.size := (h.below hb).up hb.size
theorem run_append_told {P : Program} (w : World) (base : Nat) (t ty e : TypeId) (i : TypeInfo) (z : Value) (size bytes : Nat) (ht : P.underlying t = some (.slice e)) (hi : P.info? e = some i) (hz : i.zero = some z)
    (hsize : i.size = size) (hby : i.bytes = bytes) (hzs : z.cells.size = size) (hsz : 0 < size)
    (v : Value) (n : Nat) (xs : List Value) (hown : w.ownsRow base e size v n xs)
    (a : Addr) (m c : Nat) (news : List Value) (hl : news.length = m * size) (hnews : ∀ j u, news[j]? = some u → w.cell? (a.add j) = some u) (h1 : ∀ u ∈ news, u.oneCell' = true)
    (h63 : n + m ≤ maxLen) (hbytes : (n + m) * bytes ≤ 140737488355328) (hbase : base ≤ w.heap.size) (hm : 0 < m) :
    ∃ v' w', (Builtin.append_ #[t, t] ty #[v, .slice (some a) m c]).run P w = .ok v' w' ∧ w'.ownsRow base e size v' (n + m) (xs ++ news) ∧ w.grownBy w' v.ownBlock ∧
      (v'.ownBlock = v.ownBlock ∨ v'.ownBlock = some w.heap.size) := by
  obtain ⟨v', w', hr, h2, h3, _⟩ := run_append_own (P := P) w base t ty e i z size bytes ht hi hz hsize hby hzs hsz v n xs hown a m c news hl hnews h1 h63 hbytes hbase
  refine ⟨v', w', hr, h2, h3, ?_⟩
  subst hsize
  subst hby
  have hml : n + m ≤ 9223372036854775807 := by simp only [maxLen] at h63; omega
  rcases hown.2 with ⟨rfl, rfl⟩ | ⟨g, cap, cur, rfl, hbg, hg, hnc, hcm, hcs, htake⟩
  · have hr2 := run_append_nil (P := P) w t ty e i z ht hi hz a m c news hl hnews hm (by omega) (by have hb := hbytes; simp only [Nat.zero_add] at hb; omega)
    rw [hr2] at hr
    injection hr with e1 e2
    exact .inr (by rw [← e1]; rfl)
  · by_cases hroom : n + m ≤ cap
    · have hfit : n * i.size + news.length ≤ cur.size := by rw [hl, hcs, ← Nat.add_mul]; exact Nat.mul_le_mul_right _ hroom
      have hr2 := run_append_room (P := P) w t ty e i ht hi g n cap cur hg a m c news hl hnews h1 hroom hfit
      rw [hr2] at hr
      injection hr with e1 e2
      exact .inl (by rw [← e1]; rfl)
    · have holds : ∀ j u, xs[j]? = some u → w.cell? ((⟨g, 0, none⟩ : Addr).add j) = some u := hown.cells (g := g) rfl
      have hr2 := run_append_grow (P := P) w t ty e i z ht hi hz ⟨g, 0, none⟩ n cap xs hown.1 holds a m c news hl hnews (by omega) (by omega) (growslice_fits (by omega) hbytes)
      rw [hr2] at hr
      injection hr with e1 e2
      exact .inr (by rw [← e1]; rfl)
theorem wpList_append_told {P : Program} (w : World) {ops : Array Oper} {rest : List Oper} {o : Oper} {a : Act} {Q : Exit → Act → World → Prop} (hgd : o.guard = none) (s x : Operand) (t : TypeId)
    (ho : o.op = .call { callee := .builtin .append, args := #[s, x], argTypes := #[t, t] })
    (base : Nat) (e : TypeId) (i : TypeInfo) (z : Value) (size bytes : Nat) (ht : P.underlying t = some (.slice e)) (hi : P.info? e = some i) (hz : i.zero = some z)
    (hsize : i.size = size) (hby : i.bytes = bytes) (hzs : z.cells.size = size) (hsz : 0 < size)
    (v : Value) (n : Nat) (xs : List Value) (hs : a.eval s = v) (hown : w.ownsRow base e size v n xs)
    (ad : Addr) (m c : Nat) (news : List Value) (hx : a.eval x = .slice (some ad) m c) (hl : news.length = m * size) (hnews : ∀ j u, news[j]? = some u → w.cell? (ad.add j) = some u) (h1 : ∀ u ∈ news, u.oneCell' = true)
    (h63 : n + m ≤ maxLen) (hbytes : (n + m) * bytes ≤ 140737488355328) (hbase : base ≤ w.heap.size) (hm : 0 < m)
    (h : ∀ v' w', w'.ownsRow base e size v' (n + m) (xs ++ news) → w.grownBy w' v.ownBlock → (v'.ownBlock = v.ownBlock ∨ v'.ownBlock = some w.heap.size) → wpList P ops Q rest (a.put o.dst v') w') : wpList P ops Q (o :: rest) a w := by
  refine wpList_plain hgd fun K hK => ?_
  obtain ⟨v', w', hr, h2, h3, h4⟩ := run_append_told (P := P) w base t o.type e i z size bytes ht hi hz hsize hby hzs hsz v n xs hown ad m c news hl hnews h1 h63 hbytes hbase hm
  unfold Oper.wp execOp
  simp only [ho, resolve, invoke, builtin, Sem.run_bind, Sem.run_pure, Result.andThen_ok, List.map_toArray, List.map_cons, List.map_nil, hs, hx, hr]
  exact hK _ _ (h v' w' h2 h3 h4)
section
variable {α : Type}
def RowG (cs : α → Array Value) (tr : α → Vt) (C : Nat) (e : TypeId) (B : Nat) (S : Nat → Prop) (q : Nat → α → Prop) (W : World) (v : Value) (k : Nat) : Prop :=
  ∃ f : Nat → α, W.ownsRow B e C v k (catN (fun i => cs (f i)) k) ∧ ∀ i, i < k → (tr (f i)).In W W.heap.size ∧ (tr (f i)).Off (fun b => S b ∧ some b ≠ v.ownBlock) ∧ q i (f i)
variable {cs : α → Array Value} {tr : α → Vt} {C : Nat} {e : TypeId} {B : Nat} {S : Nat → Prop} {q : Nat → α → Prop} {W W' : World} {v : Value} {k : Nat}
theorem catN_congr {f g : Nat → Array Value} : ∀ {n : Nat}, (∀ i, i < n → f i = g i) → catN f n = catN g n := by
  intro n
  induction n with
  | zero => intro _; rfl
  | succ n ih =>
    intro h
    show catN f n ++ _ = catN g n ++ _
    rw [ih (fun i hi => h i (by omega)), h n (by omega)]
theorem RowG.nil [Inhabited α] : RowG cs tr C e B S q W (.slice none 0 0) 0 := ⟨fun _ => default, World.ownsRow_nil _ _ _ _, fun _ h => absurd h (Nat.not_lt_zero _)⟩
theorem RowG.below (h : RowG cs tr C e B S q W v k) (hb : Below W.heap.size W W') : RowG cs tr C e B S q W' v k := by
  obtain ⟨f, ho, hf⟩ := h
  refine ⟨f, ho.kept ⟨hb.os, hb.tape, hb.output, hb.size, fun i hi _ => hb.block i hi⟩ (row := none) ?_, fun i hi => ⟨(hf i hi).1.later hb, (hf i hi).2⟩⟩
  cases hv : v.ownBlock with
  | none => exact .inl rfl
  | some g => exact .inr (by simp)
theorem RowG.alloc (h : RowG cs tr C e B S q W v k) (o : Obj) : RowG cs tr C e B S q (W.alloc o) v k := h.below ((Below.refl _ W).alloc (Nat.le_refl _) o)
theorem RowG.drew (h : RowG cs tr C e B S q W v k) : RowG cs tr C e B S q W.drew v k := h.below (Below.refl _ W).drew
theorem RowG.turn (h : RowG cs tr C e B S q W v k) {g : Nat} (hg : W.grownBy W' (some g)) (hgB : g < B) (hS : ∀ b, S b → b ≠ g) : RowG cs tr C e B S q W' v k := by
  obtain ⟨f, ho, hf⟩ := h
  refine ⟨f, ho.kept hg ?_, fun i hi => ⟨(hf i hi).1.grown ((hf i hi).2.1.mono fun b hb e => hS b hb.1 (Option.some.inj e)) hg, (hf i hi).2⟩⟩
  exact .inr fun e => own_away ho hgB e.symm
theorem RowG.push [Inhabited α] {f : Nat → α} {x : α} {w1 w3 : World} {v' : Value} (ho : w1.ownsRow B e C v k (catN (fun i => cs (f i)) k)) (hf : ∀ i, i < k → (tr (f i)).In w1 w1.heap.size ∧ (tr (f i)).Off (fun b => S b ∧ some b ≠ v.ownBlock) ∧ q i (f i))
    (hx : (tr x).In w1 w1.heap.size) (hS : (tr x).Off S) (hxo : ∀ g, v.ownBlock = some g → (tr x).Off (· ≠ g)) (hq : q k x)
    (ho3 : w3.ownsRow B e C v' (k + 1) (catN (fun i => cs (f i)) k ++ (cs x).toList)) (hg : w1.grownBy w3 v.ownBlock) (hv : v'.ownBlock = v.ownBlock ∨ v'.ownBlock = some w1.heap.size) :
    RowG cs tr C e B S q w3 v' (k + 1) := by
  have hxo' : (tr x).Off (fun b => some b ≠ v.ownBlock) := by
    cases hvb : v.ownBlock with
    | none => exact hS.mono fun b _ e => by cases e
    | some g => exact (hxo g hvb).mono fun b hb e => by cases e; exact hb rfl
  refine ⟨fun i => if i = k then x else f i, ?_, fun i hi => ?_⟩
  · have e1 : catN (fun i => cs (if i = k then x else f i)) (k + 1) = catN (fun i => cs (f i)) k ++ (cs x).toList := by
      show catN (fun i => cs (if i = k then x else f i)) k ++ (cs (if k = k then x else f k)).toList = _
      rw [catN_congr (g := fun i => cs (f i)) (fun i hi => by rw [if_neg (by omega)]), if_pos rfl]
    rw [e1]
    exact ho3
  · have key : ∀ {y : α}, (tr y).In w1 w1.heap.size → (tr y).Off (fun b => S b ∧ some b ≠ v.ownBlock) → (tr y).In w3 w3.heap.size ∧ (tr y).Off (fun b => S b ∧ some b ≠ v'.ownBlock) := by
      intro y h1 h2
      refine ⟨h1.grown (h2.mono fun b hb => hb.2) hg, ?_⟩
      rcases hv with e1 | e1
      · rw [e1]; exact h2
      · rw [e1]
        exact (h2.and h1.off).mono fun b hb => ⟨hb.1.1, fun e2 => by cases e2; exact absurd hb.2 (Nat.lt_irrefl _)⟩
    by_cases hik : i = k
    · subst hik
      simp only [if_true]
      obtain ⟨a, b⟩ := key hx (hS.and hxo')
      exact ⟨a, b, hq⟩
    · simp only [if_neg hik]
      obtain ⟨h1, h2, h3⟩ := hf i (by omega)
      obtain ⟨a, b⟩ := key h1 h2
      exact ⟨a, b, h3⟩
theorem RowG.done (hC : ∀ x, (cs x).size = C) (h : RowG cs tr C e B S q W v k) : ∃ (f : Nat → α) (a : Option Addr) (c b : Nat), v = .slice a k c ∧ (k ≤ c ∧ c ≤ maxLen) ∧ (0 < k → a = some ⟨b, 0, none⟩ ∧ B ≤ b ∧ b < W.heap.size) ∧
    ∀ i, i < k → LiesAt W b (i * C) (cs (f i)) ∧ (tr (f i)).In W W.heap.size ∧ (tr (f i)).Off S ∧ q i (f i) := by
  obtain ⟨f, ho, hf⟩ := h
  obtain ⟨a, c, b, rfl, hcc, ha, hl⟩ := own_lies (fun i => hC (f i)) ho
  exact ⟨f, a, c, b, rfl, hcc, ha, fun i hi => ⟨hl i hi, (hf i hi).1, (hf i hi).2.1.mono fun _ h => h.1, (hf i hi).2.2⟩⟩
end
def fcs (x : ByteArray × Vt) : Array Value := #[.string x.1, .int .i64 x.2.h.k, .bool x.2.h.b, .bool x.2.h.n, .string x.2.h.d, .int .i64 x.2.h.e, .int .i64 x.2.h.tk, .int .i64 x.2.h.td, .int .i64 x.2.h.tn, .int .i64 x.2.h.tz, .string x.2.h.x, .slice x.2.h.ba x.2.h.bn x.2.h.bc, .slice x.2.h.la x.2.h.ln x.2.h.lc, .slice x.2.h.fa x.2.h.fn x.2.h.fc]
theorem fcs_size (x : ByteArray × Vt) : (fcs x).size = 14 := rfl
theorem fcs_one (x : ByteArray × Vt) : ∀ u ∈ (fcs x).toList, u.oneCell' = true := by
  intro u hu
  simp only [fcs, List.mem_cons, List.not_mem_nil, or_false] at hu
  rcases hu with rfl | rfl | rfl | rfl | rfl | rfl | rfl | rfl | rfl | rfl | rfl | rfl | rfl | rfl <;> rfl
theorem LiesAt.fcs {W : World} {b o : Nat} {x : ByteArray × Vt} (h : LiesAt W b o (Proofs.YtpcbhneaaibfiaaDoor.fcs x)) : W.cell? ⟨b, o, none⟩ = some (.string x.1) ∧ LiesAt W b (o + 1) x.2.h.cells := by
  have z : (Proofs.YtpcbhneaaibfiaaDoor.fcs x).size = 14 := rfl
  refine ⟨h 0 (by omega), fun j hj => ?_⟩
  have hj' : j < 13 := hj
  have := h (j + 1) (by omega)
  rw [show o + 1 + j = o + (j + 1) by omega, this]
  match j, hj' with
  | 0, _ | 1, _ | 2, _ | 3, _ | 4, _ | 5, _ | 6, _ | 7, _ | 8, _ | 9, _ | 10, _ | 11, _ | 12, _ => rfl
instance : Inhabited (ByteArray × Vt) := ⟨(ByteArray.empty, .nil)⟩
end Go.Proofs.YtpcbhneaaibfiaaDoor
