/- Laid together. -/
import Derived.Test.YtpcbhneaaibfiaaDoorPB02
import Derived.Lib.Strings
import Derived.Below
import Derived.WalkKit
import Derived.Laws.OwnMore
import Derived.Deep.Draws
set_option linter.unusedVariables false
set_option linter.unusedSimpArgs false
set_option maxHeartbeats 16000000
set_option maxRecDepth 100000
namespace Go.Proofs.YtpcbhneaaibfiaaDoor
open Go.RowKit
def hdI (b : Int) : Int × Int :=
 if b < 128 then (1,b) else if 192 <= b /\ b < 224 then (2,b % 32) else if 224 <= b /\ b < 240 then (3,b % 16) else if 240 <= b /\ b < 248 then (4,b % 8) else (0,0)
theorem head_int (b : Int) (w : World) (h0 : 0 <= b) (hb : b < 256) : Calls Tryd.prog 89 #[.int .u8 b] w fun e w' => e = .returned (.tuple #[.int .i64 (hdI b).1,.int .i64 (hdI b).2]) /\ w = w':=by
 have b1:=u8_and31 b h0 hb
 have b2:=u8_and15 b h0 hb
 have b3:=u8_and7 b h0 hb
 unfold hdI
 by_cases h1 : b < 128
 ·rw [if_pos h1]
  clear b1 b2 b3
  go_enter Tryd.func89,Tryd.ntmps89
  go_wp2
  go_ret2
  exact ⟨rfl,rfl⟩
 by_cases h2 : 192 <= b /\ b < 224
 ·rw [if_neg h1,if_pos h2]
  obtain ⟨h2,h3⟩:=h2
  go_enter Tryd.func89,Tryd.ntmps89
  go_wp2
  go_ret2
  exact ⟨rfl,rfl⟩
 by_cases h3 : 224 <= b /\ b < 240
 ·rw [if_neg h1,if_neg h2,if_pos h3]
  obtain ⟨h3,h4⟩:=h3
  have d : decide (b < 224) = false:=by simp;omega
  clear h2
  go_enter Tryd.func89,Tryd.ntmps89
  go_wp2
  go_ret2
  exact ⟨rfl,rfl⟩
 by_cases h4 : 240 <= b /\ b < 248
 ·rw [if_neg h1,if_neg h2,if_neg h3,if_pos h4]
  obtain ⟨h4,h5⟩:=h4
  have d : decide (b < 224) = false:=by simp;omega
  have d2 : decide (b < 240) = false:=by simp;omega
  clear h2 h3
  go_enter Tryd.func89,Tryd.ntmps89
  go_wp2
  go_ret2
  exact ⟨rfl,rfl⟩
 ·rw [if_neg h1,if_neg h2,if_neg h3,if_neg h4]
  clear b1 b2 b3
  rcases (show b < 192 ∨ 248 <= b by omega) with k | k
  ·have d : decide (192 <= b) = false:=by simp;omega
   have d2 : decide (224 <= b) = false:=by simp;omega
   have d3 : decide (240 <= b) = false:=by simp;omega
   clear h2 h3 h4
   go_enter Tryd.func89,Tryd.ntmps89
   go_wp2
   go_ret2
   exact ⟨rfl,rfl⟩
  ·have d : decide (b < 224) = false:=by simp;omega
   have d2 : decide (b < 240) = false:=by simp;omega
   have d3 : decide (b < 248) = false:=by simp;omega
   clear h2 h3 h4
   go_enter Tryd.func89,Tryd.ntmps89
   go_wp2
   go_ret2
   exact ⟨rfl,rfl⟩
theorem hdI_nat (b : Nat) : hdI b = (((Utf.hd b).1 : Int),((Utf.hd b).2 : Int)):=by
 unfold hdI Utf.hd
 by_cases h1 : b < 128
 ·rw [if_pos (by omega),if_pos h1];rfl
 by_cases h2 : 192 <= b /\ b < 224
 ·rw [if_neg (by omega),if_pos (by omega),if_neg h1,if_pos h2];rfl
 by_cases h3 : 224 <= b /\ b < 240
 ·rw [if_neg (by omega),if_neg (by omega),if_pos (by omega),if_neg h1,if_neg h2,if_pos h3];rfl
 by_cases h4 : 240 <= b /\ b < 248
 ·rw [if_neg (by omega),if_neg (by omega),if_neg (by omega),if_pos (by omega),if_neg h1,if_neg h2,if_neg h3,if_pos h4];rfl
 ·rw [if_neg (by omega),if_neg (by omega),if_neg (by omega),if_neg (by omega),if_neg h1,if_neg h2,if_neg h3,if_neg h4];rfl
theorem head_any (b : UInt8) (w : World) : Calls Tryd.prog 89 #[.int .u8 b.toNat] w fun e w' => e = .returned (.tuple #[.int .i64 (Utf.hd b.toNat).1,.int .i64 (Utf.hd b.toNat).2]) /\ w = w':=by
 have h:=head_int b.toNat w (by omega) (by have:=b.toNat_lt;omega)
 rw [hdI_nat] at h
 exact h
def from_ (s : ByteArray) (a : Nat) : List UInt8:=s.data.toList.drop a
theorem from_cons (s : ByteArray) (a : Nat) (h : a < s.size) : from_ s a = s[a] :: from_ s (a + 1):=by
 unfold from_
 rw [List.drop_eq_getElem_cons (by simpa using h)]
 rfl
theorem from_len (s : ByteArray) (a : Nat) : (from_ s a).length = s.size - a:=by unfold from_;simp
theorem from_take (s : ByteArray) (a j : Nat) (h : a + j < s.size) : (from_ s a).take (j + 1) = (from_ s a).take j ++ [s[a + j]]:=by
 unfold from_
 rw [List.take_succ_eq_append_getElem (by simp;omega),List.getElem_drop]
 rfl
theorem fold_snoc (r : Int) (l : List UInt8) (b : UInt8) : Utf.fold r (l ++ [b]) = Utf.fold r l * 64 + ((b.toNat % 64 : Nat) : Int):=by unfold Utf.fold;rw [List.foldl_append];rfl
theorem fold_bd (r : Int) (h : 0 <= r) : ∀ (n : Nat) (l : List UInt8),l.length = n -> 0 <= Utf.fold r l /\ Utf.fold r l < (r + 1) * 64 ^ n:=by
 intro n
 induction n generalizing r with
 | zero => intro l hl;obtain rfl : l = []:=List.eq_nil_of_length_eq_zero hl;simp [Utf.fold];omega
 | succ n ih =>
  intro l hl
  match l,hl with
  | b :: t,hl =>
   have h1:=ih (r * 64 + ((b.toNat % 64 : Nat) : Int)) (by omega) t (by simpa using hl)
   refine ⟨h1.1,Int.lt_of_lt_of_le h1.2 ?_⟩
   have : (64 : Int) ^ (n + 1) = 64 * 64 ^ n:=by rw [Int.pow_succ];omega
   rw [this,<- Int.mul_assoc]
   exact Int.mul_le_mul_of_nonneg_right (by omega) (Int.le_of_lt (Int.pow_pos (by decide)))
theorem hd_bd (b : Nat) : (Utf.hd b).1 <= 4 /\ (Utf.hd b).2 < 128:=by
 unfold Utf.hd
 split
 ·exact ⟨by omega,by omega⟩
 split
 ·exact ⟨by omega,by show b % 32 < 128;omega⟩
 split
 ·exact ⟨by omega,by show b % 16 < 128;omega⟩
 split
 ·exact ⟨by omega,by show b % 8 < 128;omega⟩
 ·exact ⟨by omega,by omega⟩
theorem fold_small (b : Nat) (l : List UInt8) (h : l.length <= 3) : 0 <= Utf.fold (Utf.hd b).2 l /\ Utf.fold (Utf.hd b).2 l < 33554432:=by
 have h1:=fold_bd ((Utf.hd b).2 : Int) (by omega) l.length l rfl
 have h2:=hd_bd b
 refine ⟨h1.1,Int.lt_of_lt_of_le h1.2 ?_⟩
 rcases (show l.length = 0 ∨ l.length = 1 ∨ l.length = 2 ∨ l.length = 3 by omega) with e | e | e | e <;> rw [e] <;> omega
theorem dec_bad (s : ByteArray) (a j : Nat) (h : a < s.size) (hn : ¬ ((Utf.hd s[a].toNat).1 = 0 ∨ s.size - a < (Utf.hd s[a].toNat).1)) (hj : j + 1 < (Utf.hd s[a].toNat).1) (hlt : a + 1 + j < s.size) (hc : Utf.cont s[a + 1 + j] = false) : Utf.dec (from_ s a) = (0,0):=by
 rw [from_cons s a h,Utf.dec_cons,if_neg (by rw [from_len];omega),if_neg]
 intro hall
 rw [List.all_eq_true] at hall
 have hm : s[a + 1 + j] ∈ (from_ s (a + 1)).take ((Utf.hd s[a].toNat).1 - 1):=by
  have e:=from_take s (a + 1) j hlt
  have : (from_ s (a + 1)).take ((Utf.hd s[a].toNat).1 - 1) = (from_ s (a + 1)).take (j + 1) ++ ((from_ s (a + 1)).take ((Utf.hd s[a].toNat).1 - 1)).drop (j + 1):=by
   conv => lhs;rw [<- List.take_append_drop (j + 1) ((from_ s (a + 1)).take ((Utf.hd s[a].toNat).1 - 1)),List.take_take,Nat.min_eq_left (by omega)]
  rw [this,e]
  simp
 rw [hall _ hm] at hc
 cases hc
theorem dec_chk (s : ByteArray) (a : Nat) (h : a < s.size) (hn : ¬ ((Utf.hd s[a].toNat).1 = 0 ∨ s.size - a < (Utf.hd s[a].toNat).1)) (hall : ((from_ s (a + 1)).take ((Utf.hd s[a].toNat).1 - 1)).all Utf.cont = true) :
 Utf.dec (from_ s a) = Utf.chk (Utf.hd s[a].toNat).1 (Utf.fold (Utf.hd s[a].toNat).2 ((from_ s (a + 1)).take ((Utf.hd s[a].toNat).1 - 1))):=by
 rw [from_cons s a h,Utf.dec_cons,if_neg (by rw [from_len];omega),if_pos hall]
theorem dec_short (s : ByteArray) (a : Nat) (h : a < s.size) (hn : (Utf.hd s[a].toNat).1 = 0 ∨ s.size - a < (Utf.hd s[a].toNat).1) : Utf.dec (from_ s a) = (0,0):=by
 rw [from_cons s a h,Utf.dec_cons,if_pos (by rw [from_len];omega)]
theorem and192 (b : UInt8) : (bits .and .u8 (b.toNat : Int) 192 != 128) = !Utf.cont b:=by
 have key : ∀ n : Fin 256,((n.val &&& 192) != 128) = !decide (128 <= n.val /\ n.val < 192):=by decide +kernel
 have hb : b.toNat < 256:=b.toNat_lt
 have h:=u8_and_nat b.toNat 192 hb (by decide)
 have e : bits .and .u8 (b.toNat : Int) 192 = ((b.toNat &&& 192 : Nat) : Int):=h
 rw [e]
 have k:=key ⟨b.toNat,hb⟩
 simp only at k
 unfold Utf.cont
 rw [<- k,Bool.eq_iff_iff]
 simp only [bne_iff_ne]
 omega
theorem from_take' (s : ByteArray) (a j : Nat) (h : a + (j + 1) < s.size) : (from_ s (a + 1)).take (j + 1) = (from_ s (a + 1)).take j ++ [s[a + (j + 1)]]:=by
 have e : a + 1 + j = a + (j + 1):=by omega
 have k:=from_take s (a + 1) j (by omega)
 simp only [e] at k
 exact k
theorem dec_bad' (s : ByteArray) (a j : Nat) (h : a < s.size) (hn : ¬ ((Utf.hd s[a].toNat).1 = 0 ∨ s.size - a < (Utf.hd s[a].toNat).1)) (hj : j + 1 < (Utf.hd s[a].toNat).1) (hlt : a + (j + 1) < s.size) (hc : Utf.cont s[a + (j + 1)] = false) : Utf.dec (from_ s a) = (0,0):=by
 have e : a + 1 + j = a + (j + 1):=by omega
 refine dec_bad s a j h hn hj (by omega) ?_
 simp only [e]
 exact hc
theorem or6 (x y : Int) (h : 0 <= x) (h' : x < 33554432) (k : 0 <= y) (k' : y < 64) : bits .or .i64 (x * 64) y = x * 64 + y :=
 bits_join .i64 62 (by decide) wraps_i64 6 (x * 64) y (by omega) (by omega) (by omega) k k' (by omega)
theorem decode_at (s : ByteArray) (a : Nat) (w : World) (hs : s.size <= maxLen) (h : a < s.size) : Calls Tryd.prog 80 #[.string s,.int .i64 a] w fun e w' => e = .returned (.tuple #[.int .i64 (Utf.dec (from_ s a)).1,.int .i64 (Utf.dec (from_ s a)).2]) /\ w = w':=by
 unfold maxLen at hs
 have hn4:=hd_bd s[a].toNat
 by_cases hz : (Utf.hd s[a].toNat).1 = 0 ∨ s.size - a < (Utf.hd s[a].toNat).1
 ·rw [dec_short s a h hz]
  have HA:=Lib.hid (head_any s[a])
  rcases hz with hz | hz
  ·rw [hz] at HA
   clear hz hn4
   go_enter Tryd.func80,Tryd.ntmps80
   go_wp2_with (first | (go_at_call 89;refine (HA.out _).mono ?_;rintro e w' ⟨rfl,rfl⟩))
   go_ret2
   exact ⟨rfl,rfl⟩
  ·generalize (Utf.hd s[a].toNat).1 = n at *
   generalize (Utf.hd s[a].toNat).2 = m at *
   have d1 : ((n : Int) == 0) = false:=by simp;omega
   have d2 : (s.size : Int) - a < n:=by omega
   clear hz
   go_enter Tryd.func80,Tryd.ntmps80
   go_wp2_with (first | (go_at_call 89;refine (HA.out _).mono ?_;rintro e w' ⟨rfl,rfl⟩))
   go_ret2
   exact ⟨rfl,rfl⟩
 ·have HA:=Lib.hid (head_any s[a])
  have hfs:=fold_small s[a].toNat
  have hbad:=fun j => dec_bad' s a j h hz
  have hchk:=dec_chk s a h hz
  generalize (Utf.hd s[a].toNat).1 = n at *
  generalize (Utf.hd s[a].toNat).2 = m at *
  have d1 : ((n : Int) == 0) = false:=by simp;omega
  have d2 : (n : Int) <= (s.size : Int) - a:=by omega
  have HB:=Lib.hid hbad;clear hbad
  have HC:=Lib.hid hchk;clear hchk
  have HF:=Lib.hid hfs;clear hfs
  have HZ:=Lib.hid hz
  have n1 : 1 <= n:=by omega
  clear hz
  go_enter Tryd.func80,Tryd.ntmps80
  go_wp2_with (first | (go_at_call 89;refine (HA.out _).mono ?_;rintro e w' ⟨rfl,rfl⟩))
  go_loop [4,7] (fun r i => ∃ j : Nat,j + 1 <= n /\ i = .int .i64 (j + 1) /\ r = .int .i64 (Utf.fold m ((from_ s (a + 1)).take j)) /\ ((from_ s (a + 1)).take j).all Utf.cont = true) (fun _ i => n - (intOf i).toNat)
  case atStart => exact ⟨0,by omega,rfl,rfl,rfl⟩
  case round =>
   obtain ⟨j,hj,rfl,rfl,hall⟩:=hrel
   have hf:=HF.out ((from_ s (a + 1)).take j) (by rw [List.length_take];omega)
   by_cases hlt : j + 1 < n
   ·have hidx : a + (j + 1) < s.size:=by omega
    have g1:=u8_and63 s[a + (j + 1)].toNat (by omega) (by have:=s[a + (j + 1)].toNat_lt;omega)
    have g2:=or6 (Utf.fold m ((from_ s (a + 1)).take j)) ((s[a + (j + 1)].toNat : Int) % 64) hf.1 hf.2 (by omega) (by omega)
    have g3:=and192 s[a + (j + 1)]
    obtain ⟨hf1,hf2⟩:=hf
    by_cases hc : Utf.cont s[a + (j + 1)] = true
    ·rw [hc] at g3
     have HT:=Lib.hid (from_take' s a j hidx)
     have HCt:=Lib.hid hc;clear hc
     go_wp2
     go_round
     case rel => exact ⟨j + 1,by omega,by go_num,by rw [HT.out,fold_snoc];go_num,by rw [HT.out];simp [hall,HCt.out]⟩
     case measure => simp [intOf];omega
    ·have hc' : Utf.cont s[a + (j + 1)] = false:=by simpa using hc
     rw [hc'] at g3
     have HD:=Lib.hid (HB.out j hlt hidx hc')
     clear hc hc'
     go_wp2
     go_ret2
     rw [HD.out]
     exact ⟨rfl,rfl⟩
   ·have e : n - 1 = j:=by omega
    have hd:=HC.out (by rw [e];exact hall)
    rw [e] at hd
    clear e hj
    by_cases hsc : Utf.scal (Utf.fold m ((from_ s (a + 1)).take j))
    ·by_cases hwn : Utf.wid (Utf.fold m ((from_ s (a + 1)).take j)) = n
     ·unfold Utf.chk at hd
      rw [if_pos ⟨hsc,hwn⟩] at hd
      have HD:=Lib.hid hd
      have HS:=Lib.hid hsc
      have t1 : ((Utf.wid (Utf.fold m ((from_ s (a + 1)).take j)) : Int) != n) = false:=by rw [hwn];simp
      clear hd hsc hwn
      go_wp2_with (first | (go_at_call 90;refine (scalar_yes _ _ HS.out).mono ?_;rintro e w' ⟨rfl,rfl⟩) | (go_at_call 91;refine (width_any _ _).mono ?_;rintro e w' ⟨rfl,rfl⟩))
      go_ret2
      rw [HD.out]
      exact ⟨rfl,rfl⟩
     ·unfold Utf.chk at hd
      rw [if_neg (fun k => hwn k.2)] at hd
      have HD:=Lib.hid hd
      have HS:=Lib.hid hsc
      have t1 : ((Utf.wid (Utf.fold m ((from_ s (a + 1)).take j)) : Int) != n) = true:=by simp;omega
      clear hd hsc hwn
      go_wp2_with (first | (go_at_call 90;refine (scalar_yes _ _ HS.out).mono ?_;rintro e w' ⟨rfl,rfl⟩) | (go_at_call 91;refine (width_any _ _).mono ?_;rintro e w' ⟨rfl,rfl⟩))
      go_ret2
      rw [HD.out]
      exact ⟨rfl,rfl⟩
    ·unfold Utf.chk at hd
     rw [if_neg (fun k => hsc k.1)] at hd
     have HD:=Lib.hid hd
     have HS:=Lib.hid hsc
     clear hd hsc
     go_wp2_with (first | (go_at_call 90;refine (scalar_no _ _ HS.out).mono ?_;rintro e w' ⟨rfl,rfl⟩))
     go_ret2
     rw [HD.out]
     exact ⟨rfl,rfl⟩
theorem and31 (x : Int) (h : 0 <= x) (h' : x < 256) : bits .and .i64 x 31 = x % 32:=bits_mask .i64 62 (by decide) wraps_i64 5 (by decide) x h (by omega)
theorem and15 (x : Int) (h : 0 <= x) (h' : x < 256) : bits .and .i64 x 15 = x % 16:=bits_mask .i64 62 (by decide) wraps_i64 4 (by decide) x h (by omega)
theorem and7 (x : Int) (h : 0 <= x) (h' : x < 256) : bits .and .i64 x 7 = x % 8:=bits_mask .i64 62 (by decide) wraps_i64 3 (by decide) x h (by omega)
inductive RHead (b : Nat) (n : Nat) (m : Int) : Prop
 | four (h : 240 <= (b : Int)) (hn : n = 4) (hm : m = (b : Int) % 8)
 | three (h0 : decide (240 <= (b : Int)) = false) (h : 224 <= (b : Int)) (hn : n = 3) (hm : m = (b : Int) % 16)
 | two (h0 : decide (240 <= (b : Int)) = false) (h1 : decide (224 <= (b : Int)) = false) (h : 192 <= (b : Int)) (hn : n = 2) (hm : m = (b : Int) % 32)
 | one (h0 : decide (240 <= (b : Int)) = false) (h1 : decide (224 <= (b : Int)) = false) (h2 : decide (192 <= (b : Int)) = false) (hn : n = 1) (hm : m = (b : Int))
theorem rhead_of (b : Nat) : RHead b (Utf.rhd b).1 (Utf.rhd b).2:=by
 unfold Utf.rhd
 by_cases h1 : 240 <= b
 ·rw [if_pos h1];exact .four (by omega) rfl (by simp)
 by_cases h2 : 224 <= b
 ·rw [if_neg h1,if_pos h2];exact .three (by simp;omega) (by omega) rfl (by simp)
 by_cases h3 : 192 <= b
 ·rw [if_neg h1,if_neg h2,if_pos h3];exact .two (by simp;omega) (by simp;omega) (by omega) rfl (by simp)
 ·rw [if_neg h1,if_neg h2,if_neg h3];exact .one (by simp;omega) (by simp;omega) (by simp;omega) rfl rfl
theorem rhd_small (b : Nat) (hb : b < 256) (l : List UInt8) (h : l.length <= (Utf.rhd b).1 - 1) : 0 <= Utf.fold (Utf.rhd b).2 l /\ Utf.fold (Utf.rhd b).2 l < 33554432:=by
 have h1:=fold_bd ((Utf.rhd b).2 : Int) (by omega) l.length l rfl
 refine ⟨h1.1,Int.lt_of_lt_of_le h1.2 ?_⟩
 unfold Utf.rhd at h h1 ⊢
 by_cases c1 : 240 <= b
 ·rw [if_pos c1] at h ⊢
  rcases (show l.length = 0 ∨ l.length = 1 ∨ l.length = 2 ∨ l.length = 3 by omega) with e | e | e | e <;> rw [e] <;> show (((b % 8 : Nat) : Int) + 1) * _ <= _ <;> omega
 by_cases c2 : 224 <= b
 ·rw [if_neg c1,if_pos c2] at h ⊢
  rcases (show l.length = 0 ∨ l.length = 1 ∨ l.length = 2 by omega) with e | e | e <;> rw [e] <;> show (((b % 16 : Nat) : Int) + 1) * _ <= _ <;> omega
 by_cases c3 : 192 <= b
 ·rw [if_neg c1,if_neg c2,if_pos c3] at h ⊢
  rcases (show l.length = 0 ∨ l.length = 1 by omega) with e | e <;> rw [e] <;> show (((b % 32 : Nat) : Int) + 1) * _ <= _ <;> omega
 ·rw [if_neg c1,if_neg c2,if_neg c3] at h ⊢
  rw [show l.length = 0 by omega]
  show ((b : Int) + 1) * _ <= _
  omega
theorem rdecode_short (s : ByteArray) (a : Nat) (w : World) (hs : s.size <= maxLen) (h : a < s.size) (hz : s.size - a < (Utf.rhd s[a].toNat).1) : Calls Tryd.prog 75 #[.string s,.int .i64 a] w fun e w' => e = .returned (.tuple #[.int .i64 (Utf.dec (from_ s a)).1,.int .i64 (Utf.dec (from_ s a)).2]) /\ Below w.heap.size w w':=by
 unfold maxLen at hs
 have hb : s[a].toNat < 256:=s[a].toNat_lt
 have b1:=and31 s[a].toNat (by omega) (by omega)
 have b2:=and15 s[a].toNat (by omega) (by omega)
 have b3:=and7 s[a].toNat (by omega) (by omega)
 have hh:=rhead_of s[a].toNat
 have hno:=Utf.rdec_no s[a] (from_ s (a + 1))
 rw [<- from_cons s a h,from_len] at hno
 have HD:=Lib.hid (hno (fun k => by omega));clear hno
 generalize (Utf.rhd s[a].toNat).1 = n at *
 generalize ((Utf.rhd s[a].toNat).2 : Int) = m at *
 have d2 : (s.size : Int) - a < n:=by omega
 clear hz
 cases hh
 all_goals
  rename_i hn hm
  subst hn
  go_enter Tryd.func75,Tryd.ntmps75
  go_wp2
  try (go_ret2;rw [HD.out];exact ⟨rfl,Below.refl _ _⟩)
theorem extract_from (s : ByteArray) (a n : Nat) : (s.extract a (a + n)).data.toList = (from_ s a).take n:=by
 rw [Lib.extract_data];unfold from_;congr 1;omega
theorem rdecode_four (s : ByteArray) (a : Nat) (w : World) (hs : s.size <= maxLen) (h : a < s.size) (hz : 4 <= s.size - a) (m : Int) (hm : m = (s[a].toNat : Int) % 8) (h1 : 240 <= (s[a].toNat : Int))
 (hf : ∀ l : List UInt8,l.length <= 3 -> 0 <= Utf.fold m l /\ Utf.fold m l < 33554432)
 (hyes : 4 <= s.size - (a + 1) + 1 -> Utf.scal (Utf.fold m ((from_ s (a + 1)).take 3)) -> Utf.enc (Utf.fold m ((from_ s (a + 1)).take 3)) = (from_ s a).take 4 -> Utf.dec (from_ s a) = (Utf.fold m ((from_ s (a + 1)).take 3),4))
 (hno : ¬ (4 <= s.size - (a + 1) + 1 /\ Utf.scal (Utf.fold m ((from_ s (a + 1)).take 3)) /\ Utf.enc (Utf.fold m ((from_ s (a + 1)).take 3)) = (from_ s a).take 4) -> Utf.dec (from_ s a) = (0,0)) :
 Calls Tryd.prog 75 #[.string s,.int .i64 a] w fun e w' => e = .returned (.tuple #[.int .i64 (Utf.dec (from_ s a)).1,.int .i64 (Utf.dec (from_ s a)).2]) /\ Below w.heap.size w w':=by
 unfold maxLen at hs
 have hb : s[a].toNat < 256:=s[a].toNat_lt
 have b1:=and31 s[a].toNat (by omega) (by omega)
 have b2:=and15 s[a].toNat (by omega) (by omega)
 have b3:=and7 s[a].toNat (by omega) (by omega)
 have HY:=Lib.hid (hyes (by omega));clear hyes
 have HN:=Lib.hid (fun (x : ¬ (Utf.scal (Utf.fold m ((from_ s (a + 1)).take 3)) /\ Utf.enc (Utf.fold m ((from_ s (a + 1)).take 3)) = (from_ s a).take 4)) => hno (fun k => x ⟨k.2.1,k.2.2⟩));clear hno
 have HF:=Lib.hid hf;clear hf
 have HM:=Lib.hid hm;clear hm
 have d2 : (4 : Int) <= (s.size : Int) - a:=by omega
 have e1 : decide (s.size <= a) = false:=decide_eq_false (by omega)
 have e2 : decide ((a : Int) < 0) = false:=decide_eq_false (by omega)
 have e3 : decide ((s.size : Int) - a < 4) = false:=decide_eq_false (by omega)
 have hx:=extract_from s a 4
 rw [<- Lib.toList_data] at hx
 have HX:=Lib.hid hx;clear hx
 go_enter Tryd.func75,Tryd.ntmps75
 go_wp2
 go_loop [8,9] (fun r i => ∃ j : Nat,j + 1 <= 4 /\ i = .int .i64 (j + 1) /\ r = .int .i64 (Utf.fold m ((from_ s (a + 1)).take j))) (fun _ i => 4 - (intOf i).toNat)
 case atStart => exact ⟨0,by omega,rfl,by rw [List.take_zero];show _ = Value.int .i64 m;rw [HM.out]⟩
 case round =>
  obtain ⟨j,hj,rfl,rfl⟩:=hrel
  have hf:=HF.out ((from_ s (a + 1)).take j) (by rw [List.length_take];omega)
  obtain ⟨hf1,hf2⟩:=hf
  by_cases hlt : j + 1 < 4
  ·have hidx : a + (j + 1) < s.size:=by omega
   have g0 : s[a + (j + 1)].toNat < 256:=s[a + (j + 1)].toNat_lt
   have g1:=and63 s[a + (j + 1)].toNat (by omega) (by have:=s[a + (j + 1)].toNat_lt;omega)
   have g2:=or6 (Utf.fold m ((from_ s (a + 1)).take j)) ((s[a + (j + 1)].toNat : Int) % 64) hf1 hf2 (by omega) (by omega)
   have HT:=Lib.hid (from_take' s a j hidx)
   go_wp2
   go_round
   case rel => exact ⟨j + 1,by omega,by go_num,by rw [HT.out,fold_snoc];go_num⟩
   case measure => simp [intOf];omega
  ·obtain rfl : j = 3:=by omega
   by_cases hsc : Utf.scal (Utf.fold m ((from_ s (a + 1)).take 3))
   ·by_cases hen : Utf.enc (Utf.fold m ((from_ s (a + 1)).take 3)) = (from_ s a).take 4
    ·have HD:=Lib.hid (HY.out hsc hen)
     have HS:=Lib.hid hsc
     have hne : (Utf.enc (Utf.fold m ((from_ s (a + 1)).take 3)) == (s.extract a (a + 4)).toList) = true:=by rw [HX.out,hen];simp
     clear hsc hen
     go_wp2_with (first | (go_at_call 85;refine (rencode_yes _ _ HS.out).mono ?_;rintro e w1 ⟨rfl,hb1⟩))
     go_ret2
     rw [HD.out]
     exact ⟨rfl,hb1⟩
    ·have HD:=Lib.hid (HN.out (fun k => hen k.2))
     have HS:=Lib.hid hsc
     have hne : (Utf.enc (Utf.fold m ((from_ s (a + 1)).take 3)) == (s.extract a (a + 4)).toList) = false:=by rw [HX.out];simpa using hen
     clear hsc hen
     go_wp2_with (first | (go_at_call 85;refine (rencode_yes _ _ HS.out).mono ?_;rintro e w1 ⟨rfl,hb1⟩))
     go_ret2
     rw [HD.out]
     exact ⟨rfl,hb1⟩
   ·have HD:=Lib.hid (HN.out (fun k => hsc k.1))
    have HS:=Lib.hid hsc
    clear hsc
    go_wp2_with (first | (go_at_call 85;refine (rencode_no _ _ HS.out).mono ?_;rintro e w' ⟨rfl,rfl⟩))
    go_ret2
    rw [HD.out]
    exact ⟨rfl,Below.refl _ _⟩
theorem rdecode_three (s : ByteArray) (a : Nat) (w : World) (hs : s.size <= maxLen) (h : a < s.size) (hz : 3 <= s.size - a) (m : Int) (hm : m = (s[a].toNat : Int) % 16) (h0 : decide (240 <= (s[a].toNat : Int)) = false) (h1 : 224 <= (s[a].toNat : Int))
 (hf : ∀ l : List UInt8,l.length <= 2 -> 0 <= Utf.fold m l /\ Utf.fold m l < 33554432)
 (hyes : 3 <= s.size - (a + 1) + 1 -> Utf.scal (Utf.fold m ((from_ s (a + 1)).take 2)) -> Utf.enc (Utf.fold m ((from_ s (a + 1)).take 2)) = (from_ s a).take 3 -> Utf.dec (from_ s a) = (Utf.fold m ((from_ s (a + 1)).take 2),3))
 (hno : ¬ (3 <= s.size - (a + 1) + 1 /\ Utf.scal (Utf.fold m ((from_ s (a + 1)).take 2)) /\ Utf.enc (Utf.fold m ((from_ s (a + 1)).take 2)) = (from_ s a).take 3) -> Utf.dec (from_ s a) = (0,0)) :
 Calls Tryd.prog 75 #[.string s,.int .i64 a] w fun e w' => e = .returned (.tuple #[.int .i64 (Utf.dec (from_ s a)).1,.int .i64 (Utf.dec (from_ s a)).2]) /\ Below w.heap.size w w':=by
 unfold maxLen at hs
 have hb : s[a].toNat < 256:=s[a].toNat_lt
 have b1:=and31 s[a].toNat (by omega) (by omega)
 have b2:=and15 s[a].toNat (by omega) (by omega)
 have b3:=and7 s[a].toNat (by omega) (by omega)
 have HY:=Lib.hid (hyes (by omega));clear hyes
 have HN:=Lib.hid (fun (x : ¬ (Utf.scal (Utf.fold m ((from_ s (a + 1)).take 2)) /\ Utf.enc (Utf.fold m ((from_ s (a + 1)).take 2)) = (from_ s a).take 3)) => hno (fun k => x ⟨k.2.1,k.2.2⟩));clear hno
 have HF:=Lib.hid hf;clear hf
 have HM:=Lib.hid hm;clear hm
 have d2 : (3 : Int) <= (s.size : Int) - a:=by omega
 have e1 : decide (s.size <= a) = false:=decide_eq_false (by omega)
 have e2 : decide ((a : Int) < 0) = false:=decide_eq_false (by omega)
 have e3 : decide ((s.size : Int) - a < 3) = false:=decide_eq_false (by omega)
 have hx:=extract_from s a 3
 rw [<- Lib.toList_data] at hx
 have HX:=Lib.hid hx;clear hx
 go_enter Tryd.func75,Tryd.ntmps75
 go_wp2
 go_loop [8,9] (fun r i => ∃ j : Nat,j + 1 <= 3 /\ i = .int .i64 (j + 1) /\ r = .int .i64 (Utf.fold m ((from_ s (a + 1)).take j))) (fun _ i => 3 - (intOf i).toNat)
 case atStart => exact ⟨0,by omega,rfl,by rw [List.take_zero];show _ = Value.int .i64 m;rw [HM.out]⟩
 case round =>
  obtain ⟨j,hj,rfl,rfl⟩:=hrel
  have hf:=HF.out ((from_ s (a + 1)).take j) (by rw [List.length_take];omega)
  obtain ⟨hf1,hf2⟩:=hf
  by_cases hlt : j + 1 < 3
  ·have hidx : a + (j + 1) < s.size:=by omega
   have g0 : s[a + (j + 1)].toNat < 256:=s[a + (j + 1)].toNat_lt
   have g1:=and63 s[a + (j + 1)].toNat (by omega) (by have:=s[a + (j + 1)].toNat_lt;omega)
   have g2:=or6 (Utf.fold m ((from_ s (a + 1)).take j)) ((s[a + (j + 1)].toNat : Int) % 64) hf1 hf2 (by omega) (by omega)
   have HT:=Lib.hid (from_take' s a j hidx)
   go_wp2
   go_round
   case rel => exact ⟨j + 1,by omega,by go_num,by rw [HT.out,fold_snoc];go_num⟩
   case measure => simp [intOf];omega
  ·obtain rfl : j = 2:=by omega
   by_cases hsc : Utf.scal (Utf.fold m ((from_ s (a + 1)).take 2))
   ·by_cases hen : Utf.enc (Utf.fold m ((from_ s (a + 1)).take 2)) = (from_ s a).take 3
    ·have HD:=Lib.hid (HY.out hsc hen)
     have HS:=Lib.hid hsc
     have hne : (Utf.enc (Utf.fold m ((from_ s (a + 1)).take 2)) == (s.extract a (a + 3)).toList) = true:=by rw [HX.out,hen];simp
     clear hsc hen
     go_wp2_with (first | (go_at_call 85;refine (rencode_yes _ _ HS.out).mono ?_;rintro e w1 ⟨rfl,hb1⟩))
     go_ret2
     rw [HD.out]
     exact ⟨rfl,hb1⟩
    ·have HD:=Lib.hid (HN.out (fun k => hen k.2))
     have HS:=Lib.hid hsc
     have hne : (Utf.enc (Utf.fold m ((from_ s (a + 1)).take 2)) == (s.extract a (a + 3)).toList) = false:=by rw [HX.out];simpa using hen
     clear hsc hen
     go_wp2_with (first | (go_at_call 85;refine (rencode_yes _ _ HS.out).mono ?_;rintro e w1 ⟨rfl,hb1⟩))
     go_ret2
     rw [HD.out]
     exact ⟨rfl,hb1⟩
   ·have HD:=Lib.hid (HN.out (fun k => hsc k.1))
    have HS:=Lib.hid hsc
    clear hsc
    go_wp2_with (first | (go_at_call 85;refine (rencode_no _ _ HS.out).mono ?_;rintro e w' ⟨rfl,rfl⟩))
    go_ret2
    rw [HD.out]
    exact ⟨rfl,Below.refl _ _⟩
theorem rdecode_two (s : ByteArray) (a : Nat) (w : World) (hs : s.size <= maxLen) (h : a < s.size) (hz : 2 <= s.size - a) (m : Int) (hm : m = (s[a].toNat : Int) % 32) (h0 : decide (240 <= (s[a].toNat : Int)) = false) (h1 : decide (224 <= (s[a].toNat : Int)) = false) (h2 : 192 <= (s[a].toNat : Int))
 (hf : ∀ l : List UInt8,l.length <= 1 -> 0 <= Utf.fold m l /\ Utf.fold m l < 33554432)
 (hyes : 2 <= s.size - (a + 1) + 1 -> Utf.scal (Utf.fold m ((from_ s (a + 1)).take 1)) -> Utf.enc (Utf.fold m ((from_ s (a + 1)).take 1)) = (from_ s a).take 2 -> Utf.dec (from_ s a) = (Utf.fold m ((from_ s (a + 1)).take 1),2))
 (hno : ¬ (2 <= s.size - (a + 1) + 1 /\ Utf.scal (Utf.fold m ((from_ s (a + 1)).take 1)) /\ Utf.enc (Utf.fold m ((from_ s (a + 1)).take 1)) = (from_ s a).take 2) -> Utf.dec (from_ s a) = (0,0)) :
 Calls Tryd.prog 75 #[.string s,.int .i64 a] w fun e w' => e = .returned (.tuple #[.int .i64 (Utf.dec (from_ s a)).1,.int .i64 (Utf.dec (from_ s a)).2]) /\ Below w.heap.size w w':=by
 unfold maxLen at hs
 have hb : s[a].toNat < 256:=s[a].toNat_lt
 have b1:=and31 s[a].toNat (by omega) (by omega)
 have b2:=and15 s[a].toNat (by omega) (by omega)
 have b3:=and7 s[a].toNat (by omega) (by omega)
 have HY:=Lib.hid (hyes (by omega));clear hyes
 have HN:=Lib.hid (fun (x : ¬ (Utf.scal (Utf.fold m ((from_ s (a + 1)).take 1)) /\ Utf.enc (Utf.fold m ((from_ s (a + 1)).take 1)) = (from_ s a).take 2)) => hno (fun k => x ⟨k.2.1,k.2.2⟩));clear hno
 have HF:=Lib.hid hf;clear hf
 have HM:=Lib.hid hm;clear hm
 have d2 : (2 : Int) <= (s.size : Int) - a:=by omega
 have e1 : decide (s.size <= a) = false:=decide_eq_false (by omega)
 have e2 : decide ((a : Int) < 0) = false:=decide_eq_false (by omega)
 have e3 : decide ((s.size : Int) - a < 2) = false:=decide_eq_false (by omega)
 have hx:=extract_from s a 2
 rw [<- Lib.toList_data] at hx
 have HX:=Lib.hid hx;clear hx
 go_enter Tryd.func75,Tryd.ntmps75
 go_wp2
 go_loop [8,9] (fun r i => ∃ j : Nat,j + 1 <= 2 /\ i = .int .i64 (j + 1) /\ r = .int .i64 (Utf.fold m ((from_ s (a + 1)).take j))) (fun _ i => 2 - (intOf i).toNat)
 case atStart => exact ⟨0,by omega,rfl,by rw [List.take_zero];show _ = Value.int .i64 m;rw [HM.out]⟩
 case round =>
  obtain ⟨j,hj,rfl,rfl⟩:=hrel
  have hf:=HF.out ((from_ s (a + 1)).take j) (by rw [List.length_take];omega)
  obtain ⟨hf1,hf2⟩:=hf
  by_cases hlt : j + 1 < 2
  ·have hidx : a + (j + 1) < s.size:=by omega
   have g0 : s[a + (j + 1)].toNat < 256:=s[a + (j + 1)].toNat_lt
   have g1:=and63 s[a + (j + 1)].toNat (by omega) (by have:=s[a + (j + 1)].toNat_lt;omega)
   have g2:=or6 (Utf.fold m ((from_ s (a + 1)).take j)) ((s[a + (j + 1)].toNat : Int) % 64) hf1 hf2 (by omega) (by omega)
   have HT:=Lib.hid (from_take' s a j hidx)
   go_wp2
   go_round
   case rel => exact ⟨j + 1,by omega,by go_num,by rw [HT.out,fold_snoc];go_num⟩
   case measure => simp [intOf];omega
  ·obtain rfl : j = 1:=by omega
   by_cases hsc : Utf.scal (Utf.fold m ((from_ s (a + 1)).take 1))
   ·by_cases hen : Utf.enc (Utf.fold m ((from_ s (a + 1)).take 1)) = (from_ s a).take 2
    ·have HD:=Lib.hid (HY.out hsc hen)
     have HS:=Lib.hid hsc
     have hne : (Utf.enc (Utf.fold m ((from_ s (a + 1)).take 1)) == (s.extract a (a + 2)).toList) = true:=by rw [HX.out,hen];simp
     clear hsc hen
     go_wp2_with (first | (go_at_call 85;refine (rencode_yes _ _ HS.out).mono ?_;rintro e w1 ⟨rfl,hb1⟩))
     go_ret2
     rw [HD.out]
     exact ⟨rfl,hb1⟩
    ·have HD:=Lib.hid (HN.out (fun k => hen k.2))
     have HS:=Lib.hid hsc
     have hne : (Utf.enc (Utf.fold m ((from_ s (a + 1)).take 1)) == (s.extract a (a + 2)).toList) = false:=by rw [HX.out];simpa using hen
     clear hsc hen
     go_wp2_with (first | (go_at_call 85;refine (rencode_yes _ _ HS.out).mono ?_;rintro e w1 ⟨rfl,hb1⟩))
     go_ret2
     rw [HD.out]
     exact ⟨rfl,hb1⟩
   ·have HD:=Lib.hid (HN.out (fun k => hsc k.1))
    have HS:=Lib.hid hsc
    clear hsc
    go_wp2_with (first | (go_at_call 85;refine (rencode_no _ _ HS.out).mono ?_;rintro e w' ⟨rfl,rfl⟩))
    go_ret2
    rw [HD.out]
    exact ⟨rfl,Below.refl _ _⟩
theorem rdecode_one (s : ByteArray) (a : Nat) (w : World) (hs : s.size <= maxLen) (h : a < s.size) (_hz : 1 <= s.size - a) (m : Int) (hm : m = (s[a].toNat : Int)) (h0 : decide (240 <= (s[a].toNat : Int)) = false) (h1 : decide (224 <= (s[a].toNat : Int)) = false) (h2 : decide (192 <= (s[a].toNat : Int)) = false)
 (hf : ∀ l : List UInt8,l.length <= 0 -> 0 <= Utf.fold m l /\ Utf.fold m l < 33554432)
 (hyes : 1 <= s.size - (a + 1) + 1 -> Utf.scal (Utf.fold m ([] : List UInt8)) -> Utf.enc (Utf.fold m ([] : List UInt8)) = (from_ s a).take 1 -> Utf.dec (from_ s a) = (Utf.fold m ([] : List UInt8),1))
 (hno : ¬ (1 <= s.size - (a + 1) + 1 /\ Utf.scal (Utf.fold m ([] : List UInt8)) /\ Utf.enc (Utf.fold m ([] : List UInt8)) = (from_ s a).take 1) -> Utf.dec (from_ s a) = (0,0)) :
 Calls Tryd.prog 75 #[.string s,.int .i64 a] w fun e w' => e = .returned (.tuple #[.int .i64 (Utf.dec (from_ s a)).1,.int .i64 (Utf.dec (from_ s a)).2]) /\ Below w.heap.size w w':=by
 unfold maxLen at hs
 have hb : s[a].toNat < 256:=s[a].toNat_lt
 have b1:=and31 s[a].toNat (by omega) (by omega)
 have b2:=and15 s[a].toNat (by omega) (by omega)
 have b3:=and7 s[a].toNat (by omega) (by omega)
 have HY:=Lib.hid (hyes (by omega));clear hyes
 have HN:=Lib.hid (fun (x : ¬ (Utf.scal (Utf.fold m ([] : List UInt8)) /\ Utf.enc (Utf.fold m ([] : List UInt8)) = (from_ s a).take 1)) => hno (fun k => x ⟨k.2.1,k.2.2⟩));clear hno
 have HF:=Lib.hid hf;clear hf
 have HM:=Lib.hid hm;clear hm
 have d2 : (1 : Int) <= (s.size : Int) - a:=by omega
 have e1 : decide (s.size <= a) = false:=decide_eq_false (by omega)
 have e2 : decide ((a : Int) < 0) = false:=decide_eq_false (by omega)
 have e3 : decide ((s.size : Int) - a < 1) = false:=decide_eq_false (by omega)
 have hx:=extract_from s a 1
 rw [<- Lib.toList_data] at hx
 have HX:=Lib.hid hx;clear hx
 go_enter Tryd.func75,Tryd.ntmps75
 go_wp2
 go_loop [8,9] (fun r i => ∃ j : Nat,j + 1 <= 1 /\ i = .int .i64 (j + 1) /\ r = .int .i64 (Utf.fold m ((from_ s (a + 1)).take j))) (fun _ i => 1 - (intOf i).toNat)
 case atStart => exact ⟨0,by omega,rfl,by rw [List.take_zero];show _ = Value.int .i64 m;rw [HM.out]⟩
 case round =>
  obtain ⟨j,hj,rfl,rfl⟩:=hrel
  have hf:=HF.out ((from_ s (a + 1)).take j) (by rw [List.length_take];omega)
  obtain ⟨hf1,hf2⟩:=hf
  by_cases hlt : j + 1 < 1
  ·exact absurd hlt (by omega)
  ·obtain rfl : j = 0:=by omega
   by_cases hsc : Utf.scal (Utf.fold m ([] : List UInt8))
   ·by_cases hen : Utf.enc (Utf.fold m ([] : List UInt8)) = (from_ s a).take 1
    ·have HD:=Lib.hid (HY.out hsc hen)
     have HS:=Lib.hid hsc
     have hne : (Utf.enc (Utf.fold m ([] : List UInt8)) == (s.extract a (a + 1)).toList) = true:=by rw [HX.out,hen];simp
     clear hsc hen
     go_wp2_with (first | (go_at_call 85;refine (rencode_yes _ _ HS.out).mono ?_;rintro e w1 ⟨rfl,hb1⟩))
     go_ret2
     rw [HD.out]
     exact ⟨rfl,hb1⟩
    ·have HD:=Lib.hid (HN.out (fun k => hen k.2))
     have HS:=Lib.hid hsc
     have hne : (Utf.enc (Utf.fold m ([] : List UInt8)) == (s.extract a (a + 1)).toList) = false:=by rw [HX.out];simpa using hen
     clear hsc hen
     go_wp2_with (first | (go_at_call 85;refine (rencode_yes _ _ HS.out).mono ?_;rintro e w1 ⟨rfl,hb1⟩))
     go_ret2
     rw [HD.out]
     exact ⟨rfl,hb1⟩
   ·have HD:=Lib.hid (HN.out (fun k => hsc k.1))
    have HS:=Lib.hid hsc
    clear hsc
    go_wp2_with (first | (go_at_call 85;refine (rencode_no _ _ HS.out).mono ?_;rintro e w' ⟨rfl,rfl⟩))
    go_ret2
    rw [HD.out]
    exact ⟨rfl,Below.refl _ _⟩
theorem rdecode_at (s : ByteArray) (a : Nat) (w : World) (hs : s.size <= maxLen) (h : a < s.size) : Calls Tryd.prog 75 #[.string s,.int .i64 a] w fun e w' => e = .returned (.tuple #[.int .i64 (Utf.dec (from_ s a)).1,.int .i64 (Utf.dec (from_ s a)).2]) /\ Below w.heap.size w w':=by
 by_cases hz : s.size - a < (Utf.rhd s[a].toNat).1
 ·exact rdecode_short s a w hs h hz
 ·have hb : s[a].toNat < 256:=s[a].toNat_lt
  have hh:=rhead_of s[a].toNat
  have hfs:=rhd_small s[a].toNat hb
  have hyes:=Utf.rdec_yes s[a] (from_ s (a + 1))
  have hno:=Utf.rdec_no s[a] (from_ s (a + 1))
  rw [<- from_cons s a h,from_len] at hyes hno
  generalize (Utf.rhd s[a].toNat).1 = n at *
  generalize ((Utf.rhd s[a].toNat).2 : Int) = m at *
  cases hh with
  | four h1 hn hm => subst hn;exact rdecode_four s a w hs h (by omega) m hm h1 hfs hyes hno
  | three h0 h1 hn hm => subst hn;exact rdecode_three s a w hs h (by omega) m hm h0 h1 hfs hyes hno
  | two h0 h1 h2 hn hm => subst hn;exact rdecode_two s a w hs h (by omega) m hm h0 h1 h2 hfs hyes hno
  | one h0 h1 h2 hn hm => subst hn;exact rdecode_one s a w hs h (by omega) m hm h0 h1 h2 hfs hyes hno
theorem grown_of_below {a w : World} (h : Below a.heap.size a w) (row : Option Nat) : a.grownBy w row:=⟨h.os,h.tape,h.output,h.size,fun i hi _ => h.block i hi⟩
theorem own_below {w w' : World} {base size n : Nat} {e : TypeId} {v : Value} {xs : List Value} (h : w.ownsRow base e size v n xs) (hb : Below w.heap.size w w') : w'.ownsRow base e size v n xs:=by
 refine h.kept (grown_of_below hb none) ?_
 cases hv : v.ownBlock with
 | none => exact .inl rfl
 | some g => exact .inr (by simp)
theorem below_grown {w wr w1 : World} {B base size n : Nat} {e : TypeId} {v : Value} {xs : List Value} {o : Obj} (hb : Below B w wr) (hB : B <= wr.heap.size) (hown : wr.ownsRow base e size v n xs) (hbase : B <= base) (hg : (wr.alloc o).grownBy w1 v.ownBlock) : Below B w w1 :=
 (hb.alloc hB o).grown hg (by simp;omega) (fun j hj => by have:=(hown.lt j hj).1;omega)
theorem own_form {w : World} {base size n : Nat} {e : TypeId} {v : Value} {xs : List Value} (h : w.ownsRow base e size v n xs) (hn : 0 < n) : ∃ g cap,v = .slice (some ⟨g,0,none⟩) n cap /\ base <= g /\ g < w.heap.size:=by
 rcases h.2 with ⟨_,h0⟩ | ⟨g,cap,cur,rfl,hb,hh,_⟩
 ·omega
 ·refine ⟨g,cap,rfl,hb,?_⟩
  rcases Nat.lt_or_ge g w.heap.size with hlt | hge
  ·exact hlt
  ·rw [Array.getElem?_eq_none hge] at hh;cases hh
theorem below_then {w w1 w2 : World} (h : Below w.heap.size w w1) (h' : Below w1.heap.size w1 w2) : Below w.heap.size w w2:=h.trans (h'.mono h.size)
end Go.Proofs.YtpcbhneaaibfiaaDoor
