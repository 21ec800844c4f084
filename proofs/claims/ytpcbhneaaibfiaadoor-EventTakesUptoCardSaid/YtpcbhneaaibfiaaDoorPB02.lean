/- Laid together. -/
import Derived.WalkKit
import Derived.Test.YtpcbhneaaibfiaaDoorProg
import Derived.Outline
import Derived.Below
import Derived.LoopTactic
import Derived.Lib.Hide
import Derived.WalkLawsBesides
import Derived.WalkSpells
import Derived.LoopN
import Derived.Laws.IdiomStrings
import Derived.Laws.BitsLemmas
set_option linter.unusedVariables false
set_option linter.unusedSimpArgs false
set_option maxHeartbeats 16000000
set_option maxRecDepth 100000
namespace Go.Proofs.YtpcbhneaaibfiaaDoor.Utf
def byte (n : Int) : UInt8:=UInt8.ofNat n.toNat
theorem byte_toNat {n : Int} (h : 0 <= n) (h' : n < 256) : ((byte n).toNat : Int) = n:=by
 unfold byte
 rw [UInt8.toNat_ofNat']
 omega
theorem byte_eq {n : Int} {b : UInt8} (h : n = b.toNat) : byte n = b:=by
 subst h
 unfold byte
 simp
def wid (r : Int) : Nat:=if r < 128 then 1 else if r < 2048 then 2 else if r < 65536 then 3 else 4
def scal (r : Int) : Prop:=0 <= r /\ r <= 1114111 /\ (r < 55296 ∨ 57343 < r)
instance (r : Int) : Decidable (scal r):=by unfold scal;infer_instance
def enc (r : Int) : List UInt8 :=
 if r < 128 then [byte r] else if r < 2048 then [byte (192 + r / 64),byte (128 + r % 64)]
 else if r < 65536 then [byte (224 + r / 4096),byte (128 + r / 64 % 64),byte (128 + r % 64)]
 else [byte (240 + r / 262144),byte (128 + r / 4096 % 64),byte (128 + r / 64 % 64),byte (128 + r % 64)]
theorem enc_length (r : Int) : (enc r).length = wid r:=by
 unfold enc wid;split;· rfl
 split;· rfl
 split <;> rfl
theorem wid_bd (r : Int) : 1 <= wid r /\ wid r <= 4:=by
 unfold wid
 split
 ·omega
 split
 ·omega
 split <;> omega
def hd (b : Nat) : Nat × Nat :=
 if b < 128 then (1,b) else if 192 <= b /\ b < 224 then (2,b % 32) else if 224 <= b /\ b < 240 then (3,b % 16) else if 240 <= b /\ b < 248 then (4,b % 8) else (0,0)
def cont (b : UInt8) : Bool:=decide (128 <= b.toNat /\ b.toNat < 192)
def fold (r : Int) (l : List UInt8) : Int:=l.foldl (fun r b => r * 64 + ((b.toNat % 64 : Nat) : Int)) r
def chk (n : Nat) (r : Int) : Int × Nat:=if scal r /\ wid r = n then (r,n) else (0,0)
def dec : List UInt8 -> Int × Nat
 | [] => (0,0)
 | b :: t => if (hd b.toNat).1 = 0 ∨ t.length + 1 < (hd b.toNat).1 then (0,0)
  else if (t.take ((hd b.toNat).1 - 1)).all cont = true then chk (hd b.toNat).1 (fold (hd b.toNat).2 (t.take ((hd b.toNat).1 - 1))) else (0,0)
theorem dec_cons (b : UInt8) (t : List UInt8) : dec (b :: t) = if (hd b.toNat).1 = 0 ∨ t.length + 1 < (hd b.toNat).1 then (0,0)
      else if (t.take ((hd b.toNat).1 - 1)).all cont = true then chk (hd b.toNat).1 (fold (hd b.toNat).2 (t.take ((hd b.toNat).1 - 1))) else (0,0):=rfl
theorem chk_snd {n : Nat} {r : Int} (h : (chk n r).2 ≠ 0) : scal r /\ wid r = n /\ chk n r = (r,n):=by
 unfold chk at h ⊢
 split at h
 ·rename_i k;rw [if_pos k];exact ⟨k.1,k.2,rfl⟩
 ·exact absurd rfl h
theorem dec_none {l : List UInt8} (h : (dec l).2 = 0) : dec l = (0,0):=by
 cases l with
 | nil => rfl
 | cons b t =>
  rw [dec_cons] at h ⊢
  split at h
  ·rename_i k;rw [if_pos k]
  ·rename_i k
   rw [if_neg k]
   split at h
   ·rename_i k2
    rw [if_pos k2]
    unfold chk at h ⊢
    split at h
    ·exact absurd (Or.inl h) k
    ·rename_i k3;rw [if_neg k3]
   ·rename_i k2;rw [if_neg k2]
theorem enc_two (b c : UInt8) (hb : 192 <= b.toNat) (hb' : b.toNat < 224) (hc : cont c = true) (r : Int) (hr : r = fold ((b.toNat % 32 : Nat) : Int) [c]) (hw : wid r = 2) : enc r = [b,c]:=by
 simp only [cont,decide_eq_true_eq] at hc
 simp only [fold,List.foldl] at hr
 have h2 : ¬ r < 128 /\ r < 2048:=by
  unfold wid at hw
  split at hw;· omega
  split at hw
  ·omega
  ·split at hw <;> omega
 unfold enc
 rw [if_neg h2.1,if_pos h2.2,byte_eq (b:=b) (by omega),byte_eq (b:=c) (by omega)]
theorem enc_three (b c d : UInt8) (hb : 224 <= b.toNat) (hb' : b.toNat < 240) (hc : cont c = true) (hd : cont d = true) (r : Int) (hr : r = fold ((b.toNat % 16 : Nat) : Int) [c,d]) (hw : wid r = 3) : enc r = [b,c,d]:=by
 simp only [cont,decide_eq_true_eq] at hc hd
 simp only [fold,List.foldl] at hr
 have h2 : ¬ r < 128 /\ ¬ r < 2048 /\ r < 65536:=by
  unfold wid at hw
  split at hw;· omega
  split at hw
  ·omega
  ·split at hw <;> omega
 unfold enc
 rw [if_neg h2.1,if_neg h2.2.1,if_pos h2.2.2,byte_eq (b:=b) (by omega),byte_eq (b:=c) (by omega),byte_eq (b:=d) (by omega)]
theorem enc_four (b c d e : UInt8) (hb : 240 <= b.toNat) (hb' : b.toNat < 248) (hc : cont c = true) (hd : cont d = true) (he : cont e = true) (r : Int) (hr : r = fold ((b.toNat % 8 : Nat) : Int) [c,d,e]) (hw : wid r = 4) : enc r = [b,c,d,e]:=by
 simp only [cont,decide_eq_true_eq] at hc hd he
 simp only [fold,List.foldl] at hr
 have h2 : ¬ r < 128 /\ ¬ r < 2048 /\ ¬ r < 65536:=by
  unfold wid at hw
  split at hw;· omega
  split at hw
  ·omega
  ·split at hw <;> omega
 unfold enc
 rw [if_neg h2.1,if_neg h2.2.1,if_neg h2.2.2,byte_eq (b:=b) (by omega),byte_eq (b:=c) (by omega),byte_eq (b:=d) (by omega),byte_eq (b:=e) (by omega)]
theorem dec_sound {l : List UInt8} (h : (dec l).2 ≠ 0) : scal (dec l).1 /\ (dec l).2 = wid (dec l).1 /\ l = enc (dec l).1 ++ l.drop (dec l).2:=by
 cases l with
 | nil => exact absurd rfl h
 | cons b t =>
  rw [dec_cons] at h ⊢
  split at h
  ·exact absurd rfl h
  rename_i k
  rw [if_neg k]
  split at h
  rotate_left
  ·exact absurd rfl h
  rename_i hall
  rw [if_pos hall]
  obtain ⟨hs,hw,he⟩:=chk_snd h
  rw [he]
  refine ⟨hs,hw.symm,?_⟩
  show b :: t = enc _ ++ List.drop _ (b :: t)
  have hbt : b.toNat < 256:=b.toNat_lt
  by_cases c1 : b.toNat < 128
  ·have e1 : hd b.toNat = (1,b.toNat):=by unfold hd;rw [if_pos c1]
   rw [e1] at hw ⊢
   simp only [Nat.sub_self,List.take_zero,fold,List.foldl] at hw ⊢
   unfold enc
   rw [if_pos (by omega),byte_eq (b:=b) rfl]
   simp
  by_cases c2 : 192 <= b.toNat /\ b.toNat < 224
  ·have e1 : hd b.toNat = (2,b.toNat % 32):=by unfold hd;rw [if_neg c1,if_pos c2]
   rw [e1] at hw hall k ⊢
   rcases t with _ | ⟨c,t'⟩
   ·exact absurd (Or.inr (by simp)) k
   ·simp only [Nat.add_one_sub_one,List.take_succ_cons,List.take_zero,List.all_cons,List.all_nil,Bool.and_true] at hall hw ⊢
    rw [enc_two b c c2.1 c2.2 hall _ rfl hw]
    simp
  by_cases c3 : 224 <= b.toNat /\ b.toNat < 240
  ·have e1 : hd b.toNat = (3,b.toNat % 16):=by unfold hd;rw [if_neg c1,if_neg c2,if_pos c3]
   rw [e1] at hw hall k ⊢
   rcases t with _ | ⟨c,_ | ⟨d,t'⟩⟩
   ·exact absurd (Or.inr (by simp)) k
   ·exact absurd (Or.inr (by simp)) k
   ·simp only [Nat.add_one_sub_one,List.take_succ_cons,List.take_zero,List.all_cons,List.all_nil,Bool.and_true,Bool.and_eq_true] at hall hw ⊢
    rw [enc_three b c d c3.1 c3.2 hall.1 hall.2 _ rfl hw]
    simp
  by_cases c4 : 240 <= b.toNat /\ b.toNat < 248
  ·have e1 : hd b.toNat = (4,b.toNat % 8):=by unfold hd;rw [if_neg c1,if_neg c2,if_neg c3,if_pos c4]
   rw [e1] at hw hall k ⊢
   rcases t with _ | ⟨c,_ | ⟨d,_ | ⟨e,t'⟩⟩⟩
   ·exact absurd (Or.inr (by simp)) k
   ·exact absurd (Or.inr (by simp)) k
   ·exact absurd (Or.inr (by simp)) k
   ·simp only [Nat.add_one_sub_one,List.take_succ_cons,List.take_zero,List.all_cons,List.all_nil,Bool.and_true,Bool.and_eq_true] at hall hw ⊢
    rw [enc_four b c d e c4.1 c4.2 hall.1 hall.2.1 hall.2.2 _ rfl hw]
    simp
  ·have e1 : hd b.toNat = (0,0):=by unfold hd;rw [if_neg c1,if_neg c2,if_neg c3,if_neg c4]
   rw [e1] at k
   exact absurd (Or.inl rfl) k
theorem dec_enc {r : Int} (h : scal r) (t : List UInt8) : dec (enc r ++ t) = (r,wid r):=by
 obtain ⟨h0,h1,hs⟩:=h
 by_cases c1 : r < 128
 ·have b1:=byte_toNat h0 (by omega : r < 256)
  have hw : wid r = 1:=by unfold wid;rw [if_pos c1]
  have he : enc r = [byte r]:=by unfold enc;rw [if_pos c1]
  rw [he,hw]
  show dec (byte r :: t) = _
  have e1 : hd (byte r).toNat = (1,(byte r).toNat):=by unfold hd;rw [if_pos (by omega)]
  rw [dec_cons,e1,if_neg (by simp),if_pos (by simp)]
  simp only [Nat.sub_self,List.take_zero,fold,List.foldl]
  unfold chk
  rw [b1,if_pos ⟨⟨h0,h1,hs⟩,hw⟩]
 by_cases c2 : r < 2048
 ·have b1:=byte_toNat (n:=192 + r / 64) (by omega) (by omega)
  have b2:=byte_toNat (n:=128 + r % 64) (by omega) (by omega)
  have hw : wid r = 2:=by unfold wid;rw [if_neg c1,if_pos c2]
  have he : enc r = [byte (192 + r / 64),byte (128 + r % 64)]:=by unfold enc;rw [if_neg c1,if_pos c2]
  rw [he,hw]
  show dec (byte (192 + r / 64) :: (byte (128 + r % 64) :: t)) = _
  have e1 : hd (byte (192 + r / 64)).toNat = (2,(byte (192 + r / 64)).toNat % 32):=by unfold hd;rw [if_neg (by omega),if_pos (by omega)]
  rw [dec_cons,e1,if_neg (by simp)]
  have k1 : cont (byte (128 + r % 64)) = true:=by unfold cont;simp;omega
  simp only [Nat.add_one_sub_one,List.take_succ_cons,List.take_zero,List.all_cons,List.all_nil,Bool.and_true,k1,if_true]
  have hf : fold (((byte (192 + r / 64)).toNat % 32 : Nat) : Int) [byte (128 + r % 64)] = r:=by simp only [fold,List.foldl];omega
  rw [hf]
  unfold chk
  rw [if_pos ⟨⟨h0,h1,hs⟩,hw⟩]
 by_cases c3 : r < 65536
 ·have b1:=byte_toNat (n:=224 + r / 4096) (by omega) (by omega)
  have b2:=byte_toNat (n:=128 + r / 64 % 64) (by omega) (by omega)
  have b3:=byte_toNat (n:=128 + r % 64) (by omega) (by omega)
  have hw : wid r = 3:=by unfold wid;rw [if_neg c1,if_neg c2,if_pos c3]
  have he : enc r = [byte (224 + r / 4096),byte (128 + r / 64 % 64),byte (128 + r % 64)]:=by unfold enc;rw [if_neg c1,if_neg c2,if_pos c3]
  rw [he,hw]
  show dec (byte (224 + r / 4096) :: (byte (128 + r / 64 % 64) :: byte (128 + r % 64) :: t)) = _
  have e1 : hd (byte (224 + r / 4096)).toNat = (3,(byte (224 + r / 4096)).toNat % 16):=by unfold hd;rw [if_neg (by omega),if_neg (by omega),if_pos (by omega)]
  rw [dec_cons,e1,if_neg (by simp)]
  have k1 : cont (byte (128 + r % 64)) = true:=by unfold cont;simp;omega
  have k2 : cont (byte (128 + r / 64 % 64)) = true:=by unfold cont;simp;omega
  simp only [Nat.add_one_sub_one,List.take_succ_cons,List.take_zero,List.all_cons,List.all_nil,Bool.and_true,k1,k2,if_true]
  have hf : fold (((byte (224 + r / 4096)).toNat % 16 : Nat) : Int) [byte (128 + r / 64 % 64),byte (128 + r % 64)] = r:=by simp only [fold,List.foldl];omega
  rw [hf]
  unfold chk
  rw [if_pos ⟨⟨h0,h1,hs⟩,hw⟩]
 ·have b1:=byte_toNat (n:=240 + r / 262144) (by omega) (by omega)
  have b2:=byte_toNat (n:=128 + r / 4096 % 64) (by omega) (by omega)
  have b3:=byte_toNat (n:=128 + r / 64 % 64) (by omega) (by omega)
  have b4:=byte_toNat (n:=128 + r % 64) (by omega) (by omega)
  have hw : wid r = 4:=by unfold wid;rw [if_neg c1,if_neg c2,if_neg c3]
  have he : enc r = [byte (240 + r / 262144),byte (128 + r / 4096 % 64),byte (128 + r / 64 % 64),byte (128 + r % 64)]:=by unfold enc;rw [if_neg c1,if_neg c2,if_neg c3]
  rw [he,hw]
  show dec (byte (240 + r / 262144) :: (byte (128 + r / 4096 % 64) :: byte (128 + r / 64 % 64) :: byte (128 + r % 64) :: t)) = _
  have e1 : hd (byte (240 + r / 262144)).toNat = (4,(byte (240 + r / 262144)).toNat % 8):=by unfold hd;rw [if_neg (by omega),if_neg (by omega),if_neg (by omega),if_pos (by omega)]
  rw [dec_cons,e1,if_neg (by simp)]
  have k1 : cont (byte (128 + r % 64)) = true:=by unfold cont;simp;omega
  have k2 : cont (byte (128 + r / 64 % 64)) = true:=by unfold cont;simp;omega
  have k3 : cont (byte (128 + r / 4096 % 64)) = true:=by unfold cont;simp;omega
  simp only [Nat.add_one_sub_one,List.take_succ_cons,List.take_zero,List.all_cons,List.all_nil,Bool.and_true,k1,k2,k3,if_true]
  have hf : fold (((byte (240 + r / 262144)).toNat % 8 : Nat) : Int) [byte (128 + r / 4096 % 64),byte (128 + r / 64 % 64),byte (128 + r % 64)] = r:=by simp only [fold,List.foldl];omega
  rw [hf]
  unfold chk
  rw [if_pos ⟨⟨h0,h1,hs⟩,hw⟩]
def rhd (b : Nat) : Nat × Nat:=if 240 <= b then (4,b % 8) else if 224 <= b then (3,b % 16) else if 192 <= b then (2,b % 32) else (1,b)
theorem rhd_enc {r : Int} (h : scal r) (b : UInt8) (t u : List UInt8) (e : b :: t = enc r ++ u) : (rhd b.toNat).1 = wid r /\ fold (rhd b.toNat).2 (t.take ((rhd b.toNat).1 - 1)) = r:=by
 obtain ⟨h0,h1,hs⟩:=h
 by_cases c1 : r < 128
 ·have b1:=byte_toNat h0 (by omega : r < 256)
  have hw : wid r = 1:=by unfold wid;rw [if_pos c1]
  have he : enc r = [byte r]:=by unfold enc;rw [if_pos c1]
  simp only [he,List.cons_append,List.nil_append,List.cons.injEq] at e
  obtain ⟨e1,e2⟩:=e
  subst e1
  have e1 : rhd (byte r).toNat = (1,(byte r).toNat):=by unfold rhd;rw [if_neg (by omega),if_neg (by omega),if_neg (by omega)]
  rw [e1,hw]
  simp only [Nat.sub_self,List.take_zero,fold,List.foldl]
  exact ⟨trivial,b1⟩
 by_cases c2 : r < 2048
 ·have b1:=byte_toNat (n:=192 + r / 64) (by omega) (by omega)
  have b2:=byte_toNat (n:=128 + r % 64) (by omega) (by omega)
  have hw : wid r = 2:=by unfold wid;rw [if_neg c1,if_pos c2]
  have he : enc r = [byte (192 + r / 64),byte (128 + r % 64)]:=by unfold enc;rw [if_neg c1,if_pos c2]
  simp only [he,List.cons_append,List.nil_append,List.cons.injEq] at e
  obtain ⟨e1,e2⟩:=e
  subst e1 e2
  have e1 : rhd (byte (192 + r / 64)).toNat = (2,(byte (192 + r / 64)).toNat % 32):=by unfold rhd;rw [if_neg (by omega),if_neg (by omega),if_pos (by omega)]
  rw [e1,hw]
  refine ⟨rfl,?_⟩
  simp only [Nat.add_one_sub_one,List.take_succ_cons,List.take_zero,fold,List.foldl];omega
 by_cases c3 : r < 65536
 ·have b1:=byte_toNat (n:=224 + r / 4096) (by omega) (by omega)
  have b2:=byte_toNat (n:=128 + r / 64 % 64) (by omega) (by omega)
  have b3:=byte_toNat (n:=128 + r % 64) (by omega) (by omega)
  have hw : wid r = 3:=by unfold wid;rw [if_neg c1,if_neg c2,if_pos c3]
  have he : enc r = [byte (224 + r / 4096),byte (128 + r / 64 % 64),byte (128 + r % 64)]:=by unfold enc;rw [if_neg c1,if_neg c2,if_pos c3]
  simp only [he,List.cons_append,List.nil_append,List.cons.injEq] at e
  obtain ⟨e1,e2⟩:=e
  subst e1 e2
  have e1 : rhd (byte (224 + r / 4096)).toNat = (3,(byte (224 + r / 4096)).toNat % 16):=by unfold rhd;rw [if_neg (by omega),if_pos (by omega)]
  rw [e1,hw]
  refine ⟨rfl,?_⟩
  simp only [Nat.add_one_sub_one,List.take_succ_cons,List.take_zero,fold,List.foldl];omega
 ·have b1:=byte_toNat (n:=240 + r / 262144) (by omega) (by omega)
  have b2:=byte_toNat (n:=128 + r / 4096 % 64) (by omega) (by omega)
  have b3:=byte_toNat (n:=128 + r / 64 % 64) (by omega) (by omega)
  have b4:=byte_toNat (n:=128 + r % 64) (by omega) (by omega)
  have hw : wid r = 4:=by unfold wid;rw [if_neg c1,if_neg c2,if_neg c3]
  have he : enc r = [byte (240 + r / 262144),byte (128 + r / 4096 % 64),byte (128 + r / 64 % 64),byte (128 + r % 64)]:=by unfold enc;rw [if_neg c1,if_neg c2,if_neg c3]
  simp only [he,List.cons_append,List.nil_append,List.cons.injEq] at e
  obtain ⟨e1,e2⟩:=e
  subst e1 e2
  have e1 : rhd (byte (240 + r / 262144)).toNat = (4,(byte (240 + r / 262144)).toNat % 8):=by unfold rhd;rw [if_pos (by omega)]
  rw [e1,hw]
  refine ⟨rfl,?_⟩
  simp only [Nat.add_one_sub_one,List.take_succ_cons,List.take_zero,fold,List.foldl];omega
theorem rdec_yes (b : UInt8) (t : List UInt8) (hl : (rhd b.toNat).1 <= t.length + 1) (hs : scal (fold (rhd b.toNat).2 (t.take ((rhd b.toNat).1 - 1))))
 (he : enc (fold (rhd b.toNat).2 (t.take ((rhd b.toNat).1 - 1))) = (b :: t).take (rhd b.toNat).1) :
 dec (b :: t) = (fold (rhd b.toNat).2 (t.take ((rhd b.toNat).1 - 1)),(rhd b.toNat).1):=by
 have hlen : wid (fold (rhd b.toNat).2 (t.take ((rhd b.toNat).1 - 1))) = (rhd b.toNat).1:=by
  rw [<- enc_length,he,List.length_take,List.length_cons];omega
 have h:=dec_enc hs ((b :: t).drop (rhd b.toNat).1)
 rw [he,List.take_append_drop] at h
 rw [h,hlen]
theorem rdec_no (b : UInt8) (t : List UInt8) (h : ¬ ((rhd b.toNat).1 <= t.length + 1 /\ scal (fold (rhd b.toNat).2 (t.take ((rhd b.toNat).1 - 1))) /\
 enc (fold (rhd b.toNat).2 (t.take ((rhd b.toNat).1 - 1))) = (b :: t).take (rhd b.toNat).1)) : dec (b :: t) = (0,0):=by
 by_cases hz : (dec (b :: t)).2 = 0
 ·exact dec_none hz
 ·obtain ⟨hs,hw,hl⟩:=dec_sound hz
  obtain ⟨h1,h2⟩:=rhd_enc hs b t _ hl
  refine absurd ⟨?_,?_,?_⟩ h
  ·have hlen:=congrArg List.length hl
   rw [List.length_append,enc_length,List.length_cons] at hlen
   omega
  ·rw [h2];exact hs
  ·rw [h2,h1]
   have e : List.take (wid (dec (b :: t)).1) (enc (dec (b :: t)).1 ++ List.drop (dec (b :: t)).2 (b :: t)) = enc (dec (b :: t)).1:=List.take_left' (enc_length _)
   rw [<- hl] at e
   exact e.symm
def encs (rs : List Int) : List UInt8:=rs.flatMap enc
theorem encs_cons (r : Int) (rs : List Int) : encs (r :: rs) = enc r ++ encs rs:=rfl
theorem encs_append (a b : List Int) : encs (a ++ b) = encs a ++ encs b:=by unfold encs;rw [List.flatMap_append]
def off (rs : List Int) (i : Nat) : Nat:=(encs (rs.take i)).length
structure Split (l : List UInt8) (rs : List Int) (rest : List UInt8) : Prop where
 eq : l = encs rs ++ rest
 all : ∀ r ∈ rs,scal r
 bad : (dec rest).2 = 0
theorem split_fuel (n : Nat) : ∀ l : List UInt8,l.length <= n -> ∃ rs rest,Split l rs rest:=by
 induction n with
 | zero =>
  intro l h
  obtain rfl : l = []:=List.eq_nil_of_length_eq_zero (by omega)
  exact ⟨[],[],rfl,by simp,rfl⟩
 | succ n ih =>
  intro l h
  by_cases hz : (dec l).2 = 0
  ·exact ⟨[],l,rfl,by simp,hz⟩
  ·obtain ⟨hs,hw,hl⟩:=dec_sound hz
   have hb:=wid_bd (dec l).1
   obtain ⟨rs,rest,e,a,b⟩:=ih (l.drop (dec l).2) (by rw [List.length_drop];omega)
   refine ⟨(dec l).1 :: rs,rest,?_,?_,b⟩
   ·rw [encs_cons,List.append_assoc,<- e];exact hl
   ·intro r hr
    rcases List.mem_cons.1 hr with rfl | hr
    ·exact hs
    ·exact a r hr
theorem split_ex (l : List UInt8) : ∃ rs rest,Split l rs rest:=split_fuel l.length l (Nat.le_refl _)
theorem off_zero (rs : List Int) : off rs 0 = 0:=rfl
theorem off_succ (rs : List Int) (i : Nat) (h : i < rs.length) : off rs (i + 1) = off rs i + wid rs[i]:=by
 unfold off
 rw [List.take_succ_eq_append_getElem h,encs_append,List.length_append]
 show _ + (enc rs[i] ++ []).length = _
 rw [List.append_nil,enc_length]
theorem off_all (rs : List Int) : off rs rs.length = (encs rs).length:=by unfold off;rw [List.take_length]
theorem drop_off {l : List UInt8} {rs : List Int} {rest : List UInt8} (h : Split l rs rest) (i : Nat) : l.drop (off rs i) = encs (rs.drop i) ++ rest:=by
 have e : encs rs = encs (rs.take i) ++ encs (rs.drop i):=by rw [<- encs_append,List.take_append_drop]
 rw [h.eq,e,List.append_assoc]
 unfold off
 rw [List.drop_left']
 rfl
theorem dec_off {l : List UInt8} {rs : List Int} {rest : List UInt8} (h : Split l rs rest) (i : Nat) (hi : i < rs.length) : dec (l.drop (off rs i)) = (rs[i],wid rs[i]):=by
 rw [drop_off h,List.drop_eq_getElem_cons hi,encs_cons,List.append_assoc]
 exact dec_enc (h.all _ (List.getElem_mem hi)) _
theorem dec_end {l : List UInt8} {rs : List Int} {rest : List UInt8} (h : Split l rs rest) : dec (l.drop (off rs rs.length)) = (0,0):=by
 rw [drop_off h,List.drop_length]
 exact dec_none h.bad
theorem off_le {l : List UInt8} {rs : List Int} {rest : List UInt8} (h : Split l rs rest) (i : Nat) : off rs i <= l.length:=by
 have e : encs rs = encs (rs.take i) ++ encs (rs.drop i):=by rw [<- encs_append,List.take_append_drop]
 rw [h.eq,e]
 unfold off
 simp only [List.length_append];omega
theorem off_lt {l : List UInt8} {rs : List Int} {rest : List UInt8} (h : Split l rs rest) (i : Nat) (hi : i < rs.length) : off rs i < l.length:=by
 have h1:=off_le h (i + 1)
 rw [off_succ rs i hi] at h1
 have:=wid_bd rs[i]
 omega
theorem len_split {l : List UInt8} {rs : List Int} {rest : List UInt8} (h : Split l rs rest) : l.length = off rs rs.length + rest.length:=by
 rw [h.eq,List.length_append,off_all]
theorem count_le {l : List UInt8} {rs : List Int} {rest : List UInt8} (h : Split l rs rest) : rs.length <= l.length:=by
 have key : ∀ i,i <= rs.length -> i <= off rs i:=by
  intro i
  induction i with
  | zero => intro _;exact Nat.zero_le _
  | succ i ih =>
   intro hi
   have:=ih (by omega)
   have:=wid_bd rs[i]
   rw [off_succ rs i (by omega)];omega
 have:=key rs.length (Nat.le_refl _)
 have:=off_le h rs.length
 omega
end Go.Proofs.YtpcbhneaaibfiaaDoor.Utf
namespace Go.Proofs.YtpcbhneaaibfiaaDoor
open Go.RowKit
theorem scalar_yes (r : Int) (w : World) (h : Utf.scal r) : Calls Tryd.prog 90 #[.int .i64 r] w fun e w' => e = .returned (.bool true) /\ w = w':=by
 obtain ⟨h0,h1,h2⟩:=h
 rcases h2 with h2 | h2
 ·go_enter Tryd.func90,Tryd.ntmps90
  go_wp2
  go_ret
  exact ⟨rfl,rfl⟩
 ·have hd : decide (r < 55296) = false:=by simp;omega
  go_enter Tryd.func90,Tryd.ntmps90
  go_wp2
  go_ret
  exact ⟨rfl,rfl⟩
theorem not_scal {r : Int} (h : ¬ Utf.scal r) : r < 0 ∨ 1114111 < r ∨ (55296 <= r /\ r <= 57343):=by unfold Utf.scal at h;omega
theorem scalar_no (r : Int) (w : World) (h : ¬ Utf.scal r) : Calls Tryd.prog 90 #[.int .i64 r] w fun e w' => e = .returned (.bool false) /\ w = w':=by
 rcases not_scal h with k | k | ⟨k1,k2⟩
 ·clear h
  have hd : decide (0 <= r) = false:=by simp;omega
  go_enter Tryd.func90,Tryd.ntmps90
  go_wp2
  go_ret
  exact ⟨rfl,rfl⟩
 ·clear h
  have hd : decide (r <= 1114111) = false:=by simp;omega
  go_enter Tryd.func90,Tryd.ntmps90
  go_wp2
  go_ret
  exact ⟨rfl,rfl⟩
 ·clear h
  have hd : decide (r < 55296) = false:=by simp;omega
  have hd2 : decide (57343 < r) = false:=by simp;omega
  go_enter Tryd.func90,Tryd.ntmps90
  go_wp2
  go_ret
  exact ⟨rfl,rfl⟩
theorem rchar_yes (r : Int) (w : World) (h : Utf.scal r) : Calls Tryd.prog 93 #[.int .i64 r] w fun e w' => e = .returned (.bool true) /\ w = w':=by
 obtain ⟨h0,h1,h2⟩:=h
 rcases h2 with h2 | h2
 ·go_enter Tryd.func93,Tryd.ntmps93
  go_wp2
  go_ret
  exact ⟨rfl,rfl⟩
 ·have hd : decide (r < 55296) = false:=by simp;omega
  go_enter Tryd.func93,Tryd.ntmps93
  go_wp2
  go_ret
  exact ⟨rfl,rfl⟩
theorem rchar_no (r : Int) (w : World) (h : ¬ Utf.scal r) : Calls Tryd.prog 93 #[.int .i64 r] w fun e w' => e = .returned (.bool false) /\ w = w':=by
 rcases not_scal h with k | k | ⟨k1,k2⟩
 ·clear h
  have hd : decide (0 <= r) = false:=by simp;omega
  go_enter Tryd.func93,Tryd.ntmps93
  go_wp2
  go_ret
  exact ⟨rfl,rfl⟩
 ·clear h
  have hd : decide (r <= 1114111) = false:=by simp;omega
  go_enter Tryd.func93,Tryd.ntmps93
  go_wp2
  go_ret
  exact ⟨rfl,rfl⟩
 ·clear h
  have hd : decide (r < 55296) = false:=by simp;omega
  have hd2 : decide (57343 < r) = false:=by simp;omega
  go_enter Tryd.func93,Tryd.ntmps93
  go_wp2
  go_ret
  exact ⟨rfl,rfl⟩
theorem width_any (r : Int) (w : World) : Calls Tryd.prog 91 #[.int .i64 r] w fun e w' => e = .returned (.int .i64 (Utf.wid r)) /\ w = w':=by
 unfold Utf.wid
 by_cases h1 : r < 128
 ·rw [if_pos h1]
  go_enter Tryd.func91,Tryd.ntmps91
  go_wp2
  go_ret
  exact ⟨rfl,rfl⟩
 by_cases h2 : r < 2048
 ·rw [if_neg h1,if_pos h2]
  go_enter Tryd.func91,Tryd.ntmps91
  go_wp2
  go_ret
  exact ⟨rfl,rfl⟩
 by_cases h3 : r < 65536
 ·rw [if_neg h1,if_neg h2,if_pos h3]
  go_enter Tryd.func91,Tryd.ntmps91
  go_wp2
  go_ret
  exact ⟨rfl,rfl⟩
 ·rw [if_neg h1,if_neg h2,if_neg h3]
  go_enter Tryd.func91,Tryd.ntmps91
  go_wp2
  go_ret
  exact ⟨rfl,rfl⟩
theorem rencode_no (r : Int) (w : World) (h : ¬ Utf.scal r) : Calls Tryd.prog 85 #[.int .i64 r] w fun e w' => e = .returned (.tuple #[.string ⟨#[]⟩,.int .i64 2]) /\ w = w':=by
 have H:=Lib.hid h;clear h
 go_enter Tryd.func85,Tryd.ntmps85
 go_wp2_with (go_at_call 93;refine (rchar_no _ _ H.out).mono ?_;rintro e w' ⟨rfl,rfl⟩)
 go_ret2
 exact ⟨rfl,rfl⟩
theorem wraps_i64 (n : Int) (h₀ : 0 <= n) (h₁ : n < 2 ^ 62) : IntKind.i64.wrap n = n:=by rw [IntKind.wrap_i64];omega
theorem and63 (x : Int) (h : 0 <= x) (h' : x < 1114112) : bits .and .i64 x 63 = x % 64:=bits_mask .i64 62 (by decide) wraps_i64 6 (by decide) x h (by omega)
theorem or128 (y : Int) (h : 0 <= y) (h' : y < 64) : bits .or .i64 128 y = 128 + y:=bits_join .i64 62 (by decide) wraps_i64 6 128 y (by decide) (by decide) (by decide) h h' (by omega)
theorem or192 (y : Int) (h : 0 <= y) (h' : y < 32) : bits .or .i64 192 y = 192 + y:=bits_join .i64 62 (by decide) wraps_i64 5 192 y (by decide) (by decide) (by decide) h h' (by omega)
theorem or224 (y : Int) (h : 0 <= y) (h' : y < 16) : bits .or .i64 224 y = 224 + y:=bits_join .i64 62 (by decide) wraps_i64 4 224 y (by decide) (by decide) (by decide) h h' (by omega)
theorem or240 (y : Int) (h : 0 <= y) (h' : y < 8) : bits .or .i64 240 y = 240 + y:=bits_join .i64 62 (by decide) wraps_i64 3 240 y (by decide) (by decide) (by decide) h h' (by omega)
theorem conv_new (w : World) (xs : List Int) (hx : ∀ x ∈ xs,0 <= x /\ x < 256) :
 (convert 26 9 (.slice (some ⟨w.heap.size,0,none⟩) xs.length xs.length)).run Tryd.prog (w.alloc (.cells (xs.map (Value.int .u8)).toArray 5)) =
  .ok (.string ⟨(xs.map Utf.byte).toArray⟩) (w.alloc (.cells (xs.map (Value.int .u8)).toArray 5)):=by
 have h:=run_convert_bytes_back (P:=Tryd.prog) (w.alloc (.cells (xs.map (Value.int .u8)).toArray 5)) 26 9 5 ⟨w.heap.size,0,none⟩ xs.length (xs.map Utf.byte) Tryd.underlying26 Tryd.underlying5 Tryd.underlying9 (by
  intro j hj
  have hj' : j < xs.length:=by simpa using hj
  have hb:=hx _ (List.getElem_mem hj')
  rw [show (Addr.add ⟨w.heap.size,0,none⟩ j) = ⟨w.heap.size,j,none⟩ by cases j <;> simp [Addr.add]]
  have:=World.cell?_alloc_mark w (xs.map (Value.int .u8)).toArray 5 (0,0) j
  refine this.trans ?_
  simp only [List.getElem?_toArray,List.getElem?_map,List.getElem?_eq_getElem hj',Option.map_some,List.getElem_map]
  rw [Utf.byte_toNat hb.1 hb.2])
 simpa using h
theorem rencode_two (r : Int) (w : World) (h : Utf.scal r) (h1 : 128 <= r) (h2 : r < 2048) : Calls Tryd.prog 85 #[.int .i64 r] w fun e w' => e = .returned (.tuple #[.string ⟨(Utf.enc r).toArray⟩,.int .i64 0]) /\ Below w.heap.size w w':=by
 have he : Utf.enc r = [Utf.byte (192 + r / 64),Utf.byte (128 + r % 64)]:=by unfold Utf.enc;rw [if_neg (by omega),if_pos h2]
 rw [he]
 clear he
 have H:=Lib.hid h;clear h
 have hc:=fun w => conv_new w [192 + r / 64,128 + r % 64] (by simp;omega)
 simp only [List.map_cons,List.map_nil,List.length_cons,List.length_nil] at hc
 have b1:=or192 (r / 64) (by omega) (by omega)
 have b2:=and63 r (by omega) (by omega)
 have b3:=or128 (r % 64) (by omega) (by omega)
 have d1 : decide (r < 128) = false:=by simp;omega
 go_enter Tryd.func85,Tryd.ntmps85
 go_wp2_with (first | (go_at_call 93;refine (rchar_yes _ _ H.out).mono ?_;rintro e w' ⟨rfl,rfl⟩) )
 go_ret2
 exact ⟨rfl,(Below.refl _ _).alloc (Nat.le_refl _) _⟩
theorem rencode_one (r : Int) (w : World) (h : Utf.scal r) (h1 : r < 128) : Calls Tryd.prog 85 #[.int .i64 r] w fun e w' => e = .returned (.tuple #[.string ⟨(Utf.enc r).toArray⟩,.int .i64 0]) /\ Below w.heap.size w w':=by
 have he : Utf.enc r = [Utf.byte r]:=by unfold Utf.enc;rw [if_pos h1]
 rw [he]
 clear he
 have h0:=h.1
 have H:=Lib.hid h;clear h
 have hc:=fun w => conv_new w [r] (by simp;omega)
 simp only [List.map_cons,List.map_nil,List.length_cons,List.length_nil] at hc
 go_enter Tryd.func85,Tryd.ntmps85
 go_wp2_with (first | (go_at_call 93;refine (rchar_yes _ _ H.out).mono ?_;rintro e w' ⟨rfl,rfl⟩) )
 go_ret2
 exact ⟨rfl,(Below.refl _ _).alloc (Nat.le_refl _) _⟩
theorem rencode_three (r : Int) (w : World) (h : Utf.scal r) (h1 : 2048 <= r) (h2 : r < 65536) : Calls Tryd.prog 85 #[.int .i64 r] w fun e w' => e = .returned (.tuple #[.string ⟨(Utf.enc r).toArray⟩,.int .i64 0]) /\ Below w.heap.size w w':=by
 have he : Utf.enc r = [Utf.byte (224 + r / 4096),Utf.byte (128 + r / 64 % 64),Utf.byte (128 + r % 64)]:=by unfold Utf.enc;rw [if_neg (by omega),if_neg (by omega),if_pos h2]
 rw [he]
 clear he
 have H:=Lib.hid h;clear h
 have hc:=fun w => conv_new w [224 + r / 4096,128 + r / 64 % 64,128 + r % 64] (by simp;omega)
 simp only [List.map_cons,List.map_nil,List.length_cons,List.length_nil] at hc
 have b1:=or224 (r / 4096) (by omega) (by omega)
 have b2:=and63 r (by omega) (by omega)
 have b3:=or128 (r % 64) (by omega) (by omega)
 have b4:=and63 (r / 64) (by omega) (by omega)
 have b5:=or128 (r / 64 % 64) (by omega) (by omega)
 have d1 : decide (r < 128) = false:=by simp;omega
 have d2 : decide (r < 2048) = false:=by simp;omega
 go_enter Tryd.func85,Tryd.ntmps85
 go_wp2_with (first | (go_at_call 93;refine (rchar_yes _ _ H.out).mono ?_;rintro e w' ⟨rfl,rfl⟩) )
 go_ret2
 exact ⟨rfl,(Below.refl _ _).alloc (Nat.le_refl _) _⟩
theorem rencode_four (r : Int) (w : World) (h : Utf.scal r) (h1 : 65536 <= r) : Calls Tryd.prog 85 #[.int .i64 r] w fun e w' => e = .returned (.tuple #[.string ⟨(Utf.enc r).toArray⟩,.int .i64 0]) /\ Below w.heap.size w w':=by
 have he : Utf.enc r = [Utf.byte (240 + r / 262144),Utf.byte (128 + r / 4096 % 64),Utf.byte (128 + r / 64 % 64),Utf.byte (128 + r % 64)]:=by unfold Utf.enc;rw [if_neg (by omega),if_neg (by omega),if_neg (by omega)]
 rw [he]
 clear he
 have h2:=h.2.1
 have H:=Lib.hid h;clear h
 have hc:=fun w => conv_new w [240 + r / 262144,128 + r / 4096 % 64,128 + r / 64 % 64,128 + r % 64] (by simp;omega)
 simp only [List.map_cons,List.map_nil,List.length_cons,List.length_nil] at hc
 have b1:=or240 (r / 262144) (by omega) (by omega)
 have b2:=and63 r (by omega) (by omega)
 have b3:=or128 (r % 64) (by omega) (by omega)
 have b4:=and63 (r / 64) (by omega) (by omega)
 have b5:=or128 (r / 64 % 64) (by omega) (by omega)
 have b6:=and63 (r / 4096) (by omega) (by omega)
 have b7:=or128 (r / 4096 % 64) (by omega) (by omega)
 have d1 : decide (r < 128) = false:=by simp;omega
 have d2 : decide (r < 2048) = false:=by simp;omega
 have d3 : decide (r < 65536) = false:=by simp;omega
 go_enter Tryd.func85,Tryd.ntmps85
 go_wp2_with (first | (go_at_call 93;refine (rchar_yes _ _ H.out).mono ?_;rintro e w' ⟨rfl,rfl⟩) )
 go_ret2
 exact ⟨rfl,(Below.refl _ _).alloc (Nat.le_refl _) _⟩
theorem rencode_yes (r : Int) (w : World) (h : Utf.scal r) : Calls Tryd.prog 85 #[.int .i64 r] w fun e w' => e = .returned (.tuple #[.string ⟨(Utf.enc r).toArray⟩,.int .i64 0]) /\ Below w.heap.size w w':=by
 by_cases h1 : r < 128
 ·exact rencode_one r w h h1
 by_cases h2 : r < 2048
 ·exact rencode_two r w h (by omega) h2
 by_cases h3 : r < 65536
 ·exact rencode_three r w h (by omega) h3
 ·exact rencode_four r w h (by omega)
end Go.Proofs.YtpcbhneaaibfiaaDoor
