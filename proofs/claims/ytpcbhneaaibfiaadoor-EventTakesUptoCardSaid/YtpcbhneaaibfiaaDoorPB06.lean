/- Laid together. -/
import Derived.Test.YtpcbhneaaibfiaaDoorPB04
import Derived.BigRegion
import Derived.WalkKit
import Derived.Test.YtpcbhneaaibfiaaDoorProg
import Derived.Below
import Derived.Outline
import Derived.LoopTactic
import Derived.LoopN
import Derived.WalkLawsBesides
import Derived.WalkSpells
import Derived.Laws.IdiomStrings
import Derived.Lib.Strings
import Derived.Lib.TrimByte
import Derived.Lib.Repeat
import Derived.Lib.Hide
import Derived.OwnWalk
import Derived.Deep.OwnRows
import Derived.Test.YtpcbhneaaibfiaaDoorPB03
import Derived.Deep.QuietTactic
import Derived.BigQuiet
set_option linter.unusedVariables false
set_option linter.unusedSimpArgs false
set_option maxHeartbeats 16000000
set_option maxRecDepth 100000
namespace Go.Proofs.YtpcbhneaaibfiaaDoor
open Go.RowKit
theorem keys_some {b o n c : Nat} {K : Nat -> ByteArray} (hn : n <= 1048576) (w : World) (hb : b < w.heap.size) (hK : ∀ i,i < n -> w.cell? ⟨b,o + i * 14,none⟩ = some (.string (K i)) /\ (K i).size <= 1048576) :
 Calls Tryd.prog 74 #[.slice (some ⟨b,o,none⟩) n c] w fun r w' => r = .returned (.int .i64 (keysE K n)) /\ Below w.heap.size w w':=by
 have HK:=Lib.hid hK
 have HB:=Lib.hid hb
 clear hK hb
 obtain ⟨R,hR⟩ : ∃ R,keysE K n = R:=⟨_,rfl⟩
 rw [hR]
 have HR:=Lib.hid hR
 clear hR
 have hn0 : (0 : Int) <= n:=by omega
 have hn2 : (n : Int) <= 1048576:=by omega
 go_enter Tryd.func74,Tryd.ntmps74
 go_wp2_with fail
 go_loopw [3] (fun i wr => ∃ k : Nat,k <= n /\ i = .int .i64 k /\ keysE K k = 0 /\ Below w.heap.size w wr) (fun i _ => n - (intOf i).toNat)
 case atStart => exact ⟨0,by omega,rfl,rfl,Below.refl _ _⟩
 case round =>
  obtain ⟨k,hk,rfl,hk0,hbr⟩:=hrel
  have hki : (0 : Int) <= k:=by omega
  by_cases hkn : k < n
  ·obtain ⟨l0,l1⟩:=HK.out k hkn
   have l2:=(hbr.cell (p:=⟨b,o + k * 14,none⟩) HB.out).trans l0
   have hki2 : (k : Int) < n:=by omega
   have HU:=Lib.hid (rutf_any l1)
   have hlt:=Nat.lt_of_lt_of_le HB.out hbr.size
   by_cases u : utfB (K k) = true
   case neg =>
    have u2 : utfB (K k) = false:=by simpa using u
    have hR : R = 5:=by rw [<- HR.out,keysE_bad hk0 hkn (by unfold keyE;simp [u2])];unfold keyE;simp [u2]
    subst hR
    rw [u2] at HU
    generalize K k = x at *
    clear u u2 hk0 l0 HR
    go_wp2_with fail
    refine (HU.out _).mono ?_;rintro _ w1 ⟨rfl,hb1⟩
    go_wp2
    go_ret
    exact ⟨rfl,below_then hbr hb1⟩
   rw [u] at HU
   have kE : keyE K k = if 1024 < (K k).size then 10 else if ∃ j,j < k /\ K j = K k then 8 else 0:=by unfold keyE;simp [u]
   by_cases z : 1024 < (K k).size
   ·have hR : R = 10:=by rw [<- HR.out,keysE_bad hk0 hkn (by rw [kE,if_pos z];decide),kE,if_pos z]
    subst hR
    clear kE hk0 l0 u HR
    generalize K k = x at *
    have z2 : decide ((1024 : Int) < x.size) = true:=decide_eq_true (by omega)
    go_wp2_with fail
    refine (HU.out _).mono ?_;rintro _ w1 ⟨rfl,hb1⟩
    replace l2:=(hb1.cell (p:=⟨b,o + k * 14,none⟩) hlt).trans l2
    go_wp2
    go_ret
    exact ⟨rfl,below_then hbr hb1⟩
   rw [if_neg z] at kE
   have HE:=Lib.hid kE
   have H0:=Lib.hid hk0
   clear kE hk0 u
   obtain ⟨x,hx⟩ : ∃ x,K k = x:=⟨_,rfl⟩
   rw [hx] at l0 l1 l2 HU z HE
   have HX:=Lib.hid hx
   clear hx
   have z2 : decide ((1024 : Int) < x.size) = false:=decide_eq_false (by omega)
   go_wp2_with fail
   refine (HU.out _).mono ?_;rintro _ w1 ⟨rfl,hb1⟩
   replace l2:=(hb1.cell (p:=⟨b,o + k * 14,none⟩) hlt).trans l2
   replace hbr:=below_then hbr hb1
   clear hb1 HU z hlt
   go_wp2_with fail
   go_loopw [4] (fun i wr => ∃ j : Nat,j <= k /\ i = .int .i64 j /\ Hid (∀ t,t < j -> K t ≠ x) /\ Below w.heap.size w wr) (fun i _ => k - (intOf i).toNat)
   case atStart => exact ⟨0,by omega,rfl,Lib.hid (fun t h => absurd h (Nat.not_lt_zero _)),hbr⟩
   case round =>
    clear hbr l2
    obtain ⟨j,hj,rfl,HJ,hbr⟩:=hrel
    have l2:=(hbr.cell (p:=⟨b,o + k * 14,none⟩) HB.out).trans l0
    have hji : (0 : Int) <= j:=by omega
    by_cases hjk : j < k
    ·obtain ⟨m0,m1⟩:=HK.out j (by omega)
     have m2:=(hbr.cell (p:=⟨b,o + j * 14,none⟩) HB.out).trans m0
     have hji2 : (j : Int) < k:=by omega
     have hji3 : (j : Int) < n:=by omega
     by_cases e : K j = x
     ·have d1 : ((K j).toList == x.toList) = true:=by rw [e];exact beq_self_eq_true _
      have hR : R = 8:=by
       have k8 : keyE K k = 8:=by rw [HE.out,if_pos ⟨j,hjk,e⟩]
       rw [<- HR.out,keysE_bad H0.out hkn (by rw [k8];decide),k8]
      subst hR
      clear HR HE H0 e m0 l0 hjk hkn
      generalize K j = y at *
      go_wp2_with fail
      go_region
      go_wp2
      go_ret
      exact ⟨rfl,hbr.drew⟩
     ·have d1 : ((K j).toList == x.toList) = false:=by
       rw [beq_eq_false_iff_ne]
       intro q
       apply e
       rw [Lib.toList_data,Lib.toList_data] at q
       exact ByteArray.ext (Array.ext' q)
      have HJ2 : Hid (∀ t,t < j + 1 -> K t ≠ x):=Lib.hid (fun t ht => by
       by_cases q : t = j
       ·rw [q];exact e
       ·exact HJ.out t (by omega))
      clear e m0 HJ hkn
      generalize K j = y at *
      go_wp2_with fail
      go_region
      go_wp2
      go_roundw
      case rel => exact ⟨j + 1,by omega,by go_num,HJ2,hbr.drew⟩
      case measure => simp [intOf];omega
    ·obtain rfl : j = k:=by omega
     have hN : keysE K (j + 1) = 0:=keysE_next H0.out (by rw [HE.out,if_neg (fun ⟨t,ht,q⟩ => HJ.out t ht q)])
     clear HE H0 HJ
     go_wp2_with fail
     go_wp2
     go_roundw
     case rel => exact ⟨j + 1,by omega,by go_num,hN,hbr⟩
     case measure => simp [intOf];omega
  ·obtain rfl : k = n:=by omega
   have hR : R = 0:=by rw [<- HR.out,hk0]
   subst hR
   clear hkn hk0 HR
   go_wp2
   go_ret
   exact ⟨rfl,hbr⟩
theorem keys_nil {K : Nat -> ByteArray} (a : Option Addr) (c : Nat) (w : World) :
 Calls Tryd.prog 74 #[.slice a 0 c] w fun r w' => r = .returned (.int .i64 (keysE K 0)) /\ Below w.heap.size w w':=by
 show Calls Tryd.prog 74 #[.slice a 0 c] w fun r w' => r = .returned (.int .i64 0) /\ Below w.heap.size w w'
 go_enter Tryd.func74,Tryd.ntmps74
 go_wp2_with fail
 go_loopw [3] (fun i wr => i = .int .i64 0 /\ Below w.heap.size w wr) (fun i _ => 0)
 case atStart => exact ⟨rfl,Below.refl _ _⟩
 case round =>
  obtain ⟨rfl,hbr⟩:=hrel
  go_wp2
  go_ret
  exact ⟨rfl,hbr⟩
namespace Dig
def isd (b : UInt8) : Prop:=48 <= b.toNat /\ b.toNat <= 57
instance (b : UInt8) : Decidable (isd b):=by unfold isd;infer_instance
def alld (l : List UInt8) : Prop:=∀ b ∈ l,isd b
def val (l : List UInt8) : Nat:=l.foldl (fun a b => 10 * a + (b.toNat - 48)) 0
def ch (d : Nat) : UInt8:=UInt8.ofNat (48 + d)
def strip (l : List UInt8) : List UInt8:=l.dropWhile (fun b => b == 48)
def num (n : Nat) : List UInt8:=if n = 0 then [] else num (n / 10) ++ [ch (n % 10)]
termination_by n
decreasing_by omega
end Dig
namespace Dig
theorem p10 (i : Nat) : 0 < 10 ^ i:=Nat.pow_pos (by omega)
def up (P d b i k : Nat) : Nat:=(P % 10 ^ (i + k) + d * (b % 10 ^ k) * 10 ^ i) / 10 ^ (i + k)
end Dig
namespace Dig
def l (x : ByteArray) : List UInt8:=x.data.toList
theorem l_len (x : ByteArray) : (l x).length = x.size:=by unfold l;rw [Array.length_toList];rfl
theorem l_get {x : ByteArray} {i : Nat} (h : i < x.size) : (l x)[i]'(by rw [l_len];exact h) = x[i]:=rfl
theorem alld_iff (x : ByteArray) : alld (l x) ↔ ∀ i (h : i < x.size),isd x[i]:=by
 constructor
 ·intro h i hi
  exact h _ (by rw [<- l_get hi];exact List.getElem_mem _)
 ·intro h b hb
  obtain ⟨i,hi,rfl⟩:=List.getElem_of_mem hb
  exact h i (by rw [<- l_len];exact hi)
instance (x : List UInt8) : Decidable (alld x):=by unfold alld;infer_instance
def bs (l : List UInt8) : ByteArray:=⟨l.toArray⟩
theorem bs_size (k : List UInt8) : (bs k).size = k.length:=by simp [bs,ByteArray.size]
theorem l_bs (k : List UInt8) : l (bs k) = k:=by simp [l,bs]
theorem first_bad (x : ByteArray) : ∀ n : Nat,n <= x.size -> (∀ i (h : i < x.size),i < n -> isd x[i]) ∨ ∃ j,∃ h : j < x.size,j < n /\ (∀ i (h : i < x.size),i < j -> isd x[i]) /\ ¬ isd x[j]:=by
 intro n
 induction n with
 | zero => intro _;exact Or.inl (fun i _ hi => by omega)
 | succ n ih =>
  intro hn
  rcases ih (by omega) with h | ⟨j,hj,h0,h1,h2⟩
  ·by_cases hd : isd (x[n]'(by omega))
   ·refine Or.inl (fun i hi hin => ?_)
    rcases Nat.lt_or_ge i n with g | g
    ·exact h i hi g
    ·obtain rfl : i = n:=by omega
     exact hd
   ·exact Or.inr ⟨n,by omega,by omega,h,hd⟩
  ·exact Or.inr ⟨j,hj,by omega,h1,h2⟩
end Dig
theorem rdig_go {x : ByteArray} {j : Nat} (hx : x.size <= maxLen) (hj : j <= x.size) (h : ∀ i (h : i < x.size),i < j -> Dig.isd x[i]) (hn : ∀ h : j < x.size,¬ Dig.isd x[j]) (w : World) :
 Calls Tryd.prog 92 #[.string x] w fun e w' => e = .returned (.bool (decide (j = x.size))) /\ w = w':=by
 have H:=Lib.hid h;clear h
 have HN:=Lib.hid hn;clear hn
 obtain ⟨R,hR⟩ : ∃ r,decide (j = x.size) = r:=⟨_,rfl⟩
 rw [hR]
 have HR:=Lib.hid hR;clear hR
 unfold maxLen at hx
 go_enter Tryd.func92,Tryd.ntmps92
 go_wp2_with fail
 go_loop [3] (fun i => ∃ k : Nat,k <= j /\ i = .int .i64 k) (fun i => x.size - (intOf i).toNat)
 case atStart => exact ⟨0,by omega,rfl⟩
 case round =>
  obtain ⟨k,hk,rfl⟩:=hrel
  have hk1 : (0 : Int) <= k:=by omega
  by_cases hkf : k = x.size
  ·have hR2 : R = true:=by rw [<- HR.out];exact decide_eq_true (by omega)
   subst hR2
   subst hkf
   go_wp2
   go_ret
   exact ⟨rfl,rfl⟩
  have hkx : k < x.size:=by omega
  have hk2 : (k : Int) < x.size:=by omega
  have hd : Dig.isd x[k] ↔ (48 <= x[k].toNat /\ x[k].toNat <= 57):=Iff.rfl
  by_cases h1 : x[k].toNat < 48
  ·have hkj : j = k:=by
    rcases Nat.lt_or_ge k j with g | g
    ·have:=hd.1 (H.out k hkx g);omega
    ·omega
   have hR2 : R = false:=by rw [<- HR.out];exact decide_eq_false (by omega)
   subst hR2
   have d1 : decide ((x[k].toNat : Int) < 48) = true:=decide_eq_true (by omega)
   clear hd hkj hkf
   go_wp2
   go_ret
   exact ⟨rfl,rfl⟩
  by_cases h2 : 57 < x[k].toNat
  ·have hkj : j = k:=by
    rcases Nat.lt_or_ge k j with g | g
    ·have:=hd.1 (H.out k hkx g);omega
    ·omega
   have hR2 : R = false:=by rw [<- HR.out];exact decide_eq_false (by omega)
   subst hR2
   have d1 : decide ((x[k].toNat : Int) < 48) = false:=decide_eq_false (by omega)
   have d2 : decide (57 < (x[k].toNat : Int)) = true:=decide_eq_true (by omega)
   clear hd hkj hkf
   go_wp2
   go_ret
   exact ⟨rfl,rfl⟩
  have hkj : k < j:=by
   rcases Nat.lt_or_ge k j with g | g
   ·exact g
   ·obtain rfl : k = j:=by omega
    exact absurd (hd.2 (by omega)) (HN.out hkx)
  have d1 : decide ((x[k].toNat : Int) < 48) = false:=decide_eq_false (by omega)
  have d2 : decide (57 < (x[k].toNat : Int)) = false:=decide_eq_false (by omega)
  clear hd hkf
  go_wp2
  go_round
  case rel => exact ⟨k + 1,by omega,by go_num⟩
  case measure => simp [intOf];omega
theorem rdig_any {x : ByteArray} (hx : x.size <= maxLen) (w : World) :
 Calls Tryd.prog 92 #[.string x] w fun e w' => e = .returned (.bool (decide (Dig.alld (Dig.l x)))) /\ w = w':=by
 rcases Dig.first_bad x x.size (Nat.le_refl _) with h | ⟨j,hj,_,h1,h2⟩
 ·rw [decide_eq_true ((Dig.alld_iff x).2 (fun i hi => h i hi hi))]
  have:=rdig_go hx (Nat.le_refl _) h (fun g => absurd g (Nat.lt_irrefl _)) w
  rwa [decide_eq_true rfl] at this
 ·rw [decide_eq_false (fun g => h2 ((Dig.alld_iff x).1 g j hj))]
  have:=rdig_go hx (Nat.le_of_lt hj) h1 (fun _ => h2) w
  rwa [decide_eq_false (by omega)] at this
namespace Dig
def vld (x : ByteArray) : Prop:=x.size <= 600 /\ alld (l x) /\ (x.size = 0 ∨ ∀ h : 0 < x.size,x[0].toNat ≠ 48)
instance (x : ByteArray) : Decidable (vld x):=by
 unfold vld
 exact instDecidableAnd (dq:=instDecidableAnd (dq:=instDecidableOr (dq:=if h : 0 < x.size then (if g : x[0].toNat = 48 then isFalse (fun k => k h g) else isTrue (fun _ => g)) else isTrue (fun k => absurd k h))))
theorem nil_of {x : ByteArray} (h : x.size = 0) : x.toList.isEmpty = true:=by
 rw [Lib.toList_data]
 have : x.data.toList.length = 0:=by rw [Array.length_toList];exact h
 simp [List.eq_nil_of_length_eq_zero this]
theorem some_of {x : ByteArray} (h : 0 < x.size) : x.toList.isEmpty = false:=by
 rw [Lib.toList_data]
 cases g : x.data.toList with
 | nil => have : x.size = 0:=by rw [<- ByteArray.size_data,<- Array.length_toList,g];rfl
          omega
 | cons _ _ => rfl
end Dig
theorem rdigs_any {x : ByteArray} (hx : x.size <= maxLen) (w : World) :
 Calls Tryd.prog 81 #[.string x] w fun e w' => e = .returned (.bool (decide (Dig.vld x))) /\ w = w':=by
 have HA:=Lib.hid (rdig_any hx)
 obtain ⟨R,hR⟩ : ∃ r,decide (Dig.vld x) = r:=⟨_,rfl⟩
 rw [hR]
 by_cases h6 : x.size <= 600
 case neg =>
  have : R = false:=by rw [<- hR];exact decide_eq_false (fun g => h6 g.1)
  subst this
  have d1 : decide ((x.size : Int) <= 600) = false:=decide_eq_false (by omega)
  clear hR h6 hx
  go_enter Tryd.func81,Tryd.ntmps81
  go_wp2
  go_ret
  exact ⟨rfl,rfl⟩
 have d1 : decide ((x.size : Int) <= 600) = true:=decide_eq_true (by omega)
 by_cases ha : Dig.alld (Dig.l x)
 case neg =>
  have : R = false:=by rw [<- hR];exact decide_eq_false (fun g => ha g.2.1)
  subst this
  rw [decide_eq_false ha] at HA
  clear hR h6 hx ha
  go_enter Tryd.func81,Tryd.ntmps81
  go_wp2_with fail
  refine (HA.out _).mono ?_;rintro e w' ⟨rfl,rfl⟩
  go_wp2
  go_ret
  exact ⟨rfl,rfl⟩
 rw [decide_eq_true ha] at HA
 by_cases h0 : x.size = 0
 ·have : R = true:=by rw [<- hR];exact decide_eq_true ⟨h6,ha,Or.inl h0⟩
  subst this
  have e0:=Dig.nil_of h0
  have d2 : ((x.size : Int) == 0) = true:=beq_iff_eq.2 (by omega)
  clear hR h6 hx ha h0
  go_enter Tryd.func81,Tryd.ntmps81
  go_wp2_with fail
  refine (HA.out _).mono ?_;rintro e w' ⟨rfl,rfl⟩
  go_wp2
  go_ret
  exact ⟨rfl,rfl⟩
 have hp : 0 < x.size:=by omega
 have hp2 : (0 : Int) < x.size:=by omega
 have e0:=Dig.some_of hp
 have d2 : ((x.size : Int) == 0) = false:=beq_eq_false_iff_ne.2 (by omega)
 by_cases hb : x[0].toNat = 48
 ·have : R = false:=by
   rw [<- hR]
   refine decide_eq_false (fun g => ?_)
   rcases g.2.2 with k | k
   ·exact h0 k
   ·exact k hp hb
  subst this
  have d3 : ((x[0].toNat : Int) != 48) = false:=by simp [hb]
  clear hR h6 hx ha h0 hb
  go_enter Tryd.func81,Tryd.ntmps81
  go_wp2_with fail
  refine (HA.out _).mono ?_;rintro e w' ⟨rfl,rfl⟩
  go_wp2
  go_ret
  exact ⟨rfl,rfl⟩
 ·have : R = true:=by rw [<- hR];exact decide_eq_true ⟨h6,ha,Or.inr (fun _ => hb)⟩
  subst this
  have d3 : ((x[0].toNat : Int) != 48) = true:=by simp;omega
  clear hR h6 hx ha h0 hb
  go_enter Tryd.func81,Tryd.ntmps81
  go_wp2_with fail
  refine (HA.out _).mono ?_;rintro e w' ⟨rfl,rfl⟩
  go_wp2
  go_ret
  exact ⟨rfl,rfl⟩
namespace Dig
def V (x : ByteArray) : Nat:=val (l x)
structure Str (x : ByteArray) : Prop where
 d : alld (l x)
 size : x.size <= 1000000
theorem Str.max {x : ByteArray} (h : Str x) : x.size <= maxLen:=by have:=h.size;unfold maxLen;omega
theorem Str.isd {x : ByteArray} (h : Str x) {i : Nat} (hi : i < x.size) : 48 <= x[i].toNat /\ x[i].toNat <= 57:=(alld_iff x).1 h.d i hi
def st (n : Nat) : ByteArray:=bs (num n)
end Dig
theorem ret_int {a b : Int} (h : a = b) : Ending.returned (Value.int .i64 a) = .returned (.int .i64 b):=by rw [h]
namespace Dig
end Dig
namespace Dig
theorem lead (x : ByteArray) : ∃ c,c <= x.size /\ (∀ i (h : i < x.size),i < c -> x[i].toNat = 48) /\ (∀ h : c < x.size,x[c].toNat ≠ 48) /\ strip (l x) = (l x).drop c:=by
 have key : ∀ k : List UInt8,∃ c,c <= k.length /\ (∀ i (h : i < k.length),i < c -> k[i].toNat = 48) /\ (∀ h : c < k.length,k[c].toNat ≠ 48) /\ strip k = k.drop c:=by
  intro k
  induction k with
  | nil => exact ⟨0,Nat.le_refl _,fun i h _ => by simp at h,fun h => by simp at h,rfl⟩
  | cons a t ih =>
   obtain ⟨c,h1,h2,h3,h4⟩:=ih
   by_cases e : a.toNat = 48
   ·have ea : a = 48:=UInt8.toNat_inj.1 e
    refine ⟨c + 1,by simp;omega,fun i hi hc => ?_,fun h => by simpa using h3 (by simpa using h),?_⟩
    ·cases i with
     | zero => exact e
     | succ i => simpa using h2 i (by simpa using hi) (by omega)
    ·unfold strip at h4 ⊢
     rw [List.dropWhile_cons,if_pos (by rw [ea];rfl),h4];rfl
   ·refine ⟨0,Nat.zero_le _,fun i _ hc => by omega,fun _ => by simpa using e,?_⟩
    unfold strip
    rw [List.dropWhile_cons,if_neg (by intro g;exact e (by rw [beq_iff_eq.1 g];rfl))];rfl
 obtain ⟨c,h1,h2,h3,h4⟩:=key (l x)
 rw [l_len] at h1
 exact ⟨c,h1,fun i hi hc => h2 i (by rw [l_len];exact hi) hc,fun h => h3 (by rw [l_len];exact h),h4⟩
end Dig
namespace Dig
end Dig
namespace Dig
theorem trimRightB_rev (k : List UInt8) : Go.Lib.trimRightB k 48 = (strip k.reverse).reverse:=by
 unfold strip
 first | rfl | (unfold Go.Lib.trimRightB;rfl)
theorem trail (x : ByteArray) : ∃ c,c <= x.size /\ (∀ i (h : i < x.size),i < c -> (x[x.size - 1 - i]'(by omega)).toNat = 48) /\ (∀ h : c < x.size,(x[x.size - 1 - c]'(by omega)).toNat ≠ 48) /\ (Go.Lib.trimRightB (l x) 48).length = x.size - c:=by
 obtain ⟨c,h1,h2,h3,h4⟩:=lead (bs (l x).reverse)
 have hs : (bs (l x).reverse).size = x.size:=by rw [bs_size,List.length_reverse,l_len]
 have g : ∀ i (h : i < x.size),(bs (l x).reverse)[i]'(by rw [hs];exact h) = x[x.size - 1 - i]'(by omega):=fun i h => by
  rw [<- l_get (x:=bs (l x).reverse) (by rw [hs];exact h),<- l_get (x:=x) (by omega)]
  simp only [l_bs]
  rw [List.getElem_reverse]
  simp only [l_len]
 refine ⟨c,by omega,fun i hi hc => ?_,fun h => ?_,?_⟩
 ·rw [<- g i hi];exact h2 i (by omega) hc
 ·rw [<- g c h];exact h3 (by omega)
 ·rw [trimRightB_rev,List.length_reverse]
  rw [l_bs] at h4
  rw [h4,List.length_drop,List.length_reverse,l_len]
def zc (x : ByteArray) : Nat:=x.size - (Go.Lib.trimRightB (l x) 48).length
end Dig
theorem rzeros_any {x : ByteArray} (hx : x.size <= 1000000) (w : World) :
 Calls Tryd.prog 82 #[.string x] w fun e w' => e = .returned (.int .i64 (Dig.zc x)) /\ w = w':=by
 obtain ⟨c,h1,h2,h3,h4⟩:=Dig.trail x
 have hz : Dig.zc x = c:=by unfold Dig.zc;omega
 rw [hz]
 have H:=Lib.hid h2
 have HN:=Lib.hid h3
 clear h2 h3 h4 hz
 go_enter Tryd.func82,Tryd.ntmps82
 go_wp2_with fail
 go_loop [3] (fun i => ∃ k : Nat,k <= c /\ i = .int .i64 k) (fun i => x.size - (intOf i).toNat)
 case atStart => exact ⟨0,by omega,rfl⟩
 case round =>
  obtain ⟨k,hk,rfl⟩:=hrel
  have hk1 : (0 : Int) <= k:=by omega
  by_cases hkx : k < x.size
  ·have hk2 : (k : Int) < x.size:=by omega
   obtain ⟨m,hm,hmx⟩ : ∃ m : Nat,m = x.size - 1 - k /\ m < x.size:=⟨_,rfl,by omega⟩
   have em : (x.size : Int) - 1 - k = m:=by omega
   have hm1 : (m : Int) < x.size:=by omega
   have hm0 : (0 : Int) <= m:=by omega
   by_cases hkc : k < c
   ·have e:=H.out k hkx hkc
    have e2 : x[m].toNat = 48:=by subst hm;exact e
    have d1 : ((x[m].toNat : Int) == 48) = true:=beq_iff_eq.2 (by omega)
    clear e e2 hm
    go_wp2
    go_round
    case rel => exact ⟨k + 1,by omega,by go_num⟩
    case measure => simp [intOf];omega
   ·obtain rfl : k = c:=by omega
    have e:=HN.out hkx
    have e2 : x[m].toNat ≠ 48:=by subst hm;exact e
    have d1 : ((x[m].toNat : Int) == 48) = false:=beq_eq_false_iff_ne.2 (by omega)
    clear e e2 hm hkc
    go_wp2
    go_ret
    exact ⟨rfl,rfl⟩
  ·have d1 : decide (k < x.size) = false:=decide_eq_false (by omega)
   obtain rfl : k = c:=by omega
   clear hkx
   go_wp2
   go_ret
   exact ⟨rfl,rfl⟩
theorem dec_eql (a b : Bool) (s t : ByteArray) (e f : Int) (W : World) : (binOp .eql 23 (.agg #[.bool a,.string s,.int .i64 e]) (.agg #[.bool b,.string t,.int .i64 f])).run Tryd.prog W = .ok (.bool (decide ((a,s,e) = (b,t,f)))) W:=by
 by_cases h1 : a = b
 ·by_cases h2 : s = t
  ·by_cases h3 : e = f
   ·subst h1 h2 h3
    rw [decide_eq_true rfl]
    simp [go_sem]
   ·rw [decide_eq_false (fun k => h3 (by simpa using congrArg (·.2.2) k))]
    simp [go_sem,h1,h2,h3]
  ·have h2' : (s.toList == t.toList) = false:=by
    rw [beq_eq_false_iff_ne]
    intro k
    apply h2
    rw [Lib.toList_data,Lib.toList_data] at k
    exact ByteArray.ext (Array.ext' k)
   rw [decide_eq_false (fun k => h2 (by simpa using congrArg (·.2.1) k))]
   simp [go_sem,h1,h2']
 ·rw [decide_eq_false (fun k => h1 (by simpa using congrArg (·.1) k))]
  simp [go_sem,h1]
namespace Dec
def vd (n : Bool) (s : ByteArray) (e : Int) : Prop:=if s.size = 0 then n = false /\ e = 0 else Dig.vld s /\ s.size <= 120 /\ Dig.zc s = 0 /\ -400 <= e /\ e <= 400
instance (n : Bool) (s : ByteArray) (e : Int) : Decidable (vd n s e):=by unfold vd;infer_instance
theorem size_zero {s : ByteArray} (h : s.size = 0) : s = ⟨#[]⟩:=by
 apply ByteArray.ext
 exact Array.eq_empty_of_size_eq_zero h
end Dec
theorem rdvalid_any (n : Bool) {s : ByteArray} (hs : s.size <= maxLen) (e : Int) (w : World) :
 Calls Tryd.prog 72 #[.agg #[.bool n,.string s,.int .i64 e]] w fun r w' => r = .returned (.bool (decide (Dec.vd n s e))) /\ Below w.heap.size w w':=by
 have hb:=(Below.refl w.heap.size w).alloc (Nat.le_refl _) (.cells #[.bool n,.string s,.int .i64 e] 23)
 by_cases h0 : s.size = 0
 ·obtain rfl:=Dec.size_zero h0
  have hvd : Dec.vd n ⟨#[]⟩ e ↔ (n = false /\ e = 0):=by unfold Dec.vd;rw [if_pos h0]
  cases n
  ·obtain ⟨R,hR⟩ : ∃ R,decide (e = 0) = R:=⟨_,rfl⟩
   have e1 : decide (Dec.vd false ⟨#[]⟩ e) = R:=by
    rw [<- hR]
    exact decide_eq_decide.2 ⟨fun k => (hvd.1 k).2,fun k => hvd.2 ⟨rfl,k⟩⟩
   have e2 : (e == 0) = R:=by rw [<- hR];rfl
   rw [e1]
   clear hvd e1 h0 hs hR
   go_enter Tryd.func72,Tryd.ntmps72
   go_wp2
   go_ret
   exact ⟨rfl,hb⟩
  ·rw [decide_eq_false (fun k => by have:=(hvd.1 k).1;cases this)]
   clear hvd h0 hs
   go_enter Tryd.func72,Tryd.ntmps72
   go_wp2
   go_ret
   exact ⟨rfl,hb⟩
 have ne:=Dig.some_of (x:=s) (by omega)
 have HV:=Lib.hid (rdigs_any hs)
 have hvd : Dec.vd n s e ↔ (Dig.vld s /\ s.size <= 120 /\ Dig.zc s = 0 /\ -400 <= e /\ e <= 400):=by unfold Dec.vd;rw [if_neg h0]
 by_cases h2 : s.size <= 120
 case neg =>
  rw [decide_eq_false (fun k => h2 (hvd.1 k).2.1)]
  have d2 : decide ((s.size : Int) <= 120) = false:=decide_eq_false (by omega)
  clear hvd h0 hs h2
  go_enter Tryd.func72,Tryd.ntmps72
  go_wp2
  go_ret
  exact ⟨rfl,hb⟩
 have d2 : decide ((s.size : Int) <= 120) = true:=decide_eq_true (by omega)
 by_cases h1 : Dig.vld s
 case neg =>
  rw [decide_eq_false h1] at HV
  rw [decide_eq_false (fun k => h1 (hvd.1 k).1)]
  clear hvd h1 h0 hs h2
  go_enter Tryd.func72,Tryd.ntmps72
  go_wp2_with fail
  refine (HV.out _).mono ?_;rintro _ w1 ⟨rfl,rfl⟩
  go_wp2
  go_ret
  exact ⟨rfl,hb⟩
 rw [decide_eq_true h1] at HV
 have HZ:=Lib.hid (rzeros_any (x:=s) (by omega))
 have hz0 : (0 : Int) <= Dig.zc s:=by omega
 have hzl : Dig.zc s <= 1000000:=by unfold Dig.zc;omega
 by_cases h3 : Dig.zc s = 0
 case neg =>
  rw [decide_eq_false (fun k => h3 (hvd.1 k).2.2.1)]
  generalize Dig.zc s = z at *
  have d3 : ((z : Int) == 0) = false:=by rw [beq_eq_false_iff_ne];omega
  clear hvd h1 h0 hs h2 h3
  go_enter Tryd.func72,Tryd.ntmps72
  go_wp2_with fail
  refine (HV.out _).mono ?_;rintro _ w1 ⟨rfl,rfl⟩
  go_wp2_with fail
  refine (HZ.out _).mono ?_;rintro _ w1 ⟨rfl,rfl⟩
  go_wp2
  go_ret
  exact ⟨rfl,hb⟩
 rw [h3] at HZ
 by_cases h4 : -400 <= e
 case neg =>
  rw [decide_eq_false (fun k => h4 (hvd.1 k).2.2.2.1)]
  have d4 : decide (-400 <= e) = false:=decide_eq_false h4
  clear hvd h1 h0 hs h2 h3 h4 hz0 hzl
  go_enter Tryd.func72,Tryd.ntmps72
  go_wp2_with fail
  refine (HV.out _).mono ?_;rintro _ w1 ⟨rfl,rfl⟩
  go_wp2_with fail
  refine (HZ.out _).mono ?_;rintro _ w1 ⟨rfl,rfl⟩
  go_wp2
  go_ret
  exact ⟨rfl,hb⟩
 have d4 : decide (-400 <= e) = true:=decide_eq_true h4
 obtain ⟨R,hR⟩ : ∃ R,decide (e <= 400) = R:=⟨_,rfl⟩
 have e5 : decide (Dec.vd n s e) = R:=by
  rw [<- hR]
  exact decide_eq_decide.2 ⟨fun k => (hvd.1 k).2.2.2.2,fun k => hvd.2 ⟨h1,h2,h3,h4,k⟩⟩
 rw [e5]
 clear hvd h1 h0 hs h2 h3 h4 hz0 hzl e5
 go_enter Tryd.func72,Tryd.ntmps72
 go_wp2_with fail
 refine (HV.out _).mono ?_;rintro _ w1 ⟨rfl,rfl⟩
 go_wp2_with fail
 refine (HZ.out _).mono ?_;rintro _ w1 ⟨rfl,rfl⟩
 go_wp2
 go_ret
 exact ⟨rfl,hb⟩
end Go.Proofs.YtpcbhneaaibfiaaDoor
namespace Go.Proofs.YtpcbhneaaibfiaaDoor.Cal
def lp (y : Int) : Int:=if y % 4 = 0 /\ (y % 100 ≠ 0 ∨ y % 400 = 0) then 1 else 0
def dim (y m : Int) : Int:=if m = 2 then 28 + lp y else if m = 4 ∨ m = 6 ∨ m = 9 ∨ m = 11 then 30 else 31
def dby (y : Int) : Int:=365 * (y - 1) + (y - 1) / 4 - (y - 1) / 100 + (y - 1) / 400
def cum (y m : Int) : Int :=
 if m <= 1 then 0 else if m = 2 then 31 else lp y + (if m = 3 then 59 else if m = 4 then 90 else if m = 5 then 120 else if m = 6 then 151
  else if m = 7 then 181 else if m = 8 then 212 else if m = 9 then 243 else if m = 10 then 273 else if m = 11 then 304 else if m = 12 then 334 else 365)
def num (y m d : Int) : Int:=dby y + cum y m + d - 1
def Vld (y m d : Int) : Prop:=1 <= y /\ y <= 9999 /\ 1 <= m /\ m <= 12 /\ 1 <= d /\ d <= dim y m
def kn (n : Int) : Prop:=0 <= n /\ n <= 3652058
instance (n : Int) : Decidable (kn n):=by unfold kn;infer_instance
instance (y m d : Int) : Decidable (Vld y m d):=by unfold Vld;infer_instance
def low (a b : Int) : Int:=if a <= b then a else b
end Go.Proofs.YtpcbhneaaibfiaaDoor.Cal
namespace Go.Proofs.YtpcbhneaaibfiaaDoor
open Go.RowKit
namespace Mom
def Ok (k d n o : Int) : Prop:=(1 <= k /\ k <= 4 /\ 0 <= d /\ d <= 3652058 /\ 0 <= n /\ n <= 86399999999999 /\ -1439 <= o /\ o <= 1439) /\ (k = 2 -> d = 0) /\ (k = 1 -> n = 0) /\ (k ≠ 4 -> o = 0)
instance (k d n o : Int) : Decidable (Ok k d n o):=by unfold Ok;infer_instance
end Mom
def Mom.dated (k : Int) : Prop:=k = 1 ∨ k = 3 ∨ k = 4
def Mom.clocked (k : Int) : Prop:=k = 2 ∨ k = 3 ∨ k = 4
instance (k : Int) : Decidable (Mom.dated k):=by unfold Mom.dated;infer_instance
instance (k : Int) : Decidable (Mom.clocked k):=by unfold Mom.clocked;infer_instance
theorem dated_any (k : Int) (w : World) : Calls Tryd.prog 83 #[.int .i64 k] w fun e w' => e = .returned (.bool (decide (Mom.dated k))) /\ w = w':=by
 go_enter Tryd.func83,Tryd.ntmps83
 go_wp2
 all_goals
  go_ret
  refine ⟨congrArg (fun b => Ending.returned (Value.bool b)) ?_,rfl⟩
  rw [Bool.eq_iff_iff];simp [Mom.dated, *]
theorem clocked_any (k : Int) (w : World) : Calls Tryd.prog 84 #[.int .i64 k] w fun e w' => e = .returned (.bool (decide (Mom.clocked k))) /\ w = w':=by
 go_enter Tryd.func84,Tryd.ntmps84
 go_wp2
 all_goals
  go_ret
  refine ⟨congrArg (fun b => Ending.returned (Value.bool b)) ?_,rfl⟩
  rw [Bool.eq_iff_iff];simp [Mom.clocked, *]
theorem rtime_in (k d n o : Int) (hb : 1 <= k /\ k <= 4 /\ 0 <= d /\ d <= 3652058 /\ 0 <= n /\ n <= 86399999999999 /\ -1439 <= o /\ o <= 1439) (w : World) : Calls Tryd.prog 73 #[.agg #[.int .i64 k,.int .i64 d,.int .i64 n,.int .i64 o]] w fun e w' => e = .returned (.bool (decide (Mom.Ok k d n o))) /\ Below w.heap.size w w':=by
 obtain ⟨b1,b2,b3,b4,b5,b6,b7,b8⟩:=hb
 have hk : k = 1 ∨ k = 2 ∨ k = 3 ∨ k = 4:=by omega
 have q1 : decide (Mom.dated 1) = true:=rfl
 have q2 : decide (Mom.dated 2) = false:=rfl
 have q3 : decide (Mom.dated 3) = true:=rfl
 have q4 : decide (Mom.dated 4) = true:=rfl
 have r1 : decide (Mom.clocked 1) = false:=rfl
 have r2 : decide (Mom.clocked 2) = true:=rfl
 have r3 : decide (Mom.clocked 3) = true:=rfl
 have r4 : decide (Mom.clocked 4) = true:=rfl
 rcases hk with rfl | rfl | rfl | rfl
 all_goals
  clear b1 b2
  go_enter Tryd.func73,Tryd.ntmps73
  go_wp2_with (first | (go_at_call 83;refine (dated_any _ _).mono ?_;rintro e w1 ⟨rfl,rfl⟩) | (go_at_call 84;refine (clocked_any _ _).mono ?_;rintro e w1 ⟨rfl,rfl⟩))
 all_goals
  go_ret
  refine ⟨congrArg (fun b => Ending.returned (Value.bool b)) ?_,(Below.refl _ _).alloc (Nat.le_refl _) _⟩
  try simp only [beq_iff_eq,beq_eq_false_iff_ne,ne_eq] at *
  first
   | exact (decide_eq_false (by unfold Mom.Ok;omega)).symm
   | exact (decide_eq_true (by unfold Mom.Ok;omega)).symm
   | (rw [Bool.eq_iff_iff,beq_iff_eq,decide_eq_true_iff];unfold Mom.Ok;omega)
theorem rtime_out (k d n o : Int) (hb : ¬ (1 <= k /\ k <= 4 /\ 0 <= d /\ d <= 3652058 /\ 0 <= n /\ n <= 86399999999999 /\ -1439 <= o /\ o <= 1439)) (w : World) : Calls Tryd.prog 73 #[.agg #[.int .i64 k,.int .i64 d,.int .i64 n,.int .i64 o]] w fun e w' => e = .returned (.bool (decide (Mom.Ok k d n o))) /\ Below w.heap.size w w':=by
 have hd : decide (Mom.Ok k d n o) = false:=decide_eq_false (fun h => hb h.1)
 have hc : k < 1 ∨ 4 < k ∨ d < 0 ∨ 3652058 < d ∨ n < 0 ∨ 86399999999999 < n ∨ o < -1439 ∨ 1439 < o:=by omega
 rw [hd]
 clear hd hb
 rcases hc with h | h | h | h | h | h | h | h
 all_goals
  go_enter Tryd.func73,Tryd.ntmps73
  go_wp2_with fail
 all_goals
  first
   | omega
   | (go_ret;exact ⟨rfl,(Below.refl _ _).alloc (Nat.le_refl _) _⟩)
theorem rtime_any (k d n o : Int) (w : World) : Calls Tryd.prog 73 #[.agg #[.int .i64 k,.int .i64 d,.int .i64 n,.int .i64 o]] w fun e w' => e = .returned (.bool (decide (Mom.Ok k d n o))) /\ Below w.heap.size w w':=by
 by_cases hb : 1 <= k /\ k <= 4 /\ 0 <= d /\ d <= 3652058 /\ 0 <= n /\ n <= 86399999999999 /\ -1439 <= o /\ o <= 1439
 ·exact rtime_in k d n o hb w
 ·exact rtime_out k d n o hb w
end Go.Proofs.YtpcbhneaaibfiaaDoor
