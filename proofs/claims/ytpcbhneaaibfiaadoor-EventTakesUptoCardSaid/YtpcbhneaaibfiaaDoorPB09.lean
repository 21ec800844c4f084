/- Laid together. -/
import Derived.Test.YtpcbhneaaibfiaaDoorPB05
import Derived.Test.YtpcbhneaaibfiaaDoorPB07
import Derived.Test.YtpcbhneaaibfiaaDoorPB08
import Derived.Deep.RegionHeld3
import Derived.Deep.MidRow
set_option linter.unusedVariables false
set_option linter.unusedSimpArgs false
set_option maxHeartbeats 16000000
set_option maxRecDepth 100000
namespace Go.Proofs.YtpcbhneaaibfiaaDoor
open Go.ChangeShapes Go.WideShapes Go.Joins Go.Deep Go.RowKit
structure Fr where
 mp : Bool
 n : Nat
 K : Nat -> ByteArray
 M : Nat -> Vt
 key : ByteArray
 kd : Bool
instance : Inhabited Fr:=⟨⟨false,0,fun _ => ⟨#[]⟩,fun _ => .nil,⟨#[]⟩,false⟩⟩
structure Bst where
 d : Nat
 fr : Nat -> Fr
 dn : Bool
 out : Vt
 nd : Nat
 bad : Bool
def frc (k : Int) (l f : Value) (key : ByteArray) (kd : Bool) : Array Value:=#[.int .i64 k,.bool false,.bool false,.string ⟨#[]⟩,.int .i64 0,.int .i64 0,.int .i64 0,.int .i64 0,.int .i64 0,.string ⟨#[]⟩,.slice none 0 0,l,f,.string key,.bool kd]
def Fr.cells (f : Fr) (u : Value) : Array Value:=if f.mp = true then frc 7 (.slice none 0 0) u f.key f.kd else frc 6 u (.slice none 0 0) f.key f.kd
theorem Fr.cells_size (f : Fr) (u : Value) : (f.cells u).size = 15:=by unfold Fr.cells;split <;> rfl
def Fr.row (f : Fr) (B0 : Nat) (S : Nat -> Prop) (W : World) (u : Value) : Prop :=
 if f.mp = true then RowG fcs Prod.snd 14 76 B0 S (fun t x => x.1 = f.K t /\ x.2.Same (f.M t)) W u f.n
 else RowG (fun x : Vt => x.h.cells) id 13 30 B0 S (fun t X => X.Same (f.M t)) W u f.n
def FrRow (B0 : Nat) (W : World) (ov : Value) (d : Nat) (C : Nat -> Array Value) : Prop :=
 ∃ xs,W.ownsRow B0 98 15 ov d xs /\ ∀ i,i < d -> ∀ j,j < 15 -> xs[i * 15 + j]? = (C i)[j]?
def bcells (ov : Value) (dn : Bool) (g : Vh) (nd : Nat) (bad : Bool) : Array Value:=#[ov,.bool dn,.int .i64 g.k,.bool g.b,.bool g.n,.string g.d,.int .i64 g.e,.int .i64 g.tk,.int .i64 g.td,.int .i64 g.tn,.int .i64 g.tz,.string g.x,.slice g.ba g.bn g.bc,.slice g.la g.ln g.lc,.slice g.fa g.fn g.fc,.int .i64 nd,.bool bad]
structure Bst.ok (s : Bst) : Prop where
 d : s.d <= 48
 nd : s.nd <= 65536
 fr : ∀ i,i < s.d -> (s.fr i).n <= s.nd /\ (s.fr i).key.size <= 1048576 /\ ∀ j,j < (s.fr i).n -> ((s.fr i).K j).size <= 1048576 /\ ((s.fr i).M j).upto (48 - i)
 out : s.dn = true -> s.out.upto 49
structure BIn (B0 bb : Nat) (A O : Nat -> Prop) (W : World) (s : Bst) (ov : Value) (us : Nat -> Value) (X : Vt) : Prop where
 hO : ∀ b,O b ↔ (b = bb ∨ ov.ownBlock = some b ∨ ∃ i,i < s.d /\ (us i).ownBlock = some b)
 hA : ∀ b,O b -> A b
 box : Whole W bb 86 (bcells ov s.dn X.h s.nd s.bad)
 hB0 : B0 <= bb
 row : FrRow B0 W ov s.d (fun i => (s.fr i).cells (us i))
 rows : ∀ i,i < s.d -> (s.fr i).row B0 (fun b => A b /\ ¬ O b) W (us i)
 sep1 : ov.ownBlock ≠ some bb
 sep2 : ∀ i,i < s.d -> (us i).ownBlock ≠ some bb /\ ((us i).ownBlock = ov.ownBlock -> (us i).ownBlock = none)
 sep3 : ∀ i j,i < s.d -> j < s.d -> i ≠ j -> (us i).ownBlock = (us j).ownBlock -> (us i).ownBlock = none
 inn : X.In W W.heap.size
 off : X.Off (fun b => A b /\ ¬ O b)
 yes : s.dn = true -> X.Same s.out
 no : s.dn = false -> X = .z
 ok : s.ok
def BInv (B0 bb : Nat) (A O : Nat -> Prop) (W : World) (s : Bst) : Prop:=∃ ov us X,BIn B0 bb A O W s ov us X
theorem own_block {W W' : World} {B C n : Nat} {e : TypeId} {v : Value} {xs : List Value} (h : W.ownsRow B e C v n xs) (hv : ∀ g,v.ownBlock = some g -> W'.heap[g]? = W.heap[g]?) : W'.ownsRow B e C v n xs:=by
 obtain ⟨hl,h⟩:=h
 refine ⟨hl,?_⟩
 rcases h with h | ⟨g,cap,cur,rfl,hb,hh,hr⟩
 ·exact .inl h
 ·exact .inr ⟨g,cap,cur,rfl,hb,by rw [hv g rfl];exact hh,hr⟩
theorem own_lt {W : World} {B C n : Nat} {e : TypeId} {v : Value} {xs : List Value} (h : W.ownsRow B e C v n xs) {g : Nat} (hg : v.ownBlock = some g) : B <= g /\ g < W.heap.size:=h.lt g hg
theorem own_open {W : World} {B C n : Nat} {e : TypeId} {v : Value} {xs : List Value} (h : W.ownsRow B e C v n xs) (hn : 0 < n) :
 ∃ g c cur,v = .slice (some ⟨g,0,none⟩) n c /\ Whole W g e cur /\ B <= g /\ n <= c /\ c <= maxLen /\ cur.size = c * C /\ cur.toList.take (n * C) = xs:=by
 obtain ⟨hl,h⟩:=h
 rcases h with ⟨_,rfl⟩ | ⟨g,cap,cur,rfl,hb,hh,h1,h2,h3,h4⟩
 ·exact absurd hn (Nat.lt_irrefl _)
 ·exact ⟨g,cap,cur,rfl,hh,hb,h1,h2,h3,h4⟩
theorem own_shut {W : World} {B C n g c : Nat} {e : TypeId} {cur : Array Value} (hW : Whole W g e cur) (hB : B <= g) (h1 : n <= c) (h2 : c <= maxLen) (h3 : cur.size = c * C) : W.ownsRow B e C (.slice (some ⟨g,0,none⟩) n c) n (cur.toList.take (n * C)):=by
 have hle : n * C <= c * C:=Nat.mul_le_mul_right C h1
 exact ⟨by rw [List.length_take,Array.length_toList,h3];exact Nat.min_eq_left hle,.inr ⟨g,c,cur,rfl,hB,hW,h1,h2,h3,rfl⟩⟩
theorem take_get {cur : Array Value} {m j : Nat} (h : j < m) : (cur.toList.take m)[j]? = cur[j]?:=by
 rw [List.getElem?_take_of_lt h,Array.getElem?_toList]
theorem FrRow.op {B0 d : Nat} {W : World} {ov : Value} {C : Nat -> Array Value} (h : FrRow B0 W ov d C) (hd : 0 < d) :
 ∃ o c cur,ov = .slice (some ⟨o,0,none⟩) d c /\ Whole W o 98 cur /\ B0 <= o /\ d <= c /\ c <= maxLen /\ cur.size = c * 15 /\ ∀ i,i < d -> ∀ j,j < 15 -> cur[i * 15 + j]? = (C i)[j]?:=by
 obtain ⟨xs,ho,hx⟩:=h
 obtain ⟨o,c,cur,rfl,hW,hB,h1,h2,h3,h4⟩:=own_open ho hd
 refine ⟨o,c,cur,rfl,hW,hB,h1,h2,h3,fun i hi j hj => ?_⟩
 have hlt : i * 15 + j < d * 15:=by omega
 rw [<- hx i hi j hj,<- h4,take_get hlt]
theorem FrRow.sh {B0 d o c : Nat} {W : World} {C : Nat -> Array Value} {cur : Array Value} (hW : Whole W o 98 cur) (hB : B0 <= o) (h1 : d <= c) (h2 : c <= maxLen) (h3 : cur.size = c * 15) (hC : ∀ i,i < d -> ∀ j,j < 15 -> cur[i * 15 + j]? = (C i)[j]?) :
 FrRow B0 W (.slice (some ⟨o,0,none⟩) d c) d C :=
 ⟨_,own_shut hW hB h1 h2 h3,fun i hi j hj => by rw [take_get (by omega)];exact hC i hi j hj⟩
theorem FrRow.slice {B0 d : Nat} {W : World} {ov : Value} {C : Nat -> Array Value} (h : FrRow B0 W ov d C) : ∃ a c,ov = .slice a d c:=by
 obtain ⟨xs,⟨_,h⟩,_⟩:=h
 rcases h with ⟨rfl,rfl⟩ | ⟨g,cap,cur,rfl,_⟩
 ·exact ⟨_,_,rfl⟩
 ·exact ⟨_,_,rfl⟩
theorem FrRow.block {B0 d : Nat} {W W' : World} {ov : Value} {C : Nat -> Array Value} (h : FrRow B0 W ov d C) (hv : ∀ g,ov.ownBlock = some g -> W'.heap[g]? = W.heap[g]?) : FrRow B0 W' ov d C:=by
 obtain ⟨xs,ho,hx⟩:=h
 exact ⟨xs,own_block ho hv,hx⟩
theorem FrRow.lt {B0 d : Nat} {W : World} {ov : Value} {C : Nat -> Array Value} (h : FrRow B0 W ov d C) {g : Nat} (hg : ov.ownBlock = some g) : B0 <= g /\ g < W.heap.size:=by
 obtain ⟨xs,ho,_⟩:=h
 exact own_lt ho hg
theorem FrRow.congr {B0 d : Nat} {W : World} {ov : Value} {C C' : Nat -> Array Value} (h : FrRow B0 W ov d C) (hC : ∀ i,i < d -> C i = C' i) : FrRow B0 W ov d C':=by
 obtain ⟨xs,ho,hx⟩:=h
 exact ⟨xs,ho,fun i hi j hj => by rw [hx i hi j hj,hC i hi]⟩
section
variable {α : Type} {cs : α -> Array Value} {tr : α -> Vt} {C : Nat} {e : TypeId} {B : Nat} {S S' : Nat -> Prop} {q : Nat -> α -> Prop} {W W' : World} {v : Value} {k : Nat}
theorem RowG.block (h : RowG cs tr C e B S q W v k) (hv : ∀ g,v.ownBlock = some g -> W'.heap[g]? = W.heap[g]?) (hz : W.heap.size <= W'.heap.size) (hS : ∀ b,b < W.heap.size -> S b -> some b ≠ v.ownBlock -> W'.heap[b]? = W.heap[b]?) : RowG cs tr C e B S q W' v k:=by
 obtain ⟨f,ho,hf⟩:=h
 exact ⟨f,own_block ho hv,fun i hi => ⟨Vt.In.turn (fun b hb hlt => ⟨hS b hlt hb.1 hb.2,Nat.lt_of_lt_of_le hlt hz⟩) (hf i hi).1 (hf i hi).2.1,(hf i hi).2⟩⟩
theorem RowG.weak (h : RowG cs tr C e B S q W v k) (hS : ∀ b,b < W.heap.size -> some b ≠ v.ownBlock -> S b -> S' b) : RowG cs tr C e B S' q W v k:=by
 obtain ⟨f,ho,hf⟩:=h
 exact ⟨f,ho,fun i hi => ⟨(hf i hi).1,((hf i hi).2.1.and (hf i hi).1.off).mono (fun b hb => ⟨hS b hb.2 hb.1.2 hb.1.1,hb.1.2⟩),(hf i hi).2.2⟩⟩
theorem RowG.lt (h : RowG cs tr C e B S q W v k) {g : Nat} (hg : v.ownBlock = some g) : B <= g /\ g < W.heap.size:=by
 obtain ⟨f,ho,_⟩:=h
 exact own_lt ho hg
theorem RowG.sl (h : RowG cs tr C e B S q W v k) : ∃ a c,v = .slice a k c:=by
 obtain ⟨f,⟨_,h⟩,_⟩:=h
 rcases h with ⟨rfl,rfl⟩ | ⟨g,cap,cur,rfl,_⟩
 ·exact ⟨_,_,rfl⟩
 ·exact ⟨_,_,rfl⟩
end
theorem Fr.row_block {f : Fr} {B0 : Nat} {S : Nat -> Prop} {W W' : World} {u : Value} (h : f.row B0 S W u) (hv : ∀ g,u.ownBlock = some g -> W'.heap[g]? = W.heap[g]?) (hz : W.heap.size <= W'.heap.size) (hS : ∀ b,b < W.heap.size -> S b -> some b ≠ u.ownBlock -> W'.heap[b]? = W.heap[b]?) : f.row B0 S W' u:=by
 unfold Fr.row at h ⊢
 split at h
 ·rename_i c;rw [if_pos c];exact h.block hv hz hS
 ·rename_i c;rw [if_neg c];exact h.block hv hz hS
theorem Fr.row_weak {f : Fr} {B0 : Nat} {S S' : Nat -> Prop} {W : World} {u : Value} (h : f.row B0 S W u) (hS : ∀ b,b < W.heap.size -> some b ≠ u.ownBlock -> S b -> S' b) : f.row B0 S' W u:=by
 unfold Fr.row at h ⊢
 split at h
 ·rename_i c;rw [if_pos c];exact h.weak hS
 ·rename_i c;rw [if_neg c];exact h.weak hS
theorem Fr.row_lt {f : Fr} {B0 : Nat} {S : Nat -> Prop} {W : World} {u : Value} (h : f.row B0 S W u) {g : Nat} (hg : u.ownBlock = some g) : B0 <= g /\ g < W.heap.size:=by
 unfold Fr.row at h
 split at h
 ·exact h.lt hg
 ·exact h.lt hg
theorem Fr.row_sl {f : Fr} {B0 : Nat} {S : Nat -> Prop} {W : World} {u : Value} (h : f.row B0 S W u) : ∃ a c,u = .slice a f.n c:=by
 unfold Fr.row at h
 split at h
 ·exact h.sl
 ·exact h.sl
theorem BIn.keep {B0 bb : Nat} {A O T : Nat -> Prop} {W W' : World} {s : Bst} {ov : Value} {us : Nat -> Value} {X : Vt} (h : BIn B0 bb A O W s ov us X) (hk : Kept T W W') (hA : ∀ b,A b -> ¬ T b) : BIn B0 bb A O W' s ov us X:=by
 have hO : ∀ b,O b -> ¬ T b:=fun b hb => hA b (h.hA b hb)
 have hbb : O bb:=(h.hO bb).2 (.inl rfl)
 refine { h with
  box:=(hk.block bb h.box.lt (hO bb hbb)).trans h.box
  row:=h.row.block fun g hg => hk.block g (h.row.lt hg).2 (hO g ((h.hO g).2 (.inr (.inl hg))))
  rows:=fun i hi => Fr.row_block (h.rows i hi) (fun g hg => hk.block g (Fr.row_lt (h.rows i hi) hg).2 (hO g ((h.hO g).2 (.inr (.inr ⟨i,hi,hg⟩))))) hk.size (fun b hb hs _ => hk.block b hb (hA b hs.1))
  inn:=Vt.In.turn (S:=fun b => A b /\ ¬ O b) (fun b hb hlt => ⟨hk.block b hlt (hA b hb.1),Nat.lt_of_lt_of_le hlt hk.size⟩) h.inn h.off }
theorem BInv.keep {B0 bb : Nat} {A O T : Nat -> Prop} {W W' : World} {s : Bst} (h : BInv B0 bb A O W s) (hk : Kept T W W') (hA : ∀ b,A b -> ¬ T b) : BInv B0 bb A O W' s:=by
 obtain ⟨ov,us,X,h⟩:=h
 exact ⟨ov,us,X,h.keep hk hA⟩
theorem kept_below {W W' : World} (h : Below W.heap.size W W') : Kept (fun _ => False) W W':=⟨h.os,h.tape,h.output,h.size,fun k hk _ => h.block k hk⟩
theorem BIn.later {B0 bb : Nat} {A O : Nat -> Prop} {W W' : World} {s : Bst} {ov : Value} {us : Nat -> Value} {X : Vt} (h : BIn B0 bb A O W s ov us X) (hb : Below W.heap.size W W') : BIn B0 bb A O W' s ov us X:=h.keep (kept_below hb) (fun _ _ q => q)
theorem BInv.later {B0 bb : Nat} {A O : Nat -> Prop} {W W' : World} {s : Bst} (h : BInv B0 bb A O W s) (hb : Below W.heap.size W W') : BInv B0 bb A O W' s:=h.keep (kept_below hb) (fun _ _ q => q)
theorem BIn.more {B0 bb : Nat} {A A' O : Nat -> Prop} {W : World} {s : Bst} {ov : Value} {us : Nat -> Value} {X : Vt} (h : BIn B0 bb A O W s ov us X) (hA : ∀ b,A b -> A' b) : BIn B0 bb A' O W s ov us X :=
 { h with
  hA:=fun b hb => hA b (h.hA b hb)
  rows:=fun i hi => Fr.row_weak (h.rows i hi) (fun b _ _ hb => ⟨hA b hb.1,hb.2⟩)
  off:=h.off.mono (fun b hb => ⟨hA b hb.1,hb.2⟩) }
theorem BIn.O_lt {B0 bb : Nat} {A O : Nat -> Prop} {W : World} {s : Bst} {ov : Value} {us : Nat -> Value} {X : Vt} (h : BIn B0 bb A O W s ov us X) {b : Nat} (hb : O b) : B0 <= b /\ b < W.heap.size:=by
 rcases (h.hO b).1 hb with rfl | hb | ⟨i,hi,hb⟩
 ·exact ⟨h.hB0,h.box.lt⟩
 ·exact h.row.lt hb
 ·exact Fr.row_lt (h.rows i hi) hb
theorem kept_set (X : Nat -> Prop) (W : World) (b i : Nat) (u : Value) (hb : X b) : Kept X W (W.setCell ⟨b,i,none⟩ u):=⟨rfl,rfl,rfl,by simp,fun k _ hn => Below.heap_setCell _ _ _ _ (by intro e;exact hn (by rw [e];exact hb))⟩
theorem kept_grown {X : Nat -> Prop} {W W' : World} {row : Option Nat} (hg : W.grownBy W' row) (hX : ∀ g,row = some g -> X g) : Kept X W W':=⟨hg.os,hg.tape,hg.output,hg.size,fun k hk hn => hg.block k hk (fun e => hn (hX _ e.symm))⟩
theorem Kept.weak {O O' : Nat -> Prop} {W W' : World} (h : Kept O W W') (ho : ∀ b,O b -> O' b) : Kept O' W W':=⟨h.os,h.tape,h.output,h.size,fun k hk hn => h.block k hk (fun q => hn (ho k q))⟩
section
variable {B0 bb : Nat} {A O : Nat -> Prop} {W W' : World} {s s' : Bst} {ov : Value} {us : Nat -> Value} {X : Vt}
theorem BIn.Obb (h : BIn B0 bb A O W s ov us X) : O bb:=(h.hO bb).2 (.inl rfl)
theorem BIn.Oov (h : BIn B0 bb A O W s ov us X) {g : Nat} (hg : ov.ownBlock = some g) : O g:=(h.hO g).2 (.inr (.inl hg))
theorem BIn.Ous (h : BIn B0 bb A O W s ov us X) {i g : Nat} (hi : i < s.d) (hg : (us i).ownBlock = some g) : O g:=(h.hO g).2 (.inr (.inr ⟨i,hi,hg⟩))
theorem BIn.rebox (h : BIn B0 bb A O W s ov us X) (hk : Kept (fun b => b = bb) W W') (hbox : Whole W' bb 86 (bcells ov s'.dn X.h s'.nd s'.bad)) (e1 : s'.d = s.d) (e2 : s'.fr = s.fr) (e3 : s'.dn = s.dn) (e4 : s'.out = s.out) (hok : s'.ok) :
 BIn B0 bb A O W' s' ov us X:=by
 obtain ⟨d,fr,dn,out,nd,bad⟩:=s
 obtain ⟨d',fr',dn',out',nd',bad'⟩:=s'
 dsimp only at e1 e2 e3 e4 hbox
 subst e1 e2 e3 e4
 exact {
  hO:=h.hO
  hA:=h.hA
  box:=hbox
  hB0:=h.hB0
  row:=h.row.block fun g hg => hk.block g (h.row.lt hg).2 (fun e => h.sep1 (by rw [hg,e]))
  rows:=fun i hi => Fr.row_block (h.rows i hi) (fun g hg => hk.block g (Fr.row_lt (h.rows i hi) hg).2 (fun e => (h.sep2 i hi).1 (by rw [hg,e]))) hk.size (fun b hb hs _ => hk.block b hb (fun e => hs.2 (by rw [e];exact h.Obb)))
  sep1:=h.sep1
  sep2:=h.sep2
  sep3:=h.sep3
  inn:=Vt.In.turn (S:=fun b => A b /\ ¬ O b) (fun b hb hlt => ⟨hk.block b hlt (fun e => hb.2 (by rw [e];exact h.Obb)),Nat.lt_of_lt_of_le hlt hk.size⟩) h.inn h.off
  off:=h.off
  yes:=h.yes
  no:=h.no
  ok:=hok }
theorem BIn.putOut {V Y : Vt} (h : BIn B0 bb A O W s ov us X) (hd : s.d = 0) (hY : Y.In W W.heap.size) (hYo : Y.Off (fun b => A b /\ ¬ O b)) (hYs : Y.Same V) (hk : Kept (fun b => b = bb) W W') (hbox : Whole W' bb 86 (bcells ov true Y.h s.nd s.bad)) (hu : V.upto 49) :
 BIn B0 bb A O W' { s with dn:=true,out:=V } ov us Y:=by
 exact {
  hO:=h.hO
  hA:=h.hA
  box:=hbox
  hB0:=h.hB0
  row:=h.row.block fun g hg => hk.block g (h.row.lt hg).2 (fun e => h.sep1 (by rw [hg,e]))
  rows:=fun i hi => absurd (show i < s.d from hi) (by omega)
  sep1:=h.sep1
  sep2:=h.sep2
  sep3:=h.sep3
  inn:=Vt.In.turn (S:=fun b => A b /\ ¬ O b) (fun b hb hlt => ⟨hk.block b hlt (fun e => hb.2 (by rw [e];exact h.Obb)),Nat.lt_of_lt_of_le hlt hk.size⟩) hY hYo
  off:=hYo
  yes:=fun _ => hYs
  no:=fun q => by cases q
  ok:=⟨h.ok.d,h.ok.nd,h.ok.fr,fun _ => hu⟩ }
def upd {α : Type} (f : Nat -> α) (i : Nat) (x : α) : Nat -> α:=fun j => if j = i then x else f j
theorem upd_same {α : Type} (f : Nat -> α) (i : Nat) (x : α) : upd f i x i = x:=if_pos rfl
theorem upd_other {α : Type} {f : Nat -> α} {i j : Nat} {x : α} (h : j ≠ i) : upd f i x j = f j:=if_neg h
def Own (bb : Nat) (ov : Value) (us : Nat -> Value) (d : Nat) : Nat -> Prop:=fun b => b = bb ∨ ov.ownBlock = some b ∨ ∃ i,i < d /\ (us i).ownBlock = some b
theorem BIn.top {i : Nat} {f' : Fr} {u' : Value} (h : BIn B0 bb A O W s ov us X) (hi : s.d = i + 1) (hk : Kept (fun b => ov.ownBlock = some b ∨ (us i).ownBlock = some b) W W')
 (hrow : FrRow B0 W' ov s.d (fun j => if j = i then f'.cells u' else (s.fr j).cells (us j)))
 (hu : u'.ownBlock = (us i).ownBlock ∨ ∀ g,u'.ownBlock = some g -> W.heap.size <= g)
 (hf : f'.row B0 (fun b => (A b ∨ u'.ownBlock = some b) /\ ¬ Own bb ov (upd us i u') s.d b) W' u')
 (hok : Bst.ok { s with fr:=upd s.fr i f' }) :
 BIn B0 bb (fun b => A b ∨ u'.ownBlock = some b) (Own bb ov (upd us i u') s.d) W' { s with fr:=upd s.fr i f' } ov (upd us i u') X:=by
 have hi' : i < s.d:=by omega
 have hbbk : ¬ (ov.ownBlock = some bb ∨ (us i).ownBlock = some bb):=fun q => by
  rcases q with q | q
  ·exact h.sep1 q
  ·exact (h.sep2 i hi').1 q
 -- what is not written before is not written behind,if it lay there
 have hnew : ∀ b,b < W.heap.size -> ¬ O b -> ¬ Own bb ov (upd us i u') s.d b:=fun b hb hn q => by
  rcases q with q | q | ⟨j,hj,q⟩
  ·exact hn (by rw [q];exact h.Obb)
  ·exact hn (h.Oov q)
  ·by_cases e : j = i
   ·subst e
    rw [upd_same] at q
    rcases hu with hu | hu
    ·rw [hu] at q;exact hn (h.Ous hj q)
    ·have:=hu b q;omega
   ·rw [upd_other e] at q;exact hn (h.Ous hj q)
 have hrowj : ∀ j,j < s.d -> j ≠ i -> (s.fr j).row B0 (fun b => (A b ∨ u'.ownBlock = some b) /\ ¬ Own bb ov (upd us i u') s.d b) W' (us j):=fun j hj hji => by
  have r:=Fr.row_block (h.rows j hj) (W':=W') (fun g hg => hk.block g (Fr.row_lt (h.rows j hj) hg).2 (fun q => by
   rcases q with q | q
   ·have:=(h.sep2 j hj).2 (by rw [hg,q]);rw [hg] at this;cases this
   ·have:=h.sep3 j i hj hi' hji (by rw [hg,q]);rw [hg] at this;cases this)) hk.size
   (fun b hb hs _ => hk.block b hb (fun q => by
    rcases q with q | q
    ·exact hs.2 (h.Oov q)
    ·exact hs.2 (h.Ous hi' q)))
  -- the trees lie below W.heap.size
  unfold Fr.row at r ⊢
  have r0:=h.rows j hj
  unfold Fr.row at r0
  split at r
  ·rename_i c
   rw [if_pos c] at r0
   rw [if_pos c]
   obtain ⟨f,ho,hf⟩:=r0
   exact ⟨f,own_block ho (fun g hg => hk.block g (own_lt ho hg).2 (fun q => by
    rcases q with q | q
    ·have:=(h.sep2 j hj).2 (by rw [hg,q]);rw [hg] at this;cases this
    ·have:=h.sep3 j i hj hi' hji (by rw [hg,q]);rw [hg] at this;cases this)),fun t ht => ⟨Vt.In.turn (S:=fun b => A b /\ ¬ O b) (fun b hb hlt => ⟨hk.block b hlt (fun q => by
     rcases q with q | q
     ·exact hb.2 (h.Oov q)
     ·exact hb.2 (h.Ous hi' q)),Nat.lt_of_lt_of_le hlt hk.size⟩) (hf t ht).1 ((hf t ht).2.1.mono fun b hb => hb.1),(((hf t ht).2.1.and (hf t ht).1.off)).mono (fun b hb => ⟨⟨.inl hb.1.1.1,hnew b hb.2 hb.1.1.2⟩,hb.1.2⟩),(hf t ht).2.2⟩⟩
  ·rename_i c
   rw [if_neg c] at r0
   rw [if_neg c]
   obtain ⟨f,ho,hf⟩:=r0
   exact ⟨f,own_block ho (fun g hg => hk.block g (own_lt ho hg).2 (fun q => by
    rcases q with q | q
    ·have:=(h.sep2 j hj).2 (by rw [hg,q]);rw [hg] at this;cases this
    ·have:=h.sep3 j i hj hi' hji (by rw [hg,q]);rw [hg] at this;cases this)),fun t ht => ⟨Vt.In.turn (S:=fun b => A b /\ ¬ O b) (fun b hb hlt => ⟨hk.block b hlt (fun q => by
     rcases q with q | q
     ·exact hb.2 (h.Oov q)
     ·exact hb.2 (h.Ous hi' q)),Nat.lt_of_lt_of_le hlt hk.size⟩) (hf t ht).1 ((hf t ht).2.1.mono fun b hb => hb.1),(((hf t ht).2.1.and (hf t ht).1.off)).mono (fun b hb => ⟨⟨.inl hb.1.1.1,hnew b hb.2 hb.1.1.2⟩,hb.1.2⟩),(hf t ht).2.2⟩⟩
 have hub : u'.ownBlock ≠ some bb:=fun q => by
  rcases hu with hu | hu
  ·rw [hu] at q;exact (h.sep2 i hi').1 q
  ·have:=hu bb q;have:=h.box.lt;omega
 exact {
  hO:=fun b => Iff.rfl
  hA:=fun b hb => by
   rcases hb with rfl | q | ⟨j,hj,q⟩
   ·exact .inl (h.hA _ h.Obb)
   ·exact .inl (h.hA _ (h.Oov q))
   ·by_cases e : j = i
    ·subst e;rw [upd_same] at q;exact .inr q
    ·rw [upd_other e] at q;exact .inl (h.hA _ (h.Ous hj q))
  box:=(hk.block bb h.box.lt hbbk).trans h.box
  hB0:=h.hB0
  row:=hrow.congr fun j hj => by
   by_cases e : j = i
   ·subst e;rw [if_pos rfl];show _ = (upd s.fr j f' j).cells (upd us j u' j);rw [upd_same,upd_same]
   ·rw [if_neg e];show _ = (upd s.fr i f' j).cells (upd us i u' j);rw [upd_other e,upd_other e]
  rows:=fun j hj => by
   by_cases e : j = i
   ·subst e
    show (upd s.fr j f' j).row B0 _ W' (upd us j u' j)
    rw [upd_same,upd_same]
    exact hf
   ·show (upd s.fr i f' j).row B0 _ W' (upd us i u' j)
    rw [upd_other e,upd_other e]
    exact hrowj j hj e
  sep1:=h.sep1
  sep2:=fun j hj => by
   by_cases e : j = i
   ·subst e
    rw [upd_same]
    refine ⟨hub,fun q => ?_⟩
    rcases hu with hu | hu
    ·rw [hu] at q ⊢;exact (h.sep2 j hi').2 q
    ·cases hg : u'.ownBlock with
     | none => rfl
     | some g =>
      have h1:=hu g hg
      rw [hg] at q
      have:=(h.row.lt q.symm).2
      omega
   ·rw [upd_other e];exact h.sep2 j hj
  sep3:=fun j t hj ht hjt q => by
   by_cases e : j = i
   ·subst e
    rw [upd_same] at q ⊢
    rw [upd_other (fun z => hjt z.symm)] at q
    rcases hu with hu | hu
    ·rw [hu] at q ⊢;exact h.sep3 j t hj ht hjt q
    ·cases hg : u'.ownBlock with
     | none => rfl
     | some g =>
      have h1:=hu g hg
      rw [hg] at q
      have:=(Fr.row_lt (h.rows t ht) q.symm).2
      omega
   ·rw [upd_other e] at q ⊢
    by_cases e2 : t = i
    ·subst e2
     rw [upd_same] at q
     rcases hu with hu | hu
     ·rw [hu] at q;exact h.sep3 j t hj ht hjt q
     ·cases hg : (us j).ownBlock with
      | none => rfl
      | some g =>
       have h1:=hu g (by rw [<- q];exact hg)
       have:=(Fr.row_lt (h.rows j hj) hg).2
       omega
    ·rw [upd_other e2] at q;exact h.sep3 j t hj ht hjt q
  inn:=Vt.In.turn (S:=fun b => A b /\ ¬ O b) (fun b hb hlt => ⟨hk.block b hlt (fun q => by
   rcases q with q | q
   ·exact hb.2 (h.Oov q)
   ·exact hb.2 (h.Ous hi' q)),Nat.lt_of_lt_of_le hlt hk.size⟩) h.inn h.off
  off:=(h.off.and h.inn.off).mono fun b hb => ⟨.inl hb.1.1,hnew b hb.2 hb.1.2⟩
  yes:=h.yes
  no:=h.no
  ok:=hok }
end
def frV (f : Fr) : Vt:=if f.mp = true then .mk (Vh.fld 7 none f.n f.n 0) (fun _ => 0) (fun _ => .nil) f.K f.M else .mk (Vh.lst 6 none f.n f.n 0) (fun _ => 0) f.M (fun _ => ⟨#[]⟩) (fun _ => .nil)
theorem row_nil {f : Fr} {B0 : Nat} {S : Nat -> Prop} {W : World} (h : f.n = 0) : f.row B0 S W (.slice none 0 0):=by
 unfold Fr.row
 rw [h]
 split
 ·exact RowG.nil
 ·exact RowG.nil
section
variable {B0 bb : Nat} {A O : Nat -> Prop} {W W' : World} {s s' : Bst} {ov ov' : Value} {us : Nat -> Value} {X : Vt}
theorem RowG.move {α : Type} {cs : α -> Array Value} {tr : α -> Vt} {C : Nat} {e : TypeId} {S S' T : Nat -> Prop} {q : Nat -> α -> Prop} {v : Value} {k : Nat} (h : RowG cs tr C e B0 S q W v k) (hk : Kept T W W') (hv : ∀ g,v.ownBlock = some g -> ¬ T g) (hS : ∀ b,b < W.heap.size -> S b -> some b ≠ v.ownBlock -> ¬ T b /\ S' b) : RowG cs tr C e B0 S' q W' v k:=by
 obtain ⟨f,ho,hf⟩:=h
 refine ⟨f,own_block ho (fun g hg => hk.block g (own_lt ho hg).2 (hv g hg)),fun t ht => ?_⟩
 have h2:=(hf t ht).2.1.and (hf t ht).1.off
 exact ⟨Vt.In.turn (S:=fun b => (S b /\ some b ≠ v.ownBlock) /\ b < W.heap.size) (fun b hb hlt => ⟨hk.block b hlt (hS b hlt hb.1.1 hb.1.2).1,Nat.lt_of_lt_of_le hlt hk.size⟩) (hf t ht).1 h2,h2.mono (fun b hb => ⟨(hS b hb.2 hb.1.1 hb.1.2).2,hb.1.2⟩),(hf t ht).2.2⟩
theorem Fr.row_move {f : Fr} {S S' T : Nat -> Prop} {u : Value} (h : f.row B0 S W u) (hk : Kept T W W') (hu : ∀ g,u.ownBlock = some g -> ¬ T g) (hS : ∀ b,b < W.heap.size -> S b -> some b ≠ u.ownBlock -> ¬ T b /\ S' b) : f.row B0 S' W' u:=by
 unfold Fr.row at h ⊢
 split at h
 ·rename_i c;rw [if_pos c];exact h.move hk hu hS
 ·rename_i c;rw [if_neg c];exact h.move hk hu hS
theorem BIn.push {f0 : Fr} (h : BIn B0 bb A O W s ov us X) (hk : Kept (fun b => b = bb ∨ ov.ownBlock = some b) W W') (hbox : Whole W' bb 86 (bcells ov' s.dn X.h s.nd s.bad))
 (hrow : FrRow B0 W' ov' (s.d + 1) (fun j => if j = s.d then f0.cells (.slice none 0 0) else (s.fr j).cells (us j))) (hv : ov'.ownBlock = ov.ownBlock ∨ ∀ g,ov'.ownBlock = some g -> W.heap.size <= g) (h0 : f0.n = 0)
 (hok : Bst.ok { s with d:=s.d + 1,fr:=upd s.fr s.d f0 }) :
 BIn B0 bb (fun b => A b ∨ ov'.ownBlock = some b) (Own bb ov' (upd us s.d (.slice none 0 0)) (s.d + 1)) W' { s with d:=s.d + 1,fr:=upd s.fr s.d f0 } ov' (upd us s.d (.slice none 0 0)) X:=by
 have hold : ∀ j,j < s.d -> upd us s.d (.slice none 0 0) j = us j:=fun j hj => upd_other (by omega)
 have hnew : ∀ b,b < W.heap.size -> ¬ O b -> ¬ Own bb ov' (upd us s.d (.slice none 0 0)) (s.d + 1) b:=fun b hb hn q => by
  rcases q with q | q | ⟨j,hj,q⟩
  ·exact hn (by rw [q];exact h.Obb)
  ·rcases hv with hv | hv
   ·rw [hv] at q;exact hn (h.Oov q)
   ·have:=hv b q;omega
  ·by_cases e : j = s.d
   ·subst e;rw [upd_same] at q;cases q
   ·rw [upd_other e] at q;exact hn (h.Ous (by omega) q)
 have hbb' : ov'.ownBlock ≠ some bb:=fun q => by
  rcases hv with hv | hv
  ·rw [hv] at q;exact h.sep1 q
  ·have:=hv bb q;have:=h.box.lt;omega
 have hov : ∀ j,j < s.d -> (us j).ownBlock = ov'.ownBlock -> (us j).ownBlock = none:=fun j hj q => by
  rcases hv with hv | hv
  ·rw [hv] at q;exact (h.sep2 j hj).2 q
  ·cases hg : (us j).ownBlock with
   | none => rfl
   | some g =>
    have h1:=hv g (by rw [<- q];exact hg)
    have:=(Fr.row_lt (h.rows j hj) hg).2
    omega
 exact {
  hO:=fun b => Iff.rfl
  hA:=fun b hb => by
   rcases hb with rfl | q | ⟨j,hj,q⟩
   ·exact .inl (h.hA _ h.Obb)
   ·exact .inr q
   ·by_cases e : j = s.d
    ·subst e;rw [upd_same] at q;cases q
    ·rw [upd_other e] at q;exact .inl (h.hA _ (h.Ous (by omega) q))
  box:=hbox
  hB0:=h.hB0
  row:=hrow.congr fun j hj => by
   by_cases e : j = s.d
   ·subst e;rw [if_pos rfl];show _ = (upd s.fr s.d f0 s.d).cells (upd us s.d _ s.d);rw [upd_same,upd_same]
   ·rw [if_neg e];show _ = (upd s.fr s.d f0 j).cells (upd us s.d _ j);rw [upd_other e,upd_other e]
  rows:=fun j hj => by
   by_cases e : j = s.d
   ·subst e
    show (upd s.fr s.d f0 s.d).row B0 _ W' (upd us s.d _ s.d)
    rw [upd_same,upd_same]
    exact row_nil h0
   ·show (upd s.fr s.d f0 j).row B0 _ W' (upd us s.d _ j)
    rw [upd_other e,upd_other e]
    have hj' : j < s.d:=by have q : j < s.d + 1:=hj;omega
    exact Fr.row_move (h.rows j hj') hk (fun g hg q => by
     rcases q with q | q
     ·exact (h.sep2 j hj').1 (by rw [hg,q])
     ·have:=(h.sep2 j hj').2 (by rw [hg,q]);rw [hg] at this;cases this) (fun b hb hs _ => ⟨fun q => q.elim (fun q => hs.2 (by rw [q];exact h.Obb)) (fun q => hs.2 (h.Oov q)),.inl hs.1,hnew b hb hs.2⟩)
  sep1:=hbb'
  sep2:=fun j hj => by
   by_cases e : j = s.d
   ·subst e;rw [upd_same];exact ⟨(fun q => by cases q),fun _ => rfl⟩
   ·have hj' : j < s.d:=by have q : j < s.d + 1:=hj;omega
    rw [upd_other e]
    exact ⟨(h.sep2 j hj').1,hov j hj'⟩
  sep3:=fun j t hj ht hjt q => by
   by_cases e : j = s.d
   ·subst e;rw [upd_same];rfl
   ·have hj' : j < s.d:=by have q : j < s.d + 1:=hj;omega
    rw [upd_other e] at q ⊢
    by_cases e2 : t = s.d
    ·subst e2;rw [upd_same] at q;exact q
    ·have ht' : t < s.d:=by have q : t < s.d + 1:=ht;omega
     rw [upd_other e2] at q
     exact h.sep3 j t hj' ht' hjt q
  inn:=Vt.In.turn (S:=fun b => A b /\ ¬ O b) (fun b hb hlt => ⟨hk.block b hlt (fun q => by
   rcases q with q | q
   ·exact hb.2 (by rw [q];exact h.Obb)
   ·exact hb.2 (h.Oov q)),Nat.lt_of_lt_of_le hlt hk.size⟩) h.inn h.off
  off:=(h.off.and h.inn.off).mono fun b hb => ⟨.inl hb.1.1,hnew b hb.2 hb.1.2⟩
  yes:=h.yes
  no:=h.no
  ok:=hok }
theorem fr_value {f : Fr} {S : Nat -> Prop} {u : Value} (h : f.row B0 S W u) (hn : f.n <= 1048576) (hK : ∀ j,j < f.n -> (f.K j).size <= 1048576) :
 ∃ Y : Vt,f.cells u = Y.h.cells ++ #[.string f.key,.bool f.kd] /\ Y.In W W.heap.size /\ Y.Off (fun b => S b ∨ u.ownBlock = some b) /\ Y.Same (frV f):=by
 unfold Fr.row at h
 unfold Fr.cells frV
 split at h
 ·rename_i c
  rw [if_pos c,if_pos c]
  obtain ⟨g,a,cp,b,rfl,hcc,ha,hrows⟩:=h.done fcs_size
  refine ⟨.mk (Vh.fld 7 a f.n cp b) (fun _ => 0) (fun _ => .nil) (fun j => (g j).1) (fun j => (g j).2),rfl,fld_in (K:=fun j => (g j).1) (M:=fun j => (g j).2) ⟨by decide,by decide⟩ hn hcc (fun q => ⟨(ha q).1,(ha q).2.2⟩) (fun j hj => ⟨(hrows j hj).1,by rw [(hrows j hj).2.2.2.1];exact hK j hj,(hrows j hj).2.1⟩),?_,?_⟩
  ·exact ⟨fun q => absurd q (Nat.lt_irrefl _),fun q => absurd q (Nat.lt_irrefl _),fun i hi => absurd hi (Nat.not_lt_zero _),fun q => .inr (by rw [(ha q).1];rfl),fun j hj => (hrows j hj).2.2.1.mono fun b hb => .inl hb⟩
  ·exact ⟨(fun e => by cases e),⟨rfl,rfl,rfl,rfl,rfl,rfl,rfl,rfl,rfl,rfl,rfl,rfl,rfl⟩,fun i hi => absurd hi (Nat.not_lt_zero _),fun i hi => absurd hi (Nat.not_lt_zero _),fun j hj => (hrows j hj).2.2.2⟩
 ·rename_i c
  rw [if_neg c,if_neg c]
  obtain ⟨g,a,cp,b,rfl,hcc,ha,hrows⟩:=h.done (fun x : Vt => vh_size x.h)
  refine ⟨.mk (Vh.lst 6 a f.n cp b) (fun _ => 0) g (fun _ => ⟨#[]⟩) (fun _ => .nil),rfl,lst_in ⟨by decide,by decide⟩ hn hcc (fun q => ⟨(ha q).1,(ha q).2.2⟩) (fun j hj => ⟨(hrows j hj).1,(hrows j hj).2.1⟩),?_,?_⟩
  ·exact ⟨fun q => absurd q (Nat.lt_irrefl _),fun q => .inr (by rw [(ha q).1];rfl),fun j hj => (hrows j hj).2.2.1.mono fun b hb => .inl hb,fun q => absurd q (Nat.lt_irrefl _),fun i hi => absurd hi (Nat.not_lt_zero _)⟩
  ·exact ⟨(fun e => by cases e),⟨rfl,rfl,rfl,rfl,rfl,rfl,rfl,rfl,rfl,rfl,rfl,rfl,rfl⟩,fun i hi => absurd hi (Nat.not_lt_zero _),fun j hj => (hrows j hj).2.2.2,fun i hi => absurd hi (Nat.not_lt_zero _)⟩
theorem BIn.pop {d o c : Nat} (h : BIn B0 bb A O W s ov us X) (hd : s.d = d + 1) (hov : ov = .slice (some ⟨o,0,none⟩) (d + 1) c) (hk : Kept (fun b => b = bb) W W') (hbox : Whole W' bb 86 (bcells (.slice (some ⟨o,0,none⟩) d c) s.dn X.h s.nd s.bad)) :
 BIn B0 bb A (Own bb (.slice (some ⟨o,0,none⟩) d c) us d) W' { s with d:=d } (.slice (some ⟨o,0,none⟩) d c) us X /\ (∀ b,Own bb (.slice (some ⟨o,0,none⟩) d c) us d b -> O b) /\
  ∃ Y : Vt,(s.fr d).cells (us d) = Y.h.cells ++ #[.string (s.fr d).key,.bool (s.fr d).kd] /\ Y.In W' W'.heap.size /\ Y.Off (fun b => A b /\ ¬ Own bb (.slice (some ⟨o,0,none⟩) d c) us d b) /\ Y.Same (frV (s.fr d)):=by
 have hdd : d < s.d:=by omega
 have hblk : ov.ownBlock = (Value.slice (some ⟨o,0,none⟩) d c).ownBlock:=by rw [hov];rfl
 have hsub : ∀ b,Own bb (.slice (some ⟨o,0,none⟩) d c) us d b -> O b:=fun b hb => by
  rcases hb with rfl | q | ⟨j,hj,q⟩
  ·exact h.Obb
  ·exact h.Oov (by rw [hblk];exact q)
  ·exact h.Ous (by omega) q
 have hnoW : ∀ j,j < s.d -> ∀ g,(us j).ownBlock = some g -> ¬ g = bb:=fun j hj g hg e => (h.sep2 j hj).1 (by rw [hg,e])
 obtain ⟨Y,y1,y2,y3,y4⟩:=fr_value (h.rows d hdd) (by have:=(h.ok.fr d hdd).1;have:=h.ok.nd;omega) (fun j hj => ((h.ok.fr d hdd).2.2 j hj).1)
 refine ⟨?_,hsub,Y,y1,?_,?_,y4⟩
 ·exact {
   hO:=fun b => Iff.rfl
   hA:=fun b hb => h.hA b (hsub b hb)
   box:=hbox
   hB0:=h.hB0
   row:=by
    have r:=h.row
    rw [hd] at r
    obtain ⟨o',c',cur,e,hW,hB,h1,h2,h3,h4⟩:=r.op (Nat.succ_pos _)
    rw [hov] at e
    injection e with e1 e2 e3
    have e1 : o = o':=by injection e1 with e1;injection e1
    subst e1 e3
    exact FrRow.sh ((hk.block o hW.lt (fun e => h.sep1 (by rw [hov,<- e];rfl))).trans hW) hB (by omega) h2 h3 (fun i hi j hj => h4 i (by omega) j hj)
   rows:=fun j hj => by
    have hj' : j < d:=hj
    exact Fr.row_move (h.rows j (by omega)) hk (fun g hg q => hnoW j (by omega) g hg q) (fun b hb hs _ => ⟨fun q => hs.2 (by rw [q];exact h.Obb),hs.1,fun q => hs.2 (hsub b q)⟩)
   sep1:=by rw [<- hblk];exact h.sep1
   sep2:=fun j hj => ⟨(h.sep2 j (Nat.lt_trans hj hdd)).1,fun q => (h.sep2 j (Nat.lt_trans hj hdd)).2 (by rw [hblk];exact q)⟩
   sep3:=fun j t hj ht hjt q => h.sep3 j t (Nat.lt_trans hj hdd) (Nat.lt_trans ht hdd) hjt q
   inn:=Vt.In.turn (S:=fun b => A b /\ ¬ O b) (fun b hb hlt => ⟨hk.block b hlt (fun q => hb.2 (by rw [q];exact h.Obb)),Nat.lt_of_lt_of_le hlt hk.size⟩) h.inn h.off
   off:=h.off.mono fun b hb => ⟨hb.1,fun q => hb.2 (hsub b q)⟩
   yes:=h.yes
   no:=h.no
   ok:=⟨by have:=h.ok.d;show d <= 48;omega,h.ok.nd,fun i hi => h.ok.fr i (Nat.lt_trans hi hdd),h.ok.out⟩ }
 ·exact Vt.In.turn (S:=fun b => (A b /\ ¬ O b) ∨ (us d).ownBlock = some b) (fun b hb hlt => ⟨hk.block b hlt (fun q => by
   rcases hb with hb | hb
   ·exact hb.2 (by rw [q];exact h.Obb)
   ·exact hnoW d hdd b hb q),Nat.lt_of_lt_of_le hlt hk.size⟩) y2 y3
 ·refine y3.mono fun b hb => ?_
  rcases hb with hb | hb
  ·exact ⟨hb.1,fun q => hb.2 (hsub b q)⟩
  ·refine ⟨h.hA b (h.Ous hdd hb),fun q => ?_⟩
   rcases q with q | q | ⟨j,hj,q⟩
   ·exact hnoW d hdd b hb q
   ·have:=(h.sep2 d hdd).2 (by rw [hb,hblk,q]);rw [hb] at this;cases this
   ·have:=h.sep3 d j hdd (by omega) (by omega) (by rw [hb,q]);rw [hb] at this;cases this
end
end Go.Proofs.YtpcbhneaaibfiaaDoor
namespace Go.Proofs.YtpcbhneaaibfiaaDoor
open Go.RowKit
def putS (s : Bst) (V : Vt) : Bst :=
 if s.d = 0 then { s with dn:=true,out:=V }
 else if (s.fr (s.d - 1)).mp = true then { s with fr:=upd s.fr (s.d - 1) ⟨true,(s.fr (s.d - 1)).n + 1,upd (s.fr (s.d - 1)).K (s.fr (s.d - 1)).n (s.fr (s.d - 1)).key,upd (s.fr (s.d - 1)).M (s.fr (s.d - 1)).n V,⟨#[]⟩,false⟩ }
 else { s with fr:=upd s.fr (s.d - 1) ⟨false,(s.fr (s.d - 1)).n + 1,upd (s.fr (s.d - 1)).K (s.fr (s.d - 1)).n ⟨#[]⟩,upd (s.fr (s.d - 1)).M (s.fr (s.d - 1)).n V,(s.fr (s.d - 1)).key,(s.fr (s.d - 1)).kd⟩ }
def BOut (B0 bb : Nat) (A O : Nat -> Prop) (W : World) (s' : Bst) (v : Value) (e : Ending) (W' : World) : Prop :=
 e = .returned v /\ ∃ A' O',BInv B0 bb A' O' W' s' /\ (∀ b,A' b -> A b ∨ W.heap.size <= b) /\ (∀ b,O' b -> O b ∨ W.heap.size <= b) /\ Kept O W W'
theorem setN_bout (ov : Value) (dn : Bool) (g h : Vh) (nd : Nat) (bad : Bool) : (setN (bcells ov dn g nd bad) 2 h.cells.toList).setIfInBounds 1 (.bool true) = bcells ov true h nd bad:=by
 simp [setN,bcells,Vh.cells]
theorem kept_cells (X : Nat -> Prop) (b : Nat) (hb : X b) : ∀ (vs : List Value) (W : World) (o : Nat),Kept X W (W.setCells b o vs):=by
 intro vs
 induction vs with
 | nil => intro W o;exact Kept.refl _ _
 | cons v r ih => intro W o;exact (kept_set X W b o v hb).trans (ih (W.setCell ⟨b,o,none⟩ v) (o + 1)) (fun b hb => .inl hb)
theorem kept_after {T O : Nat -> Prop} {W W1 W' : World} (hb : Below W.heap.size W W1) (hk : Kept T W1 W') (hO : ∀ b,T b -> O b ∨ W.heap.size <= b) : Kept O W W' :=
 ⟨hk.os.trans hb.os,hk.tape.trans hb.tape,hk.output.trans hb.output,Nat.le_trans hb.size hk.size,fun k h1 hn => (hk.block k (Nat.lt_of_lt_of_le h1 hb.size) (fun q => by
  rcases hO k q with q | q
  ·exact hn q
  ·omega)).trans (hb.block k h1)⟩
theorem put_out {B0 bb : Nat} {A O : Nat -> Prop} {W : World} {s : Bst} {Y V : Vt} (h : BInv B0 bb A O W s) (hd : s.d = 0) (hY : Y.In W W.heap.size) (hYo : Y.Off (fun b => A b /\ ¬ O b)) (hYs : Y.Same V) (hu : V.upto 49) :
 Calls Tryd.prog 48 #[.pointer (some ⟨bb,0,none⟩),.agg Y.h.cells] W (BOut B0 bb A O W (putS s V) (.tuple #[])):=by
 obtain ⟨ov,us,X,h⟩:=h
 have hb1:=(Below.refl W.heap.size W).alloc (Nat.le_refl _) (.cells Y.h.cells 30)
 have h1:=h.later hb1
 have hY1:=hY.later hb1
 have YB:=Whole.new W 30 Y.h.cells
 have hbb:=h.box.lt
 have PB : Whole (W.alloc (.cells Y.h.cells 30)) bb 86 (bcells ov s.dn X.h s.nd s.bad):=h1.box
 obtain ⟨a,c,hov⟩:=h.row.slice
 rw [hd] at hov
 have HF : Hid (∀ W',Kept (fun b => b = bb) (W.alloc (.cells Y.h.cells 30)) W' -> Whole W' bb 86 (bcells ov true Y.h s.nd s.bad) -> BOut B0 bb A O W (putS s V) (.tuple #[]) (.returned (.tuple #[])) W'):=Lib.hid fun W' hk hbx => by
  refine ⟨rfl,A,O,⟨ov,us,Y,?_⟩,fun b q => .inl q,fun b q => .inl q,?_⟩
  ·have:=h1.putOut hd hY1 hYo hYs hk hbx hu
   unfold putS
   rw [if_pos hd]
   exact this
  ·exact kept_after hb1 hk (fun b q => .inl (by rw [q];exact h.Obb))
 subst hov
 have p0 : World.cell? _ ⟨bb,0,none⟩ = some (.slice a 0 c):=PB.cell 0
 have HTh : Hid (World.there (W.alloc (.cells Y.h.cells 30)) bb 2 Y.h.cells.size):=Lib.hid (whole_there PB (by rw [vh_size];show 2 + 13 <= 17;decide))
 have hone:=Lib.hid (vh_all Y.h)
 obtain ⟨x0,x1,x2,x3,x4,x5,x6,x7,x8,x9,x10,x11,x12⟩:=Whole.c13 (h:=Y.h) YB
 have PB2:=Whole.setCells Y.h.cells.toList 2 PB
 have HK2:=Lib.hid (kept_cells (fun b => b = bb) bb rfl Y.h.cells.toList (W.alloc (.cells Y.h.cells 30)) 2)
 obtain ⟨w2,hw2⟩ : ∃ w2,(W.alloc (.cells Y.h.cells 30)).setCells bb 2 Y.h.cells.toList = w2:=⟨_,rfl⟩
 rw [hw2] at PB2 HK2
 have f1:=PB2.frozen 1
 have c1 : w2.cell? ⟨bb,1,none⟩ = some (.bool s.dn):=(PB2.cell 1).trans ((setN_out _ _ _ _ (.inl (by decide))).trans rfl)
 have HP2:=Lib.hid (PB2.set 1 (.bool true))
 have HW2:=Lib.hid hw2
 clear h h1 hb1 hY hY1 hYo hYs hu hd PB PB2 YB hw2
 simp only [Vh.cells] at p0 x0 x1 x2 x3 x4 x5 x6 x7 x8 x9 x10 x11 x12 HTh HK2 hone HW2 ⊢
 go_enter Tryd.func48,Tryd.ntmps48
 go_wp2_with (refine wpList_store_mid rfl 30 _ _ rfl bb 2 #[.int .i64 Y.h.k,.bool Y.h.b,.bool Y.h.n,.string Y.h.d,.int .i64 Y.h.e,.int .i64 Y.h.tk,.int .i64 Y.h.td,.int .i64 Y.h.tn,.int .i64 Y.h.tz,.string Y.h.x,.slice Y.h.ba Y.h.bn Y.h.bc,.slice Y.h.la Y.h.ln Y.h.lc,.slice Y.h.fa Y.h.fn Y.h.fc] rfl rfl HTh.out vh_row hone.out ?_;rw [HW2.out])
 go_end0
 exact HF.out _ (HK2.out.trans (kept_set (fun b => b = bb) _ bb 1 (.bool true) rfl) (fun b q => .inl q)) (by have q:=HP2.out;rw [setN_bout] at q;exact q)
end Go.Proofs.YtpcbhneaaibfiaaDoor
