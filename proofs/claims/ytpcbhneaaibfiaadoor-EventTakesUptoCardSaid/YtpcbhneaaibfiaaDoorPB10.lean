/- Laid together. -/
import Derived.Test.YtpcbhneaaibfiaaDoorPB09
import Derived.Deep.Cut
import Derived.Deep.DeepCutAuto
import Derived.Test.YtpcbhneaaibfiaaDoorPB07
import Derived.Test.YtpcbhneaaibfiaaDoorPB08
import Derived.Test.YtpcbhneaaibfiaaDoorPB01
set_option linter.unusedVariables false
set_option linter.unusedSimpArgs false
set_option maxHeartbeats 16000000
set_option maxRecDepth 100000
namespace Go.Proofs.YtpcbhneaaibfiaaDoor
open Go.RowKit
theorem own_fill {W : World} {B C k g c : Nat} {e : TypeId} {xs zs vs : List Value} (h : W.ownsRow B e C (.slice (some ⟨g,0,none⟩) (k + 1) c) (k + 1) (xs ++ zs)) (hx : xs.length = k * C) (hv : vs.length = C) :
 ∃ cur,Whole W g e cur /\ k * C + C <= cur.size /\ B <= g /\ ∀ W',Whole W' g e (setN cur (k * C) vs) -> W'.ownsRow B e C (.slice (some ⟨g,0,none⟩) (k + 1) c) (k + 1) (xs ++ vs):=by
 obtain ⟨g',c',cur,ev,hW,hB,h1,h2,h3,h4⟩:=own_open h (Nat.succ_pos _)
 injection ev with e1 e2 e3
 have e1 : g = g':=by injection e1 with e1;injection e1
 subst e1 e3
 have hkc : k * C + C <= c * C:=by rw [<- Nat.succ_mul];exact Nat.mul_le_mul_right C h1
 refine ⟨cur,hW,by rw [h3];exact hkc,hB,fun W' hW' => ?_⟩
 have key : xs ++ vs = (setN cur (k * C) vs).toList.take ((k + 1) * C):=by
  apply List.ext_getElem?
  intro j
  by_cases hj : j < (k + 1) * C
  ·rw [take_get hj]
   by_cases hjk : j < k * C
   ·rw [setN_out _ _ _ _ (.inl hjk),List.getElem?_append_left (by omega),<- take_get hj,h4,List.getElem?_append_left (by omega)]
   ·have hlt : j - k * C < vs.length:=by rw [hv,Nat.succ_mul] at *;omega
    rw [List.getElem?_append_right (by omega),hx]
    have:=setN_in vs cur (k * C) (j - k * C) (by rw [hv,h3];exact hkc) hlt
    rw [<- this,show k * C + (j - k * C) = j by omega]
  ·have hl : (xs ++ vs).length = (k + 1) * C:=by rw [List.length_append,hx,hv,Nat.succ_mul]
   rw [List.getElem?_eq_none (by omega),List.getElem?_eq_none (by rw [List.length_take];omega)]
 rw [key]
 exact own_shut hW' hB h1 h2 (by rw [setN_size];exact h3)
theorem RowG.one {α : Type} {cs : α -> Array Value} {tr : α -> Vt} {C : Nat} {e : TypeId} {B k g c : Nat} {S S' T : Nat -> Prop} {q : Nat -> α -> Prop} {W W' : World} {v : Value} {f : Nat -> α} {x : α}
 (hf : ∀ i,i < k -> (tr (f i)).In W W.heap.size /\ (tr (f i)).Off (fun b => S b /\ some b ≠ v.ownBlock) /\ q i (f i)) (hx : (tr x).In W W.heap.size) (hxo : (tr x).Off S) (hq : q k x)
 (hk : Kept T W W') (hS : ∀ b,b < W.heap.size -> S b -> ¬ T b /\ S' b) (hS2 : ∀ b,b < W.heap.size -> S b -> b ≠ g)
 (ho : W'.ownsRow B e C (.slice (some ⟨g,0,none⟩) (k + 1) c) (k + 1) (catN (fun i => cs (f i)) k ++ (cs x).toList)) :
 RowG cs tr C e B S' q W' (.slice (some ⟨g,0,none⟩) (k + 1) c) (k + 1):=by
 refine ⟨fun i => if i = k then x else f i,?_,fun i hi => ?_⟩
 ·have e1 : catN (fun i => cs (if i = k then x else f i)) (k + 1) = catN (fun i => cs (f i)) k ++ (cs x).toList:=by
   show catN (fun i => cs (if i = k then x else f i)) k ++ (cs (if k = k then x else f k)).toList = _
   rw [catN_congr (g:=fun i => cs (f i)) (fun i hi => by rw [if_neg (by omega)]),if_pos rfl]
  rw [e1]
  exact ho
 ·have key : ∀ {y : α},(tr y).In W W.heap.size -> (tr y).Off S -> (tr y).In W' W'.heap.size /\ (tr y).Off (fun b => S' b /\ some b ≠ (Value.slice (some ⟨g,0,none⟩) (k + 1) c).ownBlock):=by
   intro y h1 h2
   have h3:=h2.and h1.off
   exact ⟨Vt.In.turn (S:=fun b => S b /\ b < W.heap.size) (fun b hb hlt => ⟨hk.block b hlt (hS b hlt hb.1).1,Nat.lt_of_lt_of_le hlt hk.size⟩) h1 h3,h3.mono fun b hb => ⟨(hS b hb.2 hb.1).2,fun e => hS2 b hb.2 hb.1 (Option.some.inj e)⟩⟩
  by_cases hik : i = k
  ·subst hik
   simp only [if_true]
   exact ⟨(key hx hxo).1,(key hx hxo).2,hq⟩
  ·simp only [if_neg hik]
   obtain ⟨h1,h2,h3⟩:=hf i (by omega)
   exact ⟨(key h1 (h2.mono fun b hb => hb.1)).1,(key h1 (h2.mono fun b hb => hb.1)).2,h3⟩
section
variable {B0 bb : Nat} {A O : Nat -> Prop} {W W0 W' : World} {s : Bst} {ov : Value} {us : Nat -> Value} {X Y V : Vt}
theorem FrRow.turn {d o c i : Nat} {C C' : Nat -> Array Value} {cur cur' : Array Value} (hW : Whole W' o 98 cur') (hB : B0 <= o) (h1 : d <= c) (h2 : c <= maxLen) (h3 : cur.size = c * 15) (hC : ∀ i,i < d -> ∀ j,j < 15 -> cur[i * 15 + j]? = (C i)[j]?)
 (hs : cur'.size = cur.size) (ho : ∀ j,(j < i * 15 ∨ i * 15 + 15 <= j) -> cur'[j]? = cur[j]?) (hi : ∀ j,j < 15 -> cur'[i * 15 + j]? = (C' i)[j]?) (hC' : ∀ t,t < d -> t ≠ i -> C t = C' t) :
 FrRow B0 W' (.slice (some ⟨o,0,none⟩) d c) d C' :=
 FrRow.sh hW hB h1 h2 (by rw [hs];exact h3) fun t ht j hj => by
  by_cases e : t = i
  ·subst e;exact hi j hj
  ·rw [ho _ (by omega),hC t ht j hj,hC' t ht e]
theorem BIn.put_end {i g c o : Nat} {f' : Fr} (h : BIn B0 bb A O W0 s ov us X) (hb : Below W.heap.size W W0) (hi : s.d = i + 1) (ho : ov.ownBlock = some o)
 (hk : Kept (fun b => b = o ∨ (us i).ownBlock = some b) W0 W') (hg : (us i).ownBlock = some g ∨ W0.heap.size <= g)
 (hrow : FrRow B0 W' ov s.d (fun j => if j = i then f'.cells (.slice (some ⟨g,0,none⟩) f'.n c) else (s.fr j).cells (us j)))
 (hf : ∀ S' : Nat -> Prop,(∀ b,b < W0.heap.size -> A b /\ ¬ O b -> S' b) -> f'.row B0 S' W' (.slice (some ⟨g,0,none⟩) f'.n c))
 (hok : Bst.ok { s with fr:=upd s.fr i f' }) :
 ∃ A' O',BInv B0 bb A' O' W' { s with fr:=upd s.fr i f' } /\ (∀ b,A' b -> A b ∨ W.heap.size <= b) /\ (∀ b,O' b -> O b ∨ W.heap.size <= b) /\ Kept O W W':=by
 have hi' : i < s.d:=by omega
 have hu : (Value.slice (some ⟨g,0,none⟩) f'.n c).ownBlock = (us i).ownBlock ∨ ∀ b,(Value.slice (some ⟨g,0,none⟩) f'.n c).ownBlock = some b -> W0.heap.size <= b:=by
  rcases hg with hg | hg
  ·exact .inl hg.symm
  ·exact .inr fun b e => by cases e;exact hg
 have hk' : Kept (fun b => ov.ownBlock = some b ∨ (us i).ownBlock = some b) W0 W':=hk.more fun b q => q.imp (fun e => by rw [ho,e]) id
 have hOg : O g ∨ W.heap.size <= g:=by
  rcases hg with hg | hg
  ·exact .inl (h.Ous hi' hg)
  ·exact .inr (Nat.le_trans hb.size hg)
 refine ⟨_,_,⟨ov,_,X,h.top hi hk' hrow hu (hf _ fun b hlt hb => ⟨.inl hb.1,fun q => ?_⟩) hok⟩,fun b q => ?_,fun b q => ?_,kept_after hb hk' fun b q => ?_⟩
 ·rcases q with q | q | ⟨j,hj,q⟩
  ·exact hb.2 (by rw [q];exact h.Obb)
  ·exact hb.2 (h.Oov q)
  ·by_cases e : j = i
   ·subst e
    rw [upd_same] at q
    rcases hu with hu | hu
    ·rw [hu] at q;exact hb.2 (h.Ous hj q)
    ·have:=hu b q;omega
   ·rw [upd_other e] at q;exact hb.2 (h.Ous hj q)
 ·rcases q with q | q
  ·exact .inl q
  ·cases q
   exact hOg.imp (h.hA _) id
 ·rcases q with q | q | ⟨j,hj,q⟩
  ·exact .inl (by rw [q];exact h.Obb)
  ·exact .inl (h.Oov q)
  ·by_cases e : j = i
   ·subst e
    rw [upd_same] at q
    cases q
    exact hOg
   ·rw [upd_other e] at q;exact .inl (h.Ous hj q)
 ·rcases q with q | q
  ·exact .inl (h.Oov q)
  ·exact .inl (h.Ous hi' q)
end
theorem cells_list {f : Fr} {u : Value} (hm : f.mp = false) : f.cells u = frc 6 u (.slice none 0 0) f.key f.kd:=by unfold Fr.cells;rw [hm];rfl
theorem cells_map {f : Fr} {u : Value} (hm : f.mp = true) : f.cells u = frc 7 (.slice none 0 0) u f.key f.kd:=by unfold Fr.cells;rw [hm];rfl
def oneL (f : Fr) (V : Vt) : Fr:=⟨false,f.n + 1,upd f.K f.n ⟨#[]⟩,upd f.M f.n V,f.key,f.kd⟩
def oneF (f : Fr) (V : Vt) : Fr:=⟨true,f.n + 1,upd f.K f.n f.key,upd f.M f.n V,⟨#[]⟩,false⟩
theorem putS_list {s : Bst} {V : Vt} {i : Nat} (hi : s.d = i + 1) (hm : (s.fr i).mp = false) : putS s V = { s with fr:=upd s.fr i (oneL (s.fr i) V) }:=by
 unfold putS
 rw [if_neg (by omega),show s.d - 1 = i by omega,if_neg (by rw [hm];decide)]
 rfl
theorem putS_map {s : Bst} {V : Vt} {i : Nat} (hi : s.d = i + 1) (hm : (s.fr i).mp = true) : putS s V = { s with fr:=upd s.fr i (oneF (s.fr i) V) }:=by
 unfold putS
 rw [if_neg (by omega),show s.d - 1 = i by omega,if_pos hm]
 rfl
theorem ok_upd {s : Bst} {i : Nat} {f : Fr} (h : s.ok) (hf : f.n <= s.nd /\ f.key.size <= 1048576 /\ ∀ j,j < f.n -> (f.K j).size <= 1048576 /\ (f.M j).upto (48 - i)) : Bst.ok { s with fr:=upd s.fr i f } :=
 ⟨h.d,h.nd,fun t ht => by
  have e0 : ({ s with fr:=upd s.fr i f } : Bst).fr t = upd s.fr i f t:=rfl
  rw [e0]
  by_cases e : t = i
  ·subst e
   rw [upd_same]
   exact hf
  ·rw [upd_other e]
   exact h.fr t ht,h.out⟩
theorem ok_list {s : Bst} {V : Vt} {i : Nat} (h : s.ok) (hi : i < s.d) (hn : (s.fr i).n + 1 <= s.nd) (hV : V.upto (48 - i)) : Bst.ok { s with fr:=upd s.fr i (oneL (s.fr i) V) } :=
 ok_upd h ⟨hn,(h.fr i hi).2.1,fun j hj => by
  have hj : j < (s.fr i).n + 1:=hj
  by_cases e : j = (s.fr i).n
  ·subst e;show (upd (s.fr i).K (s.fr i).n ⟨#[]⟩ (s.fr i).n).size <= _ /\ (upd (s.fr i).M (s.fr i).n V (s.fr i).n).upto _;rw [upd_same,upd_same];exact ⟨by simp [ByteArray.size],hV⟩
  ·show (upd (s.fr i).K (s.fr i).n ⟨#[]⟩ j).size <= _ /\ (upd (s.fr i).M (s.fr i).n V j).upto _;rw [upd_other e,upd_other e];exact (h.fr i hi).2.2 j (by omega)⟩
theorem ok_map {s : Bst} {V : Vt} {i : Nat} (h : s.ok) (hi : i < s.d) (hn : (s.fr i).n + 1 <= s.nd) (hV : V.upto (48 - i)) : Bst.ok { s with fr:=upd s.fr i (oneF (s.fr i) V) } :=
 ok_upd h ⟨hn,(by show (⟨#[]⟩ : ByteArray).size <= _;simp [ByteArray.size]),fun j hj => by
  have hj : j < (s.fr i).n + 1:=hj
  by_cases e : j = (s.fr i).n
  ·subst e;show (upd (s.fr i).K (s.fr i).n (s.fr i).key (s.fr i).n).size <= _ /\ (upd (s.fr i).M (s.fr i).n V (s.fr i).n).upto _;rw [upd_same,upd_same];exact ⟨(h.fr i hi).2.1,hV⟩
  ·show (upd (s.fr i).K (s.fr i).n (s.fr i).key j).size <= _ /\ (upd (s.fr i).M (s.fr i).n V j).upto _;rw [upd_other e,upd_other e];exact (h.fr i hi).2.2 j (by omega)⟩
theorem size_one (f : Fr) (u : Value) (C : Array Value) {i : Nat} (hs : i * 15 + 15 <= C.size) (hC : ∀ j,j < 15 -> C[i * 15 + j]? = (f.cells u)[j]?) (k : Nat) (hk : k < 15) (v : Value) (D : Array Value) (hD : (f.cells u).setIfInBounds k v = D) :
 ∀ j,j < 15 -> (C.setIfInBounds (i * 15 + k) v)[i * 15 + j]? = D[j]?:=fun j hj => by
 subst hD
 rw [Array.getElem?_setIfInBounds,Array.getElem?_setIfInBounds,hC j hj,Fr.cells_size]
 by_cases e : k = j
 ·subst e;rw [if_pos rfl,if_pos rfl,if_pos (by omega),if_pos hk]
 ·rw [if_neg (by omega),if_neg e]
theorem list_end {B0 bb : Nat} {A O : Nat -> Prop} {W W0 W' : World} {s : Bst} {ov : Value} {us : Nat -> Value} {X Y V : Vt} {i o co g c : Nat} {cur : Array Value} {f : Nat -> Vt}
 (h : BIn B0 bb A O W0 s ov us X) (hb : Below W.heap.size W W0) (hi : s.d = i + 1) (hm : (s.fr i).mp = false) (hn : (s.fr i).n + 1 <= s.nd) (hY : Y.In W0 W0.heap.size) (hYo : Y.Off (fun b => A b /\ ¬ O b)) (hYs : Y.Same V) (hV : V.upto (48 - i))
 (eo : ov = .slice (some ⟨o,0,none⟩) s.d co) (hB : B0 <= o) (hd : s.d <= co) (hco : co <= maxLen) (hcs : cur.size = co * 15) (hcur : ∀ t,t < s.d -> ∀ j,j < 15 -> cur[t * 15 + j]? = ((s.fr t).cells (us t))[j]?)
 (hf : ∀ t,t < (s.fr i).n -> (f t).In W0 W0.heap.size /\ (f t).Off (fun b => (A b /\ ¬ O b) /\ some b ≠ (us i).ownBlock) /\ (f t).Same ((s.fr i).M t))
 (hk : Kept (fun b => b = o ∨ (us i).ownBlock = some b) W0 W') (hg : (us i).ownBlock = some g ∨ W0.heap.size <= g) (hW : Whole W' o 98 (cur.setIfInBounds (i * 15 + 11) (.slice (some ⟨g,0,none⟩) ((s.fr i).n + 1) c)))
 (ho : W'.ownsRow B0 30 13 (.slice (some ⟨g,0,none⟩) ((s.fr i).n + 1) c) ((s.fr i).n + 1) (catN (fun t => (f t).h.cells) (s.fr i).n ++ Y.h.cells.toList)) :
 BOut B0 bb A O W (putS s V) (.tuple #[]) (.returned (.tuple #[])) W':=by
 have hi' : i < s.d:=by omega
 rw [putS_list hi hm]
 refine ⟨rfl,h.put_end (f':=oneL (s.fr i) V) (o:=o) (g:=g) (c:=c) hb hi (by rw [eo];rfl) hk hg ?_ ?_ (ok_list h.ok hi' hn hV)⟩
 ·rw [eo]
  refine FrRow.turn (cur:=cur) (i:=i) hW hB hd hco hcs hcur (Array.size_setIfInBounds) (fun j hj => by rw [Array.getElem?_setIfInBounds_ne (by omega)]) ?_ (fun t _ hti => by rw [if_neg hti])
  rw [if_pos rfl]
  exact size_one (s.fr i) (us i) cur (by omega) (hcur i hi') 11 (by decide) _ _ (by rw [cells_list hm,cells_list (f:=oneL (s.fr i) V) rfl];rfl)
 ·intro S' hS'
  unfold Fr.row
  rw [if_neg (by show ¬ false = true;decide)]
  refine RowG.one (cs:=fun x : Vt => x.h.cells) (tr:=id) (S:=fun b => A b /\ ¬ O b) (q:=fun t X => X.Same ((oneL (s.fr i) V).M t)) (v:=us i) (f:=f) (x:=Y) (fun t ht => ⟨(hf t ht).1,(hf t ht).2.1,?_⟩) hY hYo ?_ hk (fun b hlt hb => ⟨fun q => ?_,hS' b hlt hb⟩) (fun b hlt hb e => ?_) ho
  ·show (f t).Same (upd (s.fr i).M (s.fr i).n V t)
   rw [upd_other (by omega)]
   exact (hf t ht).2.2
  ·show Y.Same (upd (s.fr i).M (s.fr i).n V (s.fr i).n)
   rw [upd_same]
   exact hYs
  ·rcases q with q | q
   ·exact hb.2 (h.Oov (by rw [eo,q];rfl))
   ·exact hb.2 (h.Ous hi' q)
  ·rcases hg with hg | hg
   ·exact hb.2 (h.Ous hi' (by rw [hg,e]))
   ·omega
end Go.Proofs.YtpcbhneaaibfiaaDoor
namespace Go.Proofs.YtpcbhneaaibfiaaDoor
open Go.ChangeShapes Go.WideShapes Go.Joins Go.Deep Go.RowKit
theorem grown_set (W : World) (B i : Nat) (u : Value) : W.grownBy (W.setCell ⟨B,i,none⟩ u) (some B) :=
 ⟨rfl,rfl,rfl,by simp [World.setCell],fun k _ hk => Below.heap_setCell _ _ _ _ (by simp at hk ⊢;omega)⟩
theorem cutAt {p q : Prop} (h : p -> q) (hp : p) : q:=h hp
end Go.Proofs.YtpcbhneaaibfiaaDoor
namespace Go.Proofs.YtpcbhneaaibfiaaDoor
open Go.RowKit
theorem put_list {B0 bb i : Nat} {A O : Nat -> Prop} {W : World} {s : Bst} {Y V : Vt} (h : BInv B0 bb A O W s) (hi : s.d = i + 1) (hm : (s.fr i).mp = false) (hn : (s.fr i).n + 1 <= s.nd) (hY : Y.In W W.heap.size) (hYo : Y.Off (fun b => A b /\ ¬ O b)) (hYs : Y.Same V) (hV : V.upto (48 - i)) :
 Calls Tryd.prog 48 #[.pointer (some ⟨bb,0,none⟩),.agg Y.h.cells] W (BOut B0 bb A O W (putS s V) (.tuple #[])):=by
 obtain ⟨ov,us,X,h⟩:=h
 have hb1:=(Below.refl W.heap.size W).alloc (Nat.le_refl _) (.cells Y.h.cells 30)
 have h1:=h.later hb1
 have hY1:=hY.later hb1
 have YB:=Whole.new W 30 Y.h.cells
 have hd48:=h.ok.d
 have hnd:=h.ok.nd
 have hi' : i < s.d:=by omega
 obtain ⟨o,co,cur,eo,FB,hB,hdc,hco,hcs,hcur⟩:=h1.row.op (by omega)
 have r:=h1.rows i hi'
 unfold Fr.row at r
 rw [if_neg (by rw [hm];decide)] at r
 obtain ⟨a,cp,eu⟩:=r.sl
 obtain ⟨f,hown,hf⟩:=r
 have hY2 : Y.In (W.alloc (.cells Y.h.cells 30)) (W.alloc (.cells Y.h.cells 30)).heap.size:=hY1
 have HF : Hid (∀ W' g c,Kept (fun b => b = o ∨ (us i).ownBlock = some b) (W.alloc (.cells Y.h.cells 30)) W' -> ((us i).ownBlock = some g ∨ (W.alloc (.cells Y.h.cells 30)).heap.size <= g) -> Whole W' o 98 (cur.setIfInBounds (i * 15 + 11) (.slice (some ⟨g,0,none⟩) ((s.fr i).n + 1) c)) -> W'.ownsRow B0 30 13 (.slice (some ⟨g,0,none⟩) ((s.fr i).n + 1) c) ((s.fr i).n + 1) (catN (fun t => (f t).h.cells) (s.fr i).n ++ Y.h.cells.toList) -> BOut B0 bb A O W (putS s V) (.tuple #[]) (.returned (.tuple #[])) W') :=
  Lib.hid fun W' g c hk hg hW ho => list_end h1 hb1 hi hm hn hY2 hYo hYs hV eo hB hdc hco hcs hcur hf hk hg hW ho
 have PB : Whole (W.alloc (.cells Y.h.cells 30)) bb 86 (bcells ov s.dn X.h s.nd s.bad):=h1.box
 have q0 : (W.alloc (.cells Y.h.cells 30)).cell? ⟨o,i * 15,none⟩ = some (.int .i64 6):=by
  have q:=hcur i hi' 0 (by decide)
  rw [cells_list hm] at q
  exact (FB.cell (i * 15)).trans q
 have q11 : (W.alloc (.cells Y.h.cells 30)).cell? ⟨o,i * 15 + 11,none⟩ = some (us i):=by
  have q:=hcur i hi' 11 (by decide)
  rw [cells_list hm] at q
  exact (FB.cell (i * 15 + 11)).trans q
 have p0 : World.cell? _ ⟨bb,0,none⟩ = some (.slice (some ⟨o,0,none⟩) (i + 1) co):=(PB.cell 0).trans (by rw [eo,hi];rfl)
 have hn6 : (s.fr i).n <= 65536:=by omega
 have hi7 : i <= 47:=by omega
 obtain ⟨n,hnn⟩ : ∃ n,(s.fr i).n = n:=⟨_,rfl⟩
 obtain ⟨u,huu⟩ : ∃ u,us i = u:=⟨_,rfl⟩
 rw [hnn] at HF hown eu hn6
 rw [huu] at HF hown eu q11
 have hcur2 : i * 15 + 15 <= cur.size:=by omega
 have hone:=Lib.hid (vh_all Y.h)
 obtain ⟨x0,x1,x2,x3,x4,x5,x6,x7,x8,x9,x10,x11,x12⟩:=Whole.c13 (h:=Y.h) YB
 obtain ⟨w0,hw0⟩ : ∃ w0,W.alloc (.cells Y.h.cells 30) = w0:=⟨_,rfl⟩
 have hWs : w0.heap.size = W.heap.size + 1:=by rw [<- hw0,World.size_alloc]
 have Ho:=hown.lt
 rw [hw0] at HF PB q0 q11 p0 hown FB YB x0 x1 x2 x3 x4 x5 x6 x7 x8 x9 x10 x11 x12 Ho
 have HW0:=Lib.hid hw0
 have pA:=p0
 rw [<- hw0] at pA
 have hoy : o ≠ W.heap.size:=fun e => by
  have:=(h.row.lt (g:=o) (by rw [eo];rfl)).2
  omega
 have huo : ∀ g,u.ownBlock = some g -> g ≠ o /\ g ≠ W.heap.size:=fun g hg => by
  refine ⟨fun e => ?_,fun e => ?_⟩
  ·have:=(h.sep2 i hi').2 (by rw [huu,hg,eo,e];rfl)
   rw [huu,hg] at this
   cases this
  ·have:=(Fr.row_lt (h.rows i hi') (g:=g) (by rw [huu];exact hg)).2
   omega
 have hfrz:=FB.frozen (i * 15 + 11)
 clear h h1 hb1 hY hY1 hY2 hYo hYs hV hf hcur hn hnd hd48 hi' hdc hcs hnn huu hw0 eo PB
 subst eu
 have i3 : ((i : Nat) : Int) <= 47:=by omega
 have i4 : (0 : Int) <= ((i : Nat) : Int):=by omega
 simp only [Vh.cells] at x0 x1 x2 x3 x4 x5 x6 x7 x8 x9 x10 x11 x12 hone HW0 pA ⊢
 go_enter Tryd.func48,Tryd.ntmps48
 go_wp2_with (fail)
 clear pA
 simp only [HW0.out]
 go_quiet (fail)
 -- region 5
 have B1 : Below w0.heap.size w0 (w0.drewN nq):=⟨rfl,rfl,rfl,Nat.le_refl _,fun _ _ => rfl⟩
 generalize w0.drewN nq = w1 at *
 have FB1:=FB.below B1 FB.lt
 have YB1:=YB.below B1 YB.lt
 have q01:=(B1.cell (p:=⟨o,i * 15,none⟩) FB.lt).trans q0
 clear q0 p0 x0 x1 x2 x3 x4 x5 x6 x7 x8 x9 x10 x11 x12
 go_wp2_with fail
 refine wp_region_held_drew (S:=fun V => Whole V W.heap.size 30 Y.h.cells) (by kernel_rfl) (Whole.drew YB1) (fun hS => ?_)
 refine tkH (i:=0) rfl (by kernel_rfl) (by rfl) (fun _ _ _ h => h) hS (by intro wS hSw;go_simp;try with_reducible rfl) ?_
 simp only [Act.put,actS]
 refine tkH (i:=1) rfl (by kernel_rfl) (by rfl) (fun _ _ _ h => h) hS (by intro wS hSw;go_simp;try with_reducible rfl) ?_
 simp only [Act.put,actS]
 refine tkH (i:=2) rfl (by kernel_rfl) (by rfl) (fun _ _ _ h => h) hS (by intro wS hSw;go_simp;try with_reducible rfl) ?_
 simp only [Act.put,actS]
 refine tkH (i:=3) rfl (by kernel_rfl) (by rfl) (fun _ _ _ h => h) hS (by intro wS hSw;go_simp;try with_reducible rfl) ?_
 simp only [Act.put,actS]
 refine tkH (i:=5) rfl (by kernel_rfl) (by rfl) (fun _ _ _ h => h) hS (by intro wS hSw;obtain ⟨y0,y1,y2,y3,y4,y5,y6,y7,y8,y9,y10,y11,y12⟩:=Whole.c13 (h:=Y.h) hSw;go_simp;try with_reducible rfl) ?_
 simp only [Act.put,actS]
 have B2 : Below w0.heap.size w0 w1.drew:=B1.drew
 have FB2 : Whole w1.drew o 98 cur:=FB1
 have YB2 : Whole w1.drew W.heap.size 30 Y.h.cells:=YB1
 clear B1 FB1 YB1 q01
 generalize w1.drew = w2 at *
 have q2:=(B2.cell (p:=⟨o,i * 15 + 11,none⟩) FB.lt).trans q11
 have q2a : (w2.alloc (.cells #[.int .i64 0,.bool false,.bool false,.string ⟨#[]⟩,.int .i64 0,.int .i64 0,.int .i64 0,.int .i64 0,.int .i64 0,.string ⟨#[]⟩,.slice none 0 0,.slice none 0 0,.slice none 0 0] 30)).cell? ⟨o,i * 15 + 11,none⟩ = some (.slice a n cp):=(((Below.refl w2.heap.size w2).alloc (Nat.le_refl _) (.cells #[.int .i64 0,.bool false,.bool false,.string ⟨#[]⟩,.int .i64 0,.int .i64 0,.int .i64 0,.int .i64 0,.int .i64 0,.string ⟨#[]⟩,.slice none 0 0,.slice none 0 0,.slice none 0 0] 30)).cell (p:=⟨o,i * 15 + 11,none⟩) FB2.lt).trans q2
 apply cutAt
 ·intro E
  refine wpAnyH_ready (rs:=[4,7]) (by kernel_rfl) (by simp) ?_
  refine (AllReadyH.cons rfl (fun KK hK => ?_) (AllReadyH.cons rfl (fun KK hK => ?_) AllReadyH.nil))
  ·go_simp
   refine hK.out _ _ hS (fun hS2 => ?_)
   clear hK KK
   try simp only [Act.put,actS]
   refine tkH (i:=6) rfl (by kernel_rfl) (by rfl) (fun _ _ _ h => h) hS2 (by intro wS hSw;go_simp;try with_reducible rfl) ?_
   simp only [Act.put,actS]
   refine wpAnyH_ready (rs:=[7]) (by kernel_rfl) (by simp) ?_
   refine AllReadyH.cons rfl (fun KK hK => ?_) AllReadyH.nil
   go_simp
   refine hK.out _ _ (Whole.alloc hS2 _) (fun hS3 => ?_)
   clear hK KK
   try simp only [Act.put,actS]
   exact E
  ·go_simp
   refine hK.out _ _ (Whole.alloc hS _) (fun hS2 => ?_)
   clear hK KK
   try simp only [Act.put,actS]
   refine wpAnyH_ready (rs:=[4]) (by kernel_rfl) (by simp) ?_
   refine AllReadyH.cons rfl (fun KK hK => ?_) AllReadyH.nil
   go_simp
   refine hK.out _ _ hS2 (fun hS3 => ?_)
   clear hK KK
   try simp only [Act.put,actS]
   refine tkH (i:=6) rfl (by kernel_rfl) (by rfl) (fun _ _ _ h => h) hS3 (by intro wS hSw;go_simp;try with_reducible rfl) ?_
   simp only [Act.put,actS]
   exact E
 clear q2 q2a
 have YBa:=Whole.alloc YB2 (.cells #[.int .i64 0,.bool false,.bool false,.string ⟨#[]⟩,.int .i64 0,.int .i64 0,.int .i64 0,.int .i64 0,.int .i64 0,.string ⟨#[]⟩,.slice none 0 0,.slice none 0 0,.slice none 0 0] 30)
 have Ba:=B2.alloc B2.size (.cells #[.int .i64 0,.bool false,.bool false,.string ⟨#[]⟩,.int .i64 0,.int .i64 0,.int .i64 0,.int .i64 0,.int .i64 0,.string ⟨#[]⟩,.slice none 0 0,.slice none 0 0,.slice none 0 0] 30)
 have FBa:=Whole.alloc FB2 (.cells #[.int .i64 0,.bool false,.bool false,.string ⟨#[]⟩,.int .i64 0,.int .i64 0,.int .i64 0,.int .i64 0,.int .i64 0,.string ⟨#[]⟩,.slice none 0 0,.slice none 0 0,.slice none 0 0] 30)
 have hs2:=B2.size
 have hsa : (w2.alloc (.cells #[.int .i64 0,.bool false,.bool false,.string ⟨#[]⟩,.int .i64 0,.int .i64 0,.int .i64 0,.int .i64 0,.int .i64 0,.string ⟨#[]⟩,.slice none 0 0,.slice none 0 0,.slice none 0 0] 30)).heap.size = w2.heap.size + 1:=World.size_alloc _ _
 have Hown:=Lib.hid (own_block (W':=w2.alloc (.cells #[.int .i64 0,.bool false,.bool false,.string ⟨#[]⟩,.int .i64 0,.int .i64 0,.int .i64 0,.int .i64 0,.int .i64 0,.string ⟨#[]⟩,.slice none 0 0,.slice none 0 0,.slice none 0 0] 30)) hown (fun g hg => Ba.block g (Ho g hg).2))
 have Hlen:=Lib.hid hown.1
 have s1:=Lib.hid (cells_new w2 30 #[.int .i64 0,.bool false,.bool false,.string ⟨#[]⟩,.int .i64 0,.int .i64 0,.int .i64 0,.int .i64 0,.int .i64 0,.string ⟨#[]⟩,.slice none 0 0,.slice none 0 0,.slice none 0 0])
 have s2 : Hid (∀ u ∈ (#[.int .i64 0,.bool false,.bool false,.string ⟨#[]⟩,.int .i64 0,.int .i64 0,.int .i64 0,.int .i64 0,.int .i64 0,.string ⟨#[]⟩,.slice none 0 0,.slice none 0 0,.slice none 0 0] : Array Value).toList,u.oneCell' = true):=Lib.hid (vh_one Vh.zero)
 have s3 : Hid (n + 1 <= maxLen):=Lib.hid (by unfold maxLen;omega)
 have s4 : Hid ((n + 1) * 168 <= 140737488355328):=Lib.hid (by omega)
 obtain ⟨i0,hi0,hz0,hz1,hz2⟩:=info_parts Tryd.infoVal
 clear hown
 refine wpAnyH_ready (rs:=[8]) (by kernel_rfl) (by simp) ?_
 refine AllReadyH.cons rfl (fun KK hK => ?_) AllReadyH.nil
 refine step_append_lies _ (by rfl) _ _ _ (by rfl) B0 30 i0 _ 13 168 Tryd.underlying27 hi0 hz0 hz1 hz2 rfl (by decide) (.slice a n cp) n _ (by rfl) Hown.out ⟨w2.heap.size,0,none⟩ 1 1 (#[.int .i64 0,.bool false,.bool false,.string ⟨#[]⟩,.int .i64 0,.int .i64 0,.int .i64 0,.int .i64 0,.int .i64 0,.string ⟨#[]⟩,.slice none 0 0,.slice none 0 0,.slice none 0 0] : Array Value).toList (by rfl) (by rfl) ?s1 s2.out (by omega) s3.out s4.out ?s5 (w2.heap.size + 1) (by simp) ?_
 case s1 => exact fun p v hv => s1.out p v hv
 case s5 => have:=FB.lt;rw [hsa];omega
 intro gg cap w3 hown3 hgrow hat hlt3
 obtain ⟨cg,GB,hcg,hBg,Hfill⟩:=own_fill (vs:=Y.h.cells.toList) hown3 Hlen.out rfl
 have hgo : gg ≠ o:=fun e => by
  rcases hat with q | q
  ·exact (huo gg q).1 e
  ·have:=FB.lt;omega
 have hgy : gg ≠ W.heap.size:=fun e => by
  rcases hat with q | q
  ·exact (huo gg q).2 e
  ·omega
 have FB3:=FBa.kept hgrow (fun e => (huo o e.symm).1 rfl)
 have YB3:=YBa.kept hgrow (fun e => (huo _ e.symm).2 rfl)
 have HG : (Value.slice a n cp).ownBlock = some gg ∨ w0.heap.size <= gg:=hat.imp id (fun q => by omega)
 have K3 : Kept (fun b => b = o ∨ (Value.slice a n cp).ownBlock = some b) w0 w3:=(Kept.of Ba).trans (kept_grown (X:=fun b => (Value.slice a n cp).ownBlock = some b) hgrow (fun g hg => hg)) (fun b q => .inl (.inr q))
 clear FBa YBa Ba FB2 YB2 B2 hown3 hgrow hat s1 s2 s3 s4 Hown Hlen
 have hsz:=K3.size
 have HTh:=Lib.hid (whole_there (n:=13) GB hcg)
 have HTo:=Lib.hid (fun (v : Value) => whole_there (n:=13) (Whole.far (p:=⟨o,i * 15 + 11,none⟩) GB hgo v) hcg)
 have oF:=FB3.frozen (i * 15 + 11)
 have oC : ∃ z,w3.cell? ⟨o,i * 15 + 11,none⟩ = some z:=⟨_,(FB3.cell _).trans (Array.getElem?_eq_getElem (by omega))⟩
 obtain ⟨z,oC⟩:=oC
 refine hK.out _ _ YB3 (fun hS4 => ?_)
 clear hK KK
 try simp only [Act.put,actS]
 have k1 : (n : Int) < (n : Int) + 1:=by omega
 have k2 : (0 : Int) <= (n : Int):=by omega
 refine tkH (i:=9) rfl (by kernel_rfl) (by rfl) (fun _ _ _ h => h) hS4 (by intro wS hSw;go_simp;try with_reducible rfl) ?_
 simp only [Act.put,actS]
 refine tkH (i:=11) rfl (by kernel_rfl) (by rfl) (fun _ _ _ h => h) hS4 (by intro wS hSw;go_simp;try with_reducible rfl) ?_
 simp only [Act.put,actS]
 refine tkH (i:=12) rfl (by kernel_rfl) (by rfl) (fun _ _ _ h => h) hS4 (by intro wS hSw;go_simp;try with_reducible rfl) ?_
 simp only [Act.put,actS]
 refine tkH (i:=13) rfl (by kernel_rfl) (by rfl) (fun _ _ _ h => h) hS4 (by intro wS hSw;go_simp;try with_reducible rfl) ?_
 simp only [Act.put,actS]
 refine wpAnyH_ready (rs:=[10,14]) (by kernel_rfl) (by simp) ?_
 refine (AllReadyH.cons rfl (fun KK hK => ?_) (AllReadyH.cons rfl (fun KK hK => ?_) AllReadyH.nil))
 ·rw [if_pos (by rfl)]
  refine wp_store_mid 30 _ _ rfl gg (n * 13) #[.int .i64 Y.h.k,.bool Y.h.b,.bool Y.h.n,.string Y.h.d,.int .i64 Y.h.e,.int .i64 Y.h.tk,.int .i64 Y.h.td,.int .i64 Y.h.tn,.int .i64 Y.h.tz,.string Y.h.x,.slice Y.h.ba Y.h.bn Y.h.bc,.slice Y.h.la Y.h.ln Y.h.lc,.slice Y.h.fa Y.h.fn Y.h.fc] rfl rfl HTh.out vh_row hone.out ?_
  have FB4 : Whole (w3.setCells gg (n * 13) Y.h.cells.toList) o 98 cur:=(heap_setCells (fun e => hgo e.symm) _ _ _).trans FB3
  have YB4 : Whole (w3.setCells gg (n * 13) Y.h.cells.toList) W.heap.size 30 Y.h.cells:=(heap_setCells (fun e => hgy e.symm) _ _ _).trans YB3
  have GB4:=Whole.setCells Y.h.cells.toList (n * 13) GB
  have K4:=K3.trans (kept_cells (fun b => b = gg) gg rfl Y.h.cells.toList w3 (n * 13)) (fun b q => by subst q;exact HG.imp (fun q => .inr q) id)
  obtain ⟨w4,hw4⟩ : ∃ w4,w3.setCells gg (n * 13) Y.h.cells.toList = w4:=⟨_,rfl⟩
  rw [hw4] at FB4 YB4 GB4 K4
  have hw4' : w3.setCells gg (n * 13) (#[.int .i64 Y.h.k,.bool Y.h.b,.bool Y.h.n,.string Y.h.d,.int .i64 Y.h.e,.int .i64 Y.h.tk,.int .i64 Y.h.td,.int .i64 Y.h.tn,.int .i64 Y.h.tz,.string Y.h.x,.slice Y.h.ba Y.h.bn Y.h.bc,.slice Y.h.la Y.h.ln Y.h.lc,.slice Y.h.fa Y.h.fn Y.h.fc] : Array Value).toList = w4:=hw4
  rw [hw4']
  clear hw4 hw4'
  refine hK.out _ _ YB4 (fun hS5 => ?_)
  clear hK KK
  try simp only [Act.put,actS]
  have oF4:=FB4.frozen (i * 15 + 11)
  have oC4 : ∃ z,w4.cell? ⟨o,i * 15 + 11,none⟩ = some z:=⟨_,(FB4.cell _).trans (Array.getElem?_eq_getElem (by omega))⟩
  obtain ⟨z4,oC4⟩:=oC4
  refine wpAnyH_ready (rs:=[14]) (by kernel_rfl) (by simp) ?_
  refine AllReadyH.cons rfl (fun KK hK => ?_) AllReadyH.nil
  go_simp
  refine hK.out _ _ (Whole.far YB4 (fun e => hoy e.symm) _) (fun hS6 => ?_)
  clear hK KK
  try simp only [Act.put,actS]
  refine wpAnyH_done (by kernel_rfl) ?_ _
  have HFF:=Lib.hid (HF.out _ gg cap (K4.trans (kept_set (fun b => b = o) _ o (i * 15 + 11) (.slice (some ⟨gg,0,none⟩) (n + 1) cap) rfl) (fun b q => .inl (.inl q))) HG (FB4.set (i * 15 + 11) (.slice (some ⟨gg,0,none⟩) (n + 1) cap)) (Hfill _ (Whole.far (p:=⟨o,i * 15 + 11,none⟩) GB4 hgo _)))
  go_wp2_with fail
  go_end0
  exact HFF.out
 ·go_simp
  have FB4:=FB3.set (i * 15 + 11) (.slice (some ⟨gg,0,none⟩) (n + 1) cap)
  have YB4:=Whole.far (p:=⟨o,i * 15 + 11,none⟩) YB3 (fun e => hoy e.symm) (.slice (some ⟨gg,0,none⟩) (n + 1) cap)
  have GB4:=Whole.far (p:=⟨o,i * 15 + 11,none⟩) GB hgo (.slice (some ⟨gg,0,none⟩) (n + 1) cap)
  have K4:=K3.trans (kept_set (fun b => b = o) _ o (i * 15 + 11) (.slice (some ⟨gg,0,none⟩) (n + 1) cap) rfl) (fun b q => .inl (.inl q))
  refine hK.out _ _ YB4 (fun hS5 => ?_)
  clear hK KK
  try simp only [Act.put,actS]
  refine wpAnyH_ready (rs:=[10]) (by kernel_rfl) (by simp) ?_
  refine AllReadyH.cons rfl (fun KK hK => ?_) AllReadyH.nil
  rw [if_pos (by rfl)]
  refine wp_store_mid 30 _ _ rfl gg (n * 13) #[.int .i64 Y.h.k,.bool Y.h.b,.bool Y.h.n,.string Y.h.d,.int .i64 Y.h.e,.int .i64 Y.h.tk,.int .i64 Y.h.td,.int .i64 Y.h.tn,.int .i64 Y.h.tz,.string Y.h.x,.slice Y.h.ba Y.h.bn Y.h.bc,.slice Y.h.la Y.h.ln Y.h.lc,.slice Y.h.fa Y.h.fn Y.h.fc] rfl rfl (HTo.out _) vh_row hone.out ?_
  refine hK.out _ _ ((heap_setCells (fun e => hgy e.symm) _ _ _).trans YB4) (fun hS6 => ?_)
  clear hK KK
  try simp only [Act.put,actS]
  refine wpAnyH_done (by kernel_rfl) ?_ _
  have HFF:=Lib.hid (HF.out _ gg cap (K4.trans (kept_cells (fun b => b = gg) gg rfl Y.h.cells.toList _ (n * 13)) (fun b q => by subst q;exact HG.imp (fun q => .inr q) id)) HG ((heap_setCells (fun e => hgo e.symm) _ _ _).trans FB4) (Hfill _ (Whole.setCells Y.h.cells.toList (n * 13) GB4)))
  go_wp2_with fail
  go_end0
  exact HFF.out
theorem set_one {C D : Array Value} {i : Nat} (hs : i * 15 + 15 <= C.size) (hD : D.size = 15) (hC : ∀ j,j < 15 -> C[i * 15 + j]? = D[j]?) (k : Nat) (hk : k < 15) (v : Value) :
 ∀ j,j < 15 -> (C.setIfInBounds (i * 15 + k) v)[i * 15 + j]? = (D.setIfInBounds k v)[j]?:=fun j hj => by
 rw [Array.getElem?_setIfInBounds,Array.getElem?_setIfInBounds,hC j hj,hD]
 by_cases e : k = j
 ·subst e;rw [if_pos rfl,if_pos rfl,if_pos (by omega),if_pos hk]
 ·rw [if_neg (by omega),if_neg e]
def curF (cur : Array Value) (i : Nat) (u : Value) : Array Value:=((cur.setIfInBounds (i * 15 + 12) u).setIfInBounds (i * 15 + 13) (.string ⟨#[]⟩)).setIfInBounds (i * 15 + 14) (.bool false)
theorem map_end {B0 bb : Nat} {A O : Nat -> Prop} {W W0 W' : World} {s : Bst} {ov : Value} {us : Nat -> Value} {X Y V : Vt} {i o co g c : Nat} {cur : Array Value} {f : Nat -> ByteArray × Vt}
 (h : BIn B0 bb A O W0 s ov us X) (hb : Below W.heap.size W W0) (hi : s.d = i + 1) (hm : (s.fr i).mp = true) (hn : (s.fr i).n + 1 <= s.nd) (hY : Y.In W0 W0.heap.size) (hYo : Y.Off (fun b => A b /\ ¬ O b)) (hYs : Y.Same V) (hV : V.upto (48 - i))
 (eo : ov = .slice (some ⟨o,0,none⟩) s.d co) (hB : B0 <= o) (hd : s.d <= co) (hco : co <= maxLen) (hcs : cur.size = co * 15) (hcur : ∀ t,t < s.d -> ∀ j,j < 15 -> cur[t * 15 + j]? = ((s.fr t).cells (us t))[j]?)
 (hf : ∀ t,t < (s.fr i).n -> (f t).2.In W0 W0.heap.size /\ (f t).2.Off (fun b => (A b /\ ¬ O b) /\ some b ≠ (us i).ownBlock) /\ (f t).1 = (s.fr i).K t /\ (f t).2.Same ((s.fr i).M t))
 (hk : Kept (fun b => b = o ∨ (us i).ownBlock = some b) W0 W') (hg : (us i).ownBlock = some g ∨ W0.heap.size <= g) (hW : Whole W' o 98 (curF cur i (.slice (some ⟨g,0,none⟩) ((s.fr i).n + 1) c)))
 (ho : W'.ownsRow B0 76 14 (.slice (some ⟨g,0,none⟩) ((s.fr i).n + 1) c) ((s.fr i).n + 1) (catN (fun t => fcs (f t)) (s.fr i).n ++ (fcs ((s.fr i).key,Y)).toList)) :
 BOut B0 bb A O W (putS s V) (.tuple #[]) (.returned (.tuple #[])) W':=by
 have hi' : i < s.d:=by omega
 rw [putS_map hi hm]
 refine ⟨rfl,h.put_end (f':=oneF (s.fr i) V) (o:=o) (g:=g) (c:=c) hb hi (by rw [eo];rfl) hk hg ?_ ?_ (ok_map h.ok hi' hn hV)⟩
 ·rw [eo]
  refine FrRow.turn (cur:=cur) (i:=i) hW hB hd hco hcs hcur (by unfold curF;rw [Array.size_setIfInBounds,Array.size_setIfInBounds,Array.size_setIfInBounds]) (fun j hj => by unfold curF;rw [Array.getElem?_setIfInBounds_ne (by omega),Array.getElem?_setIfInBounds_ne (by omega),Array.getElem?_setIfInBounds_ne (by omega)]) ?_ (fun t _ hti => by rw [if_neg hti])
  rw [if_pos rfl]
  have h15 : i * 15 + 15 <= cur.size:=by omega
  have e1:=set_one h15 (Fr.cells_size _ _) (hcur i hi') 12 (by decide) (.slice (some ⟨g,0,none⟩) ((s.fr i).n + 1) c)
  have e2:=set_one (by rw [Array.size_setIfInBounds];exact h15) (by rw [Array.size_setIfInBounds];exact Fr.cells_size _ _) e1 13 (by decide) (.string ⟨#[]⟩)
  have e3:=set_one (by rw [Array.size_setIfInBounds,Array.size_setIfInBounds];exact h15) (by rw [Array.size_setIfInBounds,Array.size_setIfInBounds];exact Fr.cells_size _ _) e2 14 (by decide) (.bool false)
  intro j hj
  rw [cells_map (f:=oneF (s.fr i) V) rfl]
  rw [cells_map hm] at e3
  exact e3 j hj
 ·intro S' hS'
  unfold Fr.row
  rw [if_pos (show (oneF (s.fr i) V).mp = true from rfl)]
  refine RowG.one (cs:=fcs) (tr:=Prod.snd) (S:=fun b => A b /\ ¬ O b) (q:=fun t x => x.1 = (oneF (s.fr i) V).K t /\ x.2.Same ((oneF (s.fr i) V).M t)) (v:=us i) (f:=f) (x:=((s.fr i).key,Y)) (fun t ht => ⟨(hf t ht).1,(hf t ht).2.1,?_⟩) hY hYo ?_ hk (fun b hlt hb => ⟨fun q => ?_,hS' b hlt hb⟩) (fun b hlt hb e => ?_) ho
  ·show (f t).1 = upd (s.fr i).K (s.fr i).n (s.fr i).key t /\ (f t).2.Same (upd (s.fr i).M (s.fr i).n V t)
   rw [upd_other (by omega),upd_other (by omega)]
   exact (hf t ht).2.2
  ·show (s.fr i).key = upd (s.fr i).K (s.fr i).n (s.fr i).key (s.fr i).n /\ Y.Same (upd (s.fr i).M (s.fr i).n V (s.fr i).n)
   rw [upd_same,upd_same]
   exact ⟨rfl,hYs⟩
  ·rcases q with q | q
   ·exact hb.2 (h.Oov (by rw [eo,q];rfl))
   ·exact hb.2 (h.Ous hi' q)
  ·rcases hg with hg | hg
   ·exact hb.2 (h.Ous hi' (by rw [hg,e]))
   ·omega
end Go.Proofs.YtpcbhneaaibfiaaDoor
