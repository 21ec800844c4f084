/- Laid together for a claim: EvStep, EvStepB, EvPutO, EvPutP. -/
import Derived.Test.YtpcbhneaaibfiaaDoorQB11
import Derived.Test.YtpcbhneaaibfiaaDoorQB10
import Derived.Deep.RegionHeld3
import Derived.Deep.MidRow
/- How a builder turns, in memory: plain. -/
namespace Go.Proofs.YtpcbhneaaibfiaaDoor
open Go.ChangeShapes Go.WideShapes Go.Joins Go.Deep Go.RowKit

theorem kept_set (X : Nat → Prop) (W : World) (b i : Nat) (u : Value) (hb : X b) : Kept X W (W.setCell ⟨b, i, none⟩ u) := ⟨rfl, rfl, rfl, by simp, fun k _ hn => Below.heap_setCell _ _ _ _ (by intro e; exact hn (by rw [e]; exact hb))⟩
theorem kept_grown {X : Nat → Prop} {W W' : World} {row : Option Nat} (hg : W.grownBy W' row) (hX : ∀ g, row = some g → X g) : Kept X W W' := ⟨hg.os, hg.tape, hg.output, hg.size, fun k hk hn => hg.block k hk (fun e => hn (hX _ e.symm))⟩
theorem Kept.weak {O O' : Nat → Prop} {W W' : World} (h : Kept O W W') (ho : ∀ b, O b → O' b) : Kept O' W W' := ⟨h.os, h.tape, h.output, h.size, fun k hk hn => h.block k hk (fun q => hn (ho k q))⟩
section
variable {B0 bb : Nat} {A O : Nat → Prop} {W W' : World} {s s' : Bst} {ov : Value} {us : Nat → Value} {X : Vt}
theorem BIn.Obb (h : BIn B0 bb A O W s ov us X) : O bb := (h.hO bb).2 (.inl rfl)
theorem BIn.Oov (h : BIn B0 bb A O W s ov us X) {g : Nat} (hg : ov.ownBlock = some g) : O g := (h.hO g).2 (.inr (.inl hg))
theorem BIn.Ous (h : BIn B0 bb A O W s ov us X) {i g : Nat} (hi : i < s.d) (hg : (us i).ownBlock = some g) : O g := (h.hO g).2 (.inr (.inr ⟨i, hi, hg⟩))
/-- Another box, the same frames and the same value. -/
theorem BIn.rebox (h : BIn B0 bb A O W s ov us X) (hk : Kept (fun b => b = bb) W W') (hbox : Whole W' bb 86 (bcells ov s'.dn X.h s'.nd s'.bad)) (e1 : s'.d = s.d) (e2 : s'.fr = s.fr) (e3 : s'.dn = s.dn) (e4 : s'.out = s.out) (hok : s'.ok) :
    BIn B0 bb A O W' s' ov us X := by
  obtain ⟨d, fr, dn, out, nd, bad⟩ := s
  obtain ⟨d', fr', dn', out', nd', bad'⟩ := s'
  dsimp only at e1 e2 e3 e4 hbox
  subst e1 e2 e3 e4
  exact {
    hO := h.hO
    hA := h.hA
    box := hbox
    hB0 := h.hB0
    row := h.row.block fun g hg => hk.block g (h.row.lt hg).2 (fun e => h.sep1 (by rw [hg, e]))
    rows := fun i hi => Fr.row_block (h.rows i hi) (fun g hg => hk.block g (Fr.row_lt (h.rows i hi) hg).2 (fun e => (h.sep2 i hi).1 (by rw [hg, e]))) hk.size (fun b hb hs _ => hk.block b hb (fun e => hs.2 (by rw [e]; exact h.Obb)))
    sep1 := h.sep1
    sep2 := h.sep2
    sep3 := h.sep3
    inn := Vt.In.turn (S := fun b => A b ∧ ¬ O b) (fun b hb hlt => ⟨hk.block b hlt (fun e => hb.2 (by rw [e]; exact h.Obb)), Nat.lt_of_lt_of_le hlt hk.size⟩) h.inn h.off
    off := h.off
    yes := h.yes
    no := h.no
    ok := hok }
/-- A complete value. -/
theorem BIn.putOut {V Y : Vt} (h : BIn B0 bb A O W s ov us X) (hd : s.d = 0) (hY : Y.In W W.heap.size) (hYo : Y.Off (fun b => A b ∧ ¬ O b)) (hYs : Y.Same V) (hk : Kept (fun b => b = bb) W W') (hbox : Whole W' bb 86 (bcells ov true Y.h s.nd s.bad)) (hu : V.upto 49) :
    BIn B0 bb A O W' { s with dn := true, out := V } ov us Y := by
  exact {
    hO := h.hO
    hA := h.hA
    box := hbox
    hB0 := h.hB0
    row := h.row.block fun g hg => hk.block g (h.row.lt hg).2 (fun e => h.sep1 (by rw [hg, e]))
    rows := fun i hi => absurd (show i < s.d from hi) (by omega)
    sep1 := h.sep1
    sep2 := h.sep2
    sep3 := h.sep3
    inn := Vt.In.turn (S := fun b => A b ∧ ¬ O b) (fun b hb hlt => ⟨hk.block b hlt (fun e => hb.2 (by rw [e]; exact h.Obb)), Nat.lt_of_lt_of_le hlt hk.size⟩) hY hYo
    off := hYo
    yes := fun _ => hYs
    no := fun q => by cases q
    ok := ⟨h.ok.d, h.ok.nd, h.ok.fr, fun _ => hu⟩ }
def upd {α : Type} (f : Nat → α) (i : Nat) (x : α) : Nat → α := fun j => if j = i then x else f j
theorem upd_same {α : Type} (f : Nat → α) (i : Nat) (x : α) : upd f i x i = x := if_pos rfl
theorem upd_other {α : Type} {f : Nat → α} {i j : Nat} {x : α} (h : j ≠ i) : upd f i x j = f j := if_neg h
/-- Which blocks a builder writes. -/
def Own (bb : Nat) (ov : Value) (us : Nat → Value) (d : Nat) : Nat → Prop := fun b => b = bb ∨ ov.ownBlock = some b ∨ ∃ i, i < d ∧ (us i).ownBlock = some b
/-- The innermost frame, turned. -/
theorem BIn.top {i : Nat} {f' : Fr} {u' : Value} (h : BIn B0 bb A O W s ov us X) (hi : s.d = i + 1) (hk : Kept (fun b => ov.ownBlock = some b ∨ (us i).ownBlock = some b) W W')
    (hrow : FrRow B0 W' ov s.d (fun j => if j = i then f'.cells u' else (s.fr j).cells (us j)))
    (hu : u'.ownBlock = (us i).ownBlock ∨ ∀ g, u'.ownBlock = some g → W.heap.size ≤ g)
    (hf : f'.row B0 (fun b => (A b ∨ u'.ownBlock = some b) ∧ ¬ Own bb ov (upd us i u') s.d b) W' u')
    (hok : Bst.ok { s with fr := upd s.fr i f' }) :
    BIn B0 bb (fun b => A b ∨ u'.ownBlock = some b) (Own bb ov (upd us i u') s.d) W' { s with fr := upd s.fr i f' } ov (upd us i u') X := by
  have hi' : i < s.d := by omega
  have hbbk : ¬ (ov.ownBlock = some bb ∨ (us i).ownBlock = some bb) := fun q => by
    rcases q with q | q
    · exact h.sep1 q
    · exact (h.sep2 i hi').1 q
  -- what is not written before is not written behind, if it lay there
  have hnew : ∀ b, b < W.heap.size → ¬ O b → ¬ Own bb ov (upd us i u') s.d b := fun b hb hn q => by
    rcases q with q | q | ⟨j, hj, q⟩
    · exact hn (by rw [q]; exact h.Obb)
    · exact hn (h.Oov q)
    · by_cases e : j = i
      · subst e
        rw [upd_same] at q
        rcases hu with hu | hu
        · rw [hu] at q; exact hn (h.Ous hj q)
        · have := hu b q; omega
      · rw [upd_other e] at q; exact hn (h.Ous hj q)
  have hrowj : ∀ j, j < s.d → j ≠ i → (s.fr j).row B0 (fun b => (A b ∨ u'.ownBlock = some b) ∧ ¬ Own bb ov (upd us i u') s.d b) W' (us j) := fun j hj hji => by
    have r := Fr.row_block (h.rows j hj) (W' := W') (fun g hg => hk.block g (Fr.row_lt (h.rows j hj) hg).2 (fun q => by
        rcases q with q | q
        · have := (h.sep2 j hj).2 (by rw [hg, q]); rw [hg] at this; cases this
        · have := h.sep3 j i hj hi' hji (by rw [hg, q]); rw [hg] at this; cases this)) hk.size
        (fun b hb hs _ => hk.block b hb (fun q => by
          rcases q with q | q
          · exact hs.2 (h.Oov q)
          · exact hs.2 (h.Ous hi' q)))
    -- the trees lie below W.heap.size
    unfold Fr.row at r ⊢
    have r0 := h.rows j hj
    unfold Fr.row at r0
    split at r
    · rename_i c
      rw [if_pos c] at r0
      rw [if_pos c]
      obtain ⟨f, ho, hf⟩ := r0
      exact ⟨f, own_block ho (fun g hg => hk.block g (own_lt ho hg).2 (fun q => by
        rcases q with q | q
        · have := (h.sep2 j hj).2 (by rw [hg, q]); rw [hg] at this; cases this
        · have := h.sep3 j i hj hi' hji (by rw [hg, q]); rw [hg] at this; cases this)), fun t ht => ⟨Vt.In.turn (S := fun b => A b ∧ ¬ O b) (fun b hb hlt => ⟨hk.block b hlt (fun q => by
          rcases q with q | q
          · exact hb.2 (h.Oov q)
          · exact hb.2 (h.Ous hi' q)), Nat.lt_of_lt_of_le hlt hk.size⟩) (hf t ht).1 ((hf t ht).2.1.mono fun b hb => hb.1), (((hf t ht).2.1.and (hf t ht).1.off)).mono (fun b hb => ⟨⟨.inl hb.1.1.1, hnew b hb.2 hb.1.1.2⟩, hb.1.2⟩), (hf t ht).2.2⟩⟩
    · rename_i c
      rw [if_neg c] at r0
      rw [if_neg c]
      obtain ⟨f, ho, hf⟩ := r0
      exact ⟨f, own_block ho (fun g hg => hk.block g (own_lt ho hg).2 (fun q => by
        rcases q with q | q
        · have := (h.sep2 j hj).2 (by rw [hg, q]); rw [hg] at this; cases this
        · have := h.sep3 j i hj hi' hji (by rw [hg, q]); rw [hg] at this; cases this)), fun t ht => ⟨Vt.In.turn (S := fun b => A b ∧ ¬ O b) (fun b hb hlt => ⟨hk.block b hlt (fun q => by
          rcases q with q | q
          · exact hb.2 (h.Oov q)
          · exact hb.2 (h.Ous hi' q)), Nat.lt_of_lt_of_le hlt hk.size⟩) (hf t ht).1 ((hf t ht).2.1.mono fun b hb => hb.1), (((hf t ht).2.1.and (hf t ht).1.off)).mono (fun b hb => ⟨⟨.inl hb.1.1.1, hnew b hb.2 hb.1.1.2⟩, hb.1.2⟩), (hf t ht).2.2⟩⟩
  have hub : u'.ownBlock ≠ some bb := fun q => by
    rcases hu with hu | hu
    · rw [hu] at q; exact (h.sep2 i hi').1 q
    · have := hu bb q; have := h.box.lt; omega
  exact {
    hO := fun b => Iff.rfl
    hA := fun b hb => by
      rcases hb with rfl | q | ⟨j, hj, q⟩
      · exact .inl (h.hA _ h.Obb)
      · exact .inl (h.hA _ (h.Oov q))
      · by_cases e : j = i
        · subst e; rw [upd_same] at q; exact .inr q
        · rw [upd_other e] at q; exact .inl (h.hA _ (h.Ous hj q))
    box := (hk.block bb h.box.lt hbbk).trans h.box
    hB0 := h.hB0
    row := hrow.congr fun j hj => by
      by_cases e : j = i
      · subst e; rw [if_pos rfl]; show _ = (upd s.fr j f' j).cells (upd us j u' j); rw [upd_same, upd_same]
      · rw [if_neg e]; show _ = (upd s.fr i f' j).cells (upd us i u' j); rw [upd_other e, upd_other e]
    rows := fun j hj => by
      by_cases e : j = i
      · subst e
        show (upd s.fr j f' j).row B0 _ W' (upd us j u' j)
        rw [upd_same, upd_same]
        exact hf
      · show (upd s.fr i f' j).row B0 _ W' (upd us i u' j)
        rw [upd_other e, upd_other e]
        exact hrowj j hj e
    sep1 := h.sep1
    sep2 := fun j hj => by
      by_cases e : j = i
      · subst e
        rw [upd_same]
        refine ⟨hub, fun q => ?_⟩
        rcases hu with hu | hu
        · rw [hu] at q ⊢; exact (h.sep2 j hi').2 q
        · cases hg : u'.ownBlock with
          | none => rfl
          | some g =>
            have h1 := hu g hg
            rw [hg] at q
            have := (h.row.lt q.symm).2
            omega
      · rw [upd_other e]; exact h.sep2 j hj
    sep3 := fun j t hj ht hjt q => by
      by_cases e : j = i
      · subst e
        rw [upd_same] at q ⊢
        rw [upd_other (fun z => hjt z.symm)] at q
        rcases hu with hu | hu
        · rw [hu] at q ⊢; exact h.sep3 j t hj ht hjt q
        · cases hg : u'.ownBlock with
          | none => rfl
          | some g =>
            have h1 := hu g hg
            rw [hg] at q
            have := (Fr.row_lt (h.rows t ht) q.symm).2
            omega
      · rw [upd_other e] at q ⊢
        by_cases e2 : t = i
        · subst e2
          rw [upd_same] at q
          rcases hu with hu | hu
          · rw [hu] at q; exact h.sep3 j t hj ht hjt q
          · cases hg : (us j).ownBlock with
            | none => rfl
            | some g =>
              have h1 := hu g (by rw [← q]; exact hg)
              have := (Fr.row_lt (h.rows j hj) hg).2
              omega
        · rw [upd_other e2] at q; exact h.sep3 j t hj ht hjt q
    inn := Vt.In.turn (S := fun b => A b ∧ ¬ O b) (fun b hb hlt => ⟨hk.block b hlt (fun q => by
      rcases q with q | q
      · exact hb.2 (h.Oov q)
      · exact hb.2 (h.Ous hi' q)), Nat.lt_of_lt_of_le hlt hk.size⟩) h.inn h.off
    off := (h.off.and h.inn.off).mono fun b hb => ⟨.inl hb.1.1, hnew b hb.2 hb.1.2⟩
    yes := h.yes
    no := h.no
    ok := hok }
end
end Go.Proofs.YtpcbhneaaibfiaaDoor
/- How a builder turns, in memory: a frame more, a frame less; plain. -/
namespace Go.Proofs.YtpcbhneaaibfiaaDoor
open Go.ChangeShapes Go.WideShapes Go.Joins Go.Deep Go.RowKit

/-- The value of a frame. -/
def frV (f : Fr) : Vt := if f.mp = true then .mk (Vh.fld 7 none f.n f.n 0) (fun _ => 0) (fun _ => .nil) f.K f.M else .mk (Vh.lst 6 none f.n f.n 0) (fun _ => 0) f.M (fun _ => ⟨#[]⟩) (fun _ => .nil)
theorem row_nil {f : Fr} {B0 : Nat} {S : Nat → Prop} {W : World} (h : f.n = 0) : f.row B0 S W (.slice none 0 0) := by
  unfold Fr.row
  rw [h]
  split
  · exact RowG.nil
  · exact RowG.nil
section
variable {B0 bb : Nat} {A O : Nat → Prop} {W W' : World} {s s' : Bst} {ov ov' : Value} {us : Nat → Value} {X : Vt}
/-- The rows of frames stay where others are written. -/
theorem RowG.move {α : Type} {cs : α → Array Value} {tr : α → Vt} {C : Nat} {e : TypeId} {S S' T : Nat → Prop} {q : Nat → α → Prop} {v : Value} {k : Nat} (h : RowG cs tr C e B0 S q W v k) (hk : Kept T W W') (hv : ∀ g, v.ownBlock = some g → ¬ T g) (hS : ∀ b, b < W.heap.size → S b → some b ≠ v.ownBlock → ¬ T b ∧ S' b) : RowG cs tr C e B0 S' q W' v k := by
  obtain ⟨f, ho, hf⟩ := h
  refine ⟨f, own_block ho (fun g hg => hk.block g (own_lt ho hg).2 (hv g hg)), fun t ht => ?_⟩
  have h2 := (hf t ht).2.1.and (hf t ht).1.off
  exact ⟨Vt.In.turn (S := fun b => (S b ∧ some b ≠ v.ownBlock) ∧ b < W.heap.size) (fun b hb hlt => ⟨hk.block b hlt (hS b hlt hb.1.1 hb.1.2).1, Nat.lt_of_lt_of_le hlt hk.size⟩) (hf t ht).1 h2, h2.mono (fun b hb => ⟨(hS b hb.2 hb.1.1 hb.1.2).2, hb.1.2⟩), (hf t ht).2.2⟩
theorem Fr.row_move {f : Fr} {S S' T : Nat → Prop} {u : Value} (h : f.row B0 S W u) (hk : Kept T W W') (hu : ∀ g, u.ownBlock = some g → ¬ T g) (hS : ∀ b, b < W.heap.size → S b → some b ≠ u.ownBlock → ¬ T b ∧ S' b) : f.row B0 S' W' u := by
  unfold Fr.row at h ⊢
  split at h
  · rename_i c; rw [if_pos c]; exact h.move hk hu hS
  · rename_i c; rw [if_neg c]; exact h.move hk hu hS
/-- A frame more. -/
theorem BIn.push {f0 : Fr} (h : BIn B0 bb A O W s ov us X) (hk : Kept (fun b => b = bb ∨ ov.ownBlock = some b) W W') (hbox : Whole W' bb 86 (bcells ov' s.dn X.h s.nd s.bad))
    (hrow : FrRow B0 W' ov' (s.d + 1) (fun j => if j = s.d then f0.cells (.slice none 0 0) else (s.fr j).cells (us j))) (hv : ov'.ownBlock = ov.ownBlock ∨ ∀ g, ov'.ownBlock = some g → W.heap.size ≤ g) (h0 : f0.n = 0)
    (hok : Bst.ok { s with d := s.d + 1, fr := upd s.fr s.d f0 }) :
    BIn B0 bb (fun b => A b ∨ ov'.ownBlock = some b) (Own bb ov' (upd us s.d (.slice none 0 0)) (s.d + 1)) W' { s with d := s.d + 1, fr := upd s.fr s.d f0 } ov' (upd us s.d (.slice none 0 0)) X := by
  have hold : ∀ j, j < s.d → upd us s.d (.slice none 0 0) j = us j := fun j hj => upd_other (by omega)
  have hnew : ∀ b, b < W.heap.size → ¬ O b → ¬ Own bb ov' (upd us s.d (.slice none 0 0)) (s.d + 1) b := fun b hb hn q => by
    rcases q with q | q | ⟨j, hj, q⟩
    · exact hn (by rw [q]; exact h.Obb)
    · rcases hv with hv | hv
      · rw [hv] at q; exact hn (h.Oov q)
      · have := hv b q; omega
    · by_cases e : j = s.d
      · subst e; rw [upd_same] at q; cases q
      · rw [upd_other e] at q; exact hn (h.Ous (by omega) q)
  have hbb' : ov'.ownBlock ≠ some bb := fun q => by
    rcases hv with hv | hv
    · rw [hv] at q; exact h.sep1 q
    · have := hv bb q; have := h.box.lt; omega
  have hov : ∀ j, j < s.d → (us j).ownBlock = ov'.ownBlock → (us j).ownBlock = none := fun j hj q => by
    rcases hv with hv | hv
    · rw [hv] at q; exact (h.sep2 j hj).2 q
    · cases hg : (us j).ownBlock with
      | none => rfl
      | some g =>
        have h1 := hv g (by rw [← q]; exact hg)
        have := (Fr.row_lt (h.rows j hj) hg).2
        omega
  exact {
    hO := fun b => Iff.rfl
    hA := fun b hb => by
      rcases hb with rfl | q | ⟨j, hj, q⟩
      · exact .inl (h.hA _ h.Obb)
      · exact .inr q
      · by_cases e : j = s.d
        · subst e; rw [upd_same] at q; cases q
        · rw [upd_other e] at q; exact .inl (h.hA _ (h.Ous (by omega) q))
    box := hbox
    hB0 := h.hB0
    row := hrow.congr fun j hj => by
      by_cases e : j = s.d
      · subst e; rw [if_pos rfl]; show _ = (upd s.fr s.d f0 s.d).cells (upd us s.d _ s.d); rw [upd_same, upd_same]
      · rw [if_neg e]; show _ = (upd s.fr s.d f0 j).cells (upd us s.d _ j); rw [upd_other e, upd_other e]
    rows := fun j hj => by
      by_cases e : j = s.d
      · subst e
        show (upd s.fr s.d f0 s.d).row B0 _ W' (upd us s.d _ s.d)
        rw [upd_same, upd_same]
        exact row_nil h0
      · show (upd s.fr s.d f0 j).row B0 _ W' (upd us s.d _ j)
        rw [upd_other e, upd_other e]
        have hj' : j < s.d := by have q : j < s.d + 1 := hj; omega
        exact Fr.row_move (h.rows j hj') hk (fun g hg q => by
          rcases q with q | q
          · exact (h.sep2 j hj').1 (by rw [hg, q])
          · have := (h.sep2 j hj').2 (by rw [hg, q]); rw [hg] at this; cases this) (fun b hb hs _ => ⟨fun q => q.elim (fun q => hs.2 (by rw [q]; exact h.Obb)) (fun q => hs.2 (h.Oov q)), .inl hs.1, hnew b hb hs.2⟩)
    sep1 := hbb'
    sep2 := fun j hj => by
      by_cases e : j = s.d
      · subst e; rw [upd_same]; exact ⟨(fun q => by cases q), fun _ => rfl⟩
      · have hj' : j < s.d := by have q : j < s.d + 1 := hj; omega
        rw [upd_other e]
        exact ⟨(h.sep2 j hj').1, hov j hj'⟩
    sep3 := fun j t hj ht hjt q => by
      by_cases e : j = s.d
      · subst e; rw [upd_same]; rfl
      · have hj' : j < s.d := by have q : j < s.d + 1 := hj; omega
        rw [upd_other e] at q ⊢
        by_cases e2 : t = s.d
        · subst e2; rw [upd_same] at q; exact q
        · have ht' : t < s.d := by have q : t < s.d + 1 := ht; omega
          rw [upd_other e2] at q
          exact h.sep3 j t hj' ht' hjt q
    inn := Vt.In.turn (S := fun b => A b ∧ ¬ O b) (fun b hb hlt => ⟨hk.block b hlt (fun q => by
      rcases q with q | q
      · exact hb.2 (by rw [q]; exact h.Obb)
      · exact hb.2 (h.Oov q)), Nat.lt_of_lt_of_le hlt hk.size⟩) h.inn h.off
    off := (h.off.and h.inn.off).mono fun b hb => ⟨.inl hb.1.1, hnew b hb.2 hb.1.2⟩
    yes := h.yes
    no := h.no
    ok := hok }
/-- A frame's value, where it lies. -/
theorem fr_value {f : Fr} {S : Nat → Prop} {u : Value} (h : f.row B0 S W u) (hn : f.n ≤ 1048576) (hK : ∀ j, j < f.n → (f.K j).size ≤ 1048576) :
    ∃ Y : Vt, f.cells u = Y.h.cells ++ #[.string f.key, .bool f.kd] ∧ Y.In W W.heap.size ∧ Y.Off (fun b => S b ∨ u.ownBlock = some b) ∧ Y.Same (frV f) := by
  unfold Fr.row at h
  unfold Fr.cells frV
  split at h
  · rename_i c
    rw [if_pos c, if_pos c]
    obtain ⟨g, a, cp, b, rfl, hcc, ha, hrows⟩ := h.done fcs_size
    refine ⟨.mk (Vh.fld 7 a f.n cp b) (fun _ => 0) (fun _ => .nil) (fun j => (g j).1) (fun j => (g j).2), rfl, fld_in (K := fun j => (g j).1) (M := fun j => (g j).2) ⟨by decide, by decide⟩ hn hcc (fun q => ⟨(ha q).1, (ha q).2.2⟩) (fun j hj => ⟨(hrows j hj).1, by rw [(hrows j hj).2.2.2.1]; exact hK j hj, (hrows j hj).2.1⟩), ?_, ?_⟩
    · exact ⟨fun q => absurd q (Nat.lt_irrefl _), fun q => absurd q (Nat.lt_irrefl _), fun i hi => absurd hi (Nat.not_lt_zero _), fun q => .inr (by rw [(ha q).1]; rfl), fun j hj => (hrows j hj).2.2.1.mono fun b hb => .inl hb⟩
    · exact ⟨(fun e => by cases e), ⟨rfl, rfl, rfl, rfl, rfl, rfl, rfl, rfl, rfl, rfl, rfl, rfl, rfl⟩, fun i hi => absurd hi (Nat.not_lt_zero _), fun i hi => absurd hi (Nat.not_lt_zero _), fun j hj => (hrows j hj).2.2.2⟩
  · rename_i c
    rw [if_neg c, if_neg c]
    obtain ⟨g, a, cp, b, rfl, hcc, ha, hrows⟩ := h.done (fun x : Vt => vh_size x.h)
    refine ⟨.mk (Vh.lst 6 a f.n cp b) (fun _ => 0) g (fun _ => ⟨#[]⟩) (fun _ => .nil), rfl, lst_in ⟨by decide, by decide⟩ hn hcc (fun q => ⟨(ha q).1, (ha q).2.2⟩) (fun j hj => ⟨(hrows j hj).1, (hrows j hj).2.1⟩), ?_, ?_⟩
    · exact ⟨fun q => absurd q (Nat.lt_irrefl _), fun q => .inr (by rw [(ha q).1]; rfl), fun j hj => (hrows j hj).2.2.1.mono fun b hb => .inl hb, fun q => absurd q (Nat.lt_irrefl _), fun i hi => absurd hi (Nat.not_lt_zero _)⟩
    · exact ⟨(fun e => by cases e), ⟨rfl, rfl, rfl, rfl, rfl, rfl, rfl, rfl, rfl, rfl, rfl, rfl, rfl⟩, fun i hi => absurd hi (Nat.not_lt_zero _), fun j hj => (hrows j hj).2.2.2, fun i hi => absurd hi (Nat.not_lt_zero _)⟩
/-- A frame less: its value is no part of the builder any more. -/
theorem BIn.pop {d o c : Nat} (h : BIn B0 bb A O W s ov us X) (hd : s.d = d + 1) (hov : ov = .slice (some ⟨o, 0, none⟩) (d + 1) c) (hk : Kept (fun b => b = bb) W W') (hbox : Whole W' bb 86 (bcells (.slice (some ⟨o, 0, none⟩) d c) s.dn X.h s.nd s.bad)) :
    BIn B0 bb A (Own bb (.slice (some ⟨o, 0, none⟩) d c) us d) W' { s with d := d } (.slice (some ⟨o, 0, none⟩) d c) us X ∧ (∀ b, Own bb (.slice (some ⟨o, 0, none⟩) d c) us d b → O b) ∧
      ∃ Y : Vt, (s.fr d).cells (us d) = Y.h.cells ++ #[.string (s.fr d).key, .bool (s.fr d).kd] ∧ Y.In W' W'.heap.size ∧ Y.Off (fun b => A b ∧ ¬ Own bb (.slice (some ⟨o, 0, none⟩) d c) us d b) ∧ Y.Same (frV (s.fr d)) := by
  have hdd : d < s.d := by omega
  have hblk : ov.ownBlock = (Value.slice (some ⟨o, 0, none⟩) d c).ownBlock := by rw [hov]; rfl
  have hsub : ∀ b, Own bb (.slice (some ⟨o, 0, none⟩) d c) us d b → O b := fun b hb => by
    rcases hb with rfl | q | ⟨j, hj, q⟩
    · exact h.Obb
    · exact h.Oov (by rw [hblk]; exact q)
    · exact h.Ous (by omega) q
  have hnoW : ∀ j, j < s.d → ∀ g, (us j).ownBlock = some g → ¬ g = bb := fun j hj g hg e => (h.sep2 j hj).1 (by rw [hg, e])
  obtain ⟨Y, y1, y2, y3, y4⟩ := fr_value (h.rows d hdd) (by have := (h.ok.fr d hdd).1; have := h.ok.nd; omega) (fun j hj => ((h.ok.fr d hdd).2.2 j hj).1)
  refine ⟨?_, hsub, Y, y1, ?_, ?_, y4⟩
  · exact {
      hO := fun b => Iff.rfl
      hA := fun b hb => h.hA b (hsub b hb)
      box := hbox
      hB0 := h.hB0
      row := by
        have r := h.row
        rw [hd] at r
        obtain ⟨o', c', cur, e, hW, hB, h1, h2, h3, h4⟩ := r.op (Nat.succ_pos _)
        rw [hov] at e
        injection e with e1 e2 e3
        have e1 : o = o' := by injection e1 with e1; injection e1
        subst e1 e3
        exact FrRow.sh ((hk.block o hW.lt (fun e => h.sep1 (by rw [hov, ← e]; rfl))).trans hW) hB (by omega) h2 h3 (fun i hi j hj => h4 i (by omega) j hj)
      rows := fun j hj => by
        have hj' : j < d := hj
        exact Fr.row_move (h.rows j (by omega)) hk (fun g hg q => hnoW j (by omega) g hg q) (fun b hb hs _ => ⟨fun q => hs.2 (by rw [q]; exact h.Obb), hs.1, fun q => hs.2 (hsub b q)⟩)
      sep1 := by rw [← hblk]; exact h.sep1
      sep2 := fun j hj => ⟨(h.sep2 j (Nat.lt_trans hj hdd)).1, fun q => (h.sep2 j (Nat.lt_trans hj hdd)).2 (by rw [hblk]; exact q)⟩
      sep3 := fun j t hj ht hjt q => h.sep3 j t (Nat.lt_trans hj hdd) (Nat.lt_trans ht hdd) hjt q
      inn := Vt.In.turn (S := fun b => A b ∧ ¬ O b) (fun b hb hlt => ⟨hk.block b hlt (fun q => hb.2 (by rw [q]; exact h.Obb)), Nat.lt_of_lt_of_le hlt hk.size⟩) h.inn h.off
      off := h.off.mono fun b hb => ⟨hb.1, fun q => hb.2 (hsub b q)⟩
      yes := h.yes
      no := h.no
      ok := ⟨by have := h.ok.d; show d ≤ 48; omega, h.ok.nd, fun i hi => h.ok.fr i (Nat.lt_trans hi hdd), h.ok.out⟩ }
  · exact Vt.In.turn (S := fun b => (A b ∧ ¬ O b) ∨ (us d).ownBlock = some b) (fun b hb hlt => ⟨hk.block b hlt (fun q => by
      rcases hb with hb | hb
      · exact hb.2 (by rw [q]; exact h.Obb)
      · exact hnoW d hdd b hb q), Nat.lt_of_lt_of_le hlt hk.size⟩) y2 y3
  · refine y3.mono fun b hb => ?_
    rcases hb with hb | hb
    · exact ⟨hb.1, fun q => hb.2 (hsub b q)⟩
    · refine ⟨h.hA b (h.Ous hdd hb), fun q => ?_⟩
      rcases q with q | q | ⟨j, hj, q⟩
      · exact hnoW d hdd b hb q
      · have := (h.sep2 d hdd).2 (by rw [hb, hblk, q]); rw [hb] at this; cases this
      · have := h.sep3 d j hdd (by omega) (by omega) (by rw [hb, q]); rw [hb] at this; cases this
end
end Go.Proofs.YtpcbhneaaibfiaaDoor
/- A complete value goes into a builder that has nothing open: put, the first way. -/
namespace Go.Proofs.YtpcbhneaaibfiaaDoor
open Go.RowKit
set_option linter.unusedSimpArgs false
set_option linter.unusedVariables false

/-- What a builder is, when a complete value goes into it. -/
def putS (s : Bst) (V : Vt) : Bst :=
  if s.d = 0 then { s with dn := true, out := V }
  else if (s.fr (s.d - 1)).mp = true then { s with fr := upd s.fr (s.d - 1) ⟨true, (s.fr (s.d - 1)).n + 1, upd (s.fr (s.d - 1)).K (s.fr (s.d - 1)).n (s.fr (s.d - 1)).key, upd (s.fr (s.d - 1)).M (s.fr (s.d - 1)).n V, ⟨#[]⟩, false⟩ }
  else { s with fr := upd s.fr (s.d - 1) ⟨false, (s.fr (s.d - 1)).n + 1, upd (s.fr (s.d - 1)).K (s.fr (s.d - 1)).n ⟨#[]⟩, upd (s.fr (s.d - 1)).M (s.fr (s.d - 1)).n V, (s.fr (s.d - 1)).key, (s.fr (s.d - 1)).kd⟩ }
/-- What a step of a builder answers. -/
def BOut (B0 bb : Nat) (A O : Nat → Prop) (W : World) (s' : Bst) (v : Value) (e : Ending) (W' : World) : Prop :=
  e = .returned v ∧ ∃ A' O', BInv B0 bb A' O' W' s' ∧ (∀ b, A' b → A b ∨ W.heap.size ≤ b) ∧ (∀ b, O' b → O b ∨ W.heap.size ≤ b) ∧ Kept O W W'
theorem setN_bout (ov : Value) (dn : Bool) (g h : Vh) (nd : Nat) (bad : Bool) : (setN (bcells ov dn g nd bad) 2 h.cells.toList).setIfInBounds 1 (.bool true) = bcells ov true h nd bad := by
  simp [setN, bcells, Vh.cells]
theorem kept_cells (X : Nat → Prop) (b : Nat) (hb : X b) : ∀ (vs : List Value) (W : World) (o : Nat), Kept X W (W.setCells b o vs) := by
  intro vs
  induction vs with
  | nil => intro W o; exact Kept.refl _ _
  | cons v r ih => intro W o; exact (kept_set X W b o v hb).trans (ih (W.setCell ⟨b, o, none⟩ v) (o + 1)) (fun b hb => .inl hb)
theorem kept_after {T O : Nat → Prop} {W W1 W' : World} (hb : Below W.heap.size W W1) (hk : Kept T W1 W') (hO : ∀ b, T b → O b ∨ W.heap.size ≤ b) : Kept O W W' :=
  ⟨hk.os.trans hb.os, hk.tape.trans hb.tape, hk.output.trans hb.output, Nat.le_trans hb.size hk.size, fun k h1 hn => (hk.block k (Nat.lt_of_lt_of_le h1 hb.size) (fun q => by
    rcases hO k q with q | q
    · exact hn q
    · omega)).trans (hb.block k h1)⟩
set_option maxHeartbeats 4000000 in
set_option maxRecDepth 100000 in
theorem put_out {B0 bb : Nat} {A O : Nat → Prop} {W : World} {s : Bst} {Y V : Vt} (h : BInv B0 bb A O W s) (hd : s.d = 0) (hY : Y.In W W.heap.size) (hYo : Y.Off (fun b => A b ∧ ¬ O b)) (hYs : Y.Same V) (hu : V.upto 49) :
    Calls Tryd.prog 48 #[.pointer (some ⟨bb, 0, none⟩), .agg Y.h.cells] W (BOut B0 bb A O W (putS s V) (.tuple #[])) := by
  obtain ⟨ov, us, X, h⟩ := h
  have hb1 := (Below.refl W.heap.size W).alloc (Nat.le_refl _) (.cells Y.h.cells 30)
  have h1 := h.later hb1
  have hY1 := hY.later hb1
  have YB := Whole.new W 30 Y.h.cells
  have hbb := h.box.lt
  have PB : Whole (W.alloc (.cells Y.h.cells 30)) bb 86 (bcells ov s.dn X.h s.nd s.bad) := h1.box
  obtain ⟨a, c, hov⟩ := h.row.slice
  rw [hd] at hov
  have HF : Hid (∀ W', Kept (fun b => b = bb) (W.alloc (.cells Y.h.cells 30)) W' → Whole W' bb 86 (bcells ov true Y.h s.nd s.bad) → BOut B0 bb A O W (putS s V) (.tuple #[]) (.returned (.tuple #[])) W') := Lib.hid fun W' hk hbx => by
    refine ⟨rfl, A, O, ⟨ov, us, Y, ?_⟩, fun b q => .inl q, fun b q => .inl q, ?_⟩
    · have := h1.putOut hd hY1 hYo hYs hk hbx hu
      unfold putS
      rw [if_pos hd]
      exact this
    · exact kept_after hb1 hk (fun b q => .inl (by rw [q]; exact h.Obb))
  subst hov
  have p0 : World.cell? _ ⟨bb, 0, none⟩ = some (.slice a 0 c) := PB.cell 0
  have HTh : Hid (World.there (W.alloc (.cells Y.h.cells 30)) bb 2 Y.h.cells.size) := Lib.hid (whole_there PB (by rw [vh_size]; show 2 + 13 ≤ 17; decide))
  have hone := Lib.hid (vh_all Y.h)
  obtain ⟨x0, x1, x2, x3, x4, x5, x6, x7, x8, x9, x10, x11, x12⟩ := Whole.c13 (h := Y.h) YB
  have PB2 := Whole.setCells Y.h.cells.toList 2 PB
  have HK2 := Lib.hid (kept_cells (fun b => b = bb) bb rfl Y.h.cells.toList (W.alloc (.cells Y.h.cells 30)) 2)
  obtain ⟨w2, hw2⟩ : ∃ w2, (W.alloc (.cells Y.h.cells 30)).setCells bb 2 Y.h.cells.toList = w2 := ⟨_, rfl⟩
  rw [hw2] at PB2 HK2
  have f1 := PB2.frozen 1
  have c1 : w2.cell? ⟨bb, 1, none⟩ = some (.bool s.dn) := (PB2.cell 1).trans ((setN_out _ _ _ _ (.inl (by decide))).trans rfl)
  have HP2 := Lib.hid (PB2.set 1 (.bool true))
  have HW2 := Lib.hid hw2
  clear h h1 hb1 hY hY1 hYo hYs hu hd PB PB2 YB hw2
  simp only [Vh.cells] at p0 x0 x1 x2 x3 x4 x5 x6 x7 x8 x9 x10 x11 x12 HTh HK2 hone HW2 ⊢
  go_enter Tryd.func48, Tryd.ntmps48
  go_wp2_with (refine wpList_store_mid rfl 30 _ _ rfl bb 2 #[.int .i64 Y.h.k, .bool Y.h.b, .bool Y.h.n, .string Y.h.d, .int .i64 Y.h.e, .int .i64 Y.h.tk, .int .i64 Y.h.td, .int .i64 Y.h.tn, .int .i64 Y.h.tz, .string Y.h.x, .slice Y.h.ba Y.h.bn Y.h.bc, .slice Y.h.la Y.h.ln Y.h.lc, .slice Y.h.fa Y.h.fn Y.h.fc] rfl rfl HTh.out vh_row hone.out ?_; rw [HW2.out])
  go_end0
  exact HF.out _ (HK2.out.trans (kept_set (fun b => b = bb) _ bb 1 (.bool true) rfl) (fun b q => .inl q)) (by have q := HP2.out; rw [setN_bout] at q; exact q)
end Go.Proofs.YtpcbhneaaibfiaaDoor
/- A complete value goes into the innermost list or map of a builder: plain. -/
set_option linter.unusedVariables false
namespace Go.Proofs.YtpcbhneaaibfiaaDoor
open Go.RowKit

theorem own_len {W : World} {B C n : Nat} {e : TypeId} {v : Value} {xs : List Value} (h : W.ownsRow B e C v n xs) : xs.length = n * C := h.1
/-- One more element, of which the cells were zero first. -/
theorem own_fill {W : World} {B C k g c : Nat} {e : TypeId} {xs zs vs : List Value} (h : W.ownsRow B e C (.slice (some ⟨g, 0, none⟩) (k + 1) c) (k + 1) (xs ++ zs)) (hx : xs.length = k * C) (hv : vs.length = C) :
    ∃ cur, Whole W g e cur ∧ k * C + C ≤ cur.size ∧ B ≤ g ∧ ∀ W', Whole W' g e (setN cur (k * C) vs) → W'.ownsRow B e C (.slice (some ⟨g, 0, none⟩) (k + 1) c) (k + 1) (xs ++ vs) := by
  obtain ⟨g', c', cur, ev, hW, hB, h1, h2, h3, h4⟩ := own_open h (Nat.succ_pos _)
  injection ev with e1 e2 e3
  have e1 : g = g' := by injection e1 with e1; injection e1
  subst e1 e3
  have hkc : k * C + C ≤ c * C := by rw [← Nat.succ_mul]; exact Nat.mul_le_mul_right C h1
  refine ⟨cur, hW, by rw [h3]; exact hkc, hB, fun W' hW' => ?_⟩
  have key : xs ++ vs = (setN cur (k * C) vs).toList.take ((k + 1) * C) := by
    apply List.ext_getElem?
    intro j
    by_cases hj : j < (k + 1) * C
    · rw [take_get hj]
      by_cases hjk : j < k * C
      · rw [setN_out _ _ _ _ (.inl hjk), List.getElem?_append_left (by omega), ← take_get hj, h4, List.getElem?_append_left (by omega)]
      · have hlt : j - k * C < vs.length := by rw [hv, Nat.succ_mul] at *; omega
        rw [List.getElem?_append_right (by omega), hx]
        have := setN_in vs cur (k * C) (j - k * C) (by rw [hv, h3]; exact hkc) hlt
        rw [← this, show k * C + (j - k * C) = j by omega]
    · have hl : (xs ++ vs).length = (k + 1) * C := by rw [List.length_append, hx, hv, Nat.succ_mul]
      rw [List.getElem?_eq_none (by omega), List.getElem?_eq_none (by rw [List.length_take]; omega)]
  rw [key]
  exact own_shut hW' hB h1 h2 (by rw [setN_size]; exact h3)
/-- A row that has one more. -/
theorem RowG.one {α : Type} {cs : α → Array Value} {tr : α → Vt} {C : Nat} {e : TypeId} {B k g c : Nat} {S S' T : Nat → Prop} {q : Nat → α → Prop} {W W' : World} {v : Value} {f : Nat → α} {x : α}
    (hf : ∀ i, i < k → (tr (f i)).In W W.heap.size ∧ (tr (f i)).Off (fun b => S b ∧ some b ≠ v.ownBlock) ∧ q i (f i)) (hx : (tr x).In W W.heap.size) (hxo : (tr x).Off S) (hq : q k x)
    (hk : Kept T W W') (hS : ∀ b, b < W.heap.size → S b → ¬ T b ∧ S' b) (hS2 : ∀ b, b < W.heap.size → S b → b ≠ g)
    (ho : W'.ownsRow B e C (.slice (some ⟨g, 0, none⟩) (k + 1) c) (k + 1) (catN (fun i => cs (f i)) k ++ (cs x).toList)) :
    RowG cs tr C e B S' q W' (.slice (some ⟨g, 0, none⟩) (k + 1) c) (k + 1) := by
  refine ⟨fun i => if i = k then x else f i, ?_, fun i hi => ?_⟩
  · have e1 : catN (fun i => cs (if i = k then x else f i)) (k + 1) = catN (fun i => cs (f i)) k ++ (cs x).toList := by
      show catN (fun i => cs (if i = k then x else f i)) k ++ (cs (if k = k then x else f k)).toList = _
      rw [catN_congr (g := fun i => cs (f i)) (fun i hi => by rw [if_neg (by omega)]), if_pos rfl]
    rw [e1]
    exact ho
  · have key : ∀ {y : α}, (tr y).In W W.heap.size → (tr y).Off S → (tr y).In W' W'.heap.size ∧ (tr y).Off (fun b => S' b ∧ some b ≠ (Value.slice (some ⟨g, 0, none⟩) (k + 1) c).ownBlock) := by
      intro y h1 h2
      have h3 := h2.and h1.off
      exact ⟨Vt.In.turn (S := fun b => S b ∧ b < W.heap.size) (fun b hb hlt => ⟨hk.block b hlt (hS b hlt hb.1).1, Nat.lt_of_lt_of_le hlt hk.size⟩) h1 h3, h3.mono fun b hb => ⟨(hS b hb.2 hb.1).2, fun e => hS2 b hb.2 hb.1 (Option.some.inj e)⟩⟩
    by_cases hik : i = k
    · subst hik
      simp only [if_true]
      exact ⟨(key hx hxo).1, (key hx hxo).2, hq⟩
    · simp only [if_neg hik]
      obtain ⟨h1, h2, h3⟩ := hf i (by omega)
      exact ⟨(key h1 (h2.mono fun b hb => hb.1)).1, (key h1 (h2.mono fun b hb => hb.1)).2, h3⟩
section
variable {B0 bb : Nat} {A O : Nat → Prop} {W W0 W' : World} {s : Bst} {ov : Value} {us : Nat → Value} {X Y V : Vt}
/-- The frames, one of them turned. -/
theorem FrRow.turn {d o c i : Nat} {C C' : Nat → Array Value} {cur cur' : Array Value} (hW : Whole W' o 98 cur') (hB : B0 ≤ o) (h1 : d ≤ c) (h2 : c ≤ maxLen) (h3 : cur.size = c * 15) (hC : ∀ i, i < d → ∀ j, j < 15 → cur[i * 15 + j]? = (C i)[j]?)
    (hs : cur'.size = cur.size) (ho : ∀ j, (j < i * 15 ∨ i * 15 + 15 ≤ j) → cur'[j]? = cur[j]?) (hi : ∀ j, j < 15 → cur'[i * 15 + j]? = (C' i)[j]?) (hC' : ∀ t, t < d → t ≠ i → C t = C' t) :
    FrRow B0 W' (.slice (some ⟨o, 0, none⟩) d c) d C' :=
  FrRow.sh hW hB h1 h2 (by rw [hs]; exact h3) fun t ht j hj => by
    by_cases e : t = i
    · subst e; exact hi j hj
    · rw [ho _ (by omega), hC t ht j hj, hC' t ht e]
theorem kept_later {T : Nat → Prop} (hb : Below W.heap.size W W0) (hk : Kept T W0 W') (hT : ∀ b, T b → b < W.heap.size ∨ W.heap.size ≤ b) : Kept T W W' :=
  ⟨hk.os.trans hb.os, hk.tape.trans hb.tape, hk.output.trans hb.output, Nat.le_trans hb.size hk.size, fun k h1 hn => (hk.block k (Nat.lt_of_lt_of_le h1 hb.size) hn).trans (hb.block k h1)⟩
/-- How a walk of put ends, with something open. -/
theorem BIn.put_end {i g c o : Nat} {f' : Fr} (h : BIn B0 bb A O W0 s ov us X) (hb : Below W.heap.size W W0) (hi : s.d = i + 1) (ho : ov.ownBlock = some o)
    (hk : Kept (fun b => b = o ∨ (us i).ownBlock = some b) W0 W') (hg : (us i).ownBlock = some g ∨ W0.heap.size ≤ g)
    (hrow : FrRow B0 W' ov s.d (fun j => if j = i then f'.cells (.slice (some ⟨g, 0, none⟩) f'.n c) else (s.fr j).cells (us j)))
    (hf : ∀ S' : Nat → Prop, (∀ b, b < W0.heap.size → A b ∧ ¬ O b → S' b) → f'.row B0 S' W' (.slice (some ⟨g, 0, none⟩) f'.n c))
    (hok : Bst.ok { s with fr := upd s.fr i f' }) :
    ∃ A' O', BInv B0 bb A' O' W' { s with fr := upd s.fr i f' } ∧ (∀ b, A' b → A b ∨ W.heap.size ≤ b) ∧ (∀ b, O' b → O b ∨ W.heap.size ≤ b) ∧ Kept O W W' := by
  have hi' : i < s.d := by omega
  have hu : (Value.slice (some ⟨g, 0, none⟩) f'.n c).ownBlock = (us i).ownBlock ∨ ∀ b, (Value.slice (some ⟨g, 0, none⟩) f'.n c).ownBlock = some b → W0.heap.size ≤ b := by
    rcases hg with hg | hg
    · exact .inl hg.symm
    · exact .inr fun b e => by cases e; exact hg
  have hk' : Kept (fun b => ov.ownBlock = some b ∨ (us i).ownBlock = some b) W0 W' := hk.more fun b q => q.imp (fun e => by rw [ho, e]) id
  have hOg : O g ∨ W.heap.size ≤ g := by
    rcases hg with hg | hg
    · exact .inl (h.Ous hi' hg)
    · exact .inr (Nat.le_trans hb.size hg)
  refine ⟨_, _, ⟨ov, _, X, h.top hi hk' hrow hu (hf _ fun b hlt hb => ⟨.inl hb.1, fun q => ?_⟩) hok⟩, fun b q => ?_, fun b q => ?_, kept_after hb hk' fun b q => ?_⟩
  · rcases q with q | q | ⟨j, hj, q⟩
    · exact hb.2 (by rw [q]; exact h.Obb)
    · exact hb.2 (h.Oov q)
    · by_cases e : j = i
      · subst e
        rw [upd_same] at q
        rcases hu with hu | hu
        · rw [hu] at q; exact hb.2 (h.Ous hj q)
        · have := hu b q; omega
      · rw [upd_other e] at q; exact hb.2 (h.Ous hj q)
  · rcases q with q | q
    · exact .inl q
    · cases q
      exact hOg.imp (h.hA _) id
  · rcases q with q | q | ⟨j, hj, q⟩
    · exact .inl (by rw [q]; exact h.Obb)
    · exact .inl (h.Oov q)
    · by_cases e : j = i
      · subst e
        rw [upd_same] at q
        cases q
        exact hOg
      · rw [upd_other e] at q; exact .inl (h.Ous hj q)
  · rcases q with q | q
    · exact .inl (h.Oov q)
    · exact .inl (h.Ous hi' q)
end
end Go.Proofs.YtpcbhneaaibfiaaDoor
