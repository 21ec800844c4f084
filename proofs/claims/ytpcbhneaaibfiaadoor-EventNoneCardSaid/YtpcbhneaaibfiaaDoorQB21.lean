/- Laid together for a claim: EvAddP, EvFolW, EvFolO. -/
import Derived.Test.YtpcbhneaaibfiaaDoorQB20
import Derived.Test.YtpcbhneaaibfiaaDoorQB19
/- How a builder turns when an event is added: plain. -/
namespace Go.Proofs.YtpcbhneaaibfiaaDoor
open Go.RowKit
set_option linter.unusedVariables false
set_option linter.unusedSimpArgs false

theorem Tryd.infoFrm : (Tryd.prog.info? 98).map (fun i => (i.zero, i.size, i.bytes)) = some (some (.agg #[.int .i64 0, .bool false, .bool false, .string ⟨#[]⟩, .int .i64 0, .int .i64 0, .int .i64 0, .int .i64 0, .int .i64 0, .string ⟨#[]⟩, .slice none 0 0, .slice none 0 0, .slice none 0 0, .string ⟨#[]⟩, .bool false]), 15, 192) := by kernel_rfl
section
variable {B0 bb : Nat} {A O : Nat → Prop} {W W1 W2 W' : World} {s : Bst} {ov : Value} {us : Nat → Value} {X V : Vt}
theorem ok_bad (h : s.ok) : Bst.ok { s with bad := true } := ⟨h.d, h.nd, h.fr, h.out⟩
theorem ok_nd (h : s.ok) (hn : s.nd < 65536) : Bst.ok { s with nd := s.nd + 1 } := ⟨h.d, hn, fun i hi => ⟨Nat.le_succ_of_le (h.fr i hi).1, (h.fr i hi).2⟩, h.out⟩
/-- It is bad from now on. -/
theorem bad_end (h : BIn B0 bb A O W s ov us X) (hb : Below W.heap.size W W2) (v : Value) : BOut B0 bb A O W { s with bad := true } v (.returned v) (W2.setCell ⟨bb, 16, none⟩ (.bool true)) := by
  have h2 := h.later hb
  have hk := kept_set (fun b => b = bb) W2 bb 16 (.bool true) rfl
  refine ⟨rfl, A, O, ⟨ov, us, X, h2.rebox (s' := { s with bad := true }) hk ?_ rfl rfl rfl rfl (ok_bad h.ok)⟩, fun b q => .inl q, fun b q => .inl q, kept_after hb hk (fun b q => .inl (by rw [q]; exact h.Obb))⟩
  have e := h2.box.set 16 (.bool true)
  exact e
/-- It stays as it is. -/
theorem same_end (h : BIn B0 bb A O W s ov us X) (hb : Below W.heap.size W W2) (v : Value) : BOut B0 bb A O W s v (.returned v) W2 :=
  ⟨rfl, A, O, ⟨ov, us, X, h.later hb⟩, fun b q => .inl q, fun b q => .inl q, Kept.of hb⟩
/-- A node more. -/
theorem nd_more (h : BIn B0 bb A O W s ov us X) (hn : s.nd < 65536) (hk : Kept (fun b => b = bb) W W') (hbox : Whole W' bb 86 (bcells ov s.dn X.h (s.nd + 1) s.bad)) : BIn B0 bb A O W' { s with nd := s.nd + 1 } ov us X :=
  h.rebox (s' := { s with nd := s.nd + 1 }) hk hbox rfl rfl rfl rfl (ok_nd h.ok hn)
theorem nd_box (h : Whole W bb 86 (bcells ov s.dn X.h s.nd s.bad)) : Whole (W.setCell ⟨bb, 15, none⟩ (.int .i64 ((s.nd : Int) + 1))) bb 86 (bcells ov s.dn X.h (s.nd + 1) s.bad) := by
  have e := h.set 15 (.int .i64 ((s.nd : Int) + 1))
  have c : (((s.nd + 1 : Nat) : Int)) = (s.nd : Int) + 1 := by omega
  unfold bcells at e ⊢
  rw [c]
  exact e
/-- A step that follows other steps. -/
theorem BOut.after {A1 O1 : Nat → Prop} {s' : Bst} {v v' : Value} {e : Ending} (h : BOut B0 bb A1 O1 W1 s' v' e W') (hk : Kept O W W1) (hA : ∀ b, A1 b → A b ∨ W.heap.size ≤ b) (hO : ∀ b, O1 b → O b ∨ W.heap.size ≤ b) : BOut B0 bb A O W s' v (.returned v) W' := by
  obtain ⟨-, A', O', h1, h2, h3, h4⟩ := h
  have hsz := hk.size
  refine ⟨rfl, A', O', h1, fun b q => ?_, fun b q => ?_, hk.trans h4 hO⟩
  · rcases h2 b q with q | q
    · exact hA b q
    · exact .inr (Nat.le_trans hsz q)
  · rcases h3 b q with q | q
    · exact hO b q
    · exact .inr (Nat.le_trans hsz q)
/-- The frame's key. -/
theorem keyF_row {f : Fr} {key : ByteArray} {S : Nat → Prop} {u : Value} (h : f.row B0 S W u) : (keyF f key).row B0 S W u := h
theorem key_end {i o c : Nat} {cur : Array Value} {key : ByteArray} (h : BIn B0 bb A O W s ov us X) (hb : Below W.heap.size W W2) (hi : s.d = i + 1) (hm : (s.fr i).mp = true) (hs : key.size ≤ 1048576) (v : Value)
    (eo : ov = .slice (some ⟨o, 0, none⟩) s.d c) (hW : Whole W2 o 98 cur) (hB : B0 ≤ o) (h1 : s.d ≤ c) (h2 : c ≤ maxLen) (h3 : cur.size = c * 15) (hC : ∀ t, t < s.d → ∀ j, j < 15 → cur[t * 15 + j]? = ((s.fr t).cells (us t))[j]?) :
    BOut B0 bb A O W (keyS s key) v (.returned v) ((W2.setCell ⟨o, i * 15 + 13, none⟩ (.string key)).setCell ⟨o, i * 15 + 14, none⟩ (.bool true)) := by
  have hi' : i < s.d := by omega
  have g := h.later hb
  have hov : ov.ownBlock = some o := by rw [eo]; rfl
  have hk : Kept (fun b => ov.ownBlock = some b) W2 ((W2.setCell ⟨o, i * 15 + 13, none⟩ (.string key)).setCell ⟨o, i * 15 + 14, none⟩ (.bool true)) :=
    (kept_set _ W2 o (i * 15 + 13) (.string key) hov).trans (kept_set _ _ o (i * 15 + 14) (.bool true) hov) (fun b q => .inl q)
  have hk2 := hk.more (O' := fun b => ov.ownBlock = some b ∨ (us i).ownBlock = some b) fun b q => .inl q
  have hW2 := (hW.set (i * 15 + 13) (.string key)).set (i * 15 + 14) (.bool true)
  have e : keyS s key = { s with fr := upd s.fr i (keyF (s.fr i) key) } := by unfold keyS; rw [show s.d - 1 = i by omega]
  rw [e]
  have h15 : i * 15 + 15 ≤ cur.size := by omega
  have hnew : ∀ b, ¬ O b → ¬ Own bb ov (upd us i (us i)) s.d b := fun b hn q => by
    rcases q with q | q | ⟨j, hj, q⟩
    · exact hn (by rw [q]; exact h.Obb)
    · exact hn (h.Oov q)
    · by_cases z : j = i
      · subst z; rw [upd_same] at q; exact hn (h.Ous hj q)
      · rw [upd_other z] at q; exact hn (h.Ous hj q)
  refine ⟨rfl, _, _, ⟨ov, _, X, g.top (f' := keyF (s.fr i) key) (u' := us i) hi hk2 ?_ (.inl rfl) ?_ ?_⟩, fun b q => ?_, fun b q => ?_, kept_after hb hk (fun b q => .inl (h.Oov q))⟩
  · rw [eo]
    refine FrRow.turn (cur := cur) (i := i) hW2 hB h1 h2 h3 hC (by rw [Array.size_setIfInBounds, Array.size_setIfInBounds]) (fun j hj => by rw [Array.getElem?_setIfInBounds_ne (by omega), Array.getElem?_setIfInBounds_ne (by omega)]) ?_ (fun t _ hti => by rw [if_neg hti])
    rw [if_pos rfl]
    have e1 := set_one h15 (Fr.cells_size _ _) (hC i hi') 13 (by decide) (.string key)
    have e2 := set_one (by rw [Array.size_setIfInBounds]; exact h15) (by rw [Array.size_setIfInBounds]; exact Fr.cells_size _ _) e1 14 (by decide) (.bool true)
    intro j hj
    rw [cells_map hm] at e2
    rw [cells_map (f := keyF (s.fr i) key) hm]
    exact e2 j hj
  · refine keyF_row (Fr.row_move (g.rows i hi') hk (fun b hb hq => ?_) (fun b hlt hb hne => ⟨fun q => hb.2 (h.Oov q), .inl hb.1, hnew b hb.2⟩))
    have := (h.sep2 i hi').2 (by rw [hb, hq])
    rw [hb] at this
    cases this
  · exact ok_upd h.ok ⟨(h.ok.fr i hi').1, hs, (h.ok.fr i hi').2.2⟩
  · rcases q with q | q
    · exact .inl q
    · exact .inl (h.hA b (h.Ous hi' q))
  · rcases q with q | q | ⟨j, hj, q⟩
    · exact .inl (by rw [q]; exact h.Obb)
    · exact .inl (h.Oov q)
    · by_cases z : j = i
      · subst z; rw [upd_same] at q; exact .inl (h.Ous hj q)
      · rw [upd_other z] at q; exact .inl (h.Ous hj q)
/-- The cells of a new frame. -/
theorem fr0_cells (mp : Bool) : (fr0 mp).cells (.slice none 0 0) = frc (if mp = true then 7 else 6) (.slice none 0 0) (.slice none 0 0) ⟨#[]⟩ false := by
  cases mp <;> rfl
theorem push_row {d : Nat} {ov' : Value} {xs : List Value} {mp : Bool} {C : Nat → Array Value} (hl : xs.length = d * 15) (hx : ∀ i, i < d → ∀ j, j < 15 → xs[i * 15 + j]? = (C i)[j]?) (ho : W'.ownsRow B0 98 15 ov' (d + 1) (xs ++ ((fr0 mp).cells (.slice none 0 0)).toList)) :
    FrRow B0 W' ov' (d + 1) (fun j => if j = d then (fr0 mp).cells (.slice none 0 0) else C j) := by
  refine ⟨_, ho, fun i hi j hj => ?_⟩
  dsimp only
  by_cases z : i = d
  · subst z
    rw [if_pos rfl, List.getElem?_append_right (by omega), hl, Nat.add_sub_cancel_left, Array.getElem?_toList]
  · rw [if_neg z, List.getElem?_append_left (by omega)]
    exact hx i (by omega) j hj
/-- A frame more: behind the append and the store of the new row. -/
theorem push_end {mp : Bool} {ov' : Value} {xs : List Value} (h : BIn B0 bb A O W1 s ov us X) (h48 : s.d < 48) (hkW : Kept O W W1) (hA : ∀ b, A b → A b ∨ W.heap.size ≤ b) (v : Value)
    (hl : xs.length = s.d * 15) (hx : ∀ i, i < s.d → ∀ j, j < 15 → xs[i * 15 + j]? = ((s.fr i).cells (us i))[j]?)
    (ho : W2.ownsRow B0 98 15 ov' (s.d + 1) (xs ++ ((fr0 mp).cells (.slice none 0 0)).toList)) (hk : Kept (fun b => ov.ownBlock = some b) W1 W2)
    (hv : ov'.ownBlock = ov.ownBlock ∨ ∀ g, ov'.ownBlock = some g → W1.heap.size ≤ g) :
    BOut B0 bb A O W (pushS s mp) v (.returned v) (W2.setCell ⟨bb, 0, none⟩ ov') := by
  have hsz := hkW.size
  have hbb2 : Whole W2 bb 86 (bcells ov s.dn X.h s.nd s.bad) := (hk.block bb h.box.lt (fun q => h.sep1 q)).trans h.box
  have hbox : Whole (W2.setCell ⟨bb, 0, none⟩ ov') bb 86 (bcells ov' s.dn X.h s.nd s.bad) := by
    have e := hbb2.set 0 ov'
    exact e
  have hne : ov'.ownBlock ≠ some bb := fun q => by
    rcases hv with hv | hv
    · rw [hv] at q; exact h.sep1 q
    · have := hv bb q; have := h.box.lt; omega
  have hk' : Kept (fun b => b = bb ∨ ov.ownBlock = some b) W1 (W2.setCell ⟨bb, 0, none⟩ ov') :=
    (hk.more (fun b q => .inr q)).trans (kept_set (fun b => b = bb) W2 bb 0 ov' rfl) (fun b q => .inl (.inl q))
  have hrow := push_row (mp := mp) hl hx (own_block (W' := W2.setCell ⟨bb, 0, none⟩ ov') ho (fun g hg => Below.heap_setCell _ _ _ _ (fun e => hne (by rw [hg]; exact congrArg some e))))
  have hok : Bst.ok { s with d := s.d + 1, fr := upd s.fr s.d (fr0 mp) } := ⟨h48, h.ok.nd, fun j hj => by
    by_cases q : j = s.d
    · subst q
      simp only [upd_same]
      exact ⟨Nat.zero_le _, Nat.zero_le _, fun t ht => absurd ht (Nat.not_lt_zero _)⟩
    · simp only [upd_other q]; exact h.ok.fr j (by have hj' : j < s.d + 1 := hj; omega), h.ok.out⟩
  have hb := h.push (f0 := fr0 mp) hk' hbox hrow hv rfl hok
  refine ⟨rfl, _, _, ⟨ov', _, X, hb⟩, fun b q => ?_, fun b q => ?_, hkW.trans hk' (fun b q => ?_)⟩
  · rcases q with q | q
    · exact .inl q
    · rcases hv with hv | hv
      · rw [hv] at q; exact .inl (h.hA b (h.Oov q))
      · have := hv b q; exact .inr (by omega)
  · rcases q with q | q | ⟨j, hj, q⟩
    · exact .inl (by rw [q]; exact h.Obb)
    · rcases hv with hv | hv
      · rw [hv] at q; exact .inl (h.Oov q)
      · have := hv b q; exact .inr (by omega)
    · by_cases z : j = s.d
      · subst z; rw [upd_same] at q; cases q
      · rw [upd_other z] at q; exact .inl (h.Ous (by omega) q)
  · rcases q with q | q
    · exact .inl (by rw [q]; exact h.Obb)
    · exact .inl (h.Oov q)
end
end Go.Proofs.YtpcbhneaaibfiaaDoor
/- May an event follow: the walk of follows, the first ways. -/
namespace Go.Proofs.YtpcbhneaaibfiaaDoor
open Go.RowKit
set_option linter.unusedSimpArgs false
set_option linter.unusedVariables false

set_option maxHeartbeats 8000000 in
set_option maxRecDepth 100000 in
theorem fol_dn {B0 bb : Nat} {A O : Nat → Prop} {W : World} {s : Bst} {x : Ev} (h : BInv B0 bb A O W s) (hx : x.ok) (hd : s.dn = true) :
    Calls Tryd.prog 47 #[.pointer (some ⟨bb, 0, none⟩), .agg x.cells] W fun r W' => r = .returned (.int .i64 (followE s x)) ∧ Below W.heap.size W W' := by
  obtain ⟨ov, us, X, h⟩ := h
  have hb0 := (Below.refl W.heap.size W).alloc (Nat.le_refl _) (.cells x.cells 57)
  have h1 := h.later hb0
  have P := Whole.new W 57 x.cells
  obtain ⟨R, hR⟩ : ∃ R, followE s x = R := ⟨_, rfl⟩
  rw [hR]
  unfold followE at hR
  have p0 := (h1.box.cell 0)
  have p1 := (h1.box.cell 1)
  simp only [bcells, List.getElem?_toArray, List.getElem?_cons_succ, List.getElem?_cons_zero] at p0 p1
  rw [if_pos hd] at hR
  subst hR
  rw [hd] at p1
  obtain ⟨k, key, V⟩ := x
  obtain ⟨c0, c1, c2, c3, c4, c5, c6, c7, c8, c9, c10, c11, c12, c13, c14⟩ := Whole.e15 P
  simp only [Ev.cells, evc] at hb0 P p0 p1 c0 c1 c2 c3 c4 c5 c6 c7 c8 c9 c10 c11 c12 c13 c14 ⊢
  clear h h1 P hx
  go_enter Tryd.func47, Tryd.ntmps47
  go_wp2
  go_ret
  exact ⟨rfl, hb0⟩
set_option maxHeartbeats 8000000 in
set_option maxRecDepth 100000 in
theorem fol_zero {B0 bb : Nat} {A O : Nat → Prop} {W : World} {s : Bst} {x : Ev} (h : BInv B0 bb A O W s) (hx : x.ok) (hn : s.dn = false) (hd : s.d = 0) :
    Calls Tryd.prog 47 #[.pointer (some ⟨bb, 0, none⟩), .agg x.cells] W fun r W' => r = .returned (.int .i64 (followE s x)) ∧ Below W.heap.size W W' := by
  obtain ⟨ov, us, X, h⟩ := h
  have hb0 := (Below.refl W.heap.size W).alloc (Nat.le_refl _) (.cells x.cells 57)
  have h1 := h.later hb0
  have P := Whole.new W 57 x.cells
  obtain ⟨R, hR⟩ : ∃ R, followE s x = R := ⟨_, rfl⟩
  rw [hR]
  unfold followE at hR
  have p0 := (h1.box.cell 0)
  have p1 := (h1.box.cell 1)
  simp only [bcells, List.getElem?_toArray, List.getElem?_cons_succ, List.getElem?_cons_zero] at p0 p1
  rw [if_neg (by rw [hn]; decide), if_pos hd] at hR
  rw [hn] at p1
  obtain ⟨a, c, hov⟩ := h.row.slice
  rw [hd] at hov
  rw [hov] at p0
  obtain ⟨k, key, V⟩ := x
  dsimp only at hR
  obtain ⟨c0, c1, c2, c3, c4, c5, c6, c7, c8, c9, c10, c11, c12, c13, c14⟩ := Whole.e15 P
  simp only [Ev.cells, evc] at hb0 P p0 p1 c0 c1 c2 c3 c4 c5 c6 c7 c8 c9 c10 c11 c12 c13 c14 ⊢
  clear h h1 P hx
  by_cases e6 : k = 6
  · rw [if_pos (.inl e6)] at hR
    subst e6 hR
    go_enter Tryd.func47, Tryd.ntmps47
    go_wp2
    go_ret
    exact ⟨rfl, hb0⟩
  · have d6 : (k == 6) = false := beq_eq_false_iff_ne.2 e6
    by_cases e3 : k = 3
    · rw [if_pos (.inr (.inl e3))] at hR
      subst e3 hR
      go_enter Tryd.func47, Tryd.ntmps47
      go_wp2
      go_ret
      exact ⟨rfl, hb0⟩
    · have d3 : (k == 3) = false := beq_eq_false_iff_ne.2 e3
      by_cases e5 : k = 5
      · rw [if_pos (.inr (.inr e5))] at hR
        subst e5 hR
        go_enter Tryd.func47, Tryd.ntmps47
        go_wp2
        go_ret
        exact ⟨rfl, hb0⟩
      · have d5 : (k == 5) = false := beq_eq_false_iff_ne.2 e5
        rw [if_neg (by rintro (q | q | q) <;> contradiction)] at hR
        subst hR
        go_enter Tryd.func47, Tryd.ntmps47
        go_wp2
        go_ret
        exact ⟨rfl, hb0⟩
end Go.Proofs.YtpcbhneaaibfiaaDoor
/- May an event follow: the walk of follows, the first ways. -/
namespace Go.Proofs.YtpcbhneaaibfiaaDoor
open Go.RowKit
set_option linter.unusedSimpArgs false
set_option linter.unusedVariables false

theorem frm_row : (Tryd.prog.info? 98).map (·.size) = some 15 := by kernel_rfl
set_option maxHeartbeats 8000000 in
set_option maxRecDepth 100000 in
theorem fol_openL {B0 bb : Nat} {A O : Nat → Prop} {W : World} {s : Bst} {x : Ev} (h : BInv B0 bb A O W s) (hx : x.ok) {i : Nat} (hn : s.dn = false) (hi : s.d = i + 1) (hm : (s.fr i).mp = false) :
    Calls Tryd.prog 47 #[.pointer (some ⟨bb, 0, none⟩), .agg x.cells] W fun r W' => r = .returned (.int .i64 (followE s x)) ∧ Below W.heap.size W W' := by
  obtain ⟨ov, us, X, h⟩ := h
  have hb0 := (Below.refl W.heap.size W).alloc (Nat.le_refl _) (.cells x.cells 57)
  have h1 := h.later hb0
  have P := Whole.new W 57 x.cells
  obtain ⟨R, hR⟩ : ∃ R, followE s x = R := ⟨_, rfl⟩
  rw [hR]
  unfold followE at hR
  have p0 := (h1.box.cell 0)
  have p1 := (h1.box.cell 1)
  simp only [bcells, List.getElem?_toArray, List.getElem?_cons_succ, List.getElem?_cons_zero] at p0 p1
  rw [if_neg (by rw [hn]; decide), if_neg (by omega), show s.d - 1 = i by omega, hm] at hR
  rw [hn] at p1
  obtain ⟨o, co, cur, eo, FB, hB, hdc, hco, hcs, hcur⟩ := h1.row.op (by omega)
  have hi' : i < s.d := by omega
  have hd48 := h.ok.d
  have HFr : LiesAt (W.alloc (.cells x.cells 57)) o (i * 15) ((s.fr i).cells (us i)) := fun j hj => (FB.cell _).trans (hcur i hi' j (by rw [Fr.cells_size] at hj; exact hj))
  rw [cells_list hm] at HFr
  rw [eo, hi] at p0
  obtain ⟨ua, uc, eu⟩ := Fr.row_sl (h1.rows i hi')
  rw [eu] at HFr
  clear eu
  generalize (s.fr i).n = un at *
  generalize (s.fr i).key = fkey at *
  generalize (s.fr i).kd = kd at *
  have i3 : ((i : Nat) : Int) ≤ 47 := by omega
  have i4 : (0 : Int) ≤ ((i : Nat) : Int) := by omega
  have hwi : IntKind.i64.wrap ((i : Nat) : Int) = i := by rw [IntKind.wrap_i64]; omega
  have hlt : ((i : Nat) : Int) < (i : Int) + 1 := by omega
  obtain ⟨k, key, V⟩ := x
  dsimp only at hR
  obtain ⟨c0, c1, c2, c3, c4, c5, c6, c7, c8, c9, c10, c11, c12, c13, c14⟩ := Whole.e15 P
  simp only [Ev.cells, evc] at hb0 P p0 p1 HFr c0 c1 c2 c3 c4 c5 c6 c7 c8 c9 c10 c11 c12 c13 c14 ⊢
  have PE := P
  have p0' := p0
  simp only [frc] at HFr
  have hlo := FB.lt
  have hbo := h1.box.lt
  clear h h1 hx hcs hcur FB eo hi' hd48
  go_enter Tryd.func47, Tryd.ntmps47
  go_wp2_with fail
  refine wp_region_held_drew (S := fun V => V.cell? ⟨bb, 0, none⟩ = some (.slice (some ⟨o, 0, none⟩) (i + 1) co) ∧ LiesAt V o (i * 15) #[.int .i64 6, .bool false, .bool false, .string ⟨#[]⟩, .int .i64 0, .int .i64 0, .int .i64 0, .int .i64 0, .int .i64 0, .string ⟨#[]⟩, .slice none 0 0, .slice ua un uc, .slice none 0 0, .string fkey, .bool kd]) (by kernel_rfl) ⟨p0, HFr⟩ (fun hS => ?_)
  refine wpAnyH_take (i := 0) (v := ?v0x1) rfl (by kernel_rfl) (by kernel_rfl) (by kernel_rfl) (fun _ _ _ h => h) (Or.inl ⟨by rfl, ?hy0x1⟩) hS ?rest0x1
  case hy0x1 => (intro wS hSw; go_simp; (try with_reducible rfl))
  case rest0x1 =>
  simp only [Act.put, List.getElem_toArray, List.getElem_cons_zero, List.getElem_cons_succ, List.setIfInBounds_toArray, List.set_cons_zero, List.set_cons_succ]
  refine wpAnyH_take (i := 1) (v := ?v1x2) rfl (by kernel_rfl) (by kernel_rfl) (by kernel_rfl) (fun _ _ _ h => h) (Or.inl ⟨by rfl, ?hy1x2⟩) hS ?rest1x2
  case hy1x2 => (intro wS hSw; go_simp; (try with_reducible rfl))
  case rest1x2 =>
  simp only [Act.put, List.getElem_toArray, List.getElem_cons_zero, List.getElem_cons_succ, List.setIfInBounds_toArray, List.set_cons_zero, List.set_cons_succ]
  refine wpAnyH_take (i := 2) (v := ?v2x3) rfl (by kernel_rfl) (by kernel_rfl) (by kernel_rfl) (fun _ _ _ h => h) (Or.inl ⟨by rfl, ?hy2x3⟩) hS ?rest2x3
  case hy2x3 => (intro wS hSw; go_simp; (try with_reducible rfl))
  case rest2x3 =>
  simp only [Act.put, List.getElem_toArray, List.getElem_cons_zero, List.getElem_cons_succ, List.setIfInBounds_toArray, List.set_cons_zero, List.set_cons_succ]
  refine wpAnyH_take (i := 3) (v := ?v3x4) rfl (by kernel_rfl) (by kernel_rfl) (by kernel_rfl) (fun _ _ _ h => h) (Or.inl ⟨by rfl, ?hy3x4⟩) hS ?rest3x4
  case hy3x4 => (intro wS hSw; obtain ⟨s0, -⟩ := hSw; go_simp; (try with_reducible rfl))
  case rest3x4 =>
  simp only [Act.put, List.getElem_toArray, List.getElem_cons_zero, List.getElem_cons_succ, List.setIfInBounds_toArray, List.set_cons_zero, List.set_cons_succ]
  refine wpAnyH_take (i := 4) (v := ?v4x5) rfl (by kernel_rfl) (by kernel_rfl) (by kernel_rfl) (fun _ _ _ h => h) (Or.inl ⟨by rfl, ?hy4x5⟩) hS ?rest4x5
  case hy4x5 => (intro wS hSw; go_simp; (try with_reducible rfl))
  case rest4x5 =>
  simp only [Act.put, List.getElem_toArray, List.getElem_cons_zero, List.getElem_cons_succ, List.setIfInBounds_toArray, List.set_cons_zero, List.set_cons_succ]
  refine wpAnyH_take (i := 5) (v := ?v5x6) rfl (by kernel_rfl) (by kernel_rfl) (by kernel_rfl) (fun _ _ _ h => h) (Or.inl ⟨by rfl, ?hy5x6⟩) hS ?rest5x6
  case hy5x6 => (intro wS hSw; go_simp; (try with_reducible rfl))
  case rest5x6 =>
  simp only [Act.put, List.getElem_toArray, List.getElem_cons_zero, List.getElem_cons_succ, List.setIfInBounds_toArray, List.set_cons_zero, List.set_cons_succ]
  refine wpAnyH_take (i := 6) (v := ?v6x7) rfl (by kernel_rfl) (by kernel_rfl) (by kernel_rfl) (fun _ _ _ h => h) (Or.inl ⟨by rfl, ?hy6x7⟩) hS ?rest6x7
  case hy6x7 => (intro wS hSw; go_simp; (try with_reducible rfl))
  case rest6x7 =>
  simp only [Act.put, List.getElem_toArray, List.getElem_cons_zero, List.getElem_cons_succ, List.setIfInBounds_toArray, List.set_cons_zero, List.set_cons_succ]
  refine wpAnyH_take (i := 7) (v := ?v7x8) rfl (by kernel_rfl) (by kernel_rfl) (by kernel_rfl) (fun _ _ _ h => h) (Or.inl ⟨by rfl, ?hy7x8⟩) hS ?rest7x8
  case hy7x8 => (intro wS hSw; obtain ⟨s0, -⟩ := hSw; go_simp; (try with_reducible rfl))
  case rest7x8 =>
  simp only [Act.put, List.getElem_toArray, List.getElem_cons_zero, List.getElem_cons_succ, List.setIfInBounds_toArray, List.set_cons_zero, List.set_cons_succ]
  refine wpAnyH_take (i := 8) (v := ?v8x9) rfl (by kernel_rfl) (by kernel_rfl) (by kernel_rfl) (fun _ _ _ h => h) (Or.inl ⟨by rfl, ?hy8x9⟩) hS ?rest8x9
  case hy8x9 => (intro wS hSw; go_simp; (try with_reducible rfl))
  case rest8x9 =>
  simp only [Act.put, List.getElem_toArray, List.getElem_cons_zero, List.getElem_cons_succ, List.setIfInBounds_toArray, List.set_cons_zero, List.set_cons_succ]
  refine wpAnyH_take (i := 9) (v := ?v9x10) rfl (by kernel_rfl) (by kernel_rfl) (by kernel_rfl) (fun _ _ _ h => h) (Or.inl ⟨by rfl, ?hy9x10⟩) hS ?rest9x10
  case hy9x10 => (intro wS hSw; go_simp; (try with_reducible rfl))
  case rest9x10 =>
  simp only [Act.put, List.getElem_toArray, List.getElem_cons_zero, List.getElem_cons_succ, List.setIfInBounds_toArray, List.set_cons_zero, List.set_cons_succ]
  refine wpAnyH_take (i := 10) (v := ?v10x11) rfl (by kernel_rfl) (by kernel_rfl) (by kernel_rfl) (fun _ _ _ h => h) (Or.inl ⟨by rfl, ?hy10x11⟩) hS ?rest10x11
  case hy10x11 => (intro wS hSw; go_simp; (try with_reducible rfl))
  case rest10x11 =>
  simp only [Act.put, List.getElem_toArray, List.getElem_cons_zero, List.getElem_cons_succ, List.setIfInBounds_toArray, List.set_cons_zero, List.set_cons_succ]
  refine wpAnyH_take (i := 11) (v := ?v11x12) rfl (by kernel_rfl) (by kernel_rfl) (by kernel_rfl) (fun _ _ _ h => h) (Or.inl ⟨by rfl, ?hy11x12⟩) hS ?rest11x12
  case hy11x12 => (intro wS hSw; obtain ⟨sA, sF⟩ := hSw; have z0 := sF 0 (by simp); have z1 := sF 1 (by simp); have z2 := sF 2 (by simp); have z3 := sF 3 (by simp); have z4 := sF 4 (by simp); have z5 := sF 5 (by simp); have z6 := sF 6 (by simp); have z7 := sF 7 (by simp); have z8 := sF 8 (by simp); have z9 := sF 9 (by simp); have z10 := sF 10 (by simp); have z11 := sF 11 (by simp); have z12 := sF 12 (by simp); have z13 := sF 13 (by simp); have z14 := sF 14 (by simp); simp only [List.getElem?_toArray, List.getElem?_cons_succ, List.getElem?_cons_zero, Nat.add_zero] at z0 z1 z2 z3 z4 z5 z6 z7 z8 z9 z10 z11 z12 z13 z14; go_simp; (try with_reducible rfl))
  case rest11x12 =>
  simp only [Act.put, List.getElem_toArray, List.getElem_cons_zero, List.getElem_cons_succ, List.setIfInBounds_toArray, List.set_cons_zero, List.set_cons_succ]
  have g2 := hb0.drew
  have P2 := Whole.drew PE
  have ho2 : o < (World.drew (W.alloc (.cells #[.int .i64 k, .string key, .int .i64 V.h.k, .bool V.h.b, .bool V.h.n, .string V.h.d, .int .i64 V.h.e, .int .i64 V.h.tk, .int .i64 V.h.td, .int .i64 V.h.tn, .int .i64 V.h.tz, .string V.h.x, .slice V.h.ba V.h.bn V.h.bc, .slice V.h.la V.h.ln V.h.lc, .slice V.h.fa V.h.fn V.h.fc] 57))).heap.size := hlo
  have hb2 : bb < (World.drew (W.alloc (.cells #[.int .i64 k, .string key, .int .i64 V.h.k, .bool V.h.b, .bool V.h.n, .string V.h.d, .int .i64 V.h.e, .int .i64 V.h.tk, .int .i64 V.h.td, .int .i64 V.h.tn, .int .i64 V.h.tz, .string V.h.x, .slice V.h.ba V.h.bn V.h.bc, .slice V.h.la V.h.ln V.h.lc, .slice V.h.fa V.h.fn V.h.fc] 57))).heap.size := hbo
  clear hlo hbo hb0 PE P p0 p0' p1 HFr c0 c1 c2 c3 c4 c5 c6 c7 c8 c9 c10 c11 c12 c13 c14
  generalize World.drew _ = w2 at *
  refine wpAnyH_ready (rs := [12]) (by kernel_rfl) (by simp) ?_
  refine AllReadyH.cons rfl (fun KK hK => ?_) AllReadyH.nil
  go_simp
  have q1 := (Below.refl w2.heap.size w2).alloc (Nat.le_refl _) (.cells #[.int .i64 0, .bool false, .bool false, .string ⟨#[]⟩, .int .i64 0, .int .i64 0, .int .i64 0, .int .i64 0, .int .i64 0, .string ⟨#[]⟩, .slice none 0 0, .slice none 0 0, .slice none 0 0, .string ⟨#[]⟩, .bool false] 98)
  have N3 := Whole.new w2 98 #[.int .i64 0, .bool false, .bool false, .string ⟨#[]⟩, .int .i64 0, .int .i64 0, .int .i64 0, .int .i64 0, .int .i64 0, .string ⟨#[]⟩, .slice none 0 0, .slice none 0 0, .slice none 0 0, .string ⟨#[]⟩, .bool false]
  have g3 := below_then g2 q1
  have P3 := Whole.below P2 q1 P2.lt
  refine hK.out _ _ ⟨(q1.cell (p := ⟨bb, 0, none⟩) hb2).trans hS.1, hS.2.below q1 ho2⟩ (fun hS4 => ?_)
  clear hK KK
  try simp only [Act.put, List.getElem_toArray, List.getElem_cons_zero, List.getElem_cons_succ, List.setIfInBounds_toArray, List.set_cons_zero, List.set_cons_succ]
  refine wpAnyH_ready (rs := [13]) (by kernel_rfl) (by simp) ?_
  refine AllReadyH.cons rfl (fun KK hK => ?_) AllReadyH.nil
  rw [if_pos (by rfl)]
  refine wp_store_row 98 _ _ rfl (w2.heap.size) #[.int .i64 6, .bool false, .bool false, .string ⟨#[]⟩, .int .i64 0, .int .i64 0, .int .i64 0, .int .i64 0, .int .i64 0, .string ⟨#[]⟩, .slice none 0 0, .slice ua un uc, .slice none 0 0, .string fkey, .bool kd] rfl rfl 98 _ N3 frm_row rfl (by simp [Value.oneCell']) ?_
  have g4 := below_setRow g3 g2.size #[.int .i64 6, .bool false, .bool false, .string ⟨#[]⟩, .int .i64 0, .int .i64 0, .int .i64 0, .int .i64 0, .int .i64 0, .string ⟨#[]⟩, .slice none 0 0, .slice ua un uc, .slice none 0 0, .string fkey, .bool kd]
  have N4 := Whole.setRow N3 #[.int .i64 6, .bool false, .bool false, .string ⟨#[]⟩, .int .i64 0, .int .i64 0, .int .i64 0, .int .i64 0, .int .i64 0, .string ⟨#[]⟩, .slice none 0 0, .slice ua un uc, .slice none 0 0, .string fkey, .bool kd]
  have P4 := Whole.farRow (B' := w2.heap.size) P3 (fun e => by have := P2.lt; omega) #[.int .i64 6, .bool false, .bool false, .string ⟨#[]⟩, .int .i64 0, .int .i64 0, .int .i64 0, .int .i64 0, .int .i64 0, .string ⟨#[]⟩, .slice none 0 0, .slice ua un uc, .slice none 0 0, .string fkey, .bool kd]
  obtain ⟨w4, hw4⟩ : ∃ w4, (w2.alloc (.cells #[.int .i64 0, .bool false, .bool false, .string ⟨#[]⟩, .int .i64 0, .int .i64 0, .int .i64 0, .int .i64 0, .int .i64 0, .string ⟨#[]⟩, .slice none 0 0, .slice none 0 0, .slice none 0 0, .string ⟨#[]⟩, .bool false] 98)).setRow w2.heap.size #[.int .i64 6, .bool false, .bool false, .string ⟨#[]⟩, .int .i64 0, .int .i64 0, .int .i64 0, .int .i64 0, .int .i64 0, .string ⟨#[]⟩, .slice none 0 0, .slice ua un uc, .slice none 0 0, .string fkey, .bool kd] = w4 := ⟨_, rfl⟩
  rw [hw4] at g4 N4 P4 ⊢
  have hw5 : Below w2.heap.size w2 w4 := hw4 ▸ below_setRow q1 (Nat.le_refl _) _
  clear hw4
  refine hK.out _ _ ⟨(hw5.cell (p := ⟨bb, 0, none⟩) hb2).trans hS.1, hS.2.below hw5 ho2⟩ (fun hS5 => ?_)
  clear hK KK
  try simp only [Act.put, List.getElem_toArray, List.getElem_cons_zero, List.getElem_cons_succ, List.setIfInBounds_toArray, List.set_cons_zero, List.set_cons_succ]
  refine wpAnyH_done (by kernel_rfl) ?_ _
  have y0 := Whole.cell P4 0
  have v0 := Whole.cell N4 0
  have v14 := Whole.cell N4 14
  simp only [List.getElem?_toArray, List.getElem?_cons_succ, List.getElem?_cons_zero] at y0 v0 v14
  clear hS hS4 hS5 q1 g2 g3 N3 P3 P2 hw5 hb2 ho2
  by_cases e6 : k = 6
  · rw [if_pos e6, if_pos (.inl (by trivial))] at hR
    subst e6
    subst hR
    go_wp2_with fail
    go_ret
    exact ⟨rfl, g4⟩
  by_cases e3 : k = 3
  · have d6 : (k == 6) = false := beq_eq_false_iff_ne.2 e6
    rw [if_neg e6, if_pos e3, if_neg (by decide)] at hR
    subst e3
    subst hR
    go_wp2_with fail
    go_ret
    exact ⟨rfl, g4⟩
  by_cases e5 : k = 5
  · have d6 : (k == 6) = false := beq_eq_false_iff_ne.2 e6
    have d3 : (k == 3) = false := beq_eq_false_iff_ne.2 e3
    rw [if_neg e6, if_neg e3, if_pos e5, if_pos (.inl (by trivial))] at hR
    subst e5
    subst hR
    go_wp2_with fail
    go_ret
    exact ⟨rfl, g4⟩
  have d6 : (k == 6) = false := beq_eq_false_iff_ne.2 e6
  have d3 : (k == 3) = false := beq_eq_false_iff_ne.2 e3
  have d5 : (k == 5) = false := beq_eq_false_iff_ne.2 e5
  rw [if_neg e6, if_neg e3, if_neg e5, if_neg (by rintro ⟨q, -⟩; cases q)] at hR
  subst hR
  go_wp2_with fail
  go_ret
  exact ⟨rfl, g4⟩
end Go.Proofs.YtpcbhneaaibfiaaDoor
