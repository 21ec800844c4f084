/- Laid together for a claim: EvOfL. -/
import Derived.Test.YtpcbhneaaibfiaaDoorQB29
import Derived.Test.YtpcbhneaaibfiaaDoorQB10
import Derived.Deep.AppendLies
import Derived.Deep.RegionHeld3
import Derived.Test.YtpcbhneaaibfiaaDoorQB13
/- The events of a value, appended to others: event.of. -/
namespace Go.Proofs.YtpcbhneaaibfiaaDoor
open Go.RowKit
set_option linter.unusedSimpArgs false
set_option linter.unusedVariables false

set_option maxHeartbeats 8000000 in
set_option maxRecDepth 100000 in
theorem of_lst {h : Vh} {Y : Nat → Int} {L : Nat → Vt} {K : Nat → ByteArray} {F : Nat → Vt} (k6 : h.k = 6) (ih : ∀ i, OfIs (L i)) : OfIs (.mk h Y L K F) := by
  intro l va vc top B w hT ht hB hR hlen hup
  have hb0 := (Below.refl w.heap.size w).alloc (Nat.le_refl _) (.cells h.cells 30)
  have P := Whole.new w 30 h.cells
  have hR0 := hR.below hb0
  have HR0 := Lib.hid hR0
  have hT0 := Vt.In.below (hb0.mono (Nat.le_trans ht hB)) hT
  have hw0 : (w.alloc (.cells h.cells 30)).heap.size = w.heap.size + 1 := World.size_alloc _ _
  have hvo : Hid (∀ g, (Value.slice va l.length vc).ownBlock = some g → B ≤ g ∧ g < w.heap.size) := Lib.hid (by
    obtain ⟨f, ho, -⟩ := hR
    exact fun g hg => own_lt ho hg)
  obtain ⟨i0, hi0, hz0, hz1, hz2⟩ := info_parts Tryd.infoEvt
  have he : evs (.mk h Y L K F) = evM 2 :: (catL (fun i => evs (L i)) h.ln ++ [evM 3]) := if_pos k6
  rw [he] at hlen ⊢
  have hsum : Hid (∀ j, j ≤ h.ln → (l ++ [evM 2] ++ catL (fun i => evs (L i)) j).length + 1 ≤ 1000000) := Lib.hid fun j hj => by
    have e := sumN_mono (f := fun i => (evs (L i)).length) hj
    have hl := hlen
    rw [List.length_cons, List.length_append, List.length_singleton, catL_len] at hl
    rw [List.length_append, List.length_append, List.length_singleton, catL_len]
    omega
  have HKid := Lib.hid (show ∀ i, i < h.ln → Below B w w → True from fun _ _ _ => trivial)
  have hkn := hT.1.ln
  have HI := Lib.hid (fun (j : Nat) (hj : j < h.ln) (M : List Ev) (a : Option Addr) (c : Nat) (w1 : World) (hb : Below B w w1) (hr : RowE B (B ≤ ·) w1 (.slice a M.length c) M) (hm : M.length + (evs (L j)).length ≤ 1000000) => ih j M a c top B w1 (Vt.In.below (hb.mono ht) ((hT.2.2.2.2.1 j hj).2)) ht (Nat.le_trans hB hb.size) hr hm (Vt.upto_le (hup.2.1 j hj) (by omega)))
  have HLa : Hid (0 < h.ln → h.la = some ⟨h.lb, h.lo, none⟩ ∧ h.lb < B) := Lib.hid fun q => ⟨(hT.2.2.2.1 q).1, Nat.lt_of_lt_of_le (hT.2.2.2.1 q).2 ht⟩
  have HLs := Lib.hid (hT.2.2.2.2.1)
  have hne : Hid (∀ g, (Value.slice va l.length vc).ownBlock = some g → g ≠ w.heap.size) := Lib.hid fun g hg => by have := (hvo.out g hg).2; omega
  have HKB : Hid (∀ w1, Kept (fun b => (Value.slice va l.length vc).ownBlock = some b) w w1 → Below B w w1) := Lib.hid fun w1 hk => hk.below hB (fun b hb q => by have := (hvo.out b q).1; omega)
  have HEnd : Hid (∀ (M : List Ev) (w1 w2 w3 : World) (u v' : Value) (f : Nat → Ev), M = l ++ [evM 2] ++ catL (fun i => evs (L i)) h.ln → Kept (fun b => (Value.slice va l.length vc).ownBlock = some b) w w1 → Below w1.heap.size w1 w2 → (∀ b, u.ownBlock = some b → (Value.slice va l.length vc).ownBlock = some b ∨ w.heap.size ≤ b) → w2.ownsRow B 57 15 u M.length (catN (fun i => (f i).cells) M.length) →
      (∀ i, i < M.length → (f i).V.In w2 w2.heap.size ∧ (f i).V.Off (fun b => B ≤ b ∧ some b ≠ u.ownBlock) ∧ (f i).Same (nth M i) ∧ (f i).ok) →
      w3.ownsRow B 57 15 v' (M.length + 1) (catN (fun i => (f i).cells) M.length ++ (evM 3).cells.toList) → w2.grownBy w3 u.ownBlock → (v'.ownBlock = u.ownBlock ∨ v'.ownBlock = some w2.heap.size) →
      OfOut B (.slice va l.length vc) (l ++ evM 2 :: (catL (fun i => evs (L i)) h.ln ++ [evM 3])) w (.returned v') w3) := Lib.hid (fun M w1 w2 w3 u v' f hM hk1 hb2 hu ho hf ho3 hg hv => by
    have hr := RowE.mark (k := 3) (key := ⟨#[]⟩) ⟨by decide, by decide⟩ (Nat.zero_le _) ho hf ho3 hg hv
    have e : l ++ evM 2 :: (catL (fun i => evs (L i)) h.ln ++ [evM 3]) = M ++ [evM 3] := by rw [hM]; simp
    rw [e]
    obtain ⟨a, c, rfl⟩ := hr.sl
    refine ⟨a, c, rfl, hr, hk1.trans (kept_app hb2 hg) hu, fun b q => ?_⟩
    rcases own_app hb2.size hv b q with q | q
    · exact hu b q
    · exact .inr (Nat.le_trans hk1.size q))
  have p0 := Whole.cell P 0
  simp only [Vh.cells, List.getElem?_toArray, List.getElem?_cons_succ, List.getElem?_cons_zero] at p0
  have d6 : (h.k == 6) = true := beq_iff_eq.2 k6
  clear hT hR hT0 hup he hR0 ih k6 hlen
  obtain ⟨kids, hkids⟩ : ∃ kids : Nat → List Ev, kids = catL (fun i => evs (L i)) := ⟨_, rfl⟩
  have HSucc : Hid (∀ j, kids (j + 1) = kids j ++ evs (L j)) := Lib.hid fun j => by rw [hkids]; rfl
  have HZero : Hid (kids 0 = []) := Lib.hid (by rw [hkids]; rfl)
  rw [← hkids] at hsum HEnd ⊢
  clear hkids HKid
  have n2 : (0 : Int) ≤ h.ln := by omega
  have n3 : (h.ln : Int) ≤ 1048576 := by omega
  have hl9 : Hid (l.length + 1 ≤ 1000000) := Lib.hid (by have := hsum.out 0 (Nat.zero_le _); rw [HZero.out] at this; simp at this; omega)
  have hl9' := hl9.out
  have Pb := P
  simp only [Vt.h, Vh.cells] at hb0 HR0 hw0 Pb ⊢
  clear P
  go_enter Tryd.func38, Tryd.ntmps38
  go_upto_region 3 with (fail)
  have hP0 := Pb
  obtain ⟨w0, hw0'⟩ : ∃ w0, w.alloc (.cells #[.int .i64 h.k, .bool h.b, .bool h.n, .string h.d, .int .i64 h.e, .int .i64 h.tk, .int .i64 h.td, .int .i64 h.tn, .int .i64 h.tz, .string h.x, .slice h.ba h.bn h.bc, .slice h.la h.ln h.lc, .slice h.fa h.fn h.fc] 30) = w0 := ⟨_, rfl⟩
  simp only [hw0'] at hb0 HR0 hw0 hP0 p0 ⊢
  clear hw0' Pb
  obtain ⟨f, hown, hf⟩ := HR0.out.below ((Below.refl w0.heap.size w0).alloc (Nat.le_refl _) (.cells #[.int .i64 2, .string ⟨#[]⟩, .int .i64 0, .bool false, .bool false, .string ⟨#[]⟩, .int .i64 0, .int .i64 0, .int .i64 0, .int .i64 0, .int .i64 0, .string ⟨#[]⟩, .slice none 0 0, .slice none 0 0, .slice none 0 0] 57))
  have Hf := Lib.hid hf
  have HOwn := Lib.hid hown
  have s1 := Lib.hid (cells_new w0 57 #[.int .i64 2, .string ⟨#[]⟩, .int .i64 0, .bool false, .bool false, .string ⟨#[]⟩, .int .i64 0, .int .i64 0, .int .i64 0, .int .i64 0, .int .i64 0, .string ⟨#[]⟩, .slice none 0 0, .slice none 0 0, .slice none 0 0])
  have s2 : Hid (∀ u ∈ (#[.int .i64 2, .string ⟨#[]⟩, .int .i64 0, .bool false, .bool false, .string ⟨#[]⟩, .int .i64 0, .int .i64 0, .int .i64 0, .int .i64 0, .int .i64 0, .string ⟨#[]⟩, .slice none 0 0, .slice none 0 0, .slice none 0 0] : Array Value).toList, u.oneCell' = true) := Lib.hid (by simp [Value.oneCell'])
  have s3 : Hid (l.length + 1 ≤ maxLen) := Lib.hid (by unfold maxLen; omega)
  have s4 : Hid ((l.length + 1) * 192 ≤ 140737488355328) := Lib.hid (by omega)
  have s5 : Hid (B ≤ (w0.alloc (.cells #[.int .i64 2, .string ⟨#[]⟩, .int .i64 0, .bool false, .bool false, .string ⟨#[]⟩, .int .i64 0, .int .i64 0, .int .i64 0, .int .i64 0, .int .i64 0, .string ⟨#[]⟩, .slice none 0 0, .slice none 0 0, .slice none 0 0] 57)).heap.size) := Lib.hid (by rw [World.size_alloc]; omega)
  clear hf
  go_wp2_with (first | (at_builtin; refine wpList_append_told _ rfl _ _ 34 rfl B 57 i0 _ 15 192 Tryd.underlying34 hi0 hz0 hz1 hz2 rfl (by decide) _ _ _ rfl hown ⟨w.heap.size + 1, 0, none⟩ 1 1 (#[.int .i64 2, .string ⟨#[]⟩, .int .i64 0, .bool false, .bool false, .string ⟨#[]⟩, .int .i64 0, .int .i64 0, .int .i64 0, .int .i64 0, .int .i64 0, .string ⟨#[]⟩, .slice none 0 0, .slice none 0 0, .slice none 0 0] : Array Value).toList rfl rfl (by have := s1.out; rw [hw0] at this; exact this) s2.out s3.out s4.out s5.out Nat.one_pos ?_))
  clear s1 s2 s3 s4 s5 hown
  intro v2 w2 ho2 hg2 hv2
  have HR2 := Lib.hid (RowE.mark (k := 2) (key := ⟨#[]⟩) ⟨by decide, by decide⟩ (Nat.zero_le _) HOwn.out Hf.out ho2 hg2 (by rw [World.size_alloc, hw0]; exact hv2))
  have gw : Below w.heap.size w (w0.alloc (.cells #[.int .i64 2, .string ⟨#[]⟩, .int .i64 0, .bool false, .bool false, .string ⟨#[]⟩, .int .i64 0, .int .i64 0, .int .i64 0, .int .i64 0, .int .i64 0, .string ⟨#[]⟩, .slice none 0 0, .slice none 0 0, .slice none 0 0] 57)) := hb0.alloc hb0.size _
  have HK2 := Lib.hid (kept_app gw hg2)
  have HO2 : Hid (∀ b, v2.ownBlock = some b → (Value.slice va l.length vc).ownBlock = some b ∨ w.heap.size ≤ b) := Lib.hid (own_app gw.size (by rw [World.size_alloc, hw0]; exact hv2))
  have P2 := (hP0.alloc (.cells #[.int .i64 2, .string ⟨#[]⟩, .int .i64 0, .bool false, .bool false, .string ⟨#[]⟩, .int .i64 0, .int .i64 0, .int .i64 0, .int .i64 0, .int .i64 0, .string ⟨#[]⟩, .slice none 0 0, .slice none 0 0, .slice none 0 0] 57)).kept hg2 (fun e => hne.out _ e.symm rfl)
  have pl := Whole.cell P2 11
  simp only [List.getElem?_toArray, List.getElem?_cons_succ, List.getElem?_cons_zero] at pl
  have HM0 : Hid (RowE B (B ≤ ·) w2 v2 (l ++ [evM 2] ++ kids 0)) := Lib.hid (by rw [HZero.out, List.append_nil]; exact HR2.out)
  clear hP0 P2 p0 HOwn Hf ho2 hg2 hv2 HR2 HR0 hb0 gw hne
  obtain ⟨a2, c2, hv2s⟩ := HM0.out.sl
  go_wp2_with fail
  go_loopw [0, 20] (fun v i wr => ∃ j : Nat, j ≤ h.ln ∧ i = .int .i64 j ∧ Hid (RowE B (B ≤ ·) wr v (l ++ [evM 2] ++ kids j)) ∧ Hid (Kept (fun b => (Value.slice va l.length vc).ownBlock = some b) w wr) ∧ Hid (∀ b, v.ownBlock = some b → (Value.slice va l.length vc).ownBlock = some b ∨ w.heap.size ≤ b)) (fun _ i _ => h.ln - (intOf i).toNat)
  case atStart => exact ⟨0, by omega, rfl, HM0, HK2, HO2⟩
  case round =>
    clear HM0 HK2 HO2 pl hv2s
    obtain ⟨j, hj, rfl, HRr, HKr, HOr⟩ := hrel
    have hji : (0 : Int) ≤ j := by omega
    have hsz := HKr.out.size
    have hml := hsum.out j hj
    obtain ⟨M, hM⟩ : ∃ M, l ++ [evM 2] ++ kids j = M := ⟨_, rfl⟩
    rw [hM] at HRr hml
    have HM := Lib.hid hM
    clear hM
    obtain ⟨ar, cr, hvr⟩ := HRr.out.sl
    subst hvr
    by_cases hjn : j < h.ln
    · have hjl : (j : Int) < h.ln := by omega
      obtain ⟨ea, elt⟩ := HLa.out (by omega)
      have HBr := Lib.hid (HKB.out wr HKr.out)
      have hl := (HLs.out j hjn).1.below HBr.out elt
      obtain ⟨c0, c1, c2, c3, c4, c5, c6, c7, c8, c9, c10, c11, c12⟩ := hl.c13
      have HC := Lib.hid (fun (w1 : World) (hb : Below wr.heap.size wr w1) => HI.out j hjn M ar cr w1 (HBr.out.trans (hb.mono (Nat.le_trans hB hsz))) (HRr.out.below hb) (by have := hsum.out (j + 1) hjn; rw [HSucc.out, ← List.append_assoc, HM.out, List.length_append] at this; omega))
      have HSj : Hid (l ++ [evM 2] ++ kids (j + 1) = M ++ evs (L j)) := Lib.hid (by rw [HSucc.out, ← List.append_assoc, HM.out])
      obtain ⟨M2, hM2⟩ : ∃ M2, M ++ evs (L j) = M2 := ⟨_, rfl⟩
      simp only [hM2] at HC HSj
      clear hM2
      generalize hG : (L j).h = G at *
      clear hG
      simp only [Vh.cells] at HC
      rw [ea]
      have ga : Below wr.heap.size wr (wr.alloc (.cells #[.int .i64 G.k, .bool G.b, .bool G.n, .string G.d, .int .i64 G.e, .int .i64 G.tk, .int .i64 G.td, .int .i64 G.tn, .int .i64 G.tz, .string G.x, .slice G.ba G.bn G.bc, .slice G.la G.ln G.lc, .slice G.fa G.fn G.fc] 30)) := (Below.refl _ _).alloc (Nat.le_refl _) _
      clear hl
      go_wp2_with fail
      refine (HC.out _ ga).mono ?_; rintro _ w4 ⟨a40, c40, rfl, hr4, hk4, ho4⟩
      have HR4 := Lib.hid hr4
      have HK4 : Hid (Kept (fun b => (Value.slice va l.length vc).ownBlock = some b) w w4) := Lib.hid (HKr.out.trans ((Kept.of (O := fun b => (Value.slice ar M.length cr).ownBlock = some b) ga).trans hk4 (fun b q => .inl q)) HOr.out)
      have HO4 : Hid (∀ b, (Value.slice a40 M2.length c40).ownBlock = some b → (Value.slice va l.length vc).ownBlock = some b ∨ w.heap.size ≤ b) := Lib.hid fun b q => by
        rcases ho4 b q with q | q
        · exact HOr.out b q
        · have := ga.size; exact .inr (by omega)
      clear HC hr4 hk4 ho4 ga c0 c1 c2 c3 c4 c5 c6 c7 c8 c9 c10 c11 c12 HRr HKr HOr
      go_wp2
      go_roundw
      case rel => exact ⟨j + 1, by omega, by go_num, by rw [HSj.out]; exact HR4, HK4, HO4⟩
      case measure => simp [intOf]; omega
    · obtain rfl : j = h.ln := by omega
      obtain ⟨f, hown, hf⟩ := HRr.out.below ((Below.refl wr.heap.size wr).alloc (Nat.le_refl _) (.cells #[.int .i64 3, .string ⟨#[]⟩, .int .i64 0, .bool false, .bool false, .string ⟨#[]⟩, .int .i64 0, .int .i64 0, .int .i64 0, .int .i64 0, .int .i64 0, .string ⟨#[]⟩, .slice none 0 0, .slice none 0 0, .slice none 0 0] 57))
      have Hf := Lib.hid hf
      have HOwn := Lib.hid hown
      have s1 := Lib.hid (cells_new wr 57 #[.int .i64 3, .string ⟨#[]⟩, .int .i64 0, .bool false, .bool false, .string ⟨#[]⟩, .int .i64 0, .int .i64 0, .int .i64 0, .int .i64 0, .int .i64 0, .string ⟨#[]⟩, .slice none 0 0, .slice none 0 0, .slice none 0 0])
      have s2 : Hid (∀ u ∈ (#[.int .i64 3, .string ⟨#[]⟩, .int .i64 0, .bool false, .bool false, .string ⟨#[]⟩, .int .i64 0, .int .i64 0, .int .i64 0, .int .i64 0, .int .i64 0, .string ⟨#[]⟩, .slice none 0 0, .slice none 0 0, .slice none 0 0] : Array Value).toList, u.oneCell' = true) := Lib.hid (by simp [Value.oneCell'])
      have s3 : Hid (M.length + 1 ≤ maxLen) := Lib.hid (by unfold maxLen; omega)
      have s4 : Hid ((M.length + 1) * 192 ≤ 140737488355328) := Lib.hid (by omega)
      have s5 : Hid (B ≤ (wr.alloc (.cells #[.int .i64 3, .string ⟨#[]⟩, .int .i64 0, .bool false, .bool false, .string ⟨#[]⟩, .int .i64 0, .int .i64 0, .int .i64 0, .int .i64 0, .int .i64 0, .string ⟨#[]⟩, .slice none 0 0, .slice none 0 0, .slice none 0 0] 57)).heap.size) := Lib.hid (by rw [World.size_alloc]; omega)
      clear hf
      go_wp2_with (first | (at_builtin; refine wpList_append_told _ rfl _ _ 34 rfl B 57 i0 _ 15 192 Tryd.underlying34 hi0 hz0 hz1 hz2 rfl (by decide) _ _ _ rfl hown ⟨wr.heap.size, 0, none⟩ 1 1 (#[.int .i64 3, .string ⟨#[]⟩, .int .i64 0, .bool false, .bool false, .string ⟨#[]⟩, .int .i64 0, .int .i64 0, .int .i64 0, .int .i64 0, .int .i64 0, .string ⟨#[]⟩, .slice none 0 0, .slice none 0 0, .slice none 0 0] : Array Value).toList rfl rfl (by simpa using s1.out) s2.out s3.out s4.out s5.out Nat.one_pos ?_))
      clear s1 s2 s3 s4 s5 hown
      intro v3 w3 ho2 hg2 hv2
      have HE := Lib.hid (HEnd.out M wr _ w3 _ v3 f HM.out.symm HKr.out ((Below.refl _ _).alloc (Nat.le_refl _) _) HOr.out HOwn.out Hf.out ho2 hg2 (by rw [World.size_alloc]; exact hv2))
      clear HEnd HOwn Hf ho2 hg2 hv2 HRr HKr HOr HM
      go_wp2
      (first | exact HE.out | (go_ret; exact HE.out))
end Go.Proofs.YtpcbhneaaibfiaaDoor
