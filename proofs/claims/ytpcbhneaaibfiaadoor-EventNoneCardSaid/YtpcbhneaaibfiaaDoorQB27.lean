/- Laid together for a claim: EvPath, EvBel, EvNew. -/
import Derived.Test.YtpcbhneaaibfiaaDoorQB21
import Derived.Test.YtpcbhneaaibfiaaDoorQB26
import Derived.Test.YtpcbhneaaibfiaaDoorQB13
import Derived.Test.YtpcbhneaaibfiaaDoorQB23
import Derived.Test.YtpcbhneaaibfiaaDoorQB10
import Derived.Test.YtpcbhneaaibfiaaDoorQB22
/- The path of what comes next: (*Builder).Path. -/
namespace Go.Proofs.YtpcbhneaaibfiaaDoor
open Go.RowKit
set_option linter.unusedSimpArgs false
set_option linter.unusedVariables false

set_option maxHeartbeats 8000000 in
set_option maxRecDepth 100000 in
theorem path_any {B0 bb : Nat} {A O : Nat → Prop} {W : World} {s : Bst} (h : BInv B0 bb A O W s) : Calls Tryd.prog 27 #[.pointer (some ⟨bb, 0, none⟩)] W (PthOut (pathS s) W) := by
  obtain ⟨ov, us, X, h⟩ := h
  have p0 := h.box.cell 0
  obtain ⟨a, c, hov⟩ := h.row.slice
  have hd48 := h.ok.d
  have HA := Lib.hid (fun (j : Nat) (hj : j < s.d) => (show ∃ o cur, a = some ⟨o, 0, none⟩ ∧ Whole W o 98 cur ∧ ∀ t, t < 15 → cur[j * 15 + t]? = ((s.fr j).cells (us j))[t]? from by
    obtain ⟨o, c', cur, eo, FB, hB, hdc, hco, hcs, hcur⟩ := h.row.op (by omega)
    rw [hov] at eo
    injection eo with e1 e2 e3
    exact ⟨o, cur, e1, FB, hcur j hj⟩))
  have HU := Lib.hid (fun (j : Nat) (hj : j < s.d) => Fr.row_sl (h.rows j hj))
  have HN := Lib.hid (fun (j : Nat) (hj : j < s.d) => (show (s.fr j).n ≤ 65536 from Nat.le_trans (h.ok.fr j hj).1 h.ok.nd))
  have HK := Lib.hid (fun (j : Nat) (hj : j < s.d) => (h.ok.fr j hj).2.1)
  rw [hov] at p0
  simp only [bcells, List.getElem?_toArray, List.getElem?_cons_succ, List.getElem?_cons_zero] at p0
  have HP : Hid (pathS s = pathN s.fr s.d) := Lib.hid rfl
  generalize s.d = d at *
  generalize s.fr = fr at *
  obtain ⟨R, hR⟩ : ∃ R, pathS s = R := ⟨_, rfl⟩
  rw [hR] at HP ⊢
  clear h hov hR
  have hdi : ((d : Nat) : Int) ≤ 48 := by omega
  have hdj : (0 : Int) ≤ ((d : Nat) : Int) := by omega
  obtain ⟨i0, hi0, hz0, hz1, hz2⟩ := info_parts Tryd.infoStp
  go_enter Tryd.func27, Tryd.ntmps27
  go_wp2_with fail
  go_loopw [3, 14] (fun v i wr => ∃ j : Nat, j ≤ d ∧ i = .int .i64 j ∧ Hid (StRow W.heap.size wr v (pathN fr j)) ∧ Below W.heap.size W wr) (fun _ i _ => d - (intOf i).toNat)
  case atStart => exact ⟨0, by omega, rfl, Lib.hid (StRow.nil _ _), Below.refl _ _⟩
  case round =>
    clear p0
    obtain ⟨j, hj, rfl, HV, hbr⟩ := hrel
    have hji : (0 : Int) ≤ j := by omega
    by_cases hjd : j < d
    · have hjl : (j : Int) < d := by omega
      obtain ⟨o, cur, rfl, FB, hcur⟩ := HA.out j hjd
      obtain ⟨ua, uc, hu⟩ := HU.out j hjd
      have hn6 := HN.out j hjd
      have hk6 := HK.out j hjd
      have FBr := FB.below hbr FB.lt
      have hsucc : pathN fr (j + 1) = pathN fr j ++ pathF (fr j) := rfl
      have hlen := pathN_len fr j
      rw [hu] at hcur
      obtain ⟨va, vc, hvs⟩ := HV.out.sl
      subst hvs
      have HV1 := Lib.hid (HV.out)
      clear HA HV FB hu
      unfold Fr.cells at hcur
      generalize fr j = F at *
      obtain ⟨mp, n, K, M, fkey, kd⟩ := F
      obtain ⟨q2, hq2⟩ : ∃ q2, pathN fr (j + 1) = q2 := ⟨_, rfl⟩
      rw [hq2] at hsucc
      have HQ2 := Lib.hid hq2
      clear hq2
      generalize pathN fr j = q1 at *
      dsimp only at hcur hn6 hk6
      have hq1 : q1.length ≤ 48 := by omega
      cases mp
      · rw [if_neg (by decide)] at hcur
        simp only [frc] at hcur
        have l0 := (FBr.cell (j * 15 + 0)).trans (hcur 0 (by decide))
        have l1 := (FBr.cell (j * 15 + 1)).trans (hcur 1 (by decide))
        have l2 := (FBr.cell (j * 15 + 2)).trans (hcur 2 (by decide))
        have l3 := (FBr.cell (j * 15 + 3)).trans (hcur 3 (by decide))
        have l4 := (FBr.cell (j * 15 + 4)).trans (hcur 4 (by decide))
        have l5 := (FBr.cell (j * 15 + 5)).trans (hcur 5 (by decide))
        have l6 := (FBr.cell (j * 15 + 6)).trans (hcur 6 (by decide))
        have l7 := (FBr.cell (j * 15 + 7)).trans (hcur 7 (by decide))
        have l8 := (FBr.cell (j * 15 + 8)).trans (hcur 8 (by decide))
        have l9 := (FBr.cell (j * 15 + 9)).trans (hcur 9 (by decide))
        have l10 := (FBr.cell (j * 15 + 10)).trans (hcur 10 (by decide))
        have l11 := (FBr.cell (j * 15 + 11)).trans (hcur 11 (by decide))
        have l12 := (FBr.cell (j * 15 + 12)).trans (hcur 12 (by decide))
        have l13 := (FBr.cell (j * 15 + 13)).trans (hcur 13 (by decide))
        have l14 := (FBr.cell (j * 15 + 14)).trans (hcur 14 (by decide))
        simp only [List.getElem?_toArray, List.getElem?_cons_succ, List.getElem?_cons_zero, Nat.add_zero] at l0 l1 l2 l3 l4 l5 l6 l7 l8 l9 l10 l11 l12 l13 l14
        have g2 := hbr.alloc hbr.size (.cells #[.int .i64 6, .bool false, .bool false, .string ⟨#[]⟩, .int .i64 0, .int .i64 0, .int .i64 0, .int .i64 0, .int .i64 0, .string ⟨#[]⟩, .slice none 0 0, .slice ua n uc, .slice none 0 0, .string fkey, .bool kd] 98)
        have N := Whole.new wr 98 #[.int .i64 6, .bool false, .bool false, .string ⟨#[]⟩, .int .i64 0, .int .i64 0, .int .i64 0, .int .i64 0, .int .i64 0, .string ⟨#[]⟩, .slice none 0 0, .slice ua n uc, .slice none 0 0, .string fkey, .bool kd]
        clear hcur FBr hbr
        have n0 := Whole.cell N 0
        have n11 := Whole.cell N 11
        have n13 := Whole.cell N 13
        have n14 := Whole.cell N 14
        simp only [List.getElem?_toArray, List.getElem?_cons_succ, List.getElem?_cons_zero] at n0 n11 n13 n14
        have hsucc : q2 = q1 ++ [stI n] := hsucc
        have hn6i : ((n : Nat) : Int) ≤ 65536 := by omega
        have hn6j : (0 : Int) ≤ ((n : Nat) : Int) := by omega
        have s1 := Lib.hid (cells_new (wr.alloc (.cells #[.int .i64 6, .bool false, .bool false, .string ⟨#[]⟩, .int .i64 0, .int .i64 0, .int .i64 0, .int .i64 0, .int .i64 0, .string ⟨#[]⟩, .slice none 0 0, .slice ua n uc, .slice none 0 0, .string fkey, .bool kd] 98)) 78 #[.bool true, .string ⟨#[]⟩, .int .i64 n])
        have s2 : Hid (∀ u ∈ (#[.bool true, .string ⟨#[]⟩, .int .i64 n] : Array Value).toList, u.oneCell' = true) := Lib.hid (by simp [Value.oneCell'])
        have s3 : Hid (q1.length + 1 ≤ maxLen) := Lib.hid (by unfold maxLen; omega)
        have s4 : Hid ((q1.length + 1) * 32 ≤ 140737488355328) := Lib.hid (by omega)
        have g3 := g2.alloc g2.size (.cells #[.bool true, .string ⟨#[]⟩, .int .i64 n] 78)
        have s5 : Hid (W.heap.size ≤ ((wr.alloc (.cells #[.int .i64 6, .bool false, .bool false, .string ⟨#[]⟩, .int .i64 0, .int .i64 0, .int .i64 0, .int .i64 0, .int .i64 0, .string ⟨#[]⟩, .slice none 0 0, .slice ua n uc, .slice none 0 0, .string fkey, .bool kd] 98)).alloc (.cells #[.bool true, .string ⟨#[]⟩, .int .i64 n] 78)).heap.size) := Lib.hid g3.size
        have hown : ((wr.alloc (.cells #[.int .i64 6, .bool false, .bool false, .string ⟨#[]⟩, .int .i64 0, .int .i64 0, .int .i64 0, .int .i64 0, .int .i64 0, .string ⟨#[]⟩, .slice none 0 0, .slice ua n uc, .slice none 0 0, .string fkey, .bool kd] 98)).alloc (.cells #[.bool true, .string ⟨#[]⟩, .int .i64 n] 78)).ownsRow W.heap.size 78 3 (.slice va q1.length vc) q1.length (catN (fun i => (lst q1 i).cells) q1.length) := HV1.out.below (((Below.refl wr.heap.size wr).alloc (Nat.le_refl _) _).alloc (by simp) _)
        go_wp2_with (first | (at_builtin; refine wpList_append_told _ rfl _ _ 42 rfl W.heap.size 78 i0 _ 3 32 Tryd.underlying42 hi0 hz0 hz1 hz2 rfl (by decide) _ _ _ rfl hown ⟨wr.heap.size + 1, 0, none⟩ 1 1 (#[.bool true, .string ⟨#[]⟩, .int .i64 n] : Array Value).toList rfl rfl (by simpa using s1.out) s2.out s3.out s4.out s5.out Nat.one_pos ?_))
        intro v2 w5 ho5 hg5 hv5
        have g5 := g3.grown hg5 s5.out (fun g hg => (own_lt hown hg).1)
        have HV2 : Hid (StRow W.heap.size w5 v2 q2) := Lib.hid (by rw [hsucc]; exact StRow.push (s := stI n) ho5)
        clear s1 s2 s3 s4 s5 hown ho5 hg5 hv5 g3 g2 HV1 hsucc N
        go_wp2
        go_roundw
        case rel => exact ⟨j + 1, by omega, by go_num, by rw [HQ2.out]; exact HV2, g5⟩
        case measure => simp [intOf]; omega
      · cases kd
        · rw [if_pos rfl] at hcur
          simp only [frc] at hcur
          have l0 := (FBr.cell (j * 15 + 0)).trans (hcur 0 (by decide))
          have l1 := (FBr.cell (j * 15 + 1)).trans (hcur 1 (by decide))
          have l2 := (FBr.cell (j * 15 + 2)).trans (hcur 2 (by decide))
          have l3 := (FBr.cell (j * 15 + 3)).trans (hcur 3 (by decide))
          have l4 := (FBr.cell (j * 15 + 4)).trans (hcur 4 (by decide))
          have l5 := (FBr.cell (j * 15 + 5)).trans (hcur 5 (by decide))
          have l6 := (FBr.cell (j * 15 + 6)).trans (hcur 6 (by decide))
          have l7 := (FBr.cell (j * 15 + 7)).trans (hcur 7 (by decide))
          have l8 := (FBr.cell (j * 15 + 8)).trans (hcur 8 (by decide))
          have l9 := (FBr.cell (j * 15 + 9)).trans (hcur 9 (by decide))
          have l10 := (FBr.cell (j * 15 + 10)).trans (hcur 10 (by decide))
          have l11 := (FBr.cell (j * 15 + 11)).trans (hcur 11 (by decide))
          have l12 := (FBr.cell (j * 15 + 12)).trans (hcur 12 (by decide))
          have l13 := (FBr.cell (j * 15 + 13)).trans (hcur 13 (by decide))
          have l14 := (FBr.cell (j * 15 + 14)).trans (hcur 14 (by decide))
          simp only [List.getElem?_toArray, List.getElem?_cons_succ, List.getElem?_cons_zero, Nat.add_zero] at l0 l1 l2 l3 l4 l5 l6 l7 l8 l9 l10 l11 l12 l13 l14
          have g2 := hbr.alloc hbr.size (.cells #[.int .i64 7, .bool false, .bool false, .string ⟨#[]⟩, .int .i64 0, .int .i64 0, .int .i64 0, .int .i64 0, .int .i64 0, .string ⟨#[]⟩, .slice none 0 0, .slice none 0 0, .slice ua n uc, .string fkey, .bool false] 98)
          have N := Whole.new wr 98 #[.int .i64 7, .bool false, .bool false, .string ⟨#[]⟩, .int .i64 0, .int .i64 0, .int .i64 0, .int .i64 0, .int .i64 0, .string ⟨#[]⟩, .slice none 0 0, .slice none 0 0, .slice ua n uc, .string fkey, .bool false]
          clear hcur FBr hbr
          have n0 := Whole.cell N 0
          have n11 := Whole.cell N 11
          have n13 := Whole.cell N 13
          have n14 := Whole.cell N 14
          simp only [List.getElem?_toArray, List.getElem?_cons_succ, List.getElem?_cons_zero] at n0 n11 n13 n14
          have hsucc : q2 = q1 := by rw [hsucc]; exact List.append_nil _
          have HV2 : Hid (StRow W.heap.size (wr.alloc (.cells #[.int .i64 7, .bool false, .bool false, .string ⟨#[]⟩, .int .i64 0, .int .i64 0, .int .i64 0, .int .i64 0, .int .i64 0, .string ⟨#[]⟩, .slice none 0 0, .slice none 0 0, .slice ua n uc, .string fkey, .bool false] 98)) (.slice va q1.length vc) q2) := Lib.hid (by rw [hsucc]; exact HV1.out.below ((Below.refl wr.heap.size wr).alloc (Nat.le_refl _) _))
          clear HV1 hsucc N
          go_wp2
          go_roundw
          case rel => exact ⟨j + 1, by omega, by go_num, by rw [HQ2.out]; exact HV2, g2⟩
          case measure => simp [intOf]; omega
        · rw [if_pos rfl] at hcur
          simp only [frc] at hcur
          have l0 := (FBr.cell (j * 15 + 0)).trans (hcur 0 (by decide))
          have l1 := (FBr.cell (j * 15 + 1)).trans (hcur 1 (by decide))
          have l2 := (FBr.cell (j * 15 + 2)).trans (hcur 2 (by decide))
          have l3 := (FBr.cell (j * 15 + 3)).trans (hcur 3 (by decide))
          have l4 := (FBr.cell (j * 15 + 4)).trans (hcur 4 (by decide))
          have l5 := (FBr.cell (j * 15 + 5)).trans (hcur 5 (by decide))
          have l6 := (FBr.cell (j * 15 + 6)).trans (hcur 6 (by decide))
          have l7 := (FBr.cell (j * 15 + 7)).trans (hcur 7 (by decide))
          have l8 := (FBr.cell (j * 15 + 8)).trans (hcur 8 (by decide))
          have l9 := (FBr.cell (j * 15 + 9)).trans (hcur 9 (by decide))
          have l10 := (FBr.cell (j * 15 + 10)).trans (hcur 10 (by decide))
          have l11 := (FBr.cell (j * 15 + 11)).trans (hcur 11 (by decide))
          have l12 := (FBr.cell (j * 15 + 12)).trans (hcur 12 (by decide))
          have l13 := (FBr.cell (j * 15 + 13)).trans (hcur 13 (by decide))
          have l14 := (FBr.cell (j * 15 + 14)).trans (hcur 14 (by decide))
          simp only [List.getElem?_toArray, List.getElem?_cons_succ, List.getElem?_cons_zero, Nat.add_zero] at l0 l1 l2 l3 l4 l5 l6 l7 l8 l9 l10 l11 l12 l13 l14
          have g2 := hbr.alloc hbr.size (.cells #[.int .i64 7, .bool false, .bool false, .string ⟨#[]⟩, .int .i64 0, .int .i64 0, .int .i64 0, .int .i64 0, .int .i64 0, .string ⟨#[]⟩, .slice none 0 0, .slice none 0 0, .slice ua n uc, .string fkey, .bool true] 98)
          have N := Whole.new wr 98 #[.int .i64 7, .bool false, .bool false, .string ⟨#[]⟩, .int .i64 0, .int .i64 0, .int .i64 0, .int .i64 0, .int .i64 0, .string ⟨#[]⟩, .slice none 0 0, .slice none 0 0, .slice ua n uc, .string fkey, .bool true]
          clear hcur FBr hbr
          have n0 := Whole.cell N 0
          have n11 := Whole.cell N 11
          have n13 := Whole.cell N 13
          have n14 := Whole.cell N 14
          simp only [List.getElem?_toArray, List.getElem?_cons_succ, List.getElem?_cons_zero] at n0 n11 n13 n14
          have hsucc : q2 = q1 ++ [stK fkey] := hsucc
          have s1 := Lib.hid (cells_new (wr.alloc (.cells #[.int .i64 7, .bool false, .bool false, .string ⟨#[]⟩, .int .i64 0, .int .i64 0, .int .i64 0, .int .i64 0, .int .i64 0, .string ⟨#[]⟩, .slice none 0 0, .slice none 0 0, .slice ua n uc, .string fkey, .bool true] 98)) 78 #[.bool false, .string fkey, .int .i64 0])
          have s2 : Hid (∀ u ∈ (#[.bool false, .string fkey, .int .i64 0] : Array Value).toList, u.oneCell' = true) := Lib.hid (by simp [Value.oneCell'])
          have s3 : Hid (q1.length + 1 ≤ maxLen) := Lib.hid (by unfold maxLen; omega)
          have s4 : Hid ((q1.length + 1) * 32 ≤ 140737488355328) := Lib.hid (by omega)
          have g3 := g2.alloc g2.size (.cells #[.bool false, .string fkey, .int .i64 0] 78)
          have s5 : Hid (W.heap.size ≤ ((wr.alloc (.cells #[.int .i64 7, .bool false, .bool false, .string ⟨#[]⟩, .int .i64 0, .int .i64 0, .int .i64 0, .int .i64 0, .int .i64 0, .string ⟨#[]⟩, .slice none 0 0, .slice none 0 0, .slice ua n uc, .string fkey, .bool true] 98)).alloc (.cells #[.bool false, .string fkey, .int .i64 0] 78)).heap.size) := Lib.hid g3.size
          have hown : ((wr.alloc (.cells #[.int .i64 7, .bool false, .bool false, .string ⟨#[]⟩, .int .i64 0, .int .i64 0, .int .i64 0, .int .i64 0, .int .i64 0, .string ⟨#[]⟩, .slice none 0 0, .slice none 0 0, .slice ua n uc, .string fkey, .bool true] 98)).alloc (.cells #[.bool false, .string fkey, .int .i64 0] 78)).ownsRow W.heap.size 78 3 (.slice va q1.length vc) q1.length (catN (fun i => (lst q1 i).cells) q1.length) := HV1.out.below (((Below.refl wr.heap.size wr).alloc (Nat.le_refl _) _).alloc (by simp) _)
          go_wp2_with (first | (at_builtin; refine wpList_append_told _ rfl _ _ 42 rfl W.heap.size 78 i0 _ 3 32 Tryd.underlying42 hi0 hz0 hz1 hz2 rfl (by decide) _ _ _ rfl hown ⟨wr.heap.size + 1, 0, none⟩ 1 1 (#[.bool false, .string fkey, .int .i64 0] : Array Value).toList rfl rfl (by simpa using s1.out) s2.out s3.out s4.out s5.out Nat.one_pos ?_))
          intro v2 w5 ho5 hg5 hv5
          have g5 := g3.grown hg5 s5.out (fun g hg => (own_lt hown hg).1)
          have HV2 : Hid (StRow W.heap.size w5 v2 q2) := Lib.hid (by rw [hsucc]; exact StRow.push (s := stK fkey) ho5)
          clear s1 s2 s3 s4 s5 hown ho5 hg5 hv5 g3 g2 HV1 hsucc N
          go_wp2
          go_roundw
          case rel => exact ⟨j + 1, by omega, by go_num, by rw [HQ2.out]; exact HV2, g5⟩
          case measure => simp [intOf]; omega
    · obtain rfl : j = d := by omega
      have HV2 := Lib.hid (pth_of HV.out (by have := pathN_len fr j; omega) (pathN_ok fun i hi => ⟨HN.out i hi, HK.out i hi⟩) hbr)
      have e := HP.out
      subst e
      clear HV hjd HP
      go_wp2
      go_ret
      exact HV2.out
end Go.Proofs.YtpcbhneaaibfiaaDoor
/- The path of the value to which an event belongs that is added: (*Builder).belongs. -/
namespace Go.Proofs.YtpcbhneaaibfiaaDoor
open Go.RowKit
set_option linter.unusedSimpArgs false
set_option linter.unusedVariables false

/-- The path of the value to which an event belongs. -/
noncomputable def whereS (s : Bst) (x : Ev) : List Stp := if x.k = 6 then pathS (addS s x) else if x.k = 3 then (pathS s).dropLast else pathS s
/-- What belongs answers. -/
def BelOut (B0 bb : Nat) (A O : Nat → Prop) (W : World) (s : Bst) (x : Ev) (e : Ending) (W' : World) : Prop :=
  ∃ r : Pth, e = .returned (.tuple #[.slice r.a r.n r.c, .int .i64 (addE s x)]) ∧ r.In W' W'.heap.size ∧ r.steps = (if addE s x = 0 then whereS s x else []) ∧ (0 < r.n → W.heap.size ≤ r.b) ∧
    ∃ A' O', BInv B0 bb A' O' W' (addS s x) ∧ (∀ b, A' b → A b ∨ W.heap.size ≤ b) ∧ (∀ b, O' b → O b ∨ W.heap.size ≤ b) ∧ Kept O W W'
theorem Pth.In.turn {W W' : World} {p : Pth} {top : Nat} (h : p.In W top) (hb : 0 < p.n → W'.heap[p.b]? = W.heap[p.b]?) (hz : top ≤ W'.heap.size) : p.In W' W'.heap.size :=
  ⟨fun q => ⟨(h.1 q).1, Nat.lt_of_lt_of_le (h.1 q).2 hz⟩, h.2.1, fun i hi => ⟨fun j hj => (World.cell?_of_block (a := ⟨p.b, p.o + i * 3 + j, none⟩) (hb (by omega))).trans ((h.2.2 i hi).1 j hj), (h.2.2 i hi).2⟩⟩
theorem nil_in (W : World) (top c b o : Nat) (a : Option Addr) (S : Nat → Stp) (hc : c ≤ maxLen) : (Pth.mk a 0 c b o S).In W top := ⟨fun q => absurd q (Nat.lt_irrefl _), ⟨Nat.zero_le _, Nat.zero_le _, hc⟩, fun i hi => absurd hi (Nat.not_lt_zero _)⟩
theorem drop_in {W : World} {top m c b o : Nat} {a : Option Addr} {S : Nat → Stp} (h : (Pth.mk a (m + 1) c b o S).In W top) : (Pth.mk a m c b o S).In W top :=
  ⟨fun q => h.1 (Nat.succ_pos _), ⟨(by have := h.2.1.1; simp only at this ⊢; omega), (by have := h.2.1.2.1; simp only at this ⊢; omega), h.2.1.2.2⟩, fun i hi => h.2.2 i (Nat.lt_succ_of_lt hi)⟩
theorem drop_steps {m c b o : Nat} {a : Option Addr} {S : Nat → Stp} : (Pth.mk a m c b o S).steps = (Pth.mk a (m + 1) c b o S).steps.dropLast := by
  simp [Pth.steps, List.range_succ]
/-- How it ends: with an error. -/
theorem bel_err {B0 bb : Nat} {A O A1 O1 : Nat → Prop} {W W1 W' : World} {s : Bst} {x : Ev} {v : Value} {E : Int} (hE : addE s x = E) (he : E ≠ 0) (hb : Below W.heap.size W W1) (h : BOut B0 bb A O W1 (addS s x) v (.returned v) W') (hO : ∀ b, O b → b < W.heap.size) :
    BelOut B0 bb A O W s x (.returned (.tuple #[.slice none 0 0, .int .i64 E])) W' := by
  obtain ⟨-, A', O', h1, h2, h3, h4⟩ := h
  refine ⟨⟨none, 0, 0, 0, 0, fun _ => default⟩, by rw [hE], nil_in _ _ _ _ _ _ _ (Nat.zero_le _), ?_, fun q => absurd q (Nat.lt_irrefl _), A', O', h1, fun b q => (h2 b q).imp id (fun z => Nat.le_trans hb.size z), fun b q => (h3 b q).imp id (fun z => Nat.le_trans hb.size z), (Kept.of (O := O) hb).trans h4 (fun b q => .inl q)⟩
  rw [if_neg (by rw [hE]; exact he)]
  rfl
/-- .. with the path ahead of it. -/
theorem bel_ok {B0 bb : Nat} {A O : Nat → Prop} {W W1 W' : World} {s : Bst} {x : Ev} {v : Value} {r : Pth} (hE : addE s x = 0) (hb : Below W.heap.size W W1) (h : BOut B0 bb A O W1 (addS s x) v (.returned v) W') (hO : ∀ b, O b → b < W.heap.size)
    (hr : r.In W1 W1.heap.size) (hrb : 0 < r.n → W.heap.size ≤ r.b) (hrs : r.steps = whereS s x) : BelOut B0 bb A O W s x (.returned (.tuple #[.slice r.a r.n r.c, .int .i64 0])) W' := by
  obtain ⟨-, A', O', h1, h2, h3, h4⟩ := h
  refine ⟨r, by rw [hE], hr.turn (fun q => h4.block r.b (hr.1 q).2 (fun z => by have := hO _ z; have := hrb q; omega)) h4.size, ?_, hrb, A', O', h1, fun b q => (h2 b q).imp id (fun z => Nat.le_trans hb.size z), fun b q => (h3 b q).imp id (fun z => Nat.le_trans hb.size z), (Kept.of (O := O) hb).trans h4 (fun b q => .inl q)⟩
  rw [if_pos hE]
  exact hrs
/-- .. with the path behind it. -/
theorem bel_key {B0 bb : Nat} {A O : Nat → Prop} {W W1 W2 W' : World} {s : Bst} {x : Ev} {v : Value} {e : Ending} (hE : addE s x = 0) (hk : x.k = 6) (hb : Below W.heap.size W W1) (h : BOut B0 bb A O W1 (addS s x) v (.returned v) W2) {r : Pth}
    (hr : r.In W' W'.heap.size) (hrs : r.steps = pathS (addS s x)) (hrb : 0 < r.n → W2.heap.size ≤ r.b) (hb2 : Below W2.heap.size W2 W') : BelOut B0 bb A O W s x (.returned (.tuple #[.slice r.a r.n r.c, .int .i64 0])) W' := by
  obtain ⟨-, A', O', h1, h2, h3, h4⟩ := h
  have hz := Nat.le_trans hb.size h4.size
  refine ⟨r, by rw [hE], hr, ?_, fun q => Nat.le_trans hz (hrb q), A', O', h1.later hb2, fun b q => (h2 b q).imp id (fun z => Nat.le_trans hb.size z), fun b q => (h3 b q).imp id (fun z => Nat.le_trans hb.size z), ((Kept.of (O := O) hb).trans h4 (fun b q => .inl q)).trans (Kept.of (O := fun _ => False) hb2) (fun b q => q.elim)⟩
  rw [if_pos hE, hrs]
  unfold whereS
  rw [if_pos hk]
set_option maxHeartbeats 8000000 in
set_option maxRecDepth 100000 in
theorem bel_any {B0 bb : Nat} {A O : Nat → Prop} {W : World} {s : Bst} {x : Ev} (h : BInv B0 bb A O W s) (hinv : s.inv) (hx : x.ok) (hV : x.V.In W B0) (hB0 : B0 ≤ W.heap.size) :
    Calls Tryd.prog 39 #[.pointer (some ⟨bb, 0, none⟩), .agg x.cells] W (BelOut B0 bb A O W s x) := by
  have hb0 := (Below.refl W.heap.size W).alloc (Nat.le_refl _) (.cells x.cells 57)
  have P := Whole.new W 57 x.cells
  have hO : Hid (∀ b, O b → b < W.heap.size) := Lib.hid (by
    obtain ⟨ov, us, X, h'⟩ := h
    exact fun b q => (h'.O_lt q).2)
  have HPa := Lib.hid (path_any (h.later hb0))
  have HAd := Lib.hid (fun (w1 : World) (hb : Below W.heap.size W w1) => add_any (x := x) (h.later hb) hinv hx (Vt.In.below (hb.mono hB0) hV) (Nat.le_trans hB0 hb.size))
  have HP2 := Lib.hid (fun (w2 : World) (A' O' : Nat → Prop) (h' : BInv B0 bb A' O' w2 (addS s x)) => path_any h')
  have hpl : (pathS s).length ≤ 48 := by
    obtain ⟨ov, us, X, h'⟩ := h
    exact pathS_len h'.ok
  obtain ⟨E, hE⟩ : ∃ E, addE s x = E := ⟨_, rfl⟩
  have HErr := Lib.hid (fun (w1 w2 : World) (v : Value) (he : E ≠ 0) (hb : Below W.heap.size W w1) (h : BOut B0 bb A O w1 (addS s x) v (.returned v) w2) => bel_err (A1 := A) (O1 := O) hE he hb h hO.out)
  have HOk := Lib.hid (fun (w1 w2 : World) (v : Value) (r : Pth) (he : E = 0) (hb : Below W.heap.size W w1) (h : BOut B0 bb A O w1 (addS s x) v (.returned v) w2) (hr : r.In w1 w1.heap.size) (hrb : 0 < r.n → W.heap.size ≤ r.b) (hrs : r.steps = whereS s x) => bel_ok (hE.trans he) hb h hO.out hr hrb hrs)
  have HKey := Lib.hid (fun (w1 w2 w3 : World) (v : Value) (r : Pth) (he : E = 0) (hk : x.k = 6) (hb : Below W.heap.size W w1) (h : BOut B0 bb A O w1 (addS s x) v (.returned v) w2) (hr : r.In w3 w3.heap.size) (hrs : r.steps = pathS (addS s x)) (hrb : 0 < r.n → w2.heap.size ≤ r.b) (hb2 : Below w2.heap.size w2 w3) => bel_key (e := .returned (.int .i64 0)) (hE.trans he) hk hb h hr hrs hrb hb2)
  have HBx := Lib.hid (fun (w1 w2 : World) (v : Value) (h : BOut B0 bb A O w1 (addS s x) v (.returned v) w2) => (show ∃ A' O', BInv B0 bb A' O' w2 (addS s x) from by
    obtain ⟨-, A', O', h1, -⟩ := h
    exact ⟨A', O', h1⟩))
  have HW6 : Hid (x.k ≠ 6 → x.k ≠ 3 → whereS s x = pathS s) := Lib.hid fun q1 q2 => by unfold whereS; rw [if_neg q1, if_neg q2]
  have HW3 : Hid (x.k = 3 → whereS s x = (pathS s).dropLast) := Lib.hid fun q => by unfold whereS; rw [if_neg (by omega), if_pos q]
  rw [hE] at HAd
  obtain ⟨Z, hZ⟩ : ∃ Z, BelOut B0 bb A O W s x = Z := ⟨_, rfl⟩
  rw [hZ] at HErr HOk HKey ⊢
  generalize addS s x = T at *
  generalize whereS s x = U at *
  generalize pathS s = Q at *
  clear h hinv hx hV hB0 hE hZ
  obtain ⟨k, key, V⟩ := x
  dsimp only at HKey HW6 HW3
  simp only [Ev.cells, evc] at hb0 P HPa HAd ⊢
  obtain ⟨c0, c1, c2, c3, c4, c5, c6, c7, c8, c9, c10, c11, c12, c13, c14⟩ := Whole.e15 P
  by_cases e6 : k = 6
  · subst e6
    go_enter Tryd.func39, Tryd.ntmps39
    go_wp2_with fail
    refine HPa.out.mono ?_; rintro _ w1 ⟨⟨ra, rn, rc, rb, ro, rS⟩, rfl, hr, hrs, hrb, hb1⟩
    have g1 := below_then hb0 hb1
    have P1 := Whole.below P hb1 P.lt
    have hn48 : rn ≤ 48 := by
      have := Pth.steps_len ⟨ra, rn, rc, rb, ro, rS⟩
      rw [hrs] at this
      simp only at this
      omega
    have hR := Lib.hid (And.intro hr (And.intro hrs (fun q => Nat.le_trans hb0.size (hrb q))))
    clear HPa hb0 hb1 P hr hrs hrb c0 c1 c2 c3 c4 c5 c6 c7 c8 c9 c10 c11 c12 c13 c14
    obtain ⟨c0, c1, c2, c3, c4, c5, c6, c7, c8, c9, c10, c11, c12, c13, c14⟩ := Whole.e15 P1
    go_wp2_with fail
    refine (HAd.out w1 g1).mono ?_; rintro _ w2 hB
    obtain ⟨rfl, hB'⟩ : _ ∧ True := ⟨hB.1, trivial⟩
    have HB := Lib.hid hB
    have P2 : Whole w2 W.heap.size 57 _ := (hB.2.choose_spec.choose_spec.2.2.2.block _ P1.lt (fun z => by have := hO.out _ z; omega)).trans P1
    clear hB hB' HAd P1 c0 c1 c2 c3 c4 c5 c6 c7 c8 c9 c10 c11 c12 c13 c14
    have c0 := Whole.cell P2 0
    simp only [List.getElem?_toArray, List.getElem?_cons_succ, List.getElem?_cons_zero] at c0
    by_cases hE0 : E = 0
    · have HE0 := Lib.hid hE0
      subst hE0
      clear HErr
      obtain ⟨A', O', hB2⟩ := HBx.out _ _ _ HB.out
      have HC := Lib.hid (HP2.out w2 A' O' hB2)
      clear hB2 HP2 HBx HOk
      go_wp2_with fail
      refine HC.out.mono ?_; rintro _ w3 ⟨⟨sa, sn, sc, sb, so, sS⟩, rfl, hs, hss, hsb, hb3⟩
      have HE2 := Lib.hid (HKey.out w1 w2 w3 _ ⟨sa, sn, sc, sb, so, sS⟩ (by trivial) (by trivial) g1 HB.out hs hss hsb hb3)
      clear HKey HB g1 P2 c0 hs hss hsb hb3 HC
      go_wp2
      (first | exact HE2.out | (go_ret2; exact HE2.out))
    · have dE : (E == 0) = false := beq_eq_false_iff_ne.2 hE0
      have HE2 := Lib.hid (HErr.out w1 w2 _ hE0 g1 HB.out)
      clear HErr HOk HKey HB g1 P2 c0 hE0
      go_wp2
      (first | exact HE2.out | (go_ret2; exact HE2.out))
  by_cases e3 : k = 3
  · subst e3
    go_enter Tryd.func39, Tryd.ntmps39
    go_wp2_with fail
    refine HPa.out.mono ?_; rintro _ w1 ⟨⟨ra, rn, rc, rb, ro, rS⟩, rfl, hr, hrs, hrb, hb1⟩
    have g1 := below_then hb0 hb1
    have P1 := Whole.below P hb1 P.lt
    have hn48 : rn ≤ 48 := by
      have := Pth.steps_len ⟨ra, rn, rc, rb, ro, rS⟩
      rw [hrs] at this
      simp only at this
      omega
    have hR := Lib.hid (And.intro hr (And.intro hrs (fun q => Nat.le_trans hb0.size (hrb q))))
    clear HPa hb0 hb1 P hr hrs hrb c0 c1 c2 c3 c4 c5 c6 c7 c8 c9 c10 c11 c12 c13 c14
    obtain ⟨c0, c1, c2, c3, c4, c5, c6, c7, c8, c9, c10, c11, c12, c13, c14⟩ := Whole.e15 P1
    cases rn with
    | zero =>
      go_wp2_with fail
      refine (HAd.out w1 g1).mono ?_; rintro _ w2 hB
      obtain ⟨rfl, hB'⟩ : _ ∧ True := ⟨hB.1, trivial⟩
      have HB := Lib.hid hB
      have P2 : Whole w2 W.heap.size 57 _ := (hB.2.choose_spec.choose_spec.2.2.2.block _ P1.lt (fun z => by have := hO.out _ z; omega)).trans P1
      clear hB hB' HAd P1 c0 c1 c2 c3 c4 c5 c6 c7 c8 c9 c10 c11 c12 c13 c14
      have c0 := Whole.cell P2 0
      simp only [List.getElem?_toArray, List.getElem?_cons_succ, List.getElem?_cons_zero] at c0
      by_cases hE0 : E = 0
      · have HE0 := Lib.hid hE0
        subst hE0
        clear HErr
        have HE2 := Lib.hid (HOk.out w1 w2 _ ⟨ra, 0, rc, rb, ro, rS⟩ (by trivial) g1 HB.out hR.out.1 hR.out.2.2 (by rw [HW3.out (by trivial), ← hR.out.2.1]; rfl))
        clear HOk HKey HB g1 P2 HBx HP2
        go_wp2
        (first | exact HE2.out | (go_ret2; exact HE2.out))
      · have dE : (E == 0) = false := beq_eq_false_iff_ne.2 hE0
        have HE2 := Lib.hid (HErr.out w1 w2 _ hE0 g1 HB.out)
        clear HErr HOk HKey HB g1 P2 c0 hE0
        go_wp2
        (first | exact HE2.out | (go_ret2; exact HE2.out))
    | succ m =>
      have i3 : ((m : Nat) : Int) ≤ 47 := by omega
      have i4 : (0 : Int) ≤ ((m : Nat) : Int) := by omega
      have hwi : IntKind.i64.wrap ((m : Nat) : Int) = m := by rw [IntKind.wrap_i64]; omega
      have hlt : (0 : Int) < (m : Int) + 1 := by omega
      have hic : m ≤ rc := by have := hR.out.1.2.1.2.1; simp only at this; omega
      go_wp2_with fail
      refine (HAd.out w1 g1).mono ?_; rintro _ w2 hB
      obtain ⟨rfl, hB'⟩ : _ ∧ True := ⟨hB.1, trivial⟩
      have HB := Lib.hid hB
      have P2 : Whole w2 W.heap.size 57 _ := (hB.2.choose_spec.choose_spec.2.2.2.block _ P1.lt (fun z => by have := hO.out _ z; omega)).trans P1
      clear hB hB' HAd P1 c0 c1 c2 c3 c4 c5 c6 c7 c8 c9 c10 c11 c12 c13 c14
      have c0 := Whole.cell P2 0
      simp only [List.getElem?_toArray, List.getElem?_cons_succ, List.getElem?_cons_zero] at c0
      by_cases hE0 : E = 0
      · have HE0 := Lib.hid hE0
        subst hE0
        clear HErr
        have HE2 := Lib.hid (HOk.out w1 w2 _ ⟨ra, m, rc, rb, ro, rS⟩ (by trivial) g1 HB.out (drop_in hR.out.1) (fun q => hR.out.2.2 (Nat.succ_pos _)) (by rw [HW3.out (by trivial), ← hR.out.2.1]; exact drop_steps))
        clear HOk HKey HB g1 P2 HBx HP2
        go_wp2
        (first | exact HE2.out | (go_ret2; exact HE2.out))
      · have dE : (E == 0) = false := beq_eq_false_iff_ne.2 hE0
        have HE2 := Lib.hid (HErr.out w1 w2 _ hE0 g1 HB.out)
        clear HErr HOk HKey HB g1 P2 c0 hE0
        go_wp2
        (first | exact HE2.out | (go_ret2; exact HE2.out))
  have d6 : (k == 6) = false := beq_eq_false_iff_ne.2 e6
  have d3 : (k == 3) = false := beq_eq_false_iff_ne.2 e3
  have HUQ := Lib.hid (HW6.out e6 e3)
  clear e6 e3
  go_enter Tryd.func39, Tryd.ntmps39
  go_wp2_with fail
  refine HPa.out.mono ?_; rintro _ w1 ⟨⟨ra, rn, rc, rb, ro, rS⟩, rfl, hr, hrs, hrb, hb1⟩
  have g1 := below_then hb0 hb1
  have P1 := Whole.below P hb1 P.lt
  have hn48 : rn ≤ 48 := by
    have := Pth.steps_len ⟨ra, rn, rc, rb, ro, rS⟩
    rw [hrs] at this
    simp only at this
    omega
  have hR := Lib.hid (And.intro hr (And.intro hrs (fun q => Nat.le_trans hb0.size (hrb q))))
  clear HPa hb0 hb1 P hr hrs hrb c0 c1 c2 c3 c4 c5 c6 c7 c8 c9 c10 c11 c12 c13 c14
  obtain ⟨c0, c1, c2, c3, c4, c5, c6, c7, c8, c9, c10, c11, c12, c13, c14⟩ := Whole.e15 P1
  go_wp2_with fail
  refine (HAd.out w1 g1).mono ?_; rintro _ w2 hB
  obtain ⟨rfl, hB'⟩ : _ ∧ True := ⟨hB.1, trivial⟩
  have HB := Lib.hid hB
  have P2 : Whole w2 W.heap.size 57 _ := (hB.2.choose_spec.choose_spec.2.2.2.block _ P1.lt (fun z => by have := hO.out _ z; omega)).trans P1
  clear hB hB' HAd P1 c0 c1 c2 c3 c4 c5 c6 c7 c8 c9 c10 c11 c12 c13 c14
  have c0 := Whole.cell P2 0
  simp only [List.getElem?_toArray, List.getElem?_cons_succ, List.getElem?_cons_zero] at c0
  by_cases hE0 : E = 0
  · have HE0 := Lib.hid hE0
    subst hE0
    clear HErr
    have HE2 := Lib.hid (HOk.out w1 w2 _ ⟨ra, rn, rc, rb, ro, rS⟩ (by trivial) g1 HB.out hR.out.1 hR.out.2.2 (by rw [HUQ.out]; exact hR.out.2.1))
    clear HOk HKey HB g1 P2 HBx HP2
    go_wp2
    (first | exact HE2.out | (go_ret2; exact HE2.out))
  · have dE : (E == 0) = false := beq_eq_false_iff_ne.2 hE0
    have HE2 := Lib.hid (HErr.out w1 w2 _ hE0 g1 HB.out)
    clear HErr HOk HKey HB g1 P2 c0 hE0
    go_wp2
    (first | exact HE2.out | (go_ret2; exact HE2.out))
end Go.Proofs.YtpcbhneaaibfiaaDoor
/- A new builder; what it says of itself: New, Depth, Done. -/
namespace Go.Proofs.YtpcbhneaaibfiaaDoor
open Go.RowKit
set_option linter.unusedSimpArgs false
set_option linter.unusedVariables false

/-- A new builder. -/
def NewOut (B0 : Nat) (W : World) (e : Ending) (W' : World) : Prop := ∃ (bb : Nat) (O : Nat → Prop), e = .returned (.pointer (some ⟨bb, 0, none⟩)) ∧ BInv B0 bb (fun b => W.heap.size ≤ b) O W' Bst.zero ∧ (∀ b, O b → W.heap.size ≤ b) ∧ Below W.heap.size W W'
set_option maxHeartbeats 4000000 in
set_option maxRecDepth 100000 in
theorem new_any {B0 : Nat} {W : World} (hB : B0 ≤ W.heap.size) : Calls Tryd.prog 21 #[] W (NewOut B0 W) := by
  have hb0 := (Below.refl W.heap.size W).alloc (Nat.le_refl _) (.cells (bcells (.slice none 0 0) false Vh.zero 0 false) 86)
  have P := Whole.new W 86 (bcells (.slice none 0 0) false Vh.zero 0 false)
  have HE : Hid (BInv B0 W.heap.size (fun b => W.heap.size ≤ b) (Own W.heap.size (.slice none 0 0) (fun _ => .slice none 0 0) 0) (W.alloc (.cells (bcells (.slice none 0 0) false Vh.zero 0 false) 86)) Bst.zero) := Lib.hid ⟨.slice none 0 0, fun _ => .slice none 0 0, Vt.z, {
    hO := fun b => Iff.rfl
    hA := fun b hb => by
      rcases hb with rfl | q | ⟨i, hi, q⟩
      · exact Nat.le_refl _
      · cases q
      · exact absurd hi (Nat.not_lt_zero _)
    box := P
    hB0 := hB
    row := ⟨[], World.ownsRow_nil _ _ _ _, fun i hi => absurd hi (Nat.not_lt_zero _)⟩
    rows := fun i hi => absurd hi (Nat.not_lt_zero _)
    sep1 := fun q => by cases q
    sep2 := fun i hi => absurd hi (Nat.not_lt_zero _)
    sep3 := fun i j hi => absurd hi (Nat.not_lt_zero _)
    inn := Vt.z_in _ _
    off := ⟨fun q => absurd q (Nat.lt_irrefl _), fun q => absurd q (Nat.lt_irrefl _), fun i hi => absurd hi (Nat.not_lt_zero _), fun q => absurd q (Nat.lt_irrefl _), fun i hi => absurd hi (Nat.not_lt_zero _)⟩
    yes := fun q => by cases q
    no := fun _ => rfl
    ok := ⟨Nat.zero_le _, Nat.zero_le _, fun i hi => absurd hi (Nat.not_lt_zero _), fun q => by cases q⟩ }⟩
  simp only [bcells, Vh.zero] at hb0 HE
  clear P
  go_enter Tryd.func21, Tryd.ntmps21
  go_wp2
  go_ret
  refine ⟨W.heap.size, _, rfl, HE.out, fun b hb => ?_, hb0⟩
  rcases hb with rfl | q | ⟨i, hi, q⟩
  · exact Nat.le_refl _
  · cases q
  · exact absurd hi (Nat.not_lt_zero _)
set_option maxHeartbeats 4000000 in
set_option maxRecDepth 100000 in
theorem depth_any {B0 bb : Nat} {A O : Nat → Prop} {W : World} {s : Bst} (h : BInv B0 bb A O W s) : Calls Tryd.prog 26 #[.pointer (some ⟨bb, 0, none⟩)] W fun e W' => e = .returned (.int .i64 s.d) ∧ Below W.heap.size W W' := by
  obtain ⟨ov, us, X, h⟩ := h
  have p0 := h.box.cell 0
  obtain ⟨a, c, hov⟩ := h.row.slice
  rw [hov] at p0
  simp only [bcells, List.getElem?_toArray, List.getElem?_cons_succ, List.getElem?_cons_zero] at p0
  generalize s.d = d at *
  clear h hov
  go_enter Tryd.func26, Tryd.ntmps26
  go_wp2
  go_ret
  exact ⟨rfl, Below.refl _ _⟩
/-- The value of a builder. -/
def Bst.res (s : Bst) : Vt := if s.dn = true then s.out else Vt.z
/-- A value and whether there is one. -/
def DoneOut (s : Bst) (W : World) (e : Ending) (W' : World) : Prop := ∃ X : Vt, e = .returned (.tuple #[.agg #[.int .i64 X.h.k, .bool X.h.b, .bool X.h.n, .string X.h.d, .int .i64 X.h.e, .int .i64 X.h.tk, .int .i64 X.h.td, .int .i64 X.h.tn, .int .i64 X.h.tz, .string X.h.x, .slice X.h.ba X.h.bn X.h.bc, .slice X.h.la X.h.ln X.h.lc, .slice X.h.fa X.h.fn X.h.fc], .bool s.dn]) ∧ X.In W' W'.heap.size ∧ X.Off (W.heap.size ≤ ·) ∧ X.Same s.res ∧ Below W.heap.size W W'
theorem off_zero (S : Nat → Prop) : Vt.z.Off S := ⟨fun q => absurd q (Nat.lt_irrefl _), fun q => absurd q (Nat.lt_irrefl _), fun i hi => absurd hi (Nat.not_lt_zero _), fun q => absurd q (Nat.lt_irrefl _), fun i hi => absurd hi (Nat.not_lt_zero _)⟩
set_option maxHeartbeats 4000000 in
set_option maxRecDepth 100000 in
theorem done_any {B0 bb : Nat} {A O : Nat → Prop} {W : World} {s : Bst} (h : BInv B0 bb A O W s) : Calls Tryd.prog 24 #[.pointer (some ⟨bb, 0, none⟩)] W (DoneOut s W) := by
  obtain ⟨ov, us, X, h⟩ := h
  have hb0 := (Below.refl W.heap.size W).alloc (Nat.le_refl _) (.cells Vh.zero.cells 30)
  have h0 := h.later hb0
  have Q := Whole.new W 30 Vh.zero.cells
  have hone0 := Lib.hid (vh_all Vh.zero)
  have PB := h0.box
  cases hd : s.dn with
  | false =>
    have hres : s.res = Vt.z := by unfold Bst.res; rw [if_neg (by rw [hd]; decide)]
    have p1 := PB.cell 1
    rw [hd] at p1
    unfold DoneOut
    rw [hres, hd]
    simp only [bcells, List.getElem?_toArray, List.getElem?_cons_succ, List.getElem?_cons_zero] at p1
    simp only [Vh.cells, Vh.zero] at hb0 Q p1
    clear h h0 PB hres hd
    go_enter Tryd.func24, Tryd.ntmps24
    go_wp2_with (refine wpList_store_row rfl 30 _ _ rfl W.heap.size Vh.zero.cells rfl rfl 30 _ Q vh_row rfl hone0.out ?_)
    have Q2 := Whole.setRow Q Vh.zero.cells
    exact bodyPost_ret (v := .tuple #[.agg Vh.zero.cells, .bool false]) (ret_val2 (p := 2) (q := 3) rfl rfl Q2) rfl ⟨Vt.z, rfl, Vt.z_in _ _, off_zero _, Vt.z_same, below_setRow hb0 (by omega) _⟩
  | true =>
    have hres : s.res = s.out := by unfold Bst.res; rw [if_pos hd]
    have hXs := h.yes hd
    have hXu : X.upto 65536 := Vt.upto_le (Vt.upto_sameE hXs (h.ok.out hd)) (by decide)
    have HC := Lib.hid (copy_any (T := X) (w := W.alloc (.cells Vh.zero.cells 30)) h0.inn (Nat.le_refl _) hXu)
    unfold DoneOut
    rw [hres, hd]
    rw [hd] at PB
    have Hs := Lib.hid hXs
    have p1 := PB.cell 1
    have p2 := PB.cell 2
    have p3 := PB.cell 3
    have p4 := PB.cell 4
    have p5 := PB.cell 5
    have p6 := PB.cell 6
    have p7 := PB.cell 7
    have p8 := PB.cell 8
    have p9 := PB.cell 9
    have p10 := PB.cell 10
    have p11 := PB.cell 11
    have p12 := PB.cell 12
    have p13 := PB.cell 13
    have p14 := PB.cell 14
    simp only [bcells, List.getElem?_toArray, List.getElem?_cons_succ, List.getElem?_cons_zero] at p1 p2 p3 p4 p5 p6 p7 p8 p9 p10 p11 p12 p13 p14
    simp only [Vh.cells, Vh.zero] at hb0 Q p1 p2 p3 p4 p5 p6 p7 p8 p9 p10 p11 p12 p13 p14 HC
    clear h h0 PB hres hd hXs hXu
    go_enter Tryd.func24, Tryd.ntmps24
    go_wp2_with fail
    refine HC.out.mono ?_; rintro _ w1 ⟨Z, rfl, hZ, hZo, hZs, hb1⟩
    have Q1 := Q.below hb1 Q.lt
    have g1 := below_then hb0 hb1
    have hone := Lib.hid (vh_all Z.h)
    have HZs := Lib.hid (hZs.trans Hs.out)
    clear HC Q hb0 hZs p1 p2 p3 p4 p5 p6 p7 p8 p9 p10 p11 p12 p13 p14
    go_wp2_with (refine wpList_store_row rfl 30 _ _ rfl W.heap.size Z.h.cells rfl rfl 30 _ Q1 vh_row rfl hone.out ?_)
    have Q2 := Q1.setRow Z.h.cells
    have hsz := Q1.lt
    simp at hZo
    exact bodyPost_ret (v := .tuple #[.agg Z.h.cells, .bool true]) (ret_val2 (p := 2) (q := 3) rfl rfl Q2) rfl ⟨Z, rfl, hZ.stays hZo (fun b hb => setRow_other _ _ _ _ (by omega)) (by rw [size_setRow]; omega), hZo.mono fun b hb => by omega, HZs.out, below_setRow g1 (by omega) _⟩
end Go.Proofs.YtpcbhneaaibfiaaDoor
