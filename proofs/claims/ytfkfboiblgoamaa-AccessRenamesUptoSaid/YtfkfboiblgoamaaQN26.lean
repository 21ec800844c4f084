/- Laid together for one claim: VtArn. -/
import Derived.Test.YtfkfboiblgoamaaQN24
import Derived.Test.YtfkfboiblgoamaaQN25
/- access.Rename, walked. -/
namespace Go.Proofs.Ytfkfboiblgoamaa
open Go.RowKit
set_option linter.unusedSimpArgs false
set_option linter.unusedVariables false

set_option maxHeartbeats 4000000 in
set_option maxRecDepth 100000 in
theorem aren_bad {T : Vt} {p : Pth} {key : ByteArray} {top : Nat} {w : World} (hT : T.In w top) (hp : p.In w top) (ht : top ≤ w.heap.size) (hk : key.size ≤ 1048576) (h : pathB p.S p.n = false) :
    Calls Try.prog 21 #[.agg T.h.cells, .slice p.a p.n p.c, .string key] w (ResOut (.z, 1) top w) := by
  have hb0 := (((Below.refl w.heap.size w).alloc (Nat.le_refl _) (.cells T.h.cells 30)).alloc (by simp) (.cells #[.string key] 9)).alloc (by simp; omega) (.cells Vh.zero.cells 30)
  have P := ((Whole.new w 30 T.h.cells).alloc (.cells #[.string key] 9)).alloc (.cells Vh.zero.cells 30)
  have KB := (Boxed.new (w.alloc (.cells T.h.cells 30)) 9 (.string key)).alloc (.cells Vh.zero.cells 30)
  rw [World.size_alloc] at KB
  have Q := Whole.new ((w.alloc (.cells T.h.cells 30)).alloc (.cells #[.string key] 9)) 30 Vh.zero.cells
  rw [World.size_alloc, World.size_alloc] at Q
  have HV := Lib.hid (fun (w1 : World) (hb : Below w.heap.size w w1) => pvalid_any (Pth.In.below hp (hb.mono ht)) (Nat.le_trans ht hb.size))
  have HK := Lib.hid (fun (w1 : World) => pvalid_any (stp_row1 (w := w1) (s := stK key) ⟨hk, by show w64 (0 : Int); exact ⟨by decide, by decide⟩⟩) (Nat.le_refl _))
  have HE : Hid (∀ w', Below w.heap.size w w' → ResOut ((.z, 1) : Vt × Int) top w (.returned (.tuple #[.agg Vh.zero.cells, .int .i64 1])) w') := Lib.hid fun w' hb => res_of (X := .z) rfl (Vt.z_in _ _) (Vt.z_off _) (fun q => absurd q (by decide)) (fun _ => rfl) hb
  rw [h] at HV
  clear h
  clear hT hp HK
  simp only [Vh.cells, Vh.zero] at hb0 P Q KB ⊢
  go_enter Try.func21, Try.ntmps21
  go_wp2_with fail
  refine (HV.out _ hb0).mono ?_; rintro _ w1 ⟨rfl, hb1⟩
  have g1 := below_then hb0 hb1
  have P1 := P.below hb1 P.lt
  have Q1 := Q.below hb1 Q.lt
  have KB1 : Boxed w1 (w.heap.size + 1) 9 (.string key) := (hb1.block _ KB.lt).trans KB
  clear P Q KB hb0 hb1
  have hone := Lib.hid (vh_all Vh.zero)
  go_wp2_with (refine wpList_store_row rfl 30 _ _ rfl (w.heap.size + 2) Vh.zero.cells rfl rfl 30 _ Q1 vh_row rfl hone.out ?_)
  exact bodyPost_ret (v := .tuple #[.agg Vh.zero.cells, .int .i64 1]) (ret_val2 (p := 6) (q := 7) rfl rfl (Whole.setRow Q1 Vh.zero.cells)) rfl (HE.out _ (below_setRow g1 (by omega) _))

set_option maxHeartbeats 4000000 in
set_option maxRecDepth 100000 in
theorem aren_nil {T : Vt} {p : Pth} {key : ByteArray} {top : Nat} {w : World} (hT : T.In w top) (hp : p.In w top) (ht : top ≤ w.heap.size) (hk : key.size ≤ 1048576) (h : pathB p.S p.n = true) (h0 : p.n = 0) :
    Calls Try.prog 21 #[.agg T.h.cells, .slice p.a p.n p.c, .string key] w (ResOut (.z, 1) top w) := by
  have hb0 := (((Below.refl w.heap.size w).alloc (Nat.le_refl _) (.cells T.h.cells 30)).alloc (by simp) (.cells #[.string key] 9)).alloc (by simp; omega) (.cells Vh.zero.cells 30)
  have P := ((Whole.new w 30 T.h.cells).alloc (.cells #[.string key] 9)).alloc (.cells Vh.zero.cells 30)
  have KB := (Boxed.new (w.alloc (.cells T.h.cells 30)) 9 (.string key)).alloc (.cells Vh.zero.cells 30)
  rw [World.size_alloc] at KB
  have Q := Whole.new ((w.alloc (.cells T.h.cells 30)).alloc (.cells #[.string key] 9)) 30 Vh.zero.cells
  rw [World.size_alloc, World.size_alloc] at Q
  have HV := Lib.hid (fun (w1 : World) (hb : Below w.heap.size w w1) => pvalid_any (Pth.In.below hp (hb.mono ht)) (Nat.le_trans ht hb.size))
  have HK := Lib.hid (fun (w1 : World) => pvalid_any (stp_row1 (w := w1) (s := stK key) ⟨hk, by show w64 (0 : Int); exact ⟨by decide, by decide⟩⟩) (Nat.le_refl _))
  have HE : Hid (∀ w', Below w.heap.size w w' → ResOut ((.z, 1) : Vt × Int) top w (.returned (.tuple #[.agg Vh.zero.cells, .int .i64 1])) w') := Lib.hid fun w' hb => res_of (X := .z) rfl (Vt.z_in _ _) (Vt.z_off _) (fun q => absurd q (by decide)) (fun _ => rfl) hb
  rw [h, h0] at HV
  rw [h0]
  clear h h0
  clear hT hp HK
  simp only [Vh.cells, Vh.zero] at hb0 P Q KB ⊢
  go_enter Try.func21, Try.ntmps21
  go_wp2_with fail
  refine (HV.out _ hb0).mono ?_; rintro _ w1 ⟨rfl, hb1⟩
  have g1 := below_then hb0 hb1
  have P1 := P.below hb1 P.lt
  have Q1 := Q.below hb1 Q.lt
  have KB1 : Boxed w1 (w.heap.size + 1) 9 (.string key) := (hb1.block _ KB.lt).trans KB
  clear P Q KB hb0 hb1
  have hone := Lib.hid (vh_all Vh.zero)
  go_wp2_with (refine wpList_store_row rfl 30 _ _ rfl (w.heap.size + 2) Vh.zero.cells rfl rfl 30 _ Q1 vh_row rfl hone.out ?_)
  exact bodyPost_ret (v := .tuple #[.agg Vh.zero.cells, .int .i64 1]) (ret_val2 (p := 6) (q := 7) rfl rfl (Whole.setRow Q1 Vh.zero.cells)) rfl (HE.out _ (below_setRow g1 (by omega) _))

set_option maxHeartbeats 4000000 in
set_option maxRecDepth 100000 in
theorem aren_ix {T : Vt} {p : Pth} {key : ByteArray} {top : Nat} {w : World} (hT : T.In w top) (hp : p.In w top) (ht : top ≤ w.heap.size) (hk : key.size ≤ 1048576) (h : pathB p.S p.n = true) {m : Nat} (h0 : p.n = m + 1) (hix : (p.S m).ix = true) :
    Calls Try.prog 21 #[.agg T.h.cells, .slice p.a p.n p.c, .string key] w (ResOut (.z, 1) top w) := by
  have hb0 := (((Below.refl w.heap.size w).alloc (Nat.le_refl _) (.cells T.h.cells 30)).alloc (by simp) (.cells #[.string key] 9)).alloc (by simp; omega) (.cells Vh.zero.cells 30)
  have P := ((Whole.new w 30 T.h.cells).alloc (.cells #[.string key] 9)).alloc (.cells Vh.zero.cells 30)
  have KB := (Boxed.new (w.alloc (.cells T.h.cells 30)) 9 (.string key)).alloc (.cells Vh.zero.cells 30)
  rw [World.size_alloc] at KB
  have Q := Whole.new ((w.alloc (.cells T.h.cells 30)).alloc (.cells #[.string key] 9)) 30 Vh.zero.cells
  rw [World.size_alloc, World.size_alloc] at Q
  have HV := Lib.hid (fun (w1 : World) (hb : Below w.heap.size w w1) => pvalid_any (Pth.In.below hp (hb.mono ht)) (Nat.le_trans ht hb.size))
  have HK := Lib.hid (fun (w1 : World) => pvalid_any (stp_row1 (w := w1) (s := stK key) ⟨hk, by show w64 (0 : Int); exact ⟨by decide, by decide⟩⟩) (Nat.le_refl _))
  have HE : Hid (∀ w', Below w.heap.size w w' → ResOut ((.z, 1) : Vt × Int) top w (.returned (.tuple #[.agg Vh.zero.cells, .int .i64 1])) w') := Lib.hid fun w' hb => res_of (X := .z) rfl (Vt.z_in _ _) (Vt.z_off _) (fun q => absurd q (by decide)) (fun _ => rfl) hb
  have hlen : m + 1 ≤ 48 := by have := (pathB_ok h).1; omega
  obtain ⟨a, n, c, b, o, S⟩ := p
  dsimp only at h0 h hix HV ⊢
  subst h0
  obtain ⟨e, hbt⟩ := hp.1 (Nat.succ_pos _)
  dsimp only at e hbt
  subst e
  have hcap : m + 1 ≤ c := hp.2.1.2.1
  have HP := Lib.hid (fun (w1 : World) (hb : Below w.heap.size w w1) => ((hp.2.2 m (Nat.lt_succ_self m)).1.below (hb.mono ht) hbt : LiesAt w1 b (o + m * 3) (S m).cells))
  rw [h] at HV
  have Hix := Lib.hid hix
  clear hT hp h HK hix
  have n1 : ((m : Int) + 1 == 0) = false := beq_eq_false_iff_ne.2 (by omega)
  have n2 : (((m + 1 : Nat) : Int) == 0) = false := beq_eq_false_iff_ne.2 (by omega)
  have n3 : (m + 1 == 0) = false := beq_eq_false_iff_ne.2 (by omega)
  have m1 : (0 : Int) ≤ m := by omega
  have m2 : (m : Int) ≤ 47 := by omega
  have m3 : (m : Int) < ((m + 1 : Nat) : Int) := by omega
  have m4 : (m : Int) < (m : Int) + 1 := by omega
  have m5 : (m : Int) ≤ (c : Int) := by omega
  have hwr : IntKind.i64.wrap (m : Int) = (m : Int) := by rw [IntKind.wrap_i64]; omega
  simp only [Vh.cells, Vh.zero] at hb0 P Q KB ⊢
  go_enter Try.func21, Try.ntmps21
  go_wp2_with fail
  refine (HV.out _ hb0).mono ?_; rintro _ w1 ⟨rfl, hb1⟩
  have g1 := below_then hb0 hb1
  have P1 := P.below hb1 P.lt
  have Q1 := Q.below hb1 Q.lt
  have KB1 : Boxed w1 (w.heap.size + 1) 9 (.string key) := (hb1.block _ KB.lt).trans KB
  clear P Q KB hb0 hb1
  obtain ⟨l0, l1, l2⟩ := (HP.out _ g1).s3
  rw [Hix.out] at l0
  clear Hix
  have hone := Lib.hid (vh_all Vh.zero)
  go_wp2_with (refine wpList_store_row rfl 30 _ _ rfl (w.heap.size + 2) Vh.zero.cells rfl rfl 30 _ Q1 vh_row rfl hone.out ?_)
  exact bodyPost_ret (v := .tuple #[.agg Vh.zero.cells, .int .i64 1]) (ret_val2 (p := 6) (q := 7) rfl rfl (Whole.setRow Q1 Vh.zero.cells)) rfl (HE.out _ (below_setRow g1 (by omega) _))

set_option maxHeartbeats 4000000 in
set_option maxRecDepth 100000 in
theorem aren_key {T : Vt} {p : Pth} {key : ByteArray} {top : Nat} {w : World} (hT : T.In w top) (hp : p.In w top) (ht : top ≤ w.heap.size) (hk : key.size ≤ 1048576) (h : pathB p.S p.n = true) {m : Nat} (h0 : p.n = m + 1) (hix : (p.S m).ix = false) (hkb : pathB (fun _ => stK key) 1 = false) :
    Calls Try.prog 21 #[.agg T.h.cells, .slice p.a p.n p.c, .string key] w (ResOut (.z, 1) top w) := by
  have hb0 := (((Below.refl w.heap.size w).alloc (Nat.le_refl _) (.cells T.h.cells 30)).alloc (by simp) (.cells #[.string key] 9)).alloc (by simp; omega) (.cells Vh.zero.cells 30)
  have P := ((Whole.new w 30 T.h.cells).alloc (.cells #[.string key] 9)).alloc (.cells Vh.zero.cells 30)
  have KB := (Boxed.new (w.alloc (.cells T.h.cells 30)) 9 (.string key)).alloc (.cells Vh.zero.cells 30)
  rw [World.size_alloc] at KB
  have Q := Whole.new ((w.alloc (.cells T.h.cells 30)).alloc (.cells #[.string key] 9)) 30 Vh.zero.cells
  rw [World.size_alloc, World.size_alloc] at Q
  have HV := Lib.hid (fun (w1 : World) (hb : Below w.heap.size w w1) => pvalid_any (Pth.In.below hp (hb.mono ht)) (Nat.le_trans ht hb.size))
  have HK := Lib.hid (fun (w1 : World) => pvalid_any (stp_row1 (w := w1) (s := stK key) ⟨hk, by show w64 (0 : Int); exact ⟨by decide, by decide⟩⟩) (Nat.le_refl _))
  have HE : Hid (∀ w', Below w.heap.size w w' → ResOut ((.z, 1) : Vt × Int) top w (.returned (.tuple #[.agg Vh.zero.cells, .int .i64 1])) w') := Lib.hid fun w' hb => res_of (X := .z) rfl (Vt.z_in _ _) (Vt.z_off _) (fun q => absurd q (by decide)) (fun _ => rfl) hb
  have hlen : m + 1 ≤ 48 := by have := (pathB_ok h).1; omega
  obtain ⟨a, n, c, b, o, S⟩ := p
  dsimp only at h0 h hix HV ⊢
  subst h0
  obtain ⟨e, hbt⟩ := hp.1 (Nat.succ_pos _)
  dsimp only at e hbt
  subst e
  have hcap : m + 1 ≤ c := hp.2.1.2.1
  have HP := Lib.hid (fun (w1 : World) (hb : Below w.heap.size w w1) => ((hp.2.2 m (Nat.lt_succ_self m)).1.below (hb.mono ht) hbt : LiesAt w1 b (o + m * 3) (S m).cells))
  rw [h] at HV
  dsimp only at HK
  rw [hkb] at HK
  have Hix := Lib.hid hix
  clear hT hp h hix hkb
  simp only [stK, Stp.cells] at HK
  have n1 : ((m : Int) + 1 == 0) = false := beq_eq_false_iff_ne.2 (by omega)
  have n2 : (((m + 1 : Nat) : Int) == 0) = false := beq_eq_false_iff_ne.2 (by omega)
  have n3 : (m + 1 == 0) = false := beq_eq_false_iff_ne.2 (by omega)
  have m1 : (0 : Int) ≤ m := by omega
  have m2 : (m : Int) ≤ 47 := by omega
  have m3 : (m : Int) < ((m + 1 : Nat) : Int) := by omega
  have m4 : (m : Int) < (m : Int) + 1 := by omega
  have m5 : (m : Int) ≤ (c : Int) := by omega
  have hwr : IntKind.i64.wrap (m : Int) = (m : Int) := by rw [IntKind.wrap_i64]; omega
  simp only [Vh.cells, Vh.zero] at hb0 P Q KB ⊢
  go_enter Try.func21, Try.ntmps21
  go_wp2_with fail
  refine (HV.out _ hb0).mono ?_; rintro _ w1 ⟨rfl, hb1⟩
  have g1 := below_then hb0 hb1
  have P1 := P.below hb1 P.lt
  have Q1 := Q.below hb1 Q.lt
  have KB1 : Boxed w1 (w.heap.size + 1) 9 (.string key) := (hb1.block _ KB.lt).trans KB
  clear P Q KB hb0 hb1
  obtain ⟨l0, l1, l2⟩ := (HP.out _ g1).s3
  rw [Hix.out] at l0
  have kc := KB1.cell
  go_wp2_with fail
  have gK := g1.alloc g1.size (.cells #[.bool false, .string key, .int .i64 0] 59)
  refine (HK.out w1).mono ?_; rintro _ wk ⟨rfl, hbk⟩
  have hA1 := (Below.refl w1.heap.size w1).alloc (Nat.le_refl _) (.cells #[.bool false, .string key, .int .i64 0] 59)
  have hbk1 := below_then hA1 hbk
  have g1' := below_then g1 hbk1
  have P1' := Whole.below P1 hbk1 P1.lt
  have Q1' := Whole.below Q1 hbk1 Q1.lt
  have KB1' : Boxed wk (w.heap.size + 1) 9 (.string key) := (hbk1.block _ KB1.lt).trans KB1
  clear l0 l1 l2 kc gK hA1 hbk hbk1 g1 P1 Q1 KB1
  have hone := Lib.hid (vh_all Vh.zero)
  go_wp2_with (refine wpList_store_row rfl 30 _ _ rfl (w.heap.size + 2) Vh.zero.cells rfl rfl 30 _ Q1' vh_row rfl hone.out ?_)
  exact bodyPost_ret (v := .tuple #[.agg Vh.zero.cells, .int .i64 1]) (ret_val2 (p := 6) (q := 7) rfl rfl (Whole.setRow Q1' Vh.zero.cells)) rfl (HE.out _ (below_setRow g1' (by omega) _))

set_option maxHeartbeats 4000000 in
set_option maxRecDepth 100000 in
theorem aren_at {T : Vt} {p : Pth} {key : ByteArray} {top : Nat} {w : World} (hT : T.In w top) (hp : p.In w top) (ht : top ≤ w.heap.size) (hk : key.size ≤ 1048576) (h : pathB p.S p.n = true) {m : Nat} (h0 : p.n = m + 1) (hix : (p.S m).ix = false) (hkb : pathB (fun _ => stK key) 1 = true) (h2 : (T.atN p.S (m + 1)).2 ≠ 0) :
    Calls Try.prog 21 #[.agg T.h.cells, .slice p.a p.n p.c, .string key] w (ResOut (.z, (T.atN p.S (m + 1)).2) top w) := by
  have hb0 := (((Below.refl w.heap.size w).alloc (Nat.le_refl _) (.cells T.h.cells 30)).alloc (by simp) (.cells #[.string key] 9)).alloc (by simp; omega) (.cells Vh.zero.cells 30)
  have P := ((Whole.new w 30 T.h.cells).alloc (.cells #[.string key] 9)).alloc (.cells Vh.zero.cells 30)
  have KB := (Boxed.new (w.alloc (.cells T.h.cells 30)) 9 (.string key)).alloc (.cells Vh.zero.cells 30)
  rw [World.size_alloc] at KB
  have Q := Whole.new ((w.alloc (.cells T.h.cells 30)).alloc (.cells #[.string key] 9)) 30 Vh.zero.cells
  rw [World.size_alloc, World.size_alloc] at Q
  have HV := Lib.hid (fun (w1 : World) (hb : Below w.heap.size w w1) => pvalid_any (Pth.In.below hp (hb.mono ht)) (Nat.le_trans ht hb.size))
  have HK := Lib.hid (fun (w1 : World) => pvalid_any (stp_row1 (w := w1) (s := stK key) ⟨hk, by show w64 (0 : Int); exact ⟨by decide, by decide⟩⟩) (Nat.le_refl _))
  have HAt := Lib.hid (fun (w1 : World) (hb : Below w.heap.size w w1) => at_any (Vt.In.below (hb.mono ht) hT) (Pth.In.below hp (hb.mono ht)) (Nat.le_trans ht hb.size))
  have HE : Hid (∀ w', Below w.heap.size w w' → ResOut ((.z, (T.atN p.S (m + 1)).2) : Vt × Int) top w (.returned (.tuple #[.agg Vh.zero.cells, .int .i64 (T.atN p.S (m + 1)).2])) w') := Lib.hid fun w' hb => res_of (X := .z) rfl (Vt.z_in _ _) (Vt.z_off _) (fun q => absurd q h2) (fun _ => rfl) hb
  have e2 : T.get p.S p.n = (.nil, (T.atN p.S (m + 1)).2) := by rw [h0]; unfold Vt.get; rw [if_neg h2]
  rw [e2] at HAt
  have z1 : ((T.atN p.S (m + 1)).2 == 0) = false := beq_eq_false_iff_ne.2 h2
  have z2 : ((T.atN p.S (m + 1)).2 != 0) = true := bne_iff_ne.2 h2
  clear h2 e2
  generalize (T.atN p.S (m + 1)).2 = E at *
  have hlen : m + 1 ≤ 48 := by have := (pathB_ok h).1; omega
  obtain ⟨a, n, c, b, o, S⟩ := p
  dsimp only at h0 h hix HAt HV ⊢
  subst h0
  obtain ⟨e, hbt⟩ := hp.1 (Nat.succ_pos _)
  dsimp only at e hbt
  subst e
  have hcap : m + 1 ≤ c := hp.2.1.2.1
  have HP := Lib.hid (fun (w1 : World) (hb : Below w.heap.size w w1) => ((hp.2.2 m (Nat.lt_succ_self m)).1.below (hb.mono ht) hbt : LiesAt w1 b (o + m * 3) (S m).cells))
  rw [h] at HV
  dsimp only at HK
  rw [hkb] at HK
  have Hix := Lib.hid hix
  rw [show (Vt.nil).h = Vh.zero from rfl] at HAt
  clear hT hp h hix hkb
  simp only [stK, Stp.cells] at HK
  have n1 : ((m : Int) + 1 == 0) = false := beq_eq_false_iff_ne.2 (by omega)
  have n2 : (((m + 1 : Nat) : Int) == 0) = false := beq_eq_false_iff_ne.2 (by omega)
  have n3 : (m + 1 == 0) = false := beq_eq_false_iff_ne.2 (by omega)
  have m1 : (0 : Int) ≤ m := by omega
  have m2 : (m : Int) ≤ 47 := by omega
  have m3 : (m : Int) < ((m + 1 : Nat) : Int) := by omega
  have m4 : (m : Int) < (m : Int) + 1 := by omega
  have m5 : (m : Int) ≤ (c : Int) := by omega
  have hwr : IntKind.i64.wrap (m : Int) = (m : Int) := by rw [IntKind.wrap_i64]; omega
  simp only [Vh.cells, Vh.zero] at hb0 P Q KB HAt ⊢
  go_enter Try.func21, Try.ntmps21
  go_wp2_with fail
  refine (HV.out _ hb0).mono ?_; rintro _ w1 ⟨rfl, hb1⟩
  have g1 := below_then hb0 hb1
  have P1 := P.below hb1 P.lt
  have Q1 := Q.below hb1 Q.lt
  have KB1 : Boxed w1 (w.heap.size + 1) 9 (.string key) := (hb1.block _ KB.lt).trans KB
  clear P Q KB hb0 hb1
  obtain ⟨l0, l1, l2⟩ := (HP.out _ g1).s3
  rw [Hix.out] at l0
  have kc := KB1.cell
  go_wp2_with fail
  have gK := g1.alloc g1.size (.cells #[.bool false, .string key, .int .i64 0] 59)
  refine (HK.out w1).mono ?_; rintro _ wk ⟨rfl, hbk⟩
  have hA1 := (Below.refl w1.heap.size w1).alloc (Nat.le_refl _) (.cells #[.bool false, .string key, .int .i64 0] 59)
  have hbk1 := below_then hA1 hbk
  have g1' := below_then g1 hbk1
  have P1' := Whole.below P1 hbk1 P1.lt
  have Q1' := Whole.below Q1 hbk1 Q1.lt
  have KB1' : Boxed wk (w.heap.size + 1) 9 (.string key) := (hbk1.block _ KB1.lt).trans KB1
  clear l0 l1 l2 kc gK hA1 hbk hbk1 g1 P1 Q1 KB1
  obtain ⟨c0, c1, c2, c3, c4, c5, c6, c7, c8, c9, c10, c11, c12⟩ := Whole.c13 (h := T.h) P1'
  go_wp2_with fail
  refine (HAt.out _ g1').mono ?_; rintro _ w2 ⟨rfl, hb2⟩
  have g2 := below_then g1' hb2
  have hq1 := Q1'.lt
  have Q2 := Whole.below Q1' hb2 hq1
  have hs2 := hb2.size
  have gA := g2.alloc g2.size (.cells Vh.zero.cells 30)
  have QA := Q2.alloc (.cells Vh.zero.cells 30)
  clear c0 c1 c2 c3 c4 c5 c6 c7 c8 c9 c10 c11 c12 P1' Q1' g1' hb2 g2 Q2
  simp only [Vh.cells, Vh.zero] at gA QA
  have hone := Lib.hid (vh_all Vh.zero)
  go_wp2_with (refine wpList_store_row rfl 30 _ _ rfl (w.heap.size + 2) Vh.zero.cells rfl rfl 30 _ QA vh_row rfl hone.out ?_)
  exact bodyPost_ret (v := .tuple #[.agg Vh.zero.cells, .int .i64 E]) (ret_val2 (p := 6) (q := 7) rfl rfl (Whole.setRow QA Vh.zero.cells)) rfl (HE.out _ (below_setRow gA (by omega) _))

set_option maxHeartbeats 4000000 in
set_option maxRecDepth 100000 in
theorem aren_dup {T : Vt} {p : Pth} {key : ByteArray} {top : Nat} {w : World} (hT : T.In w top) (hp : p.In w top) (ht : top ≤ w.heap.size) (hk : key.size ≤ 1048576) (h : pathB p.S p.n = true) {m : Nat} (h0 : p.n = m + 1) (hix : (p.S m).ix = false) (hkb : pathB (fun _ => stK key) 1 = true) (h2 : (T.atN p.S (m + 1)).2 = 0) (hdup : key ≠ (p.S m).key ∧ fidx (T.atN p.S m).1.K key (T.atN p.S m).1.h.fn < (T.atN p.S m).1.h.fn) :
    Calls Try.prog 21 #[.agg T.h.cells, .slice p.a p.n p.c, .string key] w (ResOut (.z, 8) top w) := by
  have hb0 := (((Below.refl w.heap.size w).alloc (Nat.le_refl _) (.cells T.h.cells 30)).alloc (by simp) (.cells #[.string key] 9)).alloc (by simp; omega) (.cells Vh.zero.cells 30)
  have P := ((Whole.new w 30 T.h.cells).alloc (.cells #[.string key] 9)).alloc (.cells Vh.zero.cells 30)
  have KB := (Boxed.new (w.alloc (.cells T.h.cells 30)) 9 (.string key)).alloc (.cells Vh.zero.cells 30)
  rw [World.size_alloc] at KB
  have Q := Whole.new ((w.alloc (.cells T.h.cells 30)).alloc (.cells #[.string key] 9)) 30 Vh.zero.cells
  rw [World.size_alloc, World.size_alloc] at Q
  have HV := Lib.hid (fun (w1 : World) (hb : Below w.heap.size w w1) => pvalid_any (Pth.In.below hp (hb.mono ht)) (Nat.le_trans ht hb.size))
  have HK := Lib.hid (fun (w1 : World) => pvalid_any (stp_row1 (w := w1) (s := stK key) ⟨hk, by show w64 (0 : Int); exact ⟨by decide, by decide⟩⟩) (Nat.le_refl _))
  have HAt := Lib.hid (fun (w1 : World) (hb : Below w.heap.size w w1) => at_any (Vt.In.below (hb.mono ht) hT) (Pth.In.below hp (hb.mono ht)) (Nat.le_trans ht hb.size))
  have HE : Hid (∀ w', Below w.heap.size w w' → ResOut ((.z, 8) : Vt × Int) top w (.returned (.tuple #[.agg Vh.zero.cells, .int .i64 8])) w') := Lib.hid fun w' hb => res_of (X := .z) rfl (Vt.z_in _ _) (Vt.z_off _) (fun q => absurd q (by decide)) (fun _ => rfl) hb
  have hlen : m + 1 ≤ 48 := by have := (pathB_ok h).1; omega
  have h2m : (T.atN p.S m).2 = 0 := Vt.atN_le h2 (Nat.le_succ m)
  obtain ⟨U, hU⟩ : ∃ U, T.get p.S p.n = (U, 0) := ⟨(T.atN p.S (m + 1)).1, by rw [h0]; unfold Vt.get; rw [if_pos h2]; exact Prod.ext rfl h2⟩
  rw [hU] at HAt
  obtain ⟨a, n, c, b, o, S⟩ := p
  dsimp only at h0 h hix h2 h2m HAt HV hdup ⊢
  subst h0
  obtain ⟨e, hbt⟩ := hp.1 (Nat.succ_pos _)
  dsimp only at e hbt
  subst e
  have hcap : m + 1 ≤ c := hp.2.1.2.1
  have HP := Lib.hid (fun (w1 : World) (hb : Below w.heap.size w w1) => ((hp.2.2 m (Nat.lt_succ_self m)).1.below (hb.mono ht) hbt : LiesAt w1 b (o + m * 3) (S m).cells))
  have hsn : w64 (S m).n := (hp.2.2 m (Nat.lt_succ_self m)).2.n
  have hgm : T.get S m = ((T.atN S m).1, 0) := by unfold Vt.get; rw [if_pos h2m]; exact Prod.ext rfl h2m
  have hpm : ∀ w1, Below w.heap.size w w1 → Pth.In w1 top ⟨some ⟨b, o, none⟩, m, c, b, o, S⟩ := fun w1 hb => ⟨fun _ => ⟨rfl, hbt⟩, ⟨Nat.le_of_succ_le hp.2.1.1, Nat.le_of_succ_le hcap, hp.2.1.2.2⟩, fun i hi => (Pth.In.below hp (hb.mono ht)).2.2 i (Nat.lt_succ_of_lt hi)⟩
  have HAm := Lib.hid (fun (w1 : World) (hb : Below w.heap.size w w1) => at_any (p := ⟨some ⟨b, o, none⟩, m, c, b, o, S⟩) (Vt.In.below (hb.mono ht) hT) (hpm w1 hb) (Nat.le_trans ht hb.size))
  rw [hgm] at HAm
  have hMin : ∀ w1, Below w.heap.size w w1 → (T.atN S m).1.In w1 top := fun w1 hb => Vt.In.atN (Vt.In.below (hb.mono ht) hT) S m
  have HIx := Lib.hid (fun (w1 : World) (hb : Below w.heap.size w w1) => index_any (T := (T.atN S m).1) (key := key) (hMin w1 hb) (Nat.le_trans ht hb.size))
  obtain ⟨M, hM⟩ : ∃ M, (T.atN S m).1 = M := ⟨_, rfl⟩
  rw [hM] at HAm HIx hdup
  have HIr := HIx
  have hIv : idxZ M.K key M.h.fn = ((fidx M.K key M.h.fn : Nat) : Int) := by unfold idxZ; rw [if_pos hdup.2]
  rw [hIv] at HIx
  have hge : ¬ ((fidx M.K key M.h.fn : Nat) : Int) < 0 := by omega
  have hge2 : (0 : Int) ≤ ((fidx M.K key M.h.fn : Nat) : Int) := by omega
  generalize fidx M.K key M.h.fn = FI at *
  have kne : (key.toList == (S m).key.toList) = false := by
    refine beq_eq_false_iff_ne.2 fun q => hdup.1 ?_
    rw [Lib.toList_data, Lib.toList_data] at q
    exact ByteArray.ext (Array.toList_inj.1 q)
  have hsl := slice_head Try.underlying37 elem_path stp_size (b := b) (o := o) (n := m + 1) (c := c) (i := m) (Nat.le_of_succ_le hcap) (by omega)
  rw [h] at HV
  dsimp only at HK
  rw [hkb] at HK
  have Hix := Lib.hid hix
  clear HIr hIv hM hT hp h hix hkb h2 h2m hU hgm hpm hMin hdup
  simp only [stK, Stp.cells] at HK
  have n1 : ((m : Int) + 1 == 0) = false := beq_eq_false_iff_ne.2 (by omega)
  have n2 : (((m + 1 : Nat) : Int) == 0) = false := beq_eq_false_iff_ne.2 (by omega)
  have n3 : (m + 1 == 0) = false := beq_eq_false_iff_ne.2 (by omega)
  have m1 : (0 : Int) ≤ m := by omega
  have m2 : (m : Int) ≤ 47 := by omega
  have m3 : (m : Int) < ((m + 1 : Nat) : Int) := by omega
  have m4 : (m : Int) < (m : Int) + 1 := by omega
  have m5 : (m : Int) ≤ (c : Int) := by omega
  have hwr : IntKind.i64.wrap (m : Int) = (m : Int) := by rw [IntKind.wrap_i64]; omega
  simp only [Vh.cells, Vh.zero] at hb0 P Q KB HAt HAm HIx ⊢
  go_enter Try.func21, Try.ntmps21
  go_wp2_with fail
  refine (HV.out _ hb0).mono ?_; rintro _ w1 ⟨rfl, hb1⟩
  have g1 := below_then hb0 hb1
  have P1 := P.below hb1 P.lt
  have Q1 := Q.below hb1 Q.lt
  have KB1 : Boxed w1 (w.heap.size + 1) 9 (.string key) := (hb1.block _ KB.lt).trans KB
  clear P Q KB hb0 hb1
  obtain ⟨l0, l1, l2⟩ := (HP.out _ g1).s3
  rw [Hix.out] at l0
  have kc := KB1.cell
  go_wp2_with fail
  have gK := g1.alloc g1.size (.cells #[.bool false, .string key, .int .i64 0] 59)
  refine (HK.out w1).mono ?_; rintro _ wk ⟨rfl, hbk⟩
  have hA1 := (Below.refl w1.heap.size w1).alloc (Nat.le_refl _) (.cells #[.bool false, .string key, .int .i64 0] 59)
  have hbk1 := below_then hA1 hbk
  have g1' := below_then g1 hbk1
  have P1' := Whole.below P1 hbk1 P1.lt
  have Q1' := Whole.below Q1 hbk1 Q1.lt
  have KB1' : Boxed wk (w.heap.size + 1) 9 (.string key) := (hbk1.block _ KB1.lt).trans KB1
  clear l0 l1 l2 kc gK hA1 hbk hbk1 g1 P1 Q1 KB1
  obtain ⟨c0, c1, c2, c3, c4, c5, c6, c7, c8, c9, c10, c11, c12⟩ := Whole.c13 (h := T.h) P1'
  go_wp2_with fail
  refine (HAt.out _ g1').mono ?_; rintro _ w2 ⟨rfl, hb2⟩
  have g2 := below_then g1' hb2
  have hq1 := Q1'.lt
  have Q2 := Whole.below Q1' hb2 hq1
  have P2 := Whole.below P1' hb2 P1'.lt
  have KB2 : Boxed w2 (w.heap.size + 1) 9 (.string key) := (hb2.block _ KB1'.lt).trans KB1'
  have hs2 := hb2.size
  have gA := g2.alloc g2.size (.cells U.h.cells 30)
  have QA := Q2.alloc (.cells U.h.cells 30)
  have PA := P2.alloc (.cells U.h.cells 30)
  have KA := KB2.alloc (.cells U.h.cells 30)
  clear c0 c1 c2 c3 c4 c5 c6 c7 c8 c9 c10 c11 c12 P1' Q1' KB1' g1' hb2 g2 Q2 P2 KB2
  simp only [Vh.cells, Vh.zero] at gA QA PA KA
  go_wp2_with fail
  generalize w2.alloc (.cells #[.int .i64 U.h.k, .bool U.h.b, .bool U.h.n, .string U.h.d, .int .i64 U.h.e, .int .i64 U.h.tk, .int .i64 U.h.td, .int .i64 U.h.tn, .int .i64 U.h.tz, .string U.h.x, .slice U.h.ba U.h.bn U.h.bc, .slice U.h.la U.h.ln U.h.lc, .slice U.h.fa U.h.fn U.h.fc] 30) = w3 at *
  refine wp_region_held_drew (S := fun W => Whole W w.heap.size 30 T.h.cells ∧ LiesAt W b (o + m * 3) (S m).cells ∧ Below w.heap.size w W) (by kernel_rfl) ⟨Whole.drew PA, HP.out _ (Below.drew gA), Below.drew gA⟩ (fun hS => ?_)
  refine wpAnyH_take (i := 0) (v := ?v0x1) rfl (by kernel_rfl) (by kernel_rfl) (by kernel_rfl) (fun _ _ _ h => h) (Or.inl ⟨by rfl, ?hy0x1⟩) hS ?rest0x1
  case hy0x1 => (intro wS hSw; go_simp; (try with_reducible rfl))
  case rest0x1 =>
  simp only [Act.put, List.getElem_toArray, List.getElem_cons_zero, List.getElem_cons_succ, List.setIfInBounds_toArray, List.set_cons_zero, List.set_cons_succ]
  refine wpAnyH_take (i := 1) (v := ?v1x2) rfl (by kernel_rfl) (by kernel_rfl) (by kernel_rfl) (fun _ _ _ h => h) (Or.inl ⟨by rfl, ?hy1x2⟩) hS ?rest1x2
  case hy1x2 => (intro wS hSw; go_simp; (try with_reducible rfl))
  case rest1x2 =>
  simp only [Act.put, List.getElem_toArray, List.getElem_cons_zero, List.getElem_cons_succ, List.setIfInBounds_toArray, List.set_cons_zero, List.set_cons_succ]
  refine wpAnyH_take (i := 2) (v := ?v2x3) rfl (by kernel_rfl) (by kernel_rfl) (by kernel_rfl) (fun _ _ _ h => h) (Or.inl ⟨by rfl, ?hy2x3⟩) hS ?rest2x3
  case hy2x3 => (intro wS hSw; go_simp; (try with_reducible rfl))
  case rest2x3 =>
  simp only [Act.put, List.getElem_toArray, List.getElem_cons_zero, List.getElem_cons_succ, List.setIfInBounds_toArray, List.set_cons_zero, List.set_cons_succ]
  refine wpAnyH_take (i := 3) (v := ?v3x4) rfl (by kernel_rfl) (by kernel_rfl) (by kernel_rfl) (fun _ _ _ h => h) (Or.inl ⟨by rfl, ?hy3x4⟩) hS ?rest3x4
  case hy3x4 => (intro wS hSw; go_simp; (try with_reducible rfl))
  case rest3x4 =>
  simp only [Act.put, List.getElem_toArray, List.getElem_cons_zero, List.getElem_cons_succ, List.setIfInBounds_toArray, List.set_cons_zero, List.set_cons_succ]
  refine wpAnyH_take (i := 4) (v := ?v4x5) rfl (by kernel_rfl) (by kernel_rfl) (by kernel_rfl) (fun _ _ _ h => h) (Or.inl ⟨by rfl, ?hy4x5⟩) hS ?rest4x5
  case hy4x5 => (intro wS hSw; go_simp; (try with_reducible rfl))
  case rest4x5 =>
  simp only [Act.put, List.getElem_toArray, List.getElem_cons_zero, List.getElem_cons_succ, List.setIfInBounds_toArray, List.set_cons_zero, List.set_cons_succ]
  refine wpAnyH_take (i := 5) (v := ?v5x6) rfl (by kernel_rfl) (by kernel_rfl) (by kernel_rfl) (fun _ _ _ h => h) (Or.inl ⟨by rfl, ?hy5x6⟩) hS ?rest5x6
  case hy5x6 => (intro wS hSw; go_simp; (try with_reducible rfl))
  case rest5x6 =>
  simp only [Act.put, List.getElem_toArray, List.getElem_cons_zero, List.getElem_cons_succ, List.setIfInBounds_toArray, List.set_cons_zero, List.set_cons_succ]
  refine wpAnyH_take (i := 6) (v := ?v6x7) rfl (by kernel_rfl) (by kernel_rfl) (by kernel_rfl) (fun _ _ _ h => h) (Or.inl ⟨by rfl, ?hy6x7⟩) hS ?rest6x7
  case hy6x7 => (intro wS hSw; go_simp; (try with_reducible rfl))
  case rest6x7 =>
  simp only [Act.put, List.getElem_toArray, List.getElem_cons_zero, List.getElem_cons_succ, List.setIfInBounds_toArray, List.set_cons_zero, List.set_cons_succ]
  refine wpAnyH_take (i := 7) (v := ?v7x8) rfl (by kernel_rfl) (by kernel_rfl) (by kernel_rfl) (fun _ _ _ h => h) (Or.inl ⟨by rfl, ?hy7x8⟩) hS ?rest7x8
  case hy7x8 => (intro wS hSw; go_simp; (try with_reducible rfl))
  case rest7x8 =>
  simp only [Act.put, List.getElem_toArray, List.getElem_cons_zero, List.getElem_cons_succ, List.setIfInBounds_toArray, List.set_cons_zero, List.set_cons_succ]
  refine wpAnyH_take (i := 8) (v := ?v8x9) rfl (by kernel_rfl) (by kernel_rfl) (by kernel_rfl) (fun _ _ _ h => h) (Or.inl ⟨by rfl, ?hy8x9⟩) hS ?rest8x9
  case hy8x9 => (intro wS hSw; go_simp; (try with_reducible rfl))
  case rest8x9 =>
  simp only [Act.put, List.getElem_toArray, List.getElem_cons_zero, List.getElem_cons_succ, List.setIfInBounds_toArray, List.set_cons_zero, List.set_cons_succ]
  refine wpAnyH_take (i := 9) (v := ?v9x10) rfl (by kernel_rfl) (by kernel_rfl) (by kernel_rfl) (fun _ _ _ h => h) (Or.inl ⟨by rfl, ?hy9x10⟩) hS ?rest9x10
  case hy9x10 => (intro wS hSw; go_simp; (try with_reducible rfl))
  case rest9x10 =>
  simp only [Act.put, List.getElem_toArray, List.getElem_cons_zero, List.getElem_cons_succ, List.setIfInBounds_toArray, List.set_cons_zero, List.set_cons_succ]
  refine wpAnyH_take (i := 10) (v := ?v10x11) rfl (by kernel_rfl) (by kernel_rfl) (by kernel_rfl) (fun _ _ _ h => h) (Or.inl ⟨by rfl, ?hy10x11⟩) hS ?rest10x11
  case hy10x11 => (intro wS hSw; obtain ⟨-, Pz, -⟩ := hSw; obtain ⟨s0, s1, s2⟩ := Pz.s3; go_simp; (try with_reducible rfl))
  case rest10x11 =>
  simp only [Act.put, List.getElem_toArray, List.getElem_cons_zero, List.getElem_cons_succ, List.setIfInBounds_toArray, List.set_cons_zero, List.set_cons_succ]
  have g3 := Below.drew gA
  have Q3 := Whole.drew QA
  have P3 := Whole.drew PA
  have K3 : Boxed w3.drew (w.heap.size + 1) 9 (.string key) := KA
  clear gA QA PA KA hsl
  generalize w3.drew = w4 at *
  have hq3 := Q3.lt
  refine wpAnyH_ready (rs := [11]) (by kernel_rfl) (by simp) ?_
  refine AllReadyH.cons rfl (fun KK hK => ?_) AllReadyH.nil
  go_simp
  have q1 := (Below.refl w4.heap.size w4).alloc (Nat.le_refl _) (.cells #[.bool false, .string ⟨#[]⟩, .int .i64 0] 59)
  have Y4 := Whole.new w4 59 #[.bool false, .string ⟨#[]⟩, .int .i64 0]
  have g4 := below_then g3 q1
  have Q4 := Whole.below Q3 q1 Q3.lt
  have P4 := Whole.below P3 q1 P3.lt
  have K4 : Boxed _ (w.heap.size + 1) 9 (.string key) := (q1.block _ K3.lt).trans K3
  clear q1
  refine hK.out _ _ ⟨P4, HP.out _ g4, g4⟩ (fun hS4 => ?_)
  clear hK KK
  try simp only [Act.put, List.getElem_toArray, List.getElem_cons_zero, List.getElem_cons_succ, List.setIfInBounds_toArray, List.set_cons_zero, List.set_cons_succ]
  refine wpAnyH_ready (rs := [12]) (by kernel_rfl) (by simp) ?_
  refine AllReadyH.cons rfl (fun KK hK => ?_) AllReadyH.nil
  go_simp
  refine hK.out _ _ hS4 (fun hS5 => ?_)
  clear hK KK
  try simp only [Act.put, List.getElem_toArray, List.getElem_cons_zero, List.getElem_cons_succ, List.setIfInBounds_toArray, List.set_cons_zero, List.set_cons_succ]
  refine wpAnyH_ready (rs := [13]) (by kernel_rfl) (by simp) ?_
  refine AllReadyH.cons rfl (fun KK hK => ?_) AllReadyH.nil
  rw [if_pos (by rfl)]
  refine wp_store_row 59 _ _ rfl (w4.heap.size) #[.bool (S m).ix, .string (S m).key, .int .i64 (S m).n] rfl rfl 59 _ Y4 stp_size rfl (by simp [Value.oneCell']) ?_
  have g5 := below_setRow g4 (show w.heap.size ≤ w4.heap.size from g3.size) #[.bool (S m).ix, .string (S m).key, .int .i64 (S m).n]
  have Y5 : Whole _ w4.heap.size 59 (S m).cells := Whole.setRow Y4 #[.bool (S m).ix, .string (S m).key, .int .i64 (S m).n]
  have P5 := Whole.farRow (B' := w4.heap.size) P4 (by omega) #[.bool (S m).ix, .string (S m).key, .int .i64 (S m).n]
  have Q5 := Whole.farRow (B' := w4.heap.size) Q4 (by omega) #[.bool (S m).ix, .string (S m).key, .int .i64 (S m).n]
  have K5 : Boxed ((w4.alloc (.cells #[.bool false, .string ⟨#[]⟩, .int .i64 0] 59)).setRow w4.heap.size #[.bool (S m).ix, .string (S m).key, .int .i64 (S m).n]) (w.heap.size + 1) 9 (.string key) := (setRow_other _ _ _ _ (by omega)).trans K4
  obtain ⟨w5, hw5⟩ : ∃ w5, (w4.alloc (.cells #[.bool false, .string ⟨#[]⟩, .int .i64 0] 59)).setRow w4.heap.size #[.bool (S m).ix, .string (S m).key, .int .i64 (S m).n] = w5 := ⟨_, rfl⟩
  rw [hw5] at g5 Y5 P5 Q5 K5 ⊢
  clear hw5
  refine hK.out _ _ ⟨P5, HP.out _ g5, g5⟩ (fun hS6 => ?_)
  clear hK KK
  try simp only [Act.put, List.getElem_toArray, List.getElem_cons_zero, List.getElem_cons_succ, List.setIfInBounds_toArray, List.set_cons_zero, List.set_cons_succ]
  refine wpAnyH_done (by kernel_rfl) ?_ _
  clear hS hS4 hS5 hS6 g3 g4 P3 P4 Q3 Q4 K3 K4 Y4
  obtain ⟨c0, c1, c2, c3, c4, c5, c6, c7, c8, c9, c10, c11, c12⟩ := Whole.c13 (h := T.h) P5
  have hy5 := Y5.lt
  have hq5 := Q5.lt
  go_wp2_with fail
  refine (HAm.out _ g5).mono ?_; rintro _ w6 ⟨rfl, hb6⟩
  have g6 := below_then g5 hb6
  have Q6 := Whole.below Q5 hb6 hq5
  have P6 := Whole.below P5 hb6 P5.lt
  have Y6 := Whole.below Y5 hb6 hy5
  have K6 : Boxed w6 (w.heap.size + 1) 9 (.string key) := (hb6.block _ K5.lt).trans K5
  have hs6 := hb6.size
  clear c0 c1 c2 c3 c4 c5 c6 c7 c8 c9 c10 c11 c12 g5 Q5 P5 Y5 K5 hb6
  have gA := g6.alloc g6.size (.cells M.h.cells 30)
  have QA := Q6.alloc (.cells M.h.cells 30)
  have PA := P6.alloc (.cells M.h.cells 30)
  have YA := Y6.alloc (.cells M.h.cells 30)
  have KA := K6.alloc (.cells M.h.cells 30)
  have MA := Whole.new w6 30 M.h.cells
  have hzA : (w6.alloc (.cells M.h.cells 30)).heap.size = w6.heap.size + 1 := by simp
  clear g6 Q6 P6 Y6 K6
  have hyA := YA.lt
  have hqA := QA.lt
  have hkA := KA.lt
  have kc := KA.cell
  have yk : World.cell? _ ⟨w4.heap.size, 1, none⟩ = some (.string (S m).key) := YA.cell 1
  obtain ⟨c0, c1, c2, c3, c4, c5, c6, c7, c8, c9, c10, c11, c12⟩ := Whole.c13 (h := M.h) MA
  simp only [Vh.cells] at gA QA PA YA KA MA c0 c1 c2 c3 c4 c5 c6 c7 c8 c9 c10 c11 c12 kc yk hzA
  go_wp2_with fail
  refine (HIx.out _ gA).mono ?_; rintro _ w7 ⟨rfl, hb7⟩
  have g7 := below_then gA hb7
  have Q7 := Whole.below QA hb7 hqA
  clear c0 c1 c2 c3 c4 c5 c6 c7 c8 c9 c10 c11 c12 kc yk gA QA PA YA KA MA hb7
  have hone := Lib.hid (vh_all Vh.zero)
  go_wp2_with (refine wpList_store_row rfl 30 _ _ rfl (w.heap.size + 2) Vh.zero.cells rfl rfl 30 _ Q7 vh_row rfl hone.out ?_)
  exact bodyPost_ret (v := .tuple #[.agg Vh.zero.cells, .int .i64 8]) (ret_val2 (p := 6) (q := 7) rfl rfl (Whole.setRow Q7 Vh.zero.cells)) rfl (HE.out _ (below_setRow g7 (by omega) _))

set_option maxHeartbeats 4000000 in
set_option maxRecDepth 100000 in
theorem aren_new {T : Vt} {p : Pth} {key : ByteArray} {top : Nat} {w : World} (hT : T.In w top) (hp : p.In w top) (ht : top ≤ w.heap.size) (hk : key.size ≤ 1048576) (hu : T.upto 48) (h : pathB p.S p.n = true) {m : Nat} (h0 : p.n = m + 1) (hix : (p.S m).ix = false) (hkb : pathB (fun _ => stK key) 1 = true) (h2 : (T.atN p.S (m + 1)).2 = 0) (hdup : key ≠ (p.S m).key ∧ ¬ fidx (T.atN p.S m).1.K key (T.atN p.S m).1.h.fn < (T.atN p.S m).1.h.fn) :
    Calls Try.prog 21 #[.agg T.h.cells, .slice p.a p.n p.c, .string key] w (ResOut (Vt.chg (fun U => U.ren (p.S m) key) m p.S T, 0) top w) := by
  have hb0 := (((Below.refl w.heap.size w).alloc (Nat.le_refl _) (.cells T.h.cells 30)).alloc (by simp) (.cells #[.string key] 9)).alloc (by simp; omega) (.cells Vh.zero.cells 30)
  have P := ((Whole.new w 30 T.h.cells).alloc (.cells #[.string key] 9)).alloc (.cells Vh.zero.cells 30)
  have KB := (Boxed.new (w.alloc (.cells T.h.cells 30)) 9 (.string key)).alloc (.cells Vh.zero.cells 30)
  rw [World.size_alloc] at KB
  have Q := Whole.new ((w.alloc (.cells T.h.cells 30)).alloc (.cells #[.string key] 9)) 30 Vh.zero.cells
  rw [World.size_alloc, World.size_alloc] at Q
  have HV := Lib.hid (fun (w1 : World) (hb : Below w.heap.size w w1) => pvalid_any (Pth.In.below hp (hb.mono ht)) (Nat.le_trans ht hb.size))
  have HK := Lib.hid (fun (w1 : World) => pvalid_any (stp_row1 (w := w1) (s := stK key) ⟨hk, by show w64 (0 : Int); exact ⟨by decide, by decide⟩⟩) (Nat.le_refl _))
  have HAt := Lib.hid (fun (w1 : World) (hb : Below w.heap.size w w1) => at_any (Vt.In.below (hb.mono ht) hT) (Pth.In.below hp (hb.mono ht)) (Nat.le_trans ht hb.size))
  have hlen : m + 1 ≤ 48 := by have := (pathB_ok h).1; omega
  have h2m : (T.atN p.S m).2 = 0 := Vt.atN_le h2 (Nat.le_succ m)
  obtain ⟨U, hU⟩ : ∃ U, T.get p.S p.n = (U, 0) := ⟨(T.atN p.S (m + 1)).1, by rw [h0]; unfold Vt.get; rw [if_pos h2]; exact Prod.ext rfl h2⟩
  rw [hU] at HAt
  obtain ⟨a, n, c, b, o, S⟩ := p
  dsimp only at h0 h hix h2 h2m HAt HV hdup ⊢
  subst h0
  obtain ⟨e, hbt⟩ := hp.1 (Nat.succ_pos _)
  dsimp only at e hbt
  subst e
  have hcap : m + 1 ≤ c := hp.2.1.2.1
  have HP := Lib.hid (fun (w1 : World) (hb : Below w.heap.size w w1) => ((hp.2.2 m (Nat.lt_succ_self m)).1.below (hb.mono ht) hbt : LiesAt w1 b (o + m * 3) (S m).cells))
  have hsn : w64 (S m).n := (hp.2.2 m (Nat.lt_succ_self m)).2.n
  have hgm : T.get S m = ((T.atN S m).1, 0) := by unfold Vt.get; rw [if_pos h2m]; exact Prod.ext rfl h2m
  have hpm : ∀ w1, Below w.heap.size w w1 → Pth.In w1 top ⟨some ⟨b, o, none⟩, m, c, b, o, S⟩ := fun w1 hb => ⟨fun _ => ⟨rfl, hbt⟩, ⟨Nat.le_of_succ_le hp.2.1.1, Nat.le_of_succ_le hcap, hp.2.1.2.2⟩, fun i hi => (Pth.In.below hp (hb.mono ht)).2.2 i (Nat.lt_succ_of_lt hi)⟩
  have HAm := Lib.hid (fun (w1 : World) (hb : Below w.heap.size w w1) => at_any (p := ⟨some ⟨b, o, none⟩, m, c, b, o, S⟩) (Vt.In.below (hb.mono ht) hT) (hpm w1 hb) (Nat.le_trans ht hb.size))
  rw [hgm] at HAm
  have hMin : ∀ w1, Below w.heap.size w w1 → (T.atN S m).1.In w1 top := fun w1 hb => Vt.In.atN (Vt.In.below (hb.mono ht) hT) S m
  have HIx := Lib.hid (fun (w1 : World) (hb : Below w.heap.size w w1) => index_any (T := (T.atN S m).1) (key := key) (hMin w1 hb) (Nat.le_trans ht hb.size))
  have HC := Lib.hid (fun (w5 : World) (cb kb : Nat) (hb : Below w.heap.size w w5) (hcb : cb < w5.heap.size) (hkb : kb < w5.heap.size) (hS : LiesAt w5 cb 0 (S m).cells) (hK : w5.cell? ⟨kb, 0, none⟩ = some (.string key)) =>
    VtChgRn.any (rn_ok hcb hkb hsn hS hK hk (Nat.le_refl _) hix) (Nat.le_refl _) m ⟨some ⟨b, o, none⟩, m, c, b, o, S⟩ T w5 rfl (Below.refl _ _) ((Vt.In.below (hb.mono ht) hT).up (Nat.le_trans ht hb.size)) (Pth.In.up (hpm w5 hb) (Nat.le_trans ht hb.size)) (Vt.atN_le h2 (Nat.le_succ m)) (Vt.atN_find h2 (Nat.lt_succ_self m)))
  have HCo := Lib.hid (fun (Z : Vt) (w1 : World) (hZ : Z.In w1 w1.heap.size) (hs : Z.Same (Vt.chg (fun U => U.ren (S m) key) m S T)) => copy_any hZ (Nat.le_refl _) (Vt.upto_le (Vt.upto_same hs (Vt.upto_chg (fun _ _ q => Vt.upto_ren q) (Vt.atN_le h2 (Nat.le_succ m)) hu)) (by decide)))
  obtain ⟨V, hV⟩ : ∃ V, Vt.chg (fun U => U.ren (S m) key) m S T = V := ⟨_, rfl⟩
  rw [hV] at HC HCo ⊢
  have HE : Hid (∀ (Z : Vt) w', Z.In w' w'.heap.size → Z.Off (w.heap.size ≤ ·) → Z.Same V → Below w.heap.size w w' → ResOut (V, 0) top w (.returned (.tuple #[.agg Z.h.cells, .int .i64 0])) w') := Lib.hid fun Z w' h1 h3 h4 hb => res_of (X := Z) rfl h1 (h3.mono fun _ q => .inr q) (fun _ => h4) (fun q => absurd rfl q) hb
  obtain ⟨M, hM⟩ : ∃ M, (T.atN S m).1 = M := ⟨_, rfl⟩
  rw [hM] at HAm HIx hdup
  have hIv : idxZ M.K key M.h.fn = -1 := by unfold idxZ; rw [if_neg hdup.2]
  rw [hIv] at HIx
  clear hIv
  have kne : (key.toList == (S m).key.toList) = false := by
    refine beq_eq_false_iff_ne.2 fun q => hdup.1 ?_
    rw [Lib.toList_data, Lib.toList_data] at q
    exact ByteArray.ext (Array.toList_inj.1 q)
  have hsl := slice_head Try.underlying37 elem_path stp_size (b := b) (o := o) (n := m + 1) (c := c) (i := m) (Nat.le_of_succ_le hcap) (by omega)
  rw [h] at HV
  dsimp only at HK
  rw [hkb] at HK
  have Hix := Lib.hid hix
  clear hM hV hT hp h hix hkb h2 h2m hU hgm hpm hMin hdup hu hsn
  simp only [stK, Stp.cells] at HK
  have n1 : ((m : Int) + 1 == 0) = false := beq_eq_false_iff_ne.2 (by omega)
  have n2 : (((m + 1 : Nat) : Int) == 0) = false := beq_eq_false_iff_ne.2 (by omega)
  have n3 : (m + 1 == 0) = false := beq_eq_false_iff_ne.2 (by omega)
  have m1 : (0 : Int) ≤ m := by omega
  have m2 : (m : Int) ≤ 47 := by omega
  have m3 : (m : Int) < ((m + 1 : Nat) : Int) := by omega
  have m4 : (m : Int) < (m : Int) + 1 := by omega
  have m5 : (m : Int) ≤ (c : Int) := by omega
  have hwr : IntKind.i64.wrap (m : Int) = (m : Int) := by rw [IntKind.wrap_i64]; omega
  simp only [Vh.cells, Vh.zero] at hb0 P Q KB HAt HAm HIx HC ⊢
  go_enter Try.func21, Try.ntmps21
  go_wp2_with fail
  refine (HV.out _ hb0).mono ?_; rintro _ w1 ⟨rfl, hb1⟩
  have g1 := below_then hb0 hb1
  have P1 := P.below hb1 P.lt
  have Q1 := Q.below hb1 Q.lt
  have KB1 : Boxed w1 (w.heap.size + 1) 9 (.string key) := (hb1.block _ KB.lt).trans KB
  clear P Q KB hb0 hb1
  obtain ⟨l0, l1, l2⟩ := (HP.out _ g1).s3
  rw [Hix.out] at l0
  have kc := KB1.cell
  go_wp2_with fail
  have gK := g1.alloc g1.size (.cells #[.bool false, .string key, .int .i64 0] 59)
  refine (HK.out w1).mono ?_; rintro _ wk ⟨rfl, hbk⟩
  have hA1 := (Below.refl w1.heap.size w1).alloc (Nat.le_refl _) (.cells #[.bool false, .string key, .int .i64 0] 59)
  have hbk1 := below_then hA1 hbk
  have g1' := below_then g1 hbk1
  have P1' := Whole.below P1 hbk1 P1.lt
  have Q1' := Whole.below Q1 hbk1 Q1.lt
  have KB1' : Boxed wk (w.heap.size + 1) 9 (.string key) := (hbk1.block _ KB1.lt).trans KB1
  clear l0 l1 l2 kc gK hA1 hbk hbk1 g1 P1 Q1 KB1
  obtain ⟨c0, c1, c2, c3, c4, c5, c6, c7, c8, c9, c10, c11, c12⟩ := Whole.c13 (h := T.h) P1'
  go_wp2_with fail
  refine (HAt.out _ g1').mono ?_; rintro _ w2 ⟨rfl, hb2⟩
  have g2 := below_then g1' hb2
  have hq1 := Q1'.lt
  have Q2 := Whole.below Q1' hb2 hq1
  have P2 := Whole.below P1' hb2 P1'.lt
  have KB2 : Boxed w2 (w.heap.size + 1) 9 (.string key) := (hb2.block _ KB1'.lt).trans KB1'
  have hs2 := hb2.size
  have gA := g2.alloc g2.size (.cells U.h.cells 30)
  have QA := Q2.alloc (.cells U.h.cells 30)
  have PA := P2.alloc (.cells U.h.cells 30)
  have KA := KB2.alloc (.cells U.h.cells 30)
  clear c0 c1 c2 c3 c4 c5 c6 c7 c8 c9 c10 c11 c12 P1' Q1' KB1' g1' hb2 g2 Q2 P2 KB2
  simp only [Vh.cells, Vh.zero] at gA QA PA KA
  go_wp2_with fail
  generalize w2.alloc (.cells #[.int .i64 U.h.k, .bool U.h.b, .bool U.h.n, .string U.h.d, .int .i64 U.h.e, .int .i64 U.h.tk, .int .i64 U.h.td, .int .i64 U.h.tn, .int .i64 U.h.tz, .string U.h.x, .slice U.h.ba U.h.bn U.h.bc, .slice U.h.la U.h.ln U.h.lc, .slice U.h.fa U.h.fn U.h.fc] 30) = w3 at *
  refine wp_region_held_drew (S := fun W => Whole W w.heap.size 30 T.h.cells ∧ LiesAt W b (o + m * 3) (S m).cells ∧ Below w.heap.size w W) (by kernel_rfl) ⟨Whole.drew PA, HP.out _ (Below.drew gA), Below.drew gA⟩ (fun hS => ?_)
  refine wpAnyH_take (i := 0) (v := ?v0x12) rfl (by kernel_rfl) (by kernel_rfl) (by kernel_rfl) (fun _ _ _ h => h) (Or.inl ⟨by rfl, ?hy0x12⟩) hS ?rest0x12
  case hy0x12 => (intro wS hSw; go_simp; (try with_reducible rfl))
  case rest0x12 =>
  simp only [Act.put, List.getElem_toArray, List.getElem_cons_zero, List.getElem_cons_succ, List.setIfInBounds_toArray, List.set_cons_zero, List.set_cons_succ]
  refine wpAnyH_take (i := 1) (v := ?v1x13) rfl (by kernel_rfl) (by kernel_rfl) (by kernel_rfl) (fun _ _ _ h => h) (Or.inl ⟨by rfl, ?hy1x13⟩) hS ?rest1x13
  case hy1x13 => (intro wS hSw; go_simp; (try with_reducible rfl))
  case rest1x13 =>
  simp only [Act.put, List.getElem_toArray, List.getElem_cons_zero, List.getElem_cons_succ, List.setIfInBounds_toArray, List.set_cons_zero, List.set_cons_succ]
  refine wpAnyH_take (i := 2) (v := ?v2x14) rfl (by kernel_rfl) (by kernel_rfl) (by kernel_rfl) (fun _ _ _ h => h) (Or.inl ⟨by rfl, ?hy2x14⟩) hS ?rest2x14
  case hy2x14 => (intro wS hSw; go_simp; (try with_reducible rfl))
  case rest2x14 =>
  simp only [Act.put, List.getElem_toArray, List.getElem_cons_zero, List.getElem_cons_succ, List.setIfInBounds_toArray, List.set_cons_zero, List.set_cons_succ]
  refine wpAnyH_take (i := 3) (v := ?v3x15) rfl (by kernel_rfl) (by kernel_rfl) (by kernel_rfl) (fun _ _ _ h => h) (Or.inl ⟨by rfl, ?hy3x15⟩) hS ?rest3x15
  case hy3x15 => (intro wS hSw; go_simp; (try with_reducible rfl))
  case rest3x15 =>
  simp only [Act.put, List.getElem_toArray, List.getElem_cons_zero, List.getElem_cons_succ, List.setIfInBounds_toArray, List.set_cons_zero, List.set_cons_succ]
  refine wpAnyH_take (i := 4) (v := ?v4x16) rfl (by kernel_rfl) (by kernel_rfl) (by kernel_rfl) (fun _ _ _ h => h) (Or.inl ⟨by rfl, ?hy4x16⟩) hS ?rest4x16
  case hy4x16 => (intro wS hSw; go_simp; (try with_reducible rfl))
  case rest4x16 =>
  simp only [Act.put, List.getElem_toArray, List.getElem_cons_zero, List.getElem_cons_succ, List.setIfInBounds_toArray, List.set_cons_zero, List.set_cons_succ]
  refine wpAnyH_take (i := 5) (v := ?v5x17) rfl (by kernel_rfl) (by kernel_rfl) (by kernel_rfl) (fun _ _ _ h => h) (Or.inl ⟨by rfl, ?hy5x17⟩) hS ?rest5x17
  case hy5x17 => (intro wS hSw; go_simp; (try with_reducible rfl))
  case rest5x17 =>
  simp only [Act.put, List.getElem_toArray, List.getElem_cons_zero, List.getElem_cons_succ, List.setIfInBounds_toArray, List.set_cons_zero, List.set_cons_succ]
  refine wpAnyH_take (i := 6) (v := ?v6x18) rfl (by kernel_rfl) (by kernel_rfl) (by kernel_rfl) (fun _ _ _ h => h) (Or.inl ⟨by rfl, ?hy6x18⟩) hS ?rest6x18
  case hy6x18 => (intro wS hSw; go_simp; (try with_reducible rfl))
  case rest6x18 =>
  simp only [Act.put, List.getElem_toArray, List.getElem_cons_zero, List.getElem_cons_succ, List.setIfInBounds_toArray, List.set_cons_zero, List.set_cons_succ]
  refine wpAnyH_take (i := 7) (v := ?v7x19) rfl (by kernel_rfl) (by kernel_rfl) (by kernel_rfl) (fun _ _ _ h => h) (Or.inl ⟨by rfl, ?hy7x19⟩) hS ?rest7x19
  case hy7x19 => (intro wS hSw; go_simp; (try with_reducible rfl))
  case rest7x19 =>
  simp only [Act.put, List.getElem_toArray, List.getElem_cons_zero, List.getElem_cons_succ, List.setIfInBounds_toArray, List.set_cons_zero, List.set_cons_succ]
  refine wpAnyH_take (i := 8) (v := ?v8x20) rfl (by kernel_rfl) (by kernel_rfl) (by kernel_rfl) (fun _ _ _ h => h) (Or.inl ⟨by rfl, ?hy8x20⟩) hS ?rest8x20
  case hy8x20 => (intro wS hSw; go_simp; (try with_reducible rfl))
  case rest8x20 =>
  simp only [Act.put, List.getElem_toArray, List.getElem_cons_zero, List.getElem_cons_succ, List.setIfInBounds_toArray, List.set_cons_zero, List.set_cons_succ]
  refine wpAnyH_take (i := 9) (v := ?v9x21) rfl (by kernel_rfl) (by kernel_rfl) (by kernel_rfl) (fun _ _ _ h => h) (Or.inl ⟨by rfl, ?hy9x21⟩) hS ?rest9x21
  case hy9x21 => (intro wS hSw; go_simp; (try with_reducible rfl))
  case rest9x21 =>
  simp only [Act.put, List.getElem_toArray, List.getElem_cons_zero, List.getElem_cons_succ, List.setIfInBounds_toArray, List.set_cons_zero, List.set_cons_succ]
  refine wpAnyH_take (i := 10) (v := ?v10x22) rfl (by kernel_rfl) (by kernel_rfl) (by kernel_rfl) (fun _ _ _ h => h) (Or.inl ⟨by rfl, ?hy10x22⟩) hS ?rest10x22
  case hy10x22 => (intro wS hSw; obtain ⟨-, Pz, -⟩ := hSw; obtain ⟨s0, s1, s2⟩ := Pz.s3; go_simp; (try with_reducible rfl))
  case rest10x22 =>
  simp only [Act.put, List.getElem_toArray, List.getElem_cons_zero, List.getElem_cons_succ, List.setIfInBounds_toArray, List.set_cons_zero, List.set_cons_succ]
  have g3 := Below.drew gA
  have Q3 := Whole.drew QA
  have P3 := Whole.drew PA
  have K3 : Boxed w3.drew (w.heap.size + 1) 9 (.string key) := KA
  clear gA QA PA KA hsl
  generalize w3.drew = w4 at *
  have hq3 := Q3.lt
  refine wpAnyH_ready (rs := [11]) (by kernel_rfl) (by simp) ?_
  refine AllReadyH.cons rfl (fun KK hK => ?_) AllReadyH.nil
  go_simp
  have q1 := (Below.refl w4.heap.size w4).alloc (Nat.le_refl _) (.cells #[.bool false, .string ⟨#[]⟩, .int .i64 0] 59)
  have Y4 := Whole.new w4 59 #[.bool false, .string ⟨#[]⟩, .int .i64 0]
  have g4 := below_then g3 q1
  have Q4 := Whole.below Q3 q1 Q3.lt
  have P4 := Whole.below P3 q1 P3.lt
  have K4 : Boxed _ (w.heap.size + 1) 9 (.string key) := (q1.block _ K3.lt).trans K3
  clear q1
  refine hK.out _ _ ⟨P4, HP.out _ g4, g4⟩ (fun hS4 => ?_)
  clear hK KK
  try simp only [Act.put, List.getElem_toArray, List.getElem_cons_zero, List.getElem_cons_succ, List.setIfInBounds_toArray, List.set_cons_zero, List.set_cons_succ]
  refine wpAnyH_ready (rs := [12]) (by kernel_rfl) (by simp) ?_
  refine AllReadyH.cons rfl (fun KK hK => ?_) AllReadyH.nil
  go_simp
  refine hK.out _ _ hS4 (fun hS5 => ?_)
  clear hK KK
  try simp only [Act.put, List.getElem_toArray, List.getElem_cons_zero, List.getElem_cons_succ, List.setIfInBounds_toArray, List.set_cons_zero, List.set_cons_succ]
  refine wpAnyH_ready (rs := [13]) (by kernel_rfl) (by simp) ?_
  refine AllReadyH.cons rfl (fun KK hK => ?_) AllReadyH.nil
  rw [if_pos (by rfl)]
  refine wp_store_row 59 _ _ rfl (w4.heap.size) #[.bool (S m).ix, .string (S m).key, .int .i64 (S m).n] rfl rfl 59 _ Y4 stp_size rfl (by simp [Value.oneCell']) ?_
  have g5 := below_setRow g4 (show w.heap.size ≤ w4.heap.size from g3.size) #[.bool (S m).ix, .string (S m).key, .int .i64 (S m).n]
  have Y5 : Whole _ w4.heap.size 59 (S m).cells := Whole.setRow Y4 #[.bool (S m).ix, .string (S m).key, .int .i64 (S m).n]
  have P5 := Whole.farRow (B' := w4.heap.size) P4 (by omega) #[.bool (S m).ix, .string (S m).key, .int .i64 (S m).n]
  have Q5 := Whole.farRow (B' := w4.heap.size) Q4 (by omega) #[.bool (S m).ix, .string (S m).key, .int .i64 (S m).n]
  have K5 : Boxed ((w4.alloc (.cells #[.bool false, .string ⟨#[]⟩, .int .i64 0] 59)).setRow w4.heap.size #[.bool (S m).ix, .string (S m).key, .int .i64 (S m).n]) (w.heap.size + 1) 9 (.string key) := (setRow_other _ _ _ _ (by omega)).trans K4
  obtain ⟨w5, hw5⟩ : ∃ w5, (w4.alloc (.cells #[.bool false, .string ⟨#[]⟩, .int .i64 0] 59)).setRow w4.heap.size #[.bool (S m).ix, .string (S m).key, .int .i64 (S m).n] = w5 := ⟨_, rfl⟩
  rw [hw5] at g5 Y5 P5 Q5 K5 ⊢
  clear hw5
  refine hK.out _ _ ⟨P5, HP.out _ g5, g5⟩ (fun hS6 => ?_)
  clear hK KK
  try simp only [Act.put, List.getElem_toArray, List.getElem_cons_zero, List.getElem_cons_succ, List.setIfInBounds_toArray, List.set_cons_zero, List.set_cons_succ]
  refine wpAnyH_done (by kernel_rfl) ?_ _
  clear hS hS4 hS5 hS6 g3 g4 P3 P4 Q3 Q4 K3 K4 Y4
  obtain ⟨c0, c1, c2, c3, c4, c5, c6, c7, c8, c9, c10, c11, c12⟩ := Whole.c13 (h := T.h) P5
  have hy5 := Y5.lt
  have hq5 := Q5.lt
  go_wp2_with fail
  refine (HAm.out _ g5).mono ?_; rintro _ w6 ⟨rfl, hb6⟩
  have g6 := below_then g5 hb6
  have Q6 := Whole.below Q5 hb6 hq5
  have P6 := Whole.below P5 hb6 P5.lt
  have Y6 := Whole.below Y5 hb6 hy5
  have K6 : Boxed w6 (w.heap.size + 1) 9 (.string key) := (hb6.block _ K5.lt).trans K5
  have hs6 := hb6.size
  clear c0 c1 c2 c3 c4 c5 c6 c7 c8 c9 c10 c11 c12 g5 Q5 P5 Y5 K5 hb6
  have gA := g6.alloc g6.size (.cells M.h.cells 30)
  have QA := Q6.alloc (.cells M.h.cells 30)
  have PA := P6.alloc (.cells M.h.cells 30)
  have YA := Y6.alloc (.cells M.h.cells 30)
  have KA := K6.alloc (.cells M.h.cells 30)
  have MA := Whole.new w6 30 M.h.cells
  have hzA : (w6.alloc (.cells M.h.cells 30)).heap.size = w6.heap.size + 1 := by simp
  clear g6 Q6 P6 Y6 K6
  have hyA := YA.lt
  have hqA := QA.lt
  have hkA := KA.lt
  have kc := KA.cell
  have yk : World.cell? _ ⟨w4.heap.size, 1, none⟩ = some (.string (S m).key) := YA.cell 1
  obtain ⟨c0, c1, c2, c3, c4, c5, c6, c7, c8, c9, c10, c11, c12⟩ := Whole.c13 (h := M.h) MA
  simp only [Vh.cells] at gA QA PA YA KA MA c0 c1 c2 c3 c4 c5 c6 c7 c8 c9 c10 c11 c12 kc yk hzA
  go_wp2_with fail
  refine (HIx.out _ gA).mono ?_; rintro _ w7 ⟨rfl, hb7⟩
  have g7 := below_then gA hb7
  have Q7 := Whole.below QA hb7 hqA
  have P7 := Whole.below PA hb7 PA.lt
  have Y7 := Whole.below YA hb7 hyA
  have K7 : Boxed w7 (w.heap.size + 1) 9 (.string key) := (hb7.block _ hkA).trans KA
  clear c0 c1 c2 c3 c4 c5 c6 c7 c8 c9 c10 c11 c12 kc yk gA QA PA YA KA MA hb7 hzA
  obtain ⟨c0, c1, c2, c3, c4, c5, c6, c7, c8, c9, c10, c11, c12⟩ := Whole.c13 (h := T.h) P7
  have hy7 := Y7.lt
  have hq7 := Q7.lt
  have hk7 := K7.lt
  go_wp2_with fail
  refine (HC.out w7 w4.heap.size (w.heap.size + 1) g7 hy7 hk7 (fun j hj => by rw [Nat.zero_add]; exact Y7.cell j) K7.cell).mono ?_
  rintro _ w8 ⟨Z, rfl, hZ, -, hZs, hb8⟩
  have g8 := below_then g7 hb8
  have Q8 := Whole.below Q7 hb8 hq7
  have hs8 := hb8.size
  have gB := g8.alloc g8.size (.cells Z.h.cells 30)
  have QB := Q8.alloc (.cells Z.h.cells 30)
  have ZB := Whole.new w8 30 Z.h.cells
  have HZ := Lib.hid (hZ.later ((Below.refl _ w8).alloc (Nat.le_refl _) (.cells Z.h.cells 30)))
  have HZs := Lib.hid hZs
  clear hZ hZs hb8 g7 P7 Q7 Y7 K7 g8 Q8 hy7 c0 c1 c2 c3 c4 c5 c6 c7 c8 c9 c10 c11 c12
  simp only [Vh.cells] at gB QB ZB HZ HCo
  obtain ⟨c0, c1, c2, c3, c4, c5, c6, c7, c8, c9, c10, c11, c12⟩ := Whole.c13 (h := Z.h) ZB
  go_wp2_with fail
  refine (HCo.out Z _ HZ.out HZs.out).mono ?_
  rintro _ w9 ⟨X, rfl, hX, hXo, hXs, hb9⟩
  have g9 := below_then gB hb9
  have hqB := QB.lt
  have Q9 := Whole.below QB hb9 hqB
  have hzB := gB.size
  have hone := Lib.hid (vh_all X.h)
  have hX2 := Lib.hid (hX.stays hXo (W' := w9.setRow (w.heap.size + 2) X.h.cells) (fun b hb => setRow_other _ _ _ _ (by have h1 : _ ≤ b := hb; omega)) (by rw [size_setRow]; exact Nat.le_refl _))
  have hXo2 := Lib.hid (hXo.mono (S' := (w.heap.size ≤ ·)) fun b hb => Nat.le_trans hzB hb)
  have hXs2 := Lib.hid (hXs.trans HZs.out)
  clear hX hXo hXs hb9 gB QB ZB HZ HZs HCo c0 c1 c2 c3 c4 c5 c6 c7 c8 c9 c10 c11 c12
  go_wp2_with (refine wpList_store_row rfl 30 _ _ rfl (w.heap.size + 2) X.h.cells rfl rfl 30 _ Q9 vh_row rfl hone.out ?_)
  exact bodyPost_ret (v := .tuple #[.agg X.h.cells, .int .i64 0]) (ret_val2 (p := 6) (q := 7) rfl rfl (Whole.setRow Q9 X.h.cells)) rfl (HE.out X _ hX2.out hXo2.out hXs2.out (below_setRow g9 (by omega) _))

set_option maxHeartbeats 4000000 in
set_option maxRecDepth 100000 in
theorem aren_same {T : Vt} {p : Pth} {key : ByteArray} {top : Nat} {w : World} (hT : T.In w top) (hp : p.In w top) (ht : top ≤ w.heap.size) (hk : key.size ≤ 1048576) (hu : T.upto 48) (h : pathB p.S p.n = true) {m : Nat} (h0 : p.n = m + 1) (hix : (p.S m).ix = false) (hkb : pathB (fun _ => stK key) 1 = true) (h2 : (T.atN p.S (m + 1)).2 = 0) (hdup : key = (p.S m).key) :
    Calls Try.prog 21 #[.agg T.h.cells, .slice p.a p.n p.c, .string key] w (ResOut (Vt.chg (fun U => U.ren (p.S m) key) m p.S T, 0) top w) := by
  have hb0 := (((Below.refl w.heap.size w).alloc (Nat.le_refl _) (.cells T.h.cells 30)).alloc (by simp) (.cells #[.string key] 9)).alloc (by simp; omega) (.cells Vh.zero.cells 30)
  have P := ((Whole.new w 30 T.h.cells).alloc (.cells #[.string key] 9)).alloc (.cells Vh.zero.cells 30)
  have KB := (Boxed.new (w.alloc (.cells T.h.cells 30)) 9 (.string key)).alloc (.cells Vh.zero.cells 30)
  rw [World.size_alloc] at KB
  have Q := Whole.new ((w.alloc (.cells T.h.cells 30)).alloc (.cells #[.string key] 9)) 30 Vh.zero.cells
  rw [World.size_alloc, World.size_alloc] at Q
  have HV := Lib.hid (fun (w1 : World) (hb : Below w.heap.size w w1) => pvalid_any (Pth.In.below hp (hb.mono ht)) (Nat.le_trans ht hb.size))
  have HK := Lib.hid (fun (w1 : World) => pvalid_any (stp_row1 (w := w1) (s := stK key) ⟨hk, by show w64 (0 : Int); exact ⟨by decide, by decide⟩⟩) (Nat.le_refl _))
  have HAt := Lib.hid (fun (w1 : World) (hb : Below w.heap.size w w1) => at_any (Vt.In.below (hb.mono ht) hT) (Pth.In.below hp (hb.mono ht)) (Nat.le_trans ht hb.size))
  have hlen : m + 1 ≤ 48 := by have := (pathB_ok h).1; omega
  have h2m : (T.atN p.S m).2 = 0 := Vt.atN_le h2 (Nat.le_succ m)
  obtain ⟨U, hU⟩ : ∃ U, T.get p.S p.n = (U, 0) := ⟨(T.atN p.S (m + 1)).1, by rw [h0]; unfold Vt.get; rw [if_pos h2]; exact Prod.ext rfl h2⟩
  rw [hU] at HAt
  obtain ⟨a, n, c, b, o, S⟩ := p
  dsimp only at h0 h hix h2 h2m HAt HV hdup ⊢
  subst h0
  obtain ⟨e, hbt⟩ := hp.1 (Nat.succ_pos _)
  dsimp only at e hbt
  subst e
  have hcap : m + 1 ≤ c := hp.2.1.2.1
  have HP := Lib.hid (fun (w1 : World) (hb : Below w.heap.size w w1) => ((hp.2.2 m (Nat.lt_succ_self m)).1.below (hb.mono ht) hbt : LiesAt w1 b (o + m * 3) (S m).cells))
  have hsn : w64 (S m).n := (hp.2.2 m (Nat.lt_succ_self m)).2.n
  have hgm : T.get S m = ((T.atN S m).1, 0) := by unfold Vt.get; rw [if_pos h2m]; exact Prod.ext rfl h2m
  have hpm : ∀ w1, Below w.heap.size w w1 → Pth.In w1 top ⟨some ⟨b, o, none⟩, m, c, b, o, S⟩ := fun w1 hb => ⟨fun _ => ⟨rfl, hbt⟩, ⟨Nat.le_of_succ_le hp.2.1.1, Nat.le_of_succ_le hcap, hp.2.1.2.2⟩, fun i hi => (Pth.In.below hp (hb.mono ht)).2.2 i (Nat.lt_succ_of_lt hi)⟩
  have HAm := Lib.hid (fun (w1 : World) (hb : Below w.heap.size w w1) => at_any (p := ⟨some ⟨b, o, none⟩, m, c, b, o, S⟩) (Vt.In.below (hb.mono ht) hT) (hpm w1 hb) (Nat.le_trans ht hb.size))
  rw [hgm] at HAm
  have hMin : ∀ w1, Below w.heap.size w w1 → (T.atN S m).1.In w1 top := fun w1 hb => Vt.In.atN (Vt.In.below (hb.mono ht) hT) S m
  have HIx := Lib.hid (fun (w1 : World) (hb : Below w.heap.size w w1) => index_any (T := (T.atN S m).1) (key := key) (hMin w1 hb) (Nat.le_trans ht hb.size))
  have HC := Lib.hid (fun (w5 : World) (cb kb : Nat) (hb : Below w.heap.size w w5) (hcb : cb < w5.heap.size) (hkb : kb < w5.heap.size) (hS : LiesAt w5 cb 0 (S m).cells) (hK : w5.cell? ⟨kb, 0, none⟩ = some (.string key)) =>
    VtChgRn.any (rn_ok hcb hkb hsn hS hK hk (Nat.le_refl _) hix) (Nat.le_refl _) m ⟨some ⟨b, o, none⟩, m, c, b, o, S⟩ T w5 rfl (Below.refl _ _) ((Vt.In.below (hb.mono ht) hT).up (Nat.le_trans ht hb.size)) (Pth.In.up (hpm w5 hb) (Nat.le_trans ht hb.size)) (Vt.atN_le h2 (Nat.le_succ m)) (Vt.atN_find h2 (Nat.lt_succ_self m)))
  have HCo := Lib.hid (fun (Z : Vt) (w1 : World) (hZ : Z.In w1 w1.heap.size) (hs : Z.Same (Vt.chg (fun U => U.ren (S m) key) m S T)) => copy_any hZ (Nat.le_refl _) (Vt.upto_le (Vt.upto_same hs (Vt.upto_chg (fun _ _ q => Vt.upto_ren q) (Vt.atN_le h2 (Nat.le_succ m)) hu)) (by decide)))
  obtain ⟨V, hV⟩ : ∃ V, Vt.chg (fun U => U.ren (S m) key) m S T = V := ⟨_, rfl⟩
  rw [hV] at HC HCo ⊢
  have HE : Hid (∀ (Z : Vt) w', Z.In w' w'.heap.size → Z.Off (w.heap.size ≤ ·) → Z.Same V → Below w.heap.size w w' → ResOut (V, 0) top w (.returned (.tuple #[.agg Z.h.cells, .int .i64 0])) w') := Lib.hid fun Z w' h1 h3 h4 hb => res_of (X := Z) rfl h1 (h3.mono fun _ q => .inr q) (fun _ => h4) (fun q => absurd rfl q) hb
  obtain ⟨M, hM⟩ : ∃ M, (T.atN S m).1 = M := ⟨_, rfl⟩
  rw [hM] at HAm HIx
  have keq : (key.toList == (S m).key.toList) = true := beq_iff_eq.2 (by rw [hdup])
  have hsl := slice_head Try.underlying37 elem_path stp_size (b := b) (o := o) (n := m + 1) (c := c) (i := m) (Nat.le_of_succ_le hcap) (by omega)
  rw [h] at HV
  dsimp only at HK
  rw [hkb] at HK
  have Hix := Lib.hid hix
  clear hM hV hT hp h hix hkb h2 h2m hU hgm hpm hMin hdup hu hsn
  simp only [stK, Stp.cells] at HK
  have n1 : ((m : Int) + 1 == 0) = false := beq_eq_false_iff_ne.2 (by omega)
  have n2 : (((m + 1 : Nat) : Int) == 0) = false := beq_eq_false_iff_ne.2 (by omega)
  have n3 : (m + 1 == 0) = false := beq_eq_false_iff_ne.2 (by omega)
  have m1 : (0 : Int) ≤ m := by omega
  have m2 : (m : Int) ≤ 47 := by omega
  have m3 : (m : Int) < ((m + 1 : Nat) : Int) := by omega
  have m4 : (m : Int) < (m : Int) + 1 := by omega
  have m5 : (m : Int) ≤ (c : Int) := by omega
  have hwr : IntKind.i64.wrap (m : Int) = (m : Int) := by rw [IntKind.wrap_i64]; omega
  simp only [Vh.cells, Vh.zero] at hb0 P Q KB HAt HAm HIx HC ⊢
  go_enter Try.func21, Try.ntmps21
  go_wp2_with fail
  refine (HV.out _ hb0).mono ?_; rintro _ w1 ⟨rfl, hb1⟩
  have g1 := below_then hb0 hb1
  have P1 := P.below hb1 P.lt
  have Q1 := Q.below hb1 Q.lt
  have KB1 : Boxed w1 (w.heap.size + 1) 9 (.string key) := (hb1.block _ KB.lt).trans KB
  clear P Q KB hb0 hb1
  obtain ⟨l0, l1, l2⟩ := (HP.out _ g1).s3
  rw [Hix.out] at l0
  have kc := KB1.cell
  go_wp2_with fail
  have gK := g1.alloc g1.size (.cells #[.bool false, .string key, .int .i64 0] 59)
  refine (HK.out w1).mono ?_; rintro _ wk ⟨rfl, hbk⟩
  have hA1 := (Below.refl w1.heap.size w1).alloc (Nat.le_refl _) (.cells #[.bool false, .string key, .int .i64 0] 59)
  have hbk1 := below_then hA1 hbk
  have g1' := below_then g1 hbk1
  have P1' := Whole.below P1 hbk1 P1.lt
  have Q1' := Whole.below Q1 hbk1 Q1.lt
  have KB1' : Boxed wk (w.heap.size + 1) 9 (.string key) := (hbk1.block _ KB1.lt).trans KB1
  clear l0 l1 l2 kc gK hA1 hbk hbk1 g1 P1 Q1 KB1
  obtain ⟨c0, c1, c2, c3, c4, c5, c6, c7, c8, c9, c10, c11, c12⟩ := Whole.c13 (h := T.h) P1'
  go_wp2_with fail
  refine (HAt.out _ g1').mono ?_; rintro _ w2 ⟨rfl, hb2⟩
  have g2 := below_then g1' hb2
  have hq1 := Q1'.lt
  have Q2 := Whole.below Q1' hb2 hq1
  have P2 := Whole.below P1' hb2 P1'.lt
  have KB2 : Boxed w2 (w.heap.size + 1) 9 (.string key) := (hb2.block _ KB1'.lt).trans KB1'
  have hs2 := hb2.size
  have gA := g2.alloc g2.size (.cells U.h.cells 30)
  have QA := Q2.alloc (.cells U.h.cells 30)
  have PA := P2.alloc (.cells U.h.cells 30)
  have KA := KB2.alloc (.cells U.h.cells 30)
  clear c0 c1 c2 c3 c4 c5 c6 c7 c8 c9 c10 c11 c12 P1' Q1' KB1' g1' hb2 g2 Q2 P2 KB2
  simp only [Vh.cells, Vh.zero] at gA QA PA KA
  go_wp2_with fail
  generalize w2.alloc (.cells #[.int .i64 U.h.k, .bool U.h.b, .bool U.h.n, .string U.h.d, .int .i64 U.h.e, .int .i64 U.h.tk, .int .i64 U.h.td, .int .i64 U.h.tn, .int .i64 U.h.tz, .string U.h.x, .slice U.h.ba U.h.bn U.h.bc, .slice U.h.la U.h.ln U.h.lc, .slice U.h.fa U.h.fn U.h.fc] 30) = w3 at *
  refine wp_region_held_drew (S := fun W => Whole W w.heap.size 30 T.h.cells ∧ LiesAt W b (o + m * 3) (S m).cells ∧ Below w.heap.size w W) (by kernel_rfl) ⟨Whole.drew PA, HP.out _ (Below.drew gA), Below.drew gA⟩ (fun hS => ?_)
  refine wpAnyH_take (i := 0) (v := ?v0x12) rfl (by kernel_rfl) (by kernel_rfl) (by kernel_rfl) (fun _ _ _ h => h) (Or.inl ⟨by rfl, ?hy0x12⟩) hS ?rest0x12
  case hy0x12 => (intro wS hSw; go_simp; (try with_reducible rfl))
  case rest0x12 =>
  simp only [Act.put, List.getElem_toArray, List.getElem_cons_zero, List.getElem_cons_succ, List.setIfInBounds_toArray, List.set_cons_zero, List.set_cons_succ]
  refine wpAnyH_take (i := 1) (v := ?v1x13) rfl (by kernel_rfl) (by kernel_rfl) (by kernel_rfl) (fun _ _ _ h => h) (Or.inl ⟨by rfl, ?hy1x13⟩) hS ?rest1x13
  case hy1x13 => (intro wS hSw; go_simp; (try with_reducible rfl))
  case rest1x13 =>
  simp only [Act.put, List.getElem_toArray, List.getElem_cons_zero, List.getElem_cons_succ, List.setIfInBounds_toArray, List.set_cons_zero, List.set_cons_succ]
  refine wpAnyH_take (i := 2) (v := ?v2x14) rfl (by kernel_rfl) (by kernel_rfl) (by kernel_rfl) (fun _ _ _ h => h) (Or.inl ⟨by rfl, ?hy2x14⟩) hS ?rest2x14
  case hy2x14 => (intro wS hSw; go_simp; (try with_reducible rfl))
  case rest2x14 =>
  simp only [Act.put, List.getElem_toArray, List.getElem_cons_zero, List.getElem_cons_succ, List.setIfInBounds_toArray, List.set_cons_zero, List.set_cons_succ]
  refine wpAnyH_take (i := 3) (v := ?v3x15) rfl (by kernel_rfl) (by kernel_rfl) (by kernel_rfl) (fun _ _ _ h => h) (Or.inl ⟨by rfl, ?hy3x15⟩) hS ?rest3x15
  case hy3x15 => (intro wS hSw; go_simp; (try with_reducible rfl))
  case rest3x15 =>
  simp only [Act.put, List.getElem_toArray, List.getElem_cons_zero, List.getElem_cons_succ, List.setIfInBounds_toArray, List.set_cons_zero, List.set_cons_succ]
  refine wpAnyH_take (i := 4) (v := ?v4x16) rfl (by kernel_rfl) (by kernel_rfl) (by kernel_rfl) (fun _ _ _ h => h) (Or.inl ⟨by rfl, ?hy4x16⟩) hS ?rest4x16
  case hy4x16 => (intro wS hSw; go_simp; (try with_reducible rfl))
  case rest4x16 =>
  simp only [Act.put, List.getElem_toArray, List.getElem_cons_zero, List.getElem_cons_succ, List.setIfInBounds_toArray, List.set_cons_zero, List.set_cons_succ]
  refine wpAnyH_take (i := 5) (v := ?v5x17) rfl (by kernel_rfl) (by kernel_rfl) (by kernel_rfl) (fun _ _ _ h => h) (Or.inl ⟨by rfl, ?hy5x17⟩) hS ?rest5x17
  case hy5x17 => (intro wS hSw; go_simp; (try with_reducible rfl))
  case rest5x17 =>
  simp only [Act.put, List.getElem_toArray, List.getElem_cons_zero, List.getElem_cons_succ, List.setIfInBounds_toArray, List.set_cons_zero, List.set_cons_succ]
  refine wpAnyH_take (i := 6) (v := ?v6x18) rfl (by kernel_rfl) (by kernel_rfl) (by kernel_rfl) (fun _ _ _ h => h) (Or.inl ⟨by rfl, ?hy6x18⟩) hS ?rest6x18
  case hy6x18 => (intro wS hSw; go_simp; (try with_reducible rfl))
  case rest6x18 =>
  simp only [Act.put, List.getElem_toArray, List.getElem_cons_zero, List.getElem_cons_succ, List.setIfInBounds_toArray, List.set_cons_zero, List.set_cons_succ]
  refine wpAnyH_take (i := 7) (v := ?v7x19) rfl (by kernel_rfl) (by kernel_rfl) (by kernel_rfl) (fun _ _ _ h => h) (Or.inl ⟨by rfl, ?hy7x19⟩) hS ?rest7x19
  case hy7x19 => (intro wS hSw; go_simp; (try with_reducible rfl))
  case rest7x19 =>
  simp only [Act.put, List.getElem_toArray, List.getElem_cons_zero, List.getElem_cons_succ, List.setIfInBounds_toArray, List.set_cons_zero, List.set_cons_succ]
  refine wpAnyH_take (i := 8) (v := ?v8x20) rfl (by kernel_rfl) (by kernel_rfl) (by kernel_rfl) (fun _ _ _ h => h) (Or.inl ⟨by rfl, ?hy8x20⟩) hS ?rest8x20
  case hy8x20 => (intro wS hSw; go_simp; (try with_reducible rfl))
  case rest8x20 =>
  simp only [Act.put, List.getElem_toArray, List.getElem_cons_zero, List.getElem_cons_succ, List.setIfInBounds_toArray, List.set_cons_zero, List.set_cons_succ]
  refine wpAnyH_take (i := 9) (v := ?v9x21) rfl (by kernel_rfl) (by kernel_rfl) (by kernel_rfl) (fun _ _ _ h => h) (Or.inl ⟨by rfl, ?hy9x21⟩) hS ?rest9x21
  case hy9x21 => (intro wS hSw; go_simp; (try with_reducible rfl))
  case rest9x21 =>
  simp only [Act.put, List.getElem_toArray, List.getElem_cons_zero, List.getElem_cons_succ, List.setIfInBounds_toArray, List.set_cons_zero, List.set_cons_succ]
  refine wpAnyH_take (i := 10) (v := ?v10x22) rfl (by kernel_rfl) (by kernel_rfl) (by kernel_rfl) (fun _ _ _ h => h) (Or.inl ⟨by rfl, ?hy10x22⟩) hS ?rest10x22
  case hy10x22 => (intro wS hSw; obtain ⟨-, Pz, -⟩ := hSw; obtain ⟨s0, s1, s2⟩ := Pz.s3; go_simp; (try with_reducible rfl))
  case rest10x22 =>
  simp only [Act.put, List.getElem_toArray, List.getElem_cons_zero, List.getElem_cons_succ, List.setIfInBounds_toArray, List.set_cons_zero, List.set_cons_succ]
  have g3 := Below.drew gA
  have Q3 := Whole.drew QA
  have P3 := Whole.drew PA
  have K3 : Boxed w3.drew (w.heap.size + 1) 9 (.string key) := KA
  clear gA QA PA KA hsl
  generalize w3.drew = w4 at *
  have hq3 := Q3.lt
  refine wpAnyH_ready (rs := [11]) (by kernel_rfl) (by simp) ?_
  refine AllReadyH.cons rfl (fun KK hK => ?_) AllReadyH.nil
  go_simp
  have q1 := (Below.refl w4.heap.size w4).alloc (Nat.le_refl _) (.cells #[.bool false, .string ⟨#[]⟩, .int .i64 0] 59)
  have Y4 := Whole.new w4 59 #[.bool false, .string ⟨#[]⟩, .int .i64 0]
  have g4 := below_then g3 q1
  have Q4 := Whole.below Q3 q1 Q3.lt
  have P4 := Whole.below P3 q1 P3.lt
  have K4 : Boxed _ (w.heap.size + 1) 9 (.string key) := (q1.block _ K3.lt).trans K3
  clear q1
  refine hK.out _ _ ⟨P4, HP.out _ g4, g4⟩ (fun hS4 => ?_)
  clear hK KK
  try simp only [Act.put, List.getElem_toArray, List.getElem_cons_zero, List.getElem_cons_succ, List.setIfInBounds_toArray, List.set_cons_zero, List.set_cons_succ]
  refine wpAnyH_ready (rs := [12]) (by kernel_rfl) (by simp) ?_
  refine AllReadyH.cons rfl (fun KK hK => ?_) AllReadyH.nil
  go_simp
  refine hK.out _ _ hS4 (fun hS5 => ?_)
  clear hK KK
  try simp only [Act.put, List.getElem_toArray, List.getElem_cons_zero, List.getElem_cons_succ, List.setIfInBounds_toArray, List.set_cons_zero, List.set_cons_succ]
  refine wpAnyH_ready (rs := [13]) (by kernel_rfl) (by simp) ?_
  refine AllReadyH.cons rfl (fun KK hK => ?_) AllReadyH.nil
  rw [if_pos (by rfl)]
  refine wp_store_row 59 _ _ rfl (w4.heap.size) #[.bool (S m).ix, .string (S m).key, .int .i64 (S m).n] rfl rfl 59 _ Y4 stp_size rfl (by simp [Value.oneCell']) ?_
  have g5 := below_setRow g4 (show w.heap.size ≤ w4.heap.size from g3.size) #[.bool (S m).ix, .string (S m).key, .int .i64 (S m).n]
  have Y5 : Whole _ w4.heap.size 59 (S m).cells := Whole.setRow Y4 #[.bool (S m).ix, .string (S m).key, .int .i64 (S m).n]
  have P5 := Whole.farRow (B' := w4.heap.size) P4 (by omega) #[.bool (S m).ix, .string (S m).key, .int .i64 (S m).n]
  have Q5 := Whole.farRow (B' := w4.heap.size) Q4 (by omega) #[.bool (S m).ix, .string (S m).key, .int .i64 (S m).n]
  have K5 : Boxed ((w4.alloc (.cells #[.bool false, .string ⟨#[]⟩, .int .i64 0] 59)).setRow w4.heap.size #[.bool (S m).ix, .string (S m).key, .int .i64 (S m).n]) (w.heap.size + 1) 9 (.string key) := (setRow_other _ _ _ _ (by omega)).trans K4
  obtain ⟨w5, hw5⟩ : ∃ w5, (w4.alloc (.cells #[.bool false, .string ⟨#[]⟩, .int .i64 0] 59)).setRow w4.heap.size #[.bool (S m).ix, .string (S m).key, .int .i64 (S m).n] = w5 := ⟨_, rfl⟩
  rw [hw5] at g5 Y5 P5 Q5 K5 ⊢
  clear hw5
  refine hK.out _ _ ⟨P5, HP.out _ g5, g5⟩ (fun hS6 => ?_)
  clear hK KK
  try simp only [Act.put, List.getElem_toArray, List.getElem_cons_zero, List.getElem_cons_succ, List.setIfInBounds_toArray, List.set_cons_zero, List.set_cons_succ]
  refine wpAnyH_done (by kernel_rfl) ?_ _
  clear hS hS4 hS5 hS6 g3 g4 P3 P4 Q3 Q4 K3 K4 Y4
  obtain ⟨c0, c1, c2, c3, c4, c5, c6, c7, c8, c9, c10, c11, c12⟩ := Whole.c13 (h := T.h) P5
  have hy5 := Y5.lt
  have hq5 := Q5.lt
  go_wp2_with fail
  refine (HAm.out _ g5).mono ?_; rintro _ w6 ⟨rfl, hb6⟩
  have g6 := below_then g5 hb6
  have Q6 := Whole.below Q5 hb6 hq5
  have P6 := Whole.below P5 hb6 P5.lt
  have Y6 := Whole.below Y5 hb6 hy5
  have K6 : Boxed w6 (w.heap.size + 1) 9 (.string key) := (hb6.block _ K5.lt).trans K5
  have hs6 := hb6.size
  clear c0 c1 c2 c3 c4 c5 c6 c7 c8 c9 c10 c11 c12 g5 Q5 P5 Y5 K5 hb6
  have gA := g6.alloc g6.size (.cells M.h.cells 30)
  have QA := Q6.alloc (.cells M.h.cells 30)
  have PA := P6.alloc (.cells M.h.cells 30)
  have YA := Y6.alloc (.cells M.h.cells 30)
  have KA := K6.alloc (.cells M.h.cells 30)
  have MA := Whole.new w6 30 M.h.cells
  have hzA : (w6.alloc (.cells M.h.cells 30)).heap.size = w6.heap.size + 1 := by simp
  clear g6 Q6 P6 Y6 K6
  have hyA := YA.lt
  have hqA := QA.lt
  have hkA := KA.lt
  have kc := KA.cell
  have yk : World.cell? _ ⟨w4.heap.size, 1, none⟩ = some (.string (S m).key) := YA.cell 1
  have g7 := gA
  have Q7 := QA
  have P7 := PA
  have Y7 := YA
  have K7 := KA
  clear gA QA PA YA KA MA
  simp only [Vh.cells] at g7 Q7 P7 Y7 K7 kc yk hzA hyA hqA hkA
  obtain ⟨c0, c1, c2, c3, c4, c5, c6, c7, c8, c9, c10, c11, c12⟩ := Whole.c13 (h := T.h) P7
  have hy7 := Y7.lt
  have hq7 := Q7.lt
  have hk7 := K7.lt
  go_wp2_with fail
  refine (HC.out (w6.alloc (.cells #[.int .i64 M.h.k, .bool M.h.b, .bool M.h.n, .string M.h.d, .int .i64 M.h.e, .int .i64 M.h.tk, .int .i64 M.h.td, .int .i64 M.h.tn, .int .i64 M.h.tz, .string M.h.x, .slice M.h.ba M.h.bn M.h.bc, .slice M.h.la M.h.ln M.h.lc, .slice M.h.fa M.h.fn M.h.fc] 30)) w4.heap.size (w.heap.size + 1) g7 hy7 hk7 (fun j hj => by rw [Nat.zero_add]; exact Y7.cell j) K7.cell).mono ?_
  rintro _ w8 ⟨Z, rfl, hZ, -, hZs, hb8⟩
  have g8 := below_then g7 hb8
  have Q8 := Whole.below Q7 hb8 hq7
  have hs8 := hb8.size
  have gB := g8.alloc g8.size (.cells Z.h.cells 30)
  have QB := Q8.alloc (.cells Z.h.cells 30)
  have ZB := Whole.new w8 30 Z.h.cells
  have HZ := Lib.hid (hZ.later ((Below.refl _ w8).alloc (Nat.le_refl _) (.cells Z.h.cells 30)))
  have HZs := Lib.hid hZs
  clear hZ hZs hb8 g7 P7 Q7 Y7 K7 g8 Q8 hy7 c0 c1 c2 c3 c4 c5 c6 c7 c8 c9 c10 c11 c12 kc yk hzA
  simp only [Vh.cells] at gB QB ZB HZ HCo
  obtain ⟨c0, c1, c2, c3, c4, c5, c6, c7, c8, c9, c10, c11, c12⟩ := Whole.c13 (h := Z.h) ZB
  go_wp2_with fail
  refine (HCo.out Z _ HZ.out HZs.out).mono ?_
  rintro _ w9 ⟨X, rfl, hX, hXo, hXs, hb9⟩
  have g9 := below_then gB hb9
  have hqB := QB.lt
  have Q9 := Whole.below QB hb9 hqB
  have hzB := gB.size
  have hone := Lib.hid (vh_all X.h)
  have hX2 := Lib.hid (hX.stays hXo (W' := w9.setRow (w.heap.size + 2) X.h.cells) (fun b hb => setRow_other _ _ _ _ (by have h1 : _ ≤ b := hb; omega)) (by rw [size_setRow]; exact Nat.le_refl _))
  have hXo2 := Lib.hid (hXo.mono (S' := (w.heap.size ≤ ·)) fun b hb => Nat.le_trans hzB hb)
  have hXs2 := Lib.hid (hXs.trans HZs.out)
  clear hX hXo hXs hb9 gB QB ZB HZ HZs HCo c0 c1 c2 c3 c4 c5 c6 c7 c8 c9 c10 c11 c12
  go_wp2_with (refine wpList_store_row rfl 30 _ _ rfl (w.heap.size + 2) X.h.cells rfl rfl 30 _ Q9 vh_row rfl hone.out ?_)
  exact bodyPost_ret (v := .tuple #[.agg X.h.cells, .int .i64 0]) (ret_val2 (p := 6) (q := 7) rfl rfl (Whole.setRow Q9 X.h.cells)) rfl (HE.out X _ hX2.out hXo2.out hXs2.out (below_setRow g9 (by omega) _))

theorem aren_any {T : Vt} {p : Pth} {key : ByteArray} {top : Nat} {w : World} (hT : T.In w top) (hp : p.In w top) (ht : top ≤ w.heap.size) (hk : key.size ≤ 1048576) (hu : T.upto 48) :
    Calls Try.prog 21 #[.agg T.h.cells, .slice p.a p.n p.c, .string key] w (ResOut (T.renV p.S p.n key) top w) := by
  cases h : pathB p.S p.n with
  | false => rw [renV_bad (.inl h)]; exact aren_bad hT hp ht hk h
  | true =>
    cases hn : p.n with
    | zero => rw [renV_bad (.inr (.inl rfl)), ← hn]; exact aren_nil hT hp ht hk h hn
    | succ m =>
      cases hix : (p.S m).ix with
      | true => rw [renV_bad (.inr (.inr (.inl hix))), ← hn]; exact aren_ix hT hp ht hk h hn hix
      | false =>
        cases hkb : pathB (fun _ => stK key) 1 with
        | false => rw [renV_bad (.inr (.inr (.inr hkb))), ← hn]; exact aren_key hT hp ht hk h hn hix hkb
        | true =>
          by_cases h2 : (T.atN p.S (m + 1)).2 = 0
          · by_cases hd : key ≠ (p.S m).key ∧ fidx (T.atN p.S m).1.K key (T.atN p.S m).1.h.fn < (T.atN p.S m).1.h.fn
            · rw [renV_dup (by rw [← hn]; exact h) hix hkb h2 hd, ← hn]; exact aren_dup hT hp ht hk h hn hix hkb h2 hd
            · rw [renV_ok (by rw [← hn]; exact h) hix hkb h2 hd, ← hn]
              by_cases hq : key = (p.S m).key
              · exact aren_same hT hp ht hk hu h hn hix hkb h2 hq
              · exact aren_new hT hp ht hk hu h hn hix hkb h2 ⟨hq, fun r => hd ⟨hq, r⟩⟩
          · rw [renV_at (by rw [← hn]; exact h) hix hkb h2]; have q := aren_at hT hp ht hk h hn hix hkb h2; rw [hn] at q; exact q
end Go.Proofs.Ytfkfboiblgoamaa
