/- Laid together for one claim: VtRrn. -/
import Derived.Test.YtfkfboiblgoamaaQN27
import Derived.Test.YtfkfboiblgoamaaQN29
import Derived.Test.YtfkfboiblgoamaaQN17
/- The reference's Rename, walked. -/
namespace Go.Proofs.Ytfkfboiblgoamaa
open Go.RowKit
set_option linter.unusedSimpArgs false
set_option linter.unusedVariables false

/-- FnS, with where the new blocks begin. -/
def FnB (R0 : Vt) (S : Nat → Prop) (B : Nat) (w : World) (e : Ending) (w' : World) : Prop :=
  ∃ X : Vt, e = .returned (.agg #[.int .i64 X.h.k, .bool X.h.b, .bool X.h.n, .string X.h.d, .int .i64 X.h.e, .int .i64 X.h.tk, .int .i64 X.h.td, .int .i64 X.h.tn, .int .i64 X.h.tz, .string X.h.x, .slice X.h.ba X.h.bn X.h.bc, .slice X.h.la X.h.ln X.h.lc, .slice X.h.fa X.h.fn X.h.fc]) ∧ X.In w' w'.heap.size ∧ X.Off (fun b => S b ∨ B ≤ b) ∧ X.Same R0 ∧ Below w.heap.size w w'
theorem fld_outB {w W : World} {B m c : Nat} {S : Nat → Prop} {a : Option Addr} {q : Nat → ByteArray × Vt → Prop} {K : Nat → ByteArray} {M : Nat → Vt} {R0 : Vt} (hr : RowG fcs Prod.snd 14 65 B S q W (.slice a m c) m) (hm : m ≤ 1048576) (hb : Below w.heap.size w W)
    (hq : ∀ j x, j < m → q j x → x.1 = K j ∧ x.1.size ≤ 1048576 ∧ x.2.Same (M j)) (hso : ∀ (a : Option Addr) (c b : Nat) (K' : Nat → ByteArray) (M' : Nat → Vt), (∀ j, j < m → K' j = K j ∧ (M' j).Same (M j)) → (Vt.mk (Vh.fld 7 a m c b) (fun _ => 0) (fun _ => .nil) K' M').Same R0) :
    FnB R0 S B w (.returned (.agg #[.int .i64 7, .bool false, .bool false, .string ⟨#[]⟩, .int .i64 0, .int .i64 0, .int .i64 0, .int .i64 0, .int .i64 0, .string ⟨#[]⟩, .slice none 0 0, .slice none 0 0, .slice a m c])) W := by
  obtain ⟨f, a', c', b, e, hcc, ha, hrows⟩ := hr.done fcs_size
  injection e with e1 e2 e3
  subst e1 e3
  exact ⟨_, rfl, fld_in (K := fun j => (f j).1) (M := fun j => (f j).2) ⟨by decide, by decide⟩ hm hcc (fun h => ⟨(ha h).1, (ha h).2.2⟩) (fun j hj => ⟨(hrows j hj).1, (hq j _ hj (hrows j hj).2.2.2).2.1, (hrows j hj).2.1⟩),
    ⟨fun q => absurd q (Nat.lt_irrefl _), fun q => absurd q (Nat.lt_irrefl _), fun i hi => absurd hi (Nat.not_lt_zero _), fun q => .inr (ha q).2.1, fun j hj => (hrows j hj).2.2.1.mono fun b hb => .inl hb⟩,
    hso a c b _ _ (fun j hj => ⟨(hq j _ hj (hrows j hj).2.2.2).1, (hq j _ hj (hrows j hj).2.2.2).2.2⟩), hb⟩

set_option maxHeartbeats 4000000 in
set_option maxRecDepth 100000 in
theorem rren_bad {T : Vt} {p : Pth} {key : ByteArray} {top : Nat} {w : World} (hT : T.In w top) (hp : p.In w top) (ht : top ≤ w.heap.size) (hk : key.size ≤ 1048576) (h : pathB p.S p.n = false) :
    Calls Try.prog 22 #[.agg T.h.cells, .slice p.a p.n p.c, .string key] w (ResOut (.z, 1) w.heap.size w) := by
  have hb0 := ((Below.refl w.heap.size w).alloc (Nat.le_refl _) (.cells T.h.cells 30)).alloc (by simp) (.cells Vh.zero.cells 30)
  have P := (Whole.new w 30 T.h.cells).alloc (.cells Vh.zero.cells 30)
  have Q := Whole.new (w.alloc (.cells T.h.cells 30)) 30 Vh.zero.cells
  rw [World.size_alloc] at Q
  have HV := Lib.hid (fun (w1 : World) (hb : Below w.heap.size w w1) => rpvalid_any (Pth.In.below hp (hb.mono ht)) (Nat.le_trans ht hb.size))
  have HK := Lib.hid (fun (w1 : World) => rpvalid_any (stp_row1 (w := w1) (s := stK key) ⟨hk, by show w64 (0 : Int); exact ⟨by decide, by decide⟩⟩) (Nat.le_refl _))
  have HE : Hid (∀ w', Below w.heap.size w w' → ResOut ((.z, 1) : Vt × Int) w.heap.size w (.returned (.tuple #[.agg Vh.zero.cells, .int .i64 1])) w') := Lib.hid fun w' hb => res_of (X := .z) rfl (Vt.z_in _ _) (Vt.z_off _) (fun q => absurd q (by decide)) (fun _ => rfl) hb
  rw [h] at HV
  clear h
  clear hT hp HK
  simp only [Vh.cells, Vh.zero] at hb0 P Q ⊢
  go_enter Try.func22, Try.ntmps22
  go_wp2_with fail
  refine (HV.out _ hb0).mono ?_; rintro _ w1 ⟨rfl, hb1⟩
  have g1 := below_then hb0 hb1
  have P1 := P.below hb1 P.lt
  have Q1 := Q.below hb1 Q.lt
  clear P Q hb0 hb1
  have hone := Lib.hid (vh_all Vh.zero)
  go_wp2_with (refine wpList_store_row rfl 30 _ _ rfl (w.heap.size + 1) Vh.zero.cells rfl rfl 30 _ Q1 vh_row rfl hone.out ?_)
  exact bodyPost_ret (v := .tuple #[.agg Vh.zero.cells, .int .i64 1]) (ret_val2 (p := 6) (q := 7) rfl rfl (Whole.setRow Q1 Vh.zero.cells)) rfl (HE.out _ (below_setRow g1 (by omega) _))

set_option maxHeartbeats 4000000 in
set_option maxRecDepth 100000 in
theorem rren_nil {T : Vt} {p : Pth} {key : ByteArray} {top : Nat} {w : World} (hT : T.In w top) (hp : p.In w top) (ht : top ≤ w.heap.size) (hk : key.size ≤ 1048576) (h : pathB p.S p.n = true) (h0 : p.n = 0) :
    Calls Try.prog 22 #[.agg T.h.cells, .slice p.a p.n p.c, .string key] w (ResOut (.z, 1) w.heap.size w) := by
  have hb0 := ((Below.refl w.heap.size w).alloc (Nat.le_refl _) (.cells T.h.cells 30)).alloc (by simp) (.cells Vh.zero.cells 30)
  have P := (Whole.new w 30 T.h.cells).alloc (.cells Vh.zero.cells 30)
  have Q := Whole.new (w.alloc (.cells T.h.cells 30)) 30 Vh.zero.cells
  rw [World.size_alloc] at Q
  have HV := Lib.hid (fun (w1 : World) (hb : Below w.heap.size w w1) => rpvalid_any (Pth.In.below hp (hb.mono ht)) (Nat.le_trans ht hb.size))
  have HK := Lib.hid (fun (w1 : World) => rpvalid_any (stp_row1 (w := w1) (s := stK key) ⟨hk, by show w64 (0 : Int); exact ⟨by decide, by decide⟩⟩) (Nat.le_refl _))
  have HE : Hid (∀ w', Below w.heap.size w w' → ResOut ((.z, 1) : Vt × Int) w.heap.size w (.returned (.tuple #[.agg Vh.zero.cells, .int .i64 1])) w') := Lib.hid fun w' hb => res_of (X := .z) rfl (Vt.z_in _ _) (Vt.z_off _) (fun q => absurd q (by decide)) (fun _ => rfl) hb
  rw [h, h0] at HV
  rw [h0]
  clear h h0
  clear hT hp HK
  simp only [Vh.cells, Vh.zero] at hb0 P Q ⊢
  go_enter Try.func22, Try.ntmps22
  go_wp2_with fail
  refine (HV.out _ hb0).mono ?_; rintro _ w1 ⟨rfl, hb1⟩
  have g1 := below_then hb0 hb1
  have P1 := P.below hb1 P.lt
  have Q1 := Q.below hb1 Q.lt
  clear P Q hb0 hb1
  have hone := Lib.hid (vh_all Vh.zero)
  go_wp2_with (refine wpList_store_row rfl 30 _ _ rfl (w.heap.size + 1) Vh.zero.cells rfl rfl 30 _ Q1 vh_row rfl hone.out ?_)
  exact bodyPost_ret (v := .tuple #[.agg Vh.zero.cells, .int .i64 1]) (ret_val2 (p := 6) (q := 7) rfl rfl (Whole.setRow Q1 Vh.zero.cells)) rfl (HE.out _ (below_setRow g1 (by omega) _))

set_option maxHeartbeats 4000000 in
set_option maxRecDepth 100000 in
theorem rren_ix {T : Vt} {p : Pth} {key : ByteArray} {top : Nat} {w : World} (hT : T.In w top) (hp : p.In w top) (ht : top ≤ w.heap.size) (hk : key.size ≤ 1048576) (h : pathB p.S p.n = true) {m : Nat} (h0 : p.n = m + 1) (hix : (p.S m).ix = true) :
    Calls Try.prog 22 #[.agg T.h.cells, .slice p.a p.n p.c, .string key] w (ResOut (.z, 1) w.heap.size w) := by
  have hb0 := ((Below.refl w.heap.size w).alloc (Nat.le_refl _) (.cells T.h.cells 30)).alloc (by simp) (.cells Vh.zero.cells 30)
  have P := (Whole.new w 30 T.h.cells).alloc (.cells Vh.zero.cells 30)
  have Q := Whole.new (w.alloc (.cells T.h.cells 30)) 30 Vh.zero.cells
  rw [World.size_alloc] at Q
  have HV := Lib.hid (fun (w1 : World) (hb : Below w.heap.size w w1) => rpvalid_any (Pth.In.below hp (hb.mono ht)) (Nat.le_trans ht hb.size))
  have HK := Lib.hid (fun (w1 : World) => rpvalid_any (stp_row1 (w := w1) (s := stK key) ⟨hk, by show w64 (0 : Int); exact ⟨by decide, by decide⟩⟩) (Nat.le_refl _))
  have HE : Hid (∀ w', Below w.heap.size w w' → ResOut ((.z, 1) : Vt × Int) w.heap.size w (.returned (.tuple #[.agg Vh.zero.cells, .int .i64 1])) w') := Lib.hid fun w' hb => res_of (X := .z) rfl (Vt.z_in _ _) (Vt.z_off _) (fun q => absurd q (by decide)) (fun _ => rfl) hb
  have hlen : m + 1 ≤ 48 := by have := (pathB_ok h).1; omega
  obtain ⟨a, n, c, b, o, S⟩ := p
  dsimp only at h0 h hix HV ⊢
  subst h0
  obtain ⟨e, hbt⟩ := hp.1 (Nat.succ_pos _)
  dsimp only at e hbt
  subst e
  have hcap : m + 1 ≤ c := hp.2.1.2.1
  have HP := Lib.hid (fun (w1 : World) (hb : Below w.heap.size w w1) => ((hp.2.2 m (Nat.lt_succ_self m)).1.below (hb.mono ht) hbt : LiesAt w1 b (o + m * 3) (S m).cells))
  rw [h] at HV
  have Hix := Lib.hid hix
  clear hT hp h HK hix
  have n1 : ((m : Int) + 1 == 0) = false := beq_eq_false_iff_ne.2 (by omega)
  have n2 : (((m + 1 : Nat) : Int) == 0) = false := beq_eq_false_iff_ne.2 (by omega)
  have n3 : (m + 1 == 0) = false := beq_eq_false_iff_ne.2 (by omega)
  have m1 : (0 : Int) ≤ m := by omega
  have m2 : (m : Int) ≤ 47 := by omega
  have m3 : (m : Int) < ((m + 1 : Nat) : Int) := by omega
  have m4 : (m : Int) < (m : Int) + 1 := by omega
  have m5 : (m : Int) ≤ (c : Int) := by omega
  have hwr : IntKind.i64.wrap (m : Int) = (m : Int) := by rw [IntKind.wrap_i64]; omega
  simp only [Vh.cells, Vh.zero] at hb0 P Q ⊢
  go_enter Try.func22, Try.ntmps22
  go_wp2_with fail
  refine (HV.out _ hb0).mono ?_; rintro _ w1 ⟨rfl, hb1⟩
  have g1 := below_then hb0 hb1
  have P1 := P.below hb1 P.lt
  have Q1 := Q.below hb1 Q.lt
  clear P Q hb0 hb1
  obtain ⟨l0, l1, l2⟩ := (HP.out _ g1).s3
  rw [Hix.out] at l0
  clear Hix
  have hone := Lib.hid (vh_all Vh.zero)
  go_wp2_with (refine wpList_store_row rfl 30 _ _ rfl (w.heap.size + 1) Vh.zero.cells rfl rfl 30 _ Q1 vh_row rfl hone.out ?_)
  exact bodyPost_ret (v := .tuple #[.agg Vh.zero.cells, .int .i64 1]) (ret_val2 (p := 6) (q := 7) rfl rfl (Whole.setRow Q1 Vh.zero.cells)) rfl (HE.out _ (below_setRow g1 (by omega) _))

set_option maxHeartbeats 4000000 in
set_option maxRecDepth 100000 in
theorem rren_key {T : Vt} {p : Pth} {key : ByteArray} {top : Nat} {w : World} (hT : T.In w top) (hp : p.In w top) (ht : top ≤ w.heap.size) (hk : key.size ≤ 1048576) (h : pathB p.S p.n = true) {m : Nat} (h0 : p.n = m + 1) (hix : (p.S m).ix = false) (hkb : pathB (fun _ => stK key) 1 = false) :
    Calls Try.prog 22 #[.agg T.h.cells, .slice p.a p.n p.c, .string key] w (ResOut (.z, 1) w.heap.size w) := by
  have hb0 := ((Below.refl w.heap.size w).alloc (Nat.le_refl _) (.cells T.h.cells 30)).alloc (by simp) (.cells Vh.zero.cells 30)
  have P := (Whole.new w 30 T.h.cells).alloc (.cells Vh.zero.cells 30)
  have Q := Whole.new (w.alloc (.cells T.h.cells 30)) 30 Vh.zero.cells
  rw [World.size_alloc] at Q
  have HV := Lib.hid (fun (w1 : World) (hb : Below w.heap.size w w1) => rpvalid_any (Pth.In.below hp (hb.mono ht)) (Nat.le_trans ht hb.size))
  have HK := Lib.hid (fun (w1 : World) => rpvalid_any (stp_row1 (w := w1) (s := stK key) ⟨hk, by show w64 (0 : Int); exact ⟨by decide, by decide⟩⟩) (Nat.le_refl _))
  have HE : Hid (∀ w', Below w.heap.size w w' → ResOut ((.z, 1) : Vt × Int) w.heap.size w (.returned (.tuple #[.agg Vh.zero.cells, .int .i64 1])) w') := Lib.hid fun w' hb => res_of (X := .z) rfl (Vt.z_in _ _) (Vt.z_off _) (fun q => absurd q (by decide)) (fun _ => rfl) hb
  have hlen : m + 1 ≤ 48 := by have := (pathB_ok h).1; omega
  obtain ⟨a, n, c, b, o, S⟩ := p
  dsimp only at h0 h hix HV ⊢
  subst h0
  obtain ⟨e, hbt⟩ := hp.1 (Nat.succ_pos _)
  dsimp only at e hbt
  subst e
  have hcap : m + 1 ≤ c := hp.2.1.2.1
  have HP := Lib.hid (fun (w1 : World) (hb : Below w.heap.size w w1) => ((hp.2.2 m (Nat.lt_succ_self m)).1.below (hb.mono ht) hbt : LiesAt w1 b (o + m * 3) (S m).cells))
  rw [h] at HV
  dsimp only at HK
  rw [hkb] at HK
  have Hix := Lib.hid hix
  clear hT hp h hix hkb
  simp only [stK, Stp.cells] at HK
  have n1 : ((m : Int) + 1 == 0) = false := beq_eq_false_iff_ne.2 (by omega)
  have n2 : (((m + 1 : Nat) : Int) == 0) = false := beq_eq_false_iff_ne.2 (by omega)
  have n3 : (m + 1 == 0) = false := beq_eq_false_iff_ne.2 (by omega)
  have m1 : (0 : Int) ≤ m := by omega
  have m2 : (m : Int) ≤ 47 := by omega
  have m3 : (m : Int) < ((m + 1 : Nat) : Int) := by omega
  have m4 : (m : Int) < (m : Int) + 1 := by omega
  have m5 : (m : Int) ≤ (c : Int) := by omega
  have hwr : IntKind.i64.wrap (m : Int) = (m : Int) := by rw [IntKind.wrap_i64]; omega
  simp only [Vh.cells, Vh.zero] at hb0 P Q ⊢
  go_enter Try.func22, Try.ntmps22
  go_wp2_with fail
  refine (HV.out _ hb0).mono ?_; rintro _ w1 ⟨rfl, hb1⟩
  have g1 := below_then hb0 hb1
  have P1 := P.below hb1 P.lt
  have Q1 := Q.below hb1 Q.lt
  clear P Q hb0 hb1
  obtain ⟨l0, l1, l2⟩ := (HP.out _ g1).s3
  rw [Hix.out] at l0
  go_wp2_with fail
  refine (HK.out w1).mono ?_; rintro _ wk ⟨rfl, hbk⟩
  have hA1 := (Below.refl w1.heap.size w1).alloc (Nat.le_refl _) (.cells #[.bool false, .string key, .int .i64 0] 59)
  have hbk1 := below_then hA1 hbk
  have g1' := below_then g1 hbk1
  have P1' := Whole.below P1 hbk1 P1.lt
  have Q1' := Whole.below Q1 hbk1 Q1.lt
  clear l0 l1 l2 hA1 hbk hbk1 g1 P1 Q1
  have hone := Lib.hid (vh_all Vh.zero)
  go_wp2_with (refine wpList_store_row rfl 30 _ _ rfl (w.heap.size + 1) Vh.zero.cells rfl rfl 30 _ Q1' vh_row rfl hone.out ?_)
  exact bodyPost_ret (v := .tuple #[.agg Vh.zero.cells, .int .i64 1]) (ret_val2 (p := 6) (q := 7) rfl rfl (Whole.setRow Q1' Vh.zero.cells)) rfl (HE.out _ (below_setRow g1' (by omega) _))

set_option maxHeartbeats 4000000 in
set_option maxRecDepth 100000 in
theorem rren_at {T : Vt} {p : Pth} {key : ByteArray} {top : Nat} {w : World} (hT : T.In w top) (hp : p.In w top) (ht : top ≤ w.heap.size) (hk : key.size ≤ 1048576) (h : pathB p.S p.n = true) {m : Nat} (h0 : p.n = m + 1) (hix : (p.S m).ix = false) (hkb : pathB (fun _ => stK key) 1 = true) (h2 : (T.atN p.S (m + 1)).2 ≠ 0) :
    Calls Try.prog 22 #[.agg T.h.cells, .slice p.a p.n p.c, .string key] w (ResOut (.z, (T.atN p.S (m + 1)).2) w.heap.size w) := by
  have hb0 := ((Below.refl w.heap.size w).alloc (Nat.le_refl _) (.cells T.h.cells 30)).alloc (by simp) (.cells Vh.zero.cells 30)
  have P := (Whole.new w 30 T.h.cells).alloc (.cells Vh.zero.cells 30)
  have Q := Whole.new (w.alloc (.cells T.h.cells 30)) 30 Vh.zero.cells
  rw [World.size_alloc] at Q
  have HV := Lib.hid (fun (w1 : World) (hb : Below w.heap.size w w1) => rpvalid_any (Pth.In.below hp (hb.mono ht)) (Nat.le_trans ht hb.size))
  have HK := Lib.hid (fun (w1 : World) => rpvalid_any (stp_row1 (w := w1) (s := stK key) ⟨hk, by show w64 (0 : Int); exact ⟨by decide, by decide⟩⟩) (Nat.le_refl _))
  have HAt := Lib.hid (fun (w1 : World) (hb : Below w.heap.size w w1) => rget_any (Vt.In.below (hb.mono ht) hT) (Pth.In.below hp (hb.mono ht)) (Nat.le_trans ht hb.size))
  have HE : Hid (∀ w', Below w.heap.size w w' → ResOut ((.z, (T.atN p.S (m + 1)).2) : Vt × Int) w.heap.size w (.returned (.tuple #[.agg Vh.zero.cells, .int .i64 (T.atN p.S (m + 1)).2])) w') := Lib.hid fun w' hb => res_of (X := .z) rfl (Vt.z_in _ _) (Vt.z_off _) (fun q => absurd q h2) (fun _ => rfl) hb
  have e2 : T.getV p.S p.n = (.nil, (T.atN p.S (m + 1)).2) := by rw [get_val h, h0]; unfold Vt.get; rw [if_neg h2]
  rw [e2] at HAt
  have z1 : ((T.atN p.S (m + 1)).2 == 0) = false := beq_eq_false_iff_ne.2 h2
  have z2 : ((T.atN p.S (m + 1)).2 != 0) = true := bne_iff_ne.2 h2
  clear h2 e2
  generalize (T.atN p.S (m + 1)).2 = E at *
  have hlen : m + 1 ≤ 48 := by have := (pathB_ok h).1; omega
  obtain ⟨a, n, c, b, o, S⟩ := p
  dsimp only at h0 h hix HAt HV ⊢
  subst h0
  obtain ⟨e, hbt⟩ := hp.1 (Nat.succ_pos _)
  dsimp only at e hbt
  subst e
  have hcap : m + 1 ≤ c := hp.2.1.2.1
  have HP := Lib.hid (fun (w1 : World) (hb : Below w.heap.size w w1) => ((hp.2.2 m (Nat.lt_succ_self m)).1.below (hb.mono ht) hbt : LiesAt w1 b (o + m * 3) (S m).cells))
  rw [h] at HV
  dsimp only at HK
  rw [hkb] at HK
  have Hix := Lib.hid hix
  rw [show (Vt.nil).h = Vh.zero from rfl] at HAt
  clear hT hp h hix hkb
  simp only [stK, Stp.cells] at HK
  have n1 : ((m : Int) + 1 == 0) = false := beq_eq_false_iff_ne.2 (by omega)
  have n2 : (((m + 1 : Nat) : Int) == 0) = false := beq_eq_false_iff_ne.2 (by omega)
  have n3 : (m + 1 == 0) = false := beq_eq_false_iff_ne.2 (by omega)
  have m1 : (0 : Int) ≤ m := by omega
  have m2 : (m : Int) ≤ 47 := by omega
  have m3 : (m : Int) < ((m + 1 : Nat) : Int) := by omega
  have m4 : (m : Int) < (m : Int) + 1 := by omega
  have m5 : (m : Int) ≤ (c : Int) := by omega
  have hwr : IntKind.i64.wrap (m : Int) = (m : Int) := by rw [IntKind.wrap_i64]; omega
  simp only [Vh.cells, Vh.zero] at hb0 P Q HAt ⊢
  go_enter Try.func22, Try.ntmps22
  go_wp2_with fail
  refine (HV.out _ hb0).mono ?_; rintro _ w1 ⟨rfl, hb1⟩
  have g1 := below_then hb0 hb1
  have P1 := P.below hb1 P.lt
  have Q1 := Q.below hb1 Q.lt
  clear P Q hb0 hb1
  obtain ⟨l0, l1, l2⟩ := (HP.out _ g1).s3
  rw [Hix.out] at l0
  go_wp2_with fail
  refine (HK.out w1).mono ?_; rintro _ wk ⟨rfl, hbk⟩
  have hA1 := (Below.refl w1.heap.size w1).alloc (Nat.le_refl _) (.cells #[.bool false, .string key, .int .i64 0] 59)
  have hbk1 := below_then hA1 hbk
  have g1' := below_then g1 hbk1
  have P1' := Whole.below P1 hbk1 P1.lt
  have Q1' := Whole.below Q1 hbk1 Q1.lt
  clear l0 l1 l2 hA1 hbk hbk1 g1 P1 Q1
  obtain ⟨c0, c1, c2, c3, c4, c5, c6, c7, c8, c9, c10, c11, c12⟩ := Whole.c13 (h := T.h) P1'
  go_wp2_with fail
  refine (HAt.out _ g1').mono ?_; rintro _ w2 ⟨rfl, hb2⟩
  have g2 := below_then g1' hb2
  have hq1 := Q1'.lt
  have Q2 := Whole.below Q1' hb2 hq1
  have hs2 := hb2.size
  have gA := g2.alloc g2.size (.cells Vh.zero.cells 30)
  have QA := Q2.alloc (.cells Vh.zero.cells 30)
  clear c0 c1 c2 c3 c4 c5 c6 c7 c8 c9 c10 c11 c12 P1' Q1' g1' hb2 g2 Q2
  simp only [Vh.cells, Vh.zero] at gA QA
  have hone := Lib.hid (vh_all Vh.zero)
  go_wp2_with (refine wpList_store_row rfl 30 _ _ rfl (w.heap.size + 1) Vh.zero.cells rfl rfl 30 _ QA vh_row rfl hone.out ?_)
  exact bodyPost_ret (v := .tuple #[.agg Vh.zero.cells, .int .i64 E]) (ret_val2 (p := 6) (q := 7) rfl rfl (Whole.setRow QA Vh.zero.cells)) rfl (HE.out _ (below_setRow gA (by omega) _))

set_option maxHeartbeats 4000000 in
set_option maxRecDepth 100000 in
theorem rren_dup {T : Vt} {p : Pth} {key : ByteArray} {top : Nat} {w : World} (hT : T.In w top) (hp : p.In w top) (ht : top ≤ w.heap.size) (hk : key.size ≤ 1048576) (hg : T.good) (hsz : T.size ≤ 65536) (h : pathB p.S p.n = true) {m : Nat} (h0 : p.n = m + 1) (hix : (p.S m).ix = false) (hkb : pathB (fun _ => stK key) 1 = true) (h2 : (T.atN p.S (m + 1)).2 = 0) (hdup : key ≠ (p.S m).key ∧ fidx (T.atN p.S m).1.K key (T.atN p.S m).1.h.fn < (T.atN p.S m).1.h.fn) :
    Calls Try.prog 22 #[.agg T.h.cells, .slice p.a p.n p.c, .string key] w (ResOut (.z, 8) w.heap.size w) := by
  have hb0 := ((Below.refl w.heap.size w).alloc (Nat.le_refl _) (.cells T.h.cells 30)).alloc (by simp) (.cells Vh.zero.cells 30)
  have P := (Whole.new w 30 T.h.cells).alloc (.cells Vh.zero.cells 30)
  have Q := Whole.new (w.alloc (.cells T.h.cells 30)) 30 Vh.zero.cells
  rw [World.size_alloc] at Q
  have HV := Lib.hid (fun (w1 : World) (hb : Below w.heap.size w w1) => rpvalid_any (Pth.In.below hp (hb.mono ht)) (Nat.le_trans ht hb.size))
  have HK := Lib.hid (fun (w1 : World) => rpvalid_any (stp_row1 (w := w1) (s := stK key) ⟨hk, by show w64 (0 : Int); exact ⟨by decide, by decide⟩⟩) (Nat.le_refl _))
  have h2m : (T.atN p.S m).2 = 0 := Vt.atN_le h2 (Nat.le_succ m)
  have hfnd := Vt.atN_find h2 (Nat.lt_succ_self m)
  have hU : T.getV p.S p.n = ((T.atN p.S m).1.F ((T.atN p.S m).1.find (p.S m)).1.toNat, 0) := by
    rw [get_val h, h0]; unfold Vt.get; rw [if_pos h2, Vt.atN_next h2m hfnd, (Vt.part_key hfnd hix).1]
  have hgm : T.getV p.S m = ((T.atN p.S m).1, 0) := by
    rw [get_val (pathB_pre h (by omega))]; unfold Vt.get; rw [if_pos h2m]; exact Prod.ext rfl h2m
  obtain ⟨-, hk7, hi, -, hei⟩ := Vt.part_key hfnd hix
  have HAt := Lib.hid (fun (w1 : World) (hb : Below w.heap.size w w1) => rget_any (Vt.In.below (hb.mono ht) hT) (Pth.In.below hp (hb.mono ht)) (Nat.le_trans ht hb.size))
  rw [hU] at HAt
  have HE : Hid (∀ w', Below w.heap.size w w' → ResOut ((.z, 8) : Vt × Int) w.heap.size w (.returned (.tuple #[.agg Vh.zero.cells, .int .i64 8])) w') := Lib.hid fun w' hb => res_of (X := .z) rfl (Vt.z_in _ _) (Vt.z_off _) (fun q => absurd q (by decide)) (fun _ => rfl) hb
  have hlen : m + 1 ≤ 48 := by have := (pathB_ok h).1; omega
  obtain ⟨a, n, c, b, o, S⟩ := p
  dsimp only at h0 h hix h2 h2m hfnd hU hgm hk7 hi hei hdup HAt HV ⊢
  subst h0
  obtain ⟨e, hbt⟩ := hp.1 (Nat.succ_pos _)
  dsimp only at e hbt
  subst e
  have hcap : m + 1 ≤ c := hp.2.1.2.1
  have HP := Lib.hid (fun (w1 : World) (hb : Below w.heap.size w w1) => ((hp.2.2 m (Nat.lt_succ_self m)).1.below (hb.mono ht) hbt : LiesAt w1 b (o + m * 3) (S m).cells))
  have hpm : ∀ w1, Below w.heap.size w w1 → Pth.In w1 top ⟨some ⟨b, o, none⟩, m, c, b, o, S⟩ := fun w1 hb => ⟨fun _ => ⟨rfl, hbt⟩, ⟨Nat.le_of_succ_le hp.2.1.1, Nat.le_of_succ_le hcap, hp.2.1.2.2⟩, fun i hi => (Pth.In.below hp (hb.mono ht)).2.2 i (Nat.lt_succ_of_lt hi)⟩
  have HAm := Lib.hid (fun (w1 : World) (hb : Below w.heap.size w w1) => rget_any (p := ⟨some ⟨b, o, none⟩, m, c, b, o, S⟩) (Vt.In.below (hb.mono ht) hT) (hpm w1 hb) (Nat.le_trans ht hb.size))
  rw [hgm] at HAm
  have hMin : ∀ w1, Below w.heap.size w w1 → (T.atN S m).1.In w1 top := fun w1 hb => Vt.In.atN (Vt.In.below (hb.mono ht) hT) S m
  have hMg := Vt.good_atN hg S m
  rw [h] at HV
  have hren : (T.atN S m).1.ren (S m) key = (T.atN S m).1.renF ((T.atN S m).1.find (S m)).1.toNat key := rfl
  clear hren
  generalize ((T.atN S m).1.find (S m)).1.toNat = i at *
  generalize hMM : (T.atN S m).1 = M at *
  clear hMM hU hgm hfnd h2 h2m h
  cases M with
  | nil => exact (hMin w (Below.refl _ _)).elim
  | mk h Y L K F =>
  dsimp only [Vt.h, Vt.K] at hk7 hi hei hdup
  rw [show (Vt.mk h Y L K F).h = h from rfl] at *
  rw [show (Vt.mk h Y L K F).F = F from rfl] at HAt
  have HW := Lib.hid hMin
  have hokh := (hMin w (Below.refl _ _)).1
  obtain ⟨i0, hi0, hz0, hz1, hz2⟩ := info_parts Try.infoFld
  have HAd := Lib.hid (fun (q : 0 < h.fn) => ((hMin w (Below.refl _ _)).2.2.2.2.2.1 q))
  have HLrow := Lib.hid (fun (w1 : World) (hb : Below w.heap.size w w1) => fun j (hj : j < h.fn) => (⟨lies_fcs ((hMin w1 hb).2.2.2.2.2.2 j hj).1 ((hMin w1 hb).2.2.2.2.2.2 j hj).2.2.1, ((hMin w1 hb).2.2.2.2.2.2 j hj).2.2.2⟩ : LiesAt w1 h.fb (h.fo + j * 14) (fcs (K j, F j)) ∧ (F j).In w1 top))
  have HWh := Lib.hid (fun j (hj : j < h.fn) => And.intro ((hMin w (Below.refl _ _)).2.2.2.2.2.2 j hj).2.1 (Vt.Same.rfl' ((hMin w (Below.refl _ _)).whole.2 j hj)))
  have hown : h.own = true := oneE_own hMg.1
  have HOwn := Lib.hid hown
  have hz : h.ln = 0 := (Vh.own_parts hown).2.2.2.2.2.2.2.1 (by omega)
  have Hkeys : Hid (∀ j, j < h.fn → (K j = (S m).key ↔ j = i)) := Lib.hid fun j hj => by
    have hgk := (good_key hMg hj).2.2
    constructor
    · intro q; rw [q] at hgk; rw [← hgk]; exact hei.symm
    · intro q
      have := (fidx_spec (K := K) (key := (S m).key) (n := h.fn)).1 (by rw [← hei]; exact hi)
      rw [q, hei]; exact this
  have Hfi := Lib.hid (fidx_spec (K := K) (key := key) (n := h.fn))
  obtain ⟨FI, hFI⟩ : ∃ FI, fidx K key h.fn = FI := ⟨_, rfl⟩
  rw [hFI] at hdup Hfi
  have HFIk : Hid (K FI = key) := Lib.hid (Hfi.out.1 hdup.2)
  have HFIo : Hid (∀ j, j < FI → K j ≠ key) := Lib.hid Hfi.out.2
  have hFIn := hdup.2
  have t2 : (key.toList == (S m).key.toList) = false := keq_no hdup.1
  have HNK := Lib.hid hdup.1
  have hln := hokh.fn
  have i3 : (h.fn : Int) ≤ 1048576 := by omega
  have i4 : (0 : Int) ≤ h.fn := by omega
  dsimp only at HK
  rw [hkb] at HK
  have Hix := Lib.hid hix
  have Hk7 := Lib.hid hk7
  have HKs := Lib.hid hk
  have Hi := Lib.hid hi
  clear hokh hown hMg hMin hpm hT hp hix hkb hei hk7 hg hsz hdup hFI Hfi hk hi
  obtain ⟨k, b', n', dd, e, tk, td, tn, tz, x, ba, bn, bc, la, ln, lc, fa, fn, fc, bb, bo, lb, lo, fb, fo⟩ := h
  dsimp only at HAd hln hz i3 i4 HLrow HWh Hk7 Hi Hkeys hFIn
  subst hz
  obtain ⟨M, hM⟩ : ∃ M : Nat → ByteArray × Vt, M = fun j => (if j = i then key else K j, F j) := ⟨_, rfl⟩
  have HM := Lib.hid hM
  clear hM
  simp only [stK, Stp.cells] at HK
  have n1 : ((m : Int) + 1 == 0) = false := beq_eq_false_iff_ne.2 (by omega)
  have n2 : (((m + 1 : Nat) : Int) == 0) = false := beq_eq_false_iff_ne.2 (by omega)
  have n3 : (m + 1 == 0) = false := beq_eq_false_iff_ne.2 (by omega)
  have m1 : (0 : Int) ≤ m := by omega
  have m2 : (m : Int) ≤ 47 := by omega
  have m3 : (m : Int) < ((m + 1 : Nat) : Int) := by omega
  have m4 : (m : Int) < (m : Int) + 1 := by omega
  have m5 : (m : Int) ≤ (c : Int) := by omega
  have hwr : IntKind.i64.wrap (m : Int) = (m : Int) := by rw [IntKind.wrap_i64]; omega
  simp only [Vh.cells, Vh.zero] at hb0 P Q HAt HAm ⊢
  go_enter Try.func22, Try.ntmps22
  go_wp2_with fail
  refine (HV.out _ hb0).mono ?_; rintro _ w1 ⟨rfl, hb1⟩
  have g1 := below_then hb0 hb1
  have P1 := P.below hb1 P.lt
  have Q1 := Q.below hb1 Q.lt
  clear P Q hb0 hb1
  obtain ⟨l0, l1, l2⟩ := (HP.out _ g1).s3
  rw [Hix.out] at l0
  go_wp2_with fail
  refine (HK.out w1).mono ?_; rintro _ wk ⟨rfl, hbk⟩
  have hA1 := (Below.refl w1.heap.size w1).alloc (Nat.le_refl _) (.cells #[.bool false, .string key, .int .i64 0] 59)
  have hbk1 := below_then hA1 hbk
  have g1' := below_then g1 hbk1
  have P1' := Whole.below P1 hbk1 P1.lt
  have Q1' := Whole.below Q1 hbk1 Q1.lt
  clear l0 l1 l2 hA1 hbk hbk1 g1 P1 Q1
  obtain ⟨c0, c1, c2, c3, c4, c5, c6, c7, c8, c9, c10, c11, c12⟩ := Whole.c13 (h := T.h) P1'
  go_wp2_with fail
  refine (HAt.out _ g1').mono ?_; rintro _ w2 ⟨rfl, hb2⟩
  have g2 := below_then g1' hb2
  have Q2 := Whole.below Q1' hb2 Q1'.lt
  have P2 := Whole.below P1' hb2 P1'.lt
  have hq1 := Q1'.lt
  have hs2 := hb2.size
  have gA := g2.alloc g2.size (.cells (F i).h.cells 30)
  have QA := Q2.alloc (.cells (F i).h.cells 30)
  have PA := P2.alloc (.cells (F i).h.cells 30)
  have XA := Whole.new w2 30 (F i).h.cells
  have hzA : (w2.alloc (.cells (F i).h.cells 30)).heap.size = w2.heap.size + 1 := by simp
  clear c0 c1 c2 c3 c4 c5 c6 c7 c8 c9 c10 c11 c12 P1' Q1' g1' hb2 g2 Q2 P2
  have hsl := slice_head Try.underlying37 elem_path stp_size (b := b) (o := o) (n := m + 1) (c := c) (i := m) (Nat.le_of_succ_le hcap) (by omega)
  obtain ⟨c0, c1, c2, c3, c4, c5, c6, c7, c8, c9, c10, c11, c12⟩ := Whole.c13 (h := T.h) PA
  simp only [Vh.cells, Vh.zero] at gA QA PA XA hzA c0 c1 c2 c3 c4 c5 c6 c7 c8 c9 c10 c11 c12
  go_wp2_with fail
  refine (HAm.out _ gA).mono ?_; rintro _ w3 ⟨rfl, hb3⟩
  have hqA := QA.lt
  have hxA := XA.lt
  have g3 := below_then gA hb3
  have Q3 := Whole.below QA hb3 hqA
  have P3 := Whole.below PA hb3 PA.lt
  have X3 := Whole.below XA hb3 hxA
  have hs3 := hb3.size
  clear c0 c1 c2 c3 c4 c5 c6 c7 c8 c9 c10 c11 c12 gA QA PA XA hb3 hsl
  have gB := (g3.alloc g3.size (.cells #[.int .i64 k, .bool b', .bool n', .string dd, .int .i64 e, .int .i64 tk, .int .i64 td, .int .i64 tn, .int .i64 tz, .string x, .slice ba bn bc, .slice la 0 lc, .slice fa fn fc] 30)).alloc (by simp; have := g3.size; omega) (.cells #[.int .i64 7, .bool false, .bool false, .string ⟨#[]⟩, .int .i64 0, .int .i64 0, .int .i64 0, .int .i64 0, .int .i64 0, .string ⟨#[]⟩, .slice none 0 0, .slice none 0 0, .slice none 0 0] 30)
  have QB := (Whole.alloc Q3 (.cells #[.int .i64 k, .bool b', .bool n', .string dd, .int .i64 e, .int .i64 tk, .int .i64 td, .int .i64 tn, .int .i64 tz, .string x, .slice ba bn bc, .slice la 0 lc, .slice fa fn fc] 30)).alloc (.cells #[.int .i64 7, .bool false, .bool false, .string ⟨#[]⟩, .int .i64 0, .int .i64 0, .int .i64 0, .int .i64 0, .int .i64 0, .string ⟨#[]⟩, .slice none 0 0, .slice none 0 0, .slice none 0 0] 30)
  have PB := (Whole.alloc P3 (.cells #[.int .i64 k, .bool b', .bool n', .string dd, .int .i64 e, .int .i64 tk, .int .i64 td, .int .i64 tn, .int .i64 tz, .string x, .slice ba bn bc, .slice la 0 lc, .slice fa fn fc] 30)).alloc (.cells #[.int .i64 7, .bool false, .bool false, .string ⟨#[]⟩, .int .i64 0, .int .i64 0, .int .i64 0, .int .i64 0, .int .i64 0, .string ⟨#[]⟩, .slice none 0 0, .slice none 0 0, .slice none 0 0] 30)
  have XB := (Whole.alloc X3 (.cells #[.int .i64 k, .bool b', .bool n', .string dd, .int .i64 e, .int .i64 tk, .int .i64 td, .int .i64 tn, .int .i64 tz, .string x, .slice ba bn bc, .slice la 0 lc, .slice fa fn fc] 30)).alloc (.cells #[.int .i64 7, .bool false, .bool false, .string ⟨#[]⟩, .int .i64 0, .int .i64 0, .int .i64 0, .int .i64 0, .int .i64 0, .string ⟨#[]⟩, .slice none 0 0, .slice none 0 0, .slice none 0 0] 30)
  have MB := (Whole.new w3 30 #[.int .i64 k, .bool b', .bool n', .string dd, .int .i64 e, .int .i64 tk, .int .i64 td, .int .i64 tn, .int .i64 tz, .string x, .slice ba bn bc, .slice la 0 lc, .slice fa fn fc]).alloc (.cells #[.int .i64 7, .bool false, .bool false, .string ⟨#[]⟩, .int .i64 0, .int .i64 0, .int .i64 0, .int .i64 0, .int .i64 0, .string ⟨#[]⟩, .slice none 0 0, .slice none 0 0, .slice none 0 0] 30)
  have OB := Whole.new (w3.alloc (.cells #[.int .i64 k, .bool b', .bool n', .string dd, .int .i64 e, .int .i64 tk, .int .i64 td, .int .i64 tn, .int .i64 tz, .string x, .slice ba bn bc, .slice la 0 lc, .slice fa fn fc] 30)) 30 #[.int .i64 7, .bool false, .bool false, .string ⟨#[]⟩, .int .i64 0, .int .i64 0, .int .i64 0, .int .i64 0, .int .i64 0, .string ⟨#[]⟩, .slice none 0 0, .slice none 0 0, .slice none 0 0]
  rw [World.size_alloc] at OB
  have hzB : ((w3.alloc (.cells #[.int .i64 k, .bool b', .bool n', .string dd, .int .i64 e, .int .i64 tk, .int .i64 td, .int .i64 tn, .int .i64 tz, .string x, .slice ba bn bc, .slice la 0 lc, .slice fa fn fc] 30)).alloc (.cells #[.int .i64 7, .bool false, .bool false, .string ⟨#[]⟩, .int .i64 0, .int .i64 0, .int .i64 0, .int .i64 0, .int .i64 0, .string ⟨#[]⟩, .slice none 0 0, .slice none 0 0, .slice none 0 0] 30)).heap.size = w3.heap.size + 2 := by simp
  have gM := g3.alloc g3.size (.cells #[.int .i64 k, .bool b', .bool n', .string dd, .int .i64 e, .int .i64 tk, .int .i64 td, .int .i64 tn, .int .i64 tz, .string x, .slice ba bn bc, .slice la 0 lc, .slice fa fn fc] 30)
  obtain ⟨l0, l1, l2⟩ := (HP.out _ gM).s3
  go_wp2_with fail
  clear l0 l1 l2 gM
  generalize (w3.alloc (.cells #[.int .i64 k, .bool b', .bool n', .string dd, .int .i64 e, .int .i64 tk, .int .i64 td, .int .i64 tn, .int .i64 tz, .string x, .slice ba bn bc, .slice la 0 lc, .slice fa fn fc] 30)).alloc (.cells #[.int .i64 7, .bool false, .bool false, .string ⟨#[]⟩, .int .i64 0, .int .i64 0, .int .i64 0, .int .i64 0, .int .i64 0, .string ⟨#[]⟩, .slice none 0 0, .slice none 0 0, .slice none 0 0] 30) = wL at *
  obtain ⟨x8, hx8⟩ : ∃ x8, w2.heap.size = x8 := ⟨_, rfl⟩
  obtain ⟨m11, hm11⟩ : ∃ m11, w3.heap.size = m11 := ⟨_, rfl⟩
  rw [hx8] at hzA hs2 hxA X3 XB ⊢
  rw [hm11] at hs3 MB OB hzB ⊢
  have hord1 : w.heap.size + 1 < x8 := by omega
  have hord2 : x8 < m11 := by omega
  clear g3 Q3 P3 X3 hx8 hm11 hs2 hs3 hzA hxA hqA hq1
  have HSt : Hid (∀ b, b < top → (· < w.heap.size) b) := Lib.hid fun b q => Nat.lt_of_lt_of_le q ht
  go_loopw [15] (fun s wr => ∃ (j : Nat) (u : Value), j ≤ FI ∧ s = .int .i64 j ∧ RowG fcs Prod.snd 14 65 (m11 + 2) (· < w.heap.size) (fun t X => X = M t) wr u j ∧ Whole wr w.heap.size 30 #[.int .i64 T.h.k, .bool T.h.b, .bool T.h.n, .string T.h.d, .int .i64 T.h.e, .int .i64 T.h.tk, .int .i64 T.h.td, .int .i64 T.h.tn, .int .i64 T.h.tz, .string T.h.x, .slice T.h.ba T.h.bn T.h.bc, .slice T.h.la T.h.ln T.h.lc, .slice T.h.fa T.h.fn T.h.fc] ∧ Whole wr (w.heap.size + 1) 30 #[.int .i64 0, .bool false, .bool false, .string ⟨#[]⟩, .int .i64 0, .int .i64 0, .int .i64 0, .int .i64 0, .int .i64 0, .string ⟨#[]⟩, .slice none 0 0, .slice none 0 0, .slice none 0 0] ∧ Whole wr x8 30 #[.int .i64 (F i).h.k, .bool (F i).h.b, .bool (F i).h.n, .string (F i).h.d, .int .i64 (F i).h.e, .int .i64 (F i).h.tk, .int .i64 (F i).h.td, .int .i64 (F i).h.tn, .int .i64 (F i).h.tz, .string (F i).h.x, .slice (F i).h.ba (F i).h.bn (F i).h.bc, .slice (F i).h.la (F i).h.ln (F i).h.lc, .slice (F i).h.fa (F i).h.fn (F i).h.fc] ∧ Whole wr m11 30 #[.int .i64 k, .bool b', .bool n', .string dd, .int .i64 e, .int .i64 tk, .int .i64 td, .int .i64 tn, .int .i64 tz, .string x, .slice ba bn bc, .slice la 0 lc, .slice fa fn fc] ∧ Whole wr (m11 + 1) 30 #[.int .i64 7, .bool false, .bool false, .string ⟨#[]⟩, .int .i64 0, .int .i64 0, .int .i64 0, .int .i64 0, .int .i64 0, .string ⟨#[]⟩, .slice none 0 0, .slice none 0 0, u] ∧ Below w.heap.size w wr ∧ m11 + 2 ≤ wr.heap.size) (fun s _ => fn - (intOf s).toNat)
  case atStart => exact ⟨0, .slice none 0 0, by omega, rfl, RowG.nil, PB, QB, XB, MB, OB, gB, by omega⟩
  case round =>
    clear PB QB XB MB OB gB hzB
    obtain ⟨j, u, hj, rfl, hrow, P, Q, XB, MB, O, hbr, hwr2⟩ := hrel
    have hji : (0 : Int) ≤ j := by omega
    by_cases hjn : j < FI
    · have hjf : j < fn := by omega
      have hji2 : (j : Int) < fn := by omega
      obtain ⟨hl, hin⟩ := HLrow.out wr hbr j hjf
      obtain ⟨e1, -⟩ := HAd.out (by omega)
      subst e1
      have cM := Whole.cell MB 12
      simp only [List.getElem?_toArray, List.getElem?_cons_succ, List.getElem?_cons_zero] at cM
      obtain ⟨l0, l1, l2, l3, l4, l5, l6, l7, l8, l9, l10, l11, l12, l13⟩ := lies_c14 hl
      by_cases hjeq : j = i
      · have hko := (Hkeys.out j hjf).2 hjeq
        subst hjeq
        have t1 : ((K j).toList == key.toList) = false := keq_no (HFIo.out j hjn)
        have t3 : ((K j).toList == (S m).key.toList) = true := keq_yes hko
        clear hko
        have B1 := (Below.refl wr.heap.size wr).alloc (Nat.le_refl _) (.cells #[.string (K j), .int .i64 (F j).h.k, .bool (F j).h.b, .bool (F j).h.n, .string (F j).h.d, .int .i64 (F j).h.e, .int .i64 (F j).h.tk, .int .i64 (F j).h.td, .int .i64 (F j).h.tn, .int .i64 (F j).h.tz, .string (F j).h.x, .slice (F j).h.ba (F j).h.bn (F j).h.bc, .slice (F j).h.la (F j).h.ln (F j).h.lc, .slice (F j).h.fa (F j).h.fn (F j).h.fc] 65)
        have EB : Whole (wr.alloc (.cells #[.string (K j), .int .i64 (F j).h.k, .bool (F j).h.b, .bool (F j).h.n, .string (F j).h.d, .int .i64 (F j).h.e, .int .i64 (F j).h.tk, .int .i64 (F j).h.td, .int .i64 (F j).h.tn, .int .i64 (F j).h.tz, .string (F j).h.x, .slice (F j).h.ba (F j).h.bn (F j).h.bc, .slice (F j).h.la (F j).h.ln (F j).h.lc, .slice (F j).h.fa (F j).h.fn (F j).h.fc] 65)) wr.heap.size 65 #[.string (K j), .int .i64 (F j).h.k, .bool (F j).h.b, .bool (F j).h.n, .string (F j).h.d, .int .i64 (F j).h.e, .int .i64 (F j).h.tk, .int .i64 (F j).h.td, .int .i64 (F j).h.tn, .int .i64 (F j).h.tz, .string (F j).h.x, .slice (F j).h.ba (F j).h.bn (F j).h.bc, .slice (F j).h.la (F j).h.ln (F j).h.lc, .slice (F j).h.fa (F j).h.fn (F j).h.fc] := Whole.new wr _ _
        obtain ⟨x0', x1', x2', x3', x4', x5', x6', x7', x8', x9', x10', x11', x12'⟩ := Whole.c13 (h := (F j).h) (XB.alloc (.cells #[.string (K j), .int .i64 (F j).h.k, .bool (F j).h.b, .bool (F j).h.n, .string (F j).h.d, .int .i64 (F j).h.e, .int .i64 (F j).h.tk, .int .i64 (F j).h.td, .int .i64 (F j).h.tn, .int .i64 (F j).h.tz, .string (F j).h.x, .slice (F j).h.ba (F j).h.bn (F j).h.bc, .slice (F j).h.la (F j).h.ln (F j).h.lc, .slice (F j).h.fa (F j).h.fn (F j).h.fc] 65))
        have hone := Lib.hid (fcs_all (key, F j))
        obtain ⟨g0, g1, g2, g3, g4, g5, g6, g7, g8, g9, g10, g11, g12, g13, -⟩ := fb_of (y := K j) (h := (F j).h) EB (Below.refl _ _)
        have HMj : Hid ((key, F j) = M j) := Lib.hid (by rw [HM.out]; dsimp only; rw [if_pos rfl])
        obtain ⟨W5, hW5⟩ : ∃ W5, W5 = (wr.alloc (.cells #[.string (K j), .int .i64 (F j).h.k, .bool (F j).h.b, .bool (F j).h.n, .string (F j).h.d, .int .i64 (F j).h.e, .int .i64 (F j).h.tk, .int .i64 (F j).h.td, .int .i64 (F j).h.tn, .int .i64 (F j).h.tz, .string (F j).h.x, .slice (F j).h.ba (F j).h.bn (F j).h.bc, .slice (F j).h.la (F j).h.ln (F j).h.lc, .slice (F j).h.fa (F j).h.fn (F j).h.fc] 65)).setRow wr.heap.size #[.string key, .int .i64 (F j).h.k, .bool (F j).h.b, .bool (F j).h.n, .string (F j).h.d, .int .i64 (F j).h.e, .int .i64 (F j).h.tk, .int .i64 (F j).h.td, .int .i64 (F j).h.tn, .int .i64 (F j).h.tz, .string (F j).h.x, .slice (F j).h.ba (F j).h.bn (F j).h.bc, .slice (F j).h.la (F j).h.ln (F j).h.lc, .slice (F j).h.fa (F j).h.fn (F j).h.fc] := ⟨_, rfl⟩
        have hB5 : Below wr.heap.size wr W5 := by rw [hW5]; exact below_setRow B1 (Nat.le_refl _) _
        have E5 : Whole W5 wr.heap.size 65 #[.string key, .int .i64 (F j).h.k, .bool (F j).h.b, .bool (F j).h.n, .string (F j).h.d, .int .i64 (F j).h.e, .int .i64 (F j).h.tk, .int .i64 (F j).h.td, .int .i64 (F j).h.tn, .int .i64 (F j).h.tz, .string (F j).h.x, .slice (F j).h.ba (F j).h.bn (F j).h.bc, .slice (F j).h.la (F j).h.ln (F j).h.lc, .slice (F j).h.fa (F j).h.fn (F j).h.fc] := by rw [hW5]; exact EB.setRow _
        have HW5 := Lib.hid hW5
        clear B1 hW5
        have hb5 := below_then hbr hB5
        have hrow5 := hrow.below hB5
        have P5 := Whole.below P hB5 (Whole.lt P)
        have Q5 := Whole.below Q hB5 (Whole.lt Q)
        have XB5 := Whole.below XB hB5 (Whole.lt XB)
        have MB5 := Whole.below MB hB5 (Whole.lt MB)
        have O5 := Whole.below O hB5 (Whole.lt O)
        have hw5 := hB5.size
        have HZin : Hid ((F j).In W5 W5.heap.size) := Lib.hid ((hin.below (hB5.mono (Nat.le_trans ht hbr.size))).up (Nat.le_trans ht hb5.size))
        have HZo : Hid ((F j).Off (· < w.heap.size)) := Lib.hid (hin.off.mono HSt.out)
        obtain ⟨e0, e1, e2, e3, e4, e5, e6, e7, e8, e9, e10, e11, e12, e13, -⟩ := fb_of (y := key) (h := (F j).h) E5 (Below.refl _ W5)
        have oO := Whole.cell O5 12
        have fO := Whole.frozen O5 12
        simp only [List.getElem?_toArray, List.getElem?_cons_succ, List.getElem?_cons_zero] at oO
        obtain ⟨f, hown, hf⟩ := (hrow5.alloc (.cells #[.string key, .int .i64 (F j).h.k, .bool (F j).h.b, .bool (F j).h.n, .string (F j).h.d, .int .i64 (F j).h.e, .int .i64 (F j).h.tk, .int .i64 (F j).h.td, .int .i64 (F j).h.tn, .int .i64 (F j).h.tz, .string (F j).h.x, .slice (F j).h.ba (F j).h.bn (F j).h.bc, .slice (F j).h.la (F j).h.ln (F j).h.lc, .slice (F j).h.fa (F j).h.fn (F j).h.fc] 65))
        have Hf := Lib.hid hf
        have s1 := Lib.hid (cells_new W5 65 (fcs (key, F j)))
        have s2 := Lib.hid (fcs_one (key, F j))
        have s3 : Hid (j + 1 ≤ maxLen) := Lib.hid (by unfold maxLen; omega)
        have s4 : Hid ((j + 1) * 184 ≤ 140737488355328) := Lib.hid (by omega)
        have s5 : Hid ((m11 + 2) ≤ (W5.alloc (.cells #[.string key, .int .i64 (F j).h.k, .bool (F j).h.b, .bool (F j).h.n, .string (F j).h.d, .int .i64 (F j).h.e, .int .i64 (F j).h.tk, .int .i64 (F j).h.td, .int .i64 (F j).h.tn, .int .i64 (F j).h.tz, .string (F j).h.x, .slice (F j).h.ba (F j).h.bn (F j).h.bc, .slice (F j).h.la (F j).h.ln (F j).h.lc, .slice (F j).h.fa (F j).h.fn (F j).h.fc] 65)).heap.size) := Lib.hid (by rw [World.size_alloc]; omega)
        go_wp2_with (first | (refine wpList_store_row rfl 65 _ _ rfl wr.heap.size #[.string key, .int .i64 (F j).h.k, .bool (F j).h.b, .bool (F j).h.n, .string (F j).h.d, .int .i64 (F j).h.e, .int .i64 (F j).h.tk, .int .i64 (F j).h.td, .int .i64 (F j).h.tn, .int .i64 (F j).h.tz, .string (F j).h.x, .slice (F j).h.ba (F j).h.bn (F j).h.bc, .slice (F j).h.la (F j).h.ln (F j).h.lc, .slice (F j).h.fa (F j).h.fn (F j).h.fc] rfl rfl 65 _ EB fld_row rfl hone.out ?_; rw [← HW5.out]) | (at_builtin; refine wpList_append_told _ rfl _ _ 28 rfl (m11 + 2) 65 i0 _ 14 184 Try.underlying28 hi0 hz0 hz1 hz2 rfl (by decide) _ _ _ rfl hown ⟨W5.heap.size, 0, none⟩ 1 1 (fcs (key, F j)).toList rfl rfl s1.out s2.out s3.out s4.out s5.out Nat.one_pos ?_))
        clear s1 s2 s3 s4 s5
        intro v' w9 hown9 hgrow hat
        obtain ⟨gg, cap, rfl, -, -⟩ := own_form hown9 (Nat.succ_pos _)
        have HOw := fun g (hg : u.ownBlock = some g) => hown.lt g hg
        have hrow9 : RowG fcs Prod.snd 14 65 (m11 + 2) (· < w.heap.size) (fun t X => X = M t) w9 (.slice (some ⟨gg, 0, none⟩) (j + 1) cap) (j + 1) :=
          RowG.push (x := (key, F j)) hown Hf.out (HZin.out.later ((Below.refl _ _).alloc (Nat.le_refl _) _)) HZo.out (fun g hg => HZo.out.mono fun b hb => by have hb' : b < w.heap.size := hb; have := (HOw g hg).1; omega) HMj.out hown9 hgrow (by simp only [World.size_alloc]; exact hat)
        have far : ∀ B, B < (m11 + 2) → some B ≠ u.ownBlock := fun B hB e => by have := (HOw B e.symm).1; omega
        have P9 := Whole.kept (Whole.alloc P5 (.cells #[.string key, .int .i64 (F j).h.k, .bool (F j).h.b, .bool (F j).h.n, .string (F j).h.d, .int .i64 (F j).h.e, .int .i64 (F j).h.tk, .int .i64 (F j).h.td, .int .i64 (F j).h.tn, .int .i64 (F j).h.tz, .string (F j).h.x, .slice (F j).h.ba (F j).h.bn (F j).h.bc, .slice (F j).h.la (F j).h.ln (F j).h.lc, .slice (F j).h.fa (F j).h.fn (F j).h.fc] 65)) hgrow (far _ (by omega))
        have Q9 := Whole.kept (Whole.alloc Q5 (.cells #[.string key, .int .i64 (F j).h.k, .bool (F j).h.b, .bool (F j).h.n, .string (F j).h.d, .int .i64 (F j).h.e, .int .i64 (F j).h.tk, .int .i64 (F j).h.td, .int .i64 (F j).h.tn, .int .i64 (F j).h.tz, .string (F j).h.x, .slice (F j).h.ba (F j).h.bn (F j).h.bc, .slice (F j).h.la (F j).h.ln (F j).h.lc, .slice (F j).h.fa (F j).h.fn (F j).h.fc] 65)) hgrow (far _ (by omega))
        have XB9 := Whole.kept (Whole.alloc XB5 (.cells #[.string key, .int .i64 (F j).h.k, .bool (F j).h.b, .bool (F j).h.n, .string (F j).h.d, .int .i64 (F j).h.e, .int .i64 (F j).h.tk, .int .i64 (F j).h.td, .int .i64 (F j).h.tn, .int .i64 (F j).h.tz, .string (F j).h.x, .slice (F j).h.ba (F j).h.bn (F j).h.bc, .slice (F j).h.la (F j).h.ln (F j).h.lc, .slice (F j).h.fa (F j).h.fn (F j).h.fc] 65)) hgrow (far _ (by omega))
        have MB9 := Whole.kept (Whole.alloc MB5 (.cells #[.string key, .int .i64 (F j).h.k, .bool (F j).h.b, .bool (F j).h.n, .string (F j).h.d, .int .i64 (F j).h.e, .int .i64 (F j).h.tk, .int .i64 (F j).h.td, .int .i64 (F j).h.tn, .int .i64 (F j).h.tz, .string (F j).h.x, .slice (F j).h.ba (F j).h.bn (F j).h.bc, .slice (F j).h.la (F j).h.ln (F j).h.lc, .slice (F j).h.fa (F j).h.fn (F j).h.fc] 65)) hgrow (far _ (by omega))
        have O9 := Whole.kept (Whole.alloc O5 (.cells #[.string key, .int .i64 (F j).h.k, .bool (F j).h.b, .bool (F j).h.n, .string (F j).h.d, .int .i64 (F j).h.e, .int .i64 (F j).h.tk, .int .i64 (F j).h.td, .int .i64 (F j).h.tn, .int .i64 (F j).h.tz, .string (F j).h.x, .slice (F j).h.ba (F j).h.bn (F j).h.bc, .slice (F j).h.la (F j).h.ln (F j).h.lc, .slice (F j).h.fa (F j).h.fn (F j).h.fc] 65)) hgrow (far _ (by omega))
        have hb9 := (hb5.alloc hb5.size (.cells #[.string key, .int .i64 (F j).h.k, .bool (F j).h.b, .bool (F j).h.n, .string (F j).h.d, .int .i64 (F j).h.e, .int .i64 (F j).h.tk, .int .i64 (F j).h.td, .int .i64 (F j).h.tn, .int .i64 (F j).h.tz, .string (F j).h.x, .slice (F j).h.ba (F j).h.bn (F j).h.bc, .slice (F j).h.la (F j).h.ln (F j).h.lc, .slice (F j).h.fa (F j).h.fn (F j).h.fc] 65)).grown hgrow (by rw [World.size_alloc]; omega) (fun g hg => by have := (HOw g hg).1; omega)
        have hz9 := hgrow.size
        rw [World.size_alloc] at hz9
        clear hown Hf hown9 hgrow hat hrow5 hb5 P5 Q5 XB5 MB5 O5 oO fO HOw far HZin HZo hbr hrow P Q XB MB O hB5 hin E5 EB x0' x1' x2' x3' x4' x5' x6' x7' x8' x9' x10' x11' x12' hone cM hl e0 e1 e2 e3 e4 e5 e6 e7 e8 e9 e10 e11 e12 e13 l0 l1 l2 l3 l4 l5 l6 l7 l8 l9 l10 l11 l12 l13 g0 g1 g2 g3 g4 g5 g6 g7 g8 g9 g10 g11 g12 g13 HW5 t1 t3
        have oO := Whole.cell O9 12
        have fO := Whole.frozen O9 12
        simp only [List.getElem?_toArray, List.getElem?_cons_succ, List.getElem?_cons_zero] at oO
        have O4 := Whole.set O9 12 (.slice (some ⟨gg, 0, none⟩) (j + 1) cap)
        have P4 := Whole.far (p := ⟨m11 + 1, 12, none⟩) P9 (by show w.heap.size ≠ m11 + 1; omega) (.slice (some ⟨gg, 0, none⟩) (j + 1) cap)
        have Q4 := Whole.far (p := ⟨m11 + 1, 12, none⟩) Q9 (by show w.heap.size + 1 ≠ m11 + 1; omega) (.slice (some ⟨gg, 0, none⟩) (j + 1) cap)
        have XB4 := Whole.far (p := ⟨m11 + 1, 12, none⟩) XB9 (by show x8 ≠ m11 + 1; omega) (.slice (some ⟨gg, 0, none⟩) (j + 1) cap)
        have MB4 := Whole.far (p := ⟨m11 + 1, 12, none⟩) MB9 (by show m11 ≠ m11 + 1; omega) (.slice (some ⟨gg, 0, none⟩) (j + 1) cap)
        have hb4 := hb9.setCell (p := ⟨m11 + 1, 12, none⟩) (by show w.heap.size ≤ m11 + 1; omega) (.slice (some ⟨gg, 0, none⟩) (j + 1) cap)
        have hrow4 := hrow9.turn (grown_set w9 (m11 + 1) 12 (.slice (some ⟨gg, 0, none⟩) (j + 1) cap)) (by omega) (fun b hb => by have hb' : b < w.heap.size := hb; omega)
        have hz4 : m11 + 2 ≤ (w9.setCell ⟨m11 + 1, 12, none⟩ (.slice (some ⟨gg, 0, none⟩) (j + 1) cap)).heap.size := by simp; omega
        clear P9 Q9 XB9 MB9 O9 hb9 hrow9
        go_wp2_with fail
        clear oO fO
        go_roundw
        case rel => exact ⟨j + 1, _, by omega, by go_num, hrow4, P4, Q4, XB4, MB4, O4, hb4, hz4⟩
        case measure => simp [intOf]; omega
      · have hko : K j ≠ (S m).key := fun q => hjeq ((Hkeys.out j hjf).1 q)
        have t3 : ((K j).toList == (S m).key.toList) = false := keq_no hko
        have t1 : ((K j).toList == key.toList) = false := keq_no (HFIo.out j hjn)
        clear hko
        have hB5 := (Below.refl wr.heap.size wr).alloc (Nat.le_refl _) (.cells #[.string (K j), .int .i64 (F j).h.k, .bool (F j).h.b, .bool (F j).h.n, .string (F j).h.d, .int .i64 (F j).h.e, .int .i64 (F j).h.tk, .int .i64 (F j).h.td, .int .i64 (F j).h.tn, .int .i64 (F j).h.tz, .string (F j).h.x, .slice (F j).h.ba (F j).h.bn (F j).h.bc, .slice (F j).h.la (F j).h.ln (F j).h.lc, .slice (F j).h.fa (F j).h.fn (F j).h.fc] 65)
        have E5 : Whole (wr.alloc (.cells #[.string (K j), .int .i64 (F j).h.k, .bool (F j).h.b, .bool (F j).h.n, .string (F j).h.d, .int .i64 (F j).h.e, .int .i64 (F j).h.tk, .int .i64 (F j).h.td, .int .i64 (F j).h.tn, .int .i64 (F j).h.tz, .string (F j).h.x, .slice (F j).h.ba (F j).h.bn (F j).h.bc, .slice (F j).h.la (F j).h.ln (F j).h.lc, .slice (F j).h.fa (F j).h.fn (F j).h.fc] 65)) wr.heap.size 65 #[.string (K j), .int .i64 (F j).h.k, .bool (F j).h.b, .bool (F j).h.n, .string (F j).h.d, .int .i64 (F j).h.e, .int .i64 (F j).h.tk, .int .i64 (F j).h.td, .int .i64 (F j).h.tn, .int .i64 (F j).h.tz, .string (F j).h.x, .slice (F j).h.ba (F j).h.bn (F j).h.bc, .slice (F j).h.la (F j).h.ln (F j).h.lc, .slice (F j).h.fa (F j).h.fn (F j).h.fc] := Whole.new wr _ _
        have HMj : Hid ((K j, F j) = M j) := Lib.hid (by rw [HM.out]; dsimp only; rw [if_neg hjeq])
        have hb5 := below_then hbr hB5
        have hrow5 := hrow.below hB5
        have P5 := Whole.below P hB5 (Whole.lt P)
        have Q5 := Whole.below Q hB5 (Whole.lt Q)
        have XB5 := Whole.below XB hB5 (Whole.lt XB)
        have MB5 := Whole.below MB hB5 (Whole.lt MB)
        have O5 := Whole.below O hB5 (Whole.lt O)
        have hw5 := hB5.size
        have HZin : Hid ((F j).In (wr.alloc (.cells #[.string (K j), .int .i64 (F j).h.k, .bool (F j).h.b, .bool (F j).h.n, .string (F j).h.d, .int .i64 (F j).h.e, .int .i64 (F j).h.tk, .int .i64 (F j).h.td, .int .i64 (F j).h.tn, .int .i64 (F j).h.tz, .string (F j).h.x, .slice (F j).h.ba (F j).h.bn (F j).h.bc, .slice (F j).h.la (F j).h.ln (F j).h.lc, .slice (F j).h.fa (F j).h.fn (F j).h.fc] 65)) (wr.alloc (.cells #[.string (K j), .int .i64 (F j).h.k, .bool (F j).h.b, .bool (F j).h.n, .string (F j).h.d, .int .i64 (F j).h.e, .int .i64 (F j).h.tk, .int .i64 (F j).h.td, .int .i64 (F j).h.tn, .int .i64 (F j).h.tz, .string (F j).h.x, .slice (F j).h.ba (F j).h.bn (F j).h.bc, .slice (F j).h.la (F j).h.ln (F j).h.lc, .slice (F j).h.fa (F j).h.fn (F j).h.fc] 65)).heap.size) := Lib.hid ((hin.below (hB5.mono (Nat.le_trans ht hbr.size))).up (Nat.le_trans ht hb5.size))
        have HZo : Hid ((F j).Off (· < w.heap.size)) := Lib.hid (hin.off.mono HSt.out)
        obtain ⟨e0, e1, e2, e3, e4, e5, e6, e7, e8, e9, e10, e11, e12, e13, -⟩ := fb_of (y := K j) (h := (F j).h) E5 (Below.refl _ (wr.alloc (.cells #[.string (K j), .int .i64 (F j).h.k, .bool (F j).h.b, .bool (F j).h.n, .string (F j).h.d, .int .i64 (F j).h.e, .int .i64 (F j).h.tk, .int .i64 (F j).h.td, .int .i64 (F j).h.tn, .int .i64 (F j).h.tz, .string (F j).h.x, .slice (F j).h.ba (F j).h.bn (F j).h.bc, .slice (F j).h.la (F j).h.ln (F j).h.lc, .slice (F j).h.fa (F j).h.fn (F j).h.fc] 65)))
        have oO := Whole.cell O5 12
        have fO := Whole.frozen O5 12
        simp only [List.getElem?_toArray, List.getElem?_cons_succ, List.getElem?_cons_zero] at oO
        obtain ⟨f, hown, hf⟩ := (hrow5.alloc (.cells #[.string (K j), .int .i64 (F j).h.k, .bool (F j).h.b, .bool (F j).h.n, .string (F j).h.d, .int .i64 (F j).h.e, .int .i64 (F j).h.tk, .int .i64 (F j).h.td, .int .i64 (F j).h.tn, .int .i64 (F j).h.tz, .string (F j).h.x, .slice (F j).h.ba (F j).h.bn (F j).h.bc, .slice (F j).h.la (F j).h.ln (F j).h.lc, .slice (F j).h.fa (F j).h.fn (F j).h.fc] 65))
        have Hf := Lib.hid hf
        have s1 := Lib.hid (cells_new (wr.alloc (.cells #[.string (K j), .int .i64 (F j).h.k, .bool (F j).h.b, .bool (F j).h.n, .string (F j).h.d, .int .i64 (F j).h.e, .int .i64 (F j).h.tk, .int .i64 (F j).h.td, .int .i64 (F j).h.tn, .int .i64 (F j).h.tz, .string (F j).h.x, .slice (F j).h.ba (F j).h.bn (F j).h.bc, .slice (F j).h.la (F j).h.ln (F j).h.lc, .slice (F j).h.fa (F j).h.fn (F j).h.fc] 65)) 65 (fcs (K j, F j)))
        rw [World.size_alloc] at s1
        have s2 := Lib.hid (fcs_one (K j, F j))
        have s3 : Hid (j + 1 ≤ maxLen) := Lib.hid (by unfold maxLen; omega)
        have s4 : Hid ((j + 1) * 184 ≤ 140737488355328) := Lib.hid (by omega)
        have s5 : Hid ((m11 + 2) ≤ ((wr.alloc (.cells #[.string (K j), .int .i64 (F j).h.k, .bool (F j).h.b, .bool (F j).h.n, .string (F j).h.d, .int .i64 (F j).h.e, .int .i64 (F j).h.tk, .int .i64 (F j).h.td, .int .i64 (F j).h.tn, .int .i64 (F j).h.tz, .string (F j).h.x, .slice (F j).h.ba (F j).h.bn (F j).h.bc, .slice (F j).h.la (F j).h.ln (F j).h.lc, .slice (F j).h.fa (F j).h.fn (F j).h.fc] 65)).alloc (.cells #[.string (K j), .int .i64 (F j).h.k, .bool (F j).h.b, .bool (F j).h.n, .string (F j).h.d, .int .i64 (F j).h.e, .int .i64 (F j).h.tk, .int .i64 (F j).h.td, .int .i64 (F j).h.tn, .int .i64 (F j).h.tz, .string (F j).h.x, .slice (F j).h.ba (F j).h.bn (F j).h.bc, .slice (F j).h.la (F j).h.ln (F j).h.lc, .slice (F j).h.fa (F j).h.fn (F j).h.fc] 65)).heap.size) := Lib.hid (by rw [World.size_alloc]; omega)
        go_wp2_with (first | (at_builtin; refine wpList_append_told _ rfl _ _ 28 rfl (m11 + 2) 65 i0 _ 14 184 Try.underlying28 hi0 hz0 hz1 hz2 rfl (by decide) _ _ _ rfl hown ⟨wr.heap.size + 1, 0, none⟩ 1 1 (fcs (K j, F j)).toList rfl rfl s1.out s2.out s3.out s4.out s5.out Nat.one_pos ?_))
        clear s1 s2 s3 s4 s5
        intro v' w9 hown9 hgrow hat
        obtain ⟨gg, cap, rfl, -, -⟩ := own_form hown9 (Nat.succ_pos _)
        have HOw := fun g (hg : u.ownBlock = some g) => hown.lt g hg
        have hrow9 : RowG fcs Prod.snd 14 65 (m11 + 2) (· < w.heap.size) (fun t X => X = M t) w9 (.slice (some ⟨gg, 0, none⟩) (j + 1) cap) (j + 1) :=
          RowG.push (x := (K j, F j)) hown Hf.out (HZin.out.later ((Below.refl _ _).alloc (Nat.le_refl _) _)) HZo.out (fun g hg => HZo.out.mono fun b hb => by have hb' : b < w.heap.size := hb; have := (HOw g hg).1; omega) HMj.out hown9 hgrow (by simp only [World.size_alloc]; exact hat)
        have far : ∀ B, B < (m11 + 2) → some B ≠ u.ownBlock := fun B hB e => by have := (HOw B e.symm).1; omega
        have P9 := Whole.kept (Whole.alloc P5 (.cells #[.string (K j), .int .i64 (F j).h.k, .bool (F j).h.b, .bool (F j).h.n, .string (F j).h.d, .int .i64 (F j).h.e, .int .i64 (F j).h.tk, .int .i64 (F j).h.td, .int .i64 (F j).h.tn, .int .i64 (F j).h.tz, .string (F j).h.x, .slice (F j).h.ba (F j).h.bn (F j).h.bc, .slice (F j).h.la (F j).h.ln (F j).h.lc, .slice (F j).h.fa (F j).h.fn (F j).h.fc] 65)) hgrow (far _ (by omega))
        have Q9 := Whole.kept (Whole.alloc Q5 (.cells #[.string (K j), .int .i64 (F j).h.k, .bool (F j).h.b, .bool (F j).h.n, .string (F j).h.d, .int .i64 (F j).h.e, .int .i64 (F j).h.tk, .int .i64 (F j).h.td, .int .i64 (F j).h.tn, .int .i64 (F j).h.tz, .string (F j).h.x, .slice (F j).h.ba (F j).h.bn (F j).h.bc, .slice (F j).h.la (F j).h.ln (F j).h.lc, .slice (F j).h.fa (F j).h.fn (F j).h.fc] 65)) hgrow (far _ (by omega))
        have XB9 := Whole.kept (Whole.alloc XB5 (.cells #[.string (K j), .int .i64 (F j).h.k, .bool (F j).h.b, .bool (F j).h.n, .string (F j).h.d, .int .i64 (F j).h.e, .int .i64 (F j).h.tk, .int .i64 (F j).h.td, .int .i64 (F j).h.tn, .int .i64 (F j).h.tz, .string (F j).h.x, .slice (F j).h.ba (F j).h.bn (F j).h.bc, .slice (F j).h.la (F j).h.ln (F j).h.lc, .slice (F j).h.fa (F j).h.fn (F j).h.fc] 65)) hgrow (far _ (by omega))
        have MB9 := Whole.kept (Whole.alloc MB5 (.cells #[.string (K j), .int .i64 (F j).h.k, .bool (F j).h.b, .bool (F j).h.n, .string (F j).h.d, .int .i64 (F j).h.e, .int .i64 (F j).h.tk, .int .i64 (F j).h.td, .int .i64 (F j).h.tn, .int .i64 (F j).h.tz, .string (F j).h.x, .slice (F j).h.ba (F j).h.bn (F j).h.bc, .slice (F j).h.la (F j).h.ln (F j).h.lc, .slice (F j).h.fa (F j).h.fn (F j).h.fc] 65)) hgrow (far _ (by omega))
        have O9 := Whole.kept (Whole.alloc O5 (.cells #[.string (K j), .int .i64 (F j).h.k, .bool (F j).h.b, .bool (F j).h.n, .string (F j).h.d, .int .i64 (F j).h.e, .int .i64 (F j).h.tk, .int .i64 (F j).h.td, .int .i64 (F j).h.tn, .int .i64 (F j).h.tz, .string (F j).h.x, .slice (F j).h.ba (F j).h.bn (F j).h.bc, .slice (F j).h.la (F j).h.ln (F j).h.lc, .slice (F j).h.fa (F j).h.fn (F j).h.fc] 65)) hgrow (far _ (by omega))
        have hb9 := (hb5.alloc hb5.size (.cells #[.string (K j), .int .i64 (F j).h.k, .bool (F j).h.b, .bool (F j).h.n, .string (F j).h.d, .int .i64 (F j).h.e, .int .i64 (F j).h.tk, .int .i64 (F j).h.td, .int .i64 (F j).h.tn, .int .i64 (F j).h.tz, .string (F j).h.x, .slice (F j).h.ba (F j).h.bn (F j).h.bc, .slice (F j).h.la (F j).h.ln (F j).h.lc, .slice (F j).h.fa (F j).h.fn (F j).h.fc] 65)).grown hgrow (by rw [World.size_alloc]; omega) (fun g hg => by have := (HOw g hg).1; omega)
        have hz9 := hgrow.size
        rw [World.size_alloc] at hz9
        clear hown Hf hown9 hgrow hat hrow5 hb5 P5 Q5 XB5 MB5 O5 oO fO HOw far HZin HZo hbr hrow P Q XB MB O hB5 hin E5 cM hl e0 e1 e2 e3 e4 e5 e6 e7 e8 e9 e10 e11 e12 e13 l0 l1 l2 l3 l4 l5 l6 l7 l8 l9 l10 l11 l12 l13 t1 t3
        have oO := Whole.cell O9 12
        have fO := Whole.frozen O9 12
        simp only [List.getElem?_toArray, List.getElem?_cons_succ, List.getElem?_cons_zero] at oO
        have O4 := Whole.set O9 12 (.slice (some ⟨gg, 0, none⟩) (j + 1) cap)
        have P4 := Whole.far (p := ⟨m11 + 1, 12, none⟩) P9 (by show w.heap.size ≠ m11 + 1; omega) (.slice (some ⟨gg, 0, none⟩) (j + 1) cap)
        have Q4 := Whole.far (p := ⟨m11 + 1, 12, none⟩) Q9 (by show w.heap.size + 1 ≠ m11 + 1; omega) (.slice (some ⟨gg, 0, none⟩) (j + 1) cap)
        have XB4 := Whole.far (p := ⟨m11 + 1, 12, none⟩) XB9 (by show x8 ≠ m11 + 1; omega) (.slice (some ⟨gg, 0, none⟩) (j + 1) cap)
        have MB4 := Whole.far (p := ⟨m11 + 1, 12, none⟩) MB9 (by show m11 ≠ m11 + 1; omega) (.slice (some ⟨gg, 0, none⟩) (j + 1) cap)
        have hb4 := hb9.setCell (p := ⟨m11 + 1, 12, none⟩) (by show w.heap.size ≤ m11 + 1; omega) (.slice (some ⟨gg, 0, none⟩) (j + 1) cap)
        have hrow4 := hrow9.turn (grown_set w9 (m11 + 1) 12 (.slice (some ⟨gg, 0, none⟩) (j + 1) cap)) (by omega) (fun b hb => by have hb' : b < w.heap.size := hb; omega)
        have hz4 : m11 + 2 ≤ (w9.setCell ⟨m11 + 1, 12, none⟩ (.slice (some ⟨gg, 0, none⟩) (j + 1) cap)).heap.size := by simp; omega
        clear P9 Q9 XB9 MB9 O9 hb9 hrow9
        go_wp2_with fail
        clear oO fO
        go_roundw
        case rel => exact ⟨j + 1, _, by omega, by go_num, hrow4, P4, Q4, XB4, MB4, O4, hb4, hz4⟩
        case measure => simp [intOf]; omega
    · obtain rfl : j = FI := by omega
      have hjf : j < fn := hFIn
      have hji2 : (j : Int) < fn := by omega
      obtain ⟨hl, hin⟩ := HLrow.out wr hbr j hjf
      obtain ⟨e1, -⟩ := HAd.out (by omega)
      subst e1
      have cM := Whole.cell MB 12
      simp only [List.getElem?_toArray, List.getElem?_cons_succ, List.getElem?_cons_zero] at cM
      obtain ⟨l0, l1, l2, l3, l4, l5, l6, l7, l8, l9, l10, l11, l12, l13⟩ := lies_c14 hl
      have t1 : ((K j).toList == key.toList) = true := keq_yes HFIk.out
      have hB5 := (Below.refl wr.heap.size wr).alloc (Nat.le_refl _) (.cells #[.string (K j), .int .i64 (F j).h.k, .bool (F j).h.b, .bool (F j).h.n, .string (F j).h.d, .int .i64 (F j).h.e, .int .i64 (F j).h.tk, .int .i64 (F j).h.td, .int .i64 (F j).h.tn, .int .i64 (F j).h.tz, .string (F j).h.x, .slice (F j).h.ba (F j).h.bn (F j).h.bc, .slice (F j).h.la (F j).h.ln (F j).h.lc, .slice (F j).h.fa (F j).h.fn (F j).h.fc] 65)
      have E5 : Whole (wr.alloc (.cells #[.string (K j), .int .i64 (F j).h.k, .bool (F j).h.b, .bool (F j).h.n, .string (F j).h.d, .int .i64 (F j).h.e, .int .i64 (F j).h.tk, .int .i64 (F j).h.td, .int .i64 (F j).h.tn, .int .i64 (F j).h.tz, .string (F j).h.x, .slice (F j).h.ba (F j).h.bn (F j).h.bc, .slice (F j).h.la (F j).h.ln (F j).h.lc, .slice (F j).h.fa (F j).h.fn (F j).h.fc] 65)) wr.heap.size 65 #[.string (K j), .int .i64 (F j).h.k, .bool (F j).h.b, .bool (F j).h.n, .string (F j).h.d, .int .i64 (F j).h.e, .int .i64 (F j).h.tk, .int .i64 (F j).h.td, .int .i64 (F j).h.tn, .int .i64 (F j).h.tz, .string (F j).h.x, .slice (F j).h.ba (F j).h.bn (F j).h.bc, .slice (F j).h.la (F j).h.ln (F j).h.lc, .slice (F j).h.fa (F j).h.fn (F j).h.fc] := Whole.new wr _ _
      obtain ⟨e0, e1, e2, e3, e4, e5, e6, e7, e8, e9, e10, e11, e12, e13, -⟩ := fb_of (y := K j) (h := (F j).h) E5 (Below.refl _ (wr.alloc (.cells #[.string (K j), .int .i64 (F j).h.k, .bool (F j).h.b, .bool (F j).h.n, .string (F j).h.d, .int .i64 (F j).h.e, .int .i64 (F j).h.tk, .int .i64 (F j).h.td, .int .i64 (F j).h.tn, .int .i64 (F j).h.tz, .string (F j).h.x, .slice (F j).h.ba (F j).h.bn (F j).h.bc, .slice (F j).h.la (F j).h.ln (F j).h.lc, .slice (F j).h.fa (F j).h.fn (F j).h.fc] 65)))
      have g5 := below_then hbr hB5
      have Q5 := Whole.below Q hB5 (Whole.lt Q)
      have hone := Lib.hid (vh_all Vh.zero)
      go_wp2_with (refine wpList_store_row rfl 30 _ _ rfl (w.heap.size + 1) Vh.zero.cells rfl rfl 30 _ Q5 vh_row rfl hone.out ?_)
      exact bodyPost_ret (v := .tuple #[.agg Vh.zero.cells, .int .i64 8]) (ret_val2 (p := 6) (q := 7) rfl rfl (Whole.setRow Q5 Vh.zero.cells)) rfl (HE.out _ (below_setRow g5 (by omega) _))

end Go.Proofs.Ytfkfboiblgoamaa
