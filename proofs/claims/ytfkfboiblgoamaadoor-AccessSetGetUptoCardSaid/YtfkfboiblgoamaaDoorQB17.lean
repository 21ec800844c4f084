/- Laid together for a claim: VtKids, VtLook, VtSize. -/
import Derived.Test.YtfkfboiblgoamaaDoorQB05
import Derived.Test.YtfkfboiblgoamaaDoorQB08
/- Values: the values in a value (datakitref07.Kids). -/
namespace Go.Proofs.YtfkfboiblgoamaaDoor
open Go.RowKit

/-- What Kids answers: the row of the values in a value. -/
def KidsOut (T : Vt) (w : World) (e : Ending) (w' : World) : Prop :=
  ∃ (a : Option Addr) (c b o : Nat), e = .returned (.slice a T.kn c) ∧ (0 < T.kn → a = some ⟨b, o, none⟩ ∧ b < w'.heap.size) ∧ (∀ i, i < T.kn → LiesAt w' b (o + i * 13) (T.kid i).h.cells) ∧ Below w.heap.size w w'
set_option maxHeartbeats 4000000 in
set_option maxRecDepth 100000 in
theorem kids_any {T : Vt} {top : Nat} {w : World} (hT : T.In w top) (ht : top ≤ w.heap.size) :
    Calls Tryd.prog 43 #[.agg T.h.cells] w (KidsOut T w) := by
  cases T with
  | nil => exact hT.elim
  | mk h Y L K F =>
  obtain ⟨h0, _, _, h3, h4, h5, h6⟩ := hT
  have P := Whole.new w 30 h.cells
  have hb0 := (Below.refl w.heap.size w).alloc (Nat.le_refl _) (.cells h.cells 30)
  have hk := h0.k
  have hln := h0.ln
  have hfn := h0.fn
  by_cases k7 : h.k = 7
  case neg =>
    have e1 : (Vt.mk h Y L K F).kn = h.ln := if_neg k7
    have e2 : ∀ i, (Vt.mk h Y L K F).kid i = L i := fun i => if_neg k7
    have HQ : Hid (∀ w', Below w.heap.size w w' → KidsOut (.mk h Y L K F) w (.returned (.slice h.la h.ln h.lc)) w') := Lib.hid fun w' hb => by
      refine ⟨h.la, h.lc, h.lb, h.lo, by rw [e1], fun hp => ?_, fun i hi => ?_, hb⟩
      · rw [e1] at hp
        obtain ⟨a, b⟩ := h3 hp
        exact ⟨a, by have := hb.size; omega⟩
      · rw [e1] at hi
        rw [e2]
        obtain ⟨a, b⟩ := h3 (by omega)
        exact (h4 i hi).1.below hb (by omega)
    have d1 : (h.k != 7) = true := by simpa using k7
    have d2 : (h.k == 7) = false := by simpa using k7
    clear e1 e2 h0 h3 h4 h5 h6 k7
    go_enter Tryd.func43, Tryd.ntmps43
    simp only [Vt.h, Vh.cells] at *
    go_wp2_with fail
    go_ret
    exact HQ.out _ hb0
  have e1 : (Vt.mk h Y L K F).kn = h.fn := if_pos k7
  have e2 : ∀ i, (Vt.mk h Y L K F).kid i = F i := fun i => if_pos k7
  obtain ⟨i0, hi, hz0, hz1, hz2⟩ := info_parts Tryd.infoVal
  have hsz := vh_size
  have HQ : Hid (∀ (v : Value) (w' : World), w'.ownsRow (w.heap.size + 1) 30 13 v h.fn (catN (fun i => (F i).h.cells) h.fn) → Below w.heap.size w w' → KidsOut (.mk h Y L K F) w (.returned v) w') := Lib.hid fun v w' ho hb => by
    obtain ⟨a, c, b, rfl, _, ha, hl⟩ := own_lies (fun i => vh_size _) ho
    refine ⟨a, c, b, 0, by rw [e1], fun hp => ?_, fun i hi => ?_, hb⟩
    · rw [e1] at hp
      exact ⟨(ha hp).1, (ha hp).2.2⟩
    · rw [e1] at hi
      rw [e2, Nat.zero_add]
      exact hl i hi
  have d1 : (h.k != 7) = false := by simpa using k7
  have d2 : (h.k == 7) = true := by simpa using k7
  have HF : Hid (∀ i, i < h.fn → LiesAt w h.fb (h.fo + i * 14 + 1) (F i).h.cells) := Lib.hid fun i hi => (h6 i hi).2.2.1
  have HA : Hid (0 < h.fn → h.fa = some ⟨h.fb, h.fo, none⟩ ∧ h.fb < w.heap.size) := Lib.hid fun hp => ⟨(h5 hp).1, by have := (h5 hp).2; omega⟩
  clear e1 e2 h0 h3 h4 h5 h6 k7 hsz
  have hn0 : (0 : Int) ≤ h.fn := by omega
  have hn2 : (h.fn : Int) ≤ 1048576 := by omega
  go_enter Tryd.func43, Tryd.ntmps43
  simp only [Vt.h, Vh.cells] at hb0 ⊢
  go_wp2_with fail
  go_loopw [3, 4] (fun v i wr => ∃ k : Nat, k ≤ h.fn ∧ i = .int .i64 k ∧ wr.ownsRow (w.heap.size + 1) 30 13 v k (catN (fun i => (F i).h.cells) k) ∧ Whole wr w.heap.size 30 h.cells ∧ Below w.heap.size w wr) (fun _ i _ => h.fn - (intOf i).toNat)
  case atStart => exact ⟨0, by omega, rfl, World.ownsRow_nil _ _ _ _, P, hb0⟩
  case round =>
    clear P hb0
    obtain ⟨k, hk, rfl, hown, P, hbr⟩ := hrel
    have hki : (0 : Int) ≤ k := by omega
    obtain ⟨c0, c1, c2, c3, c4, c5, c6, c7, c8, c9, c10, c11, c12⟩ := Whole.c13 (h := h) P
    clear c1 c2 c3 c4 c5 c6 c7 c8 c9 c10 c11
    by_cases hkn : k < h.fn
    · obtain ⟨ha, hlt⟩ := HA.out (by omega)
      have hl := (HF.out k hkn).below hbr hlt
      obtain ⟨g0, g1, g2, g3, g4, g5, g6, g7, g8, g9, g10, g11, g12⟩ := hl.c13
      have hki2 : (k : Int) < h.fn := by omega
      rw [ha] at c12
      have hsz := Whole.lt P
      have HS := Lib.hid (World.size_alloc wr (.cells (F k).h.cells 30))
      clear hl ha hkn
      generalize hG : (F k).h = G at *
      have HG := Lib.hid hG
      clear hG
      go_wp2_with (at_builtin; refine wpList_append_own _ rfl _ _ 27 rfl (w.heap.size + 1) 30 i0 (.agg Vh.zero.cells) 13 168 Tryd.underlying27 hi hz0 hz1 hz2 rfl (by decide) _ _ _ rfl (hown.alloc _) ⟨wr.heap.size, 0, none⟩ 1 1 G.cells.toList rfl rfl ?c1 ?c2 ?c3 ?c4 ?c5 ?_)
      case c1 => exact cells_new _ _ G.cells
      case c2 => exact vh_one G
      case c3 => unfold maxLen; omega
      case c4 => omega
      case c5 => simp; omega
      intro v' w3 hown3 hgrow _
      have P3 : Whole w3 w.heap.size 30 h.cells := (Whole.alloc P _).kept hgrow (own_away hown (by omega))
      have hb3 := below_grown hbr (by omega) hown (by omega) hgrow
      have hxs : catN (fun i => (F i).h.cells) k ++ G.cells.toList = catN (fun i => (F i).h.cells) (k + 1) := by rw [← HG.out]; rfl
      rw [hxs] at hown3
      clear hxs hown P hbr hgrow g0 g1 g2 g3 g4 g5 g6 g7 g8 g9 g10 g11 g12 c0 c12 HS HG
      go_wp2
      go_roundw
      case rel => exact ⟨k + 1, by omega, by go_num, hown3, P3, hb3⟩
      case measure => simp [intOf]; omega
    · obtain rfl : k = h.fn := by omega
      clear hkn
      go_wp2
      go_ret
      exact HQ.out _ _ hown hbr
end Go.Proofs.YtfkfboiblgoamaaDoor
/- Values: what is wrong with a value (datakitref07.look, Check), and how many values it has (Size). -/
namespace Go.Proofs.YtfkfboiblgoamaaDoor
open Go.RowKit

theorem Vt.In.kid {W : World} {top : Nat} {T : Vt} (h : T.In W top) {i : Nat} (hi : i < T.kn) : (T.kid i).In W top := by
  cases T with
  | nil => exact h.elim
  | mk g Y L K F =>
    obtain ⟨_, _, _, _, h4, _, h6⟩ := h
    by_cases k7 : g.k = 7
    · have e1 : (Vt.mk g Y L K F).kn = g.fn := if_pos k7
      have e2 : (Vt.mk g Y L K F).kid i = F i := if_pos k7
      rw [e2]
      exact (h6 i (by omega)).2.2.2
    · have e1 : (Vt.mk g Y L K F).kn = g.ln := if_neg k7
      have e2 : (Vt.mk g Y L K F).kid i = L i := if_neg k7
      rw [e2]
      exact (h4 i (by omega)).2
theorem Vt.kn_le {W : World} {top : Nat} {T : Vt} (h : T.In W top) : T.kn ≤ 1048576 := by
  cases T with
  | nil => exact h.elim
  | mk g Y L K F =>
    have h0 := h.1
    unfold Vt.kn
    split
    · exact h0.fn
    · exact h0.ln
theorem Vt.In.live {W : World} {top : Nat} {T : Vt} (h : T.In W top) : T ≠ .nil := by
  rintro rfl
  exact h
/-- An induction on the values in a value. -/
theorem Vt.kids_ind {p : Vt → Prop} (h : ∀ T : Vt, T ≠ .nil → (∀ i, i < T.kn → p (T.kid i)) → p T) (h0 : p .nil) : ∀ T, p T := by
  intro T
  induction T with
  | nil => exact h0
  | mk g Y L K F ihL ihF =>
    refine h _ (by intro e; cases e) fun i hi => ?_
    by_cases k7 : g.k = 7
    · rw [show (Vt.mk g Y L K F).kid i = F i from if_pos k7]; exact ihF i
    · rw [show (Vt.mk g Y L K F).kid i = L i from if_neg k7]; exact ihL i
def LookIs (T : Vt) : Prop := ∀ (d s : Int) (top : Nat) (w : World), T.In w top → top ≤ w.heap.size → 0 ≤ d → d ≤ 49 → 0 ≤ s → s ≤ 65536 →
    Calls Tryd.prog 42 #[.agg T.h.cells, .int .i64 d, .int .i64 s] w fun r w' => r = .returned (.tuple #[.int .i64 (T.look d s).1, .int .i64 (T.look d s).2]) ∧ Below w.heap.size w w'
set_option maxHeartbeats 4000000 in
set_option maxRecDepth 100000 in
theorem look_any : ∀ T : Vt, LookIs T := by
  refine Vt.kids_ind (fun T hne ih => ?_) (fun _ _ _ _ h => h.elim)
  intro d s top w hT ht d0 d1 s0 s1
  have hb0 := (Below.refl w.heap.size w).alloc (Nat.le_refl _) (.cells T.h.cells 30)
  have P := Whole.new w 30 T.h.cells
  have hkn := Vt.kn_le hT
  have HI := Lib.hid hT
  have HO := Lib.hid (fun (w1 : World) (hb : Below w.heap.size w w1) => one_any (T := T) (Vt.In.below (hb.mono ht) hT) (Nat.le_trans ht hb.size))
  have HKd := Lib.hid (fun (w1 : World) (hb : Below w.heap.size w w1) => kids_any (T := T) (Vt.In.below (hb.mono ht) hT) (Nat.le_trans ht hb.size))
  have HR := Lib.hid (Vt.look_eq hne d s)
  have HI2 := Lib.hid ih
  clear ih hne hT
  obtain ⟨R, hR⟩ : ∃ R, T.look d s = R := ⟨_, rfl⟩
  rw [hR] at HR ⊢
  clear hR
  obtain ⟨R1, R2⟩ := R
  dsimp only at HR ⊢
  by_cases t1 : 48 < d
  · have e := HR.out
    rw [if_pos t1, Prod.mk.injEq] at e
    obtain ⟨rfl, rfl⟩ := e
    clear HR
    go_enter Tryd.func42, Tryd.ntmps42
    simp only [Vh.cells] at hb0 ⊢
    go_wp2_with fail
    go_ret2
    exact ⟨rfl, hb0⟩
  by_cases t2 : 65536 ≤ s
  · have e := HR.out
    rw [if_neg t1, if_pos t2, Prod.mk.injEq] at e
    obtain ⟨rfl, rfl⟩ := e
    clear HR
    go_enter Tryd.func42, Tryd.ntmps42
    simp only [Vh.cells] at hb0 ⊢
    go_wp2_with fail
    go_ret2
    exact ⟨rfl, hb0⟩
  by_cases t3 : oneE T ≠ 0
  · have e := HR.out
    rw [if_neg t1, if_neg t2, if_pos t3, Prod.mk.injEq] at e
    obtain ⟨rfl, rfl⟩ := e
    have u1 : (oneE T == 0) = false := beq_eq_false_iff_ne.2 t3
    have u2 : (oneE T != 0) = true := by simpa using t3
    clear HR
    generalize oneE T = E at *
    clear t3
    go_enter Tryd.func42, Tryd.ntmps42
    simp only [Vh.cells] at hb0 HO ⊢
    go_wp2_with fail
    refine (HO.out _ hb0).mono ?_; rintro _ w1 ⟨rfl, hb1⟩
    go_wp2_with fail
    go_ret2
    exact ⟨rfl, below_then hb0 hb1⟩
  have e0 : oneE T = 0 := Classical.byContradiction t3
  have HR2 : Hid ((R1, R2) = foldE (fun i t => (T.kid i).look (d + 1) t) T.kn (s + 1)) := Lib.hid (by rw [HR.out, if_neg t1, if_neg t2, if_neg t3])
  clear HR t3
  rw [e0] at HO
  clear e0
  have hd : d ≤ 48 := by omega
  have hs : s ≤ 65535 := by omega
  clear t1 t2 d1 s1
  have HF : Hid (∀ k, s + 1 ≤ (foldE (fun i t => (T.kid i).look (d + 1) t) k (s + 1)).1 ∧ (foldE (fun i t => (T.kid i).look (d + 1) t) k (s + 1)).1 ≤ 65536) := Lib.hid fun k => foldE_bd (by omega) (fun i t ht => Vt.look_bd (T.kid i) (d + 1) t ht) k
  go_enter Tryd.func42, Tryd.ntmps42
  simp only [Vh.cells] at hb0 HO HKd ⊢
  go_wp2_with fail
  refine (HO.out _ hb0).mono ?_; rintro _ w1 ⟨rfl, hb1⟩
  have g1 := below_then hb0 hb1
  have P1 := P.below hb1 P.lt
  obtain ⟨c0, c1, c2, c3, c4, c5, c6, c7, c8, c9, c10, c11, c12⟩ := P1.c13
  go_wp2_with fail
  refine (HKd.out _ g1).mono ?_; rintro _ w2 ⟨a, c, b, o, rfl, ha, hl, hb2⟩
  have g2 := below_then g1 hb2
  clear c0 c1 c2 c3 c4 c5 c6 c7 c8 c9 c10 c11 c12 P P1 HO HKd hb0 hb1 hb2 g1
  by_cases hz : T.kn = 0
  · have e := HR2.out
    rw [hz] at e
    simp only [foldE, Prod.mk.injEq] at e
    obtain ⟨rfl, rfl⟩ := e
    rw [hz]
    clear HR2 ha hl HF HI2 HI hz hkn
    go_wp2_with fail
    go_loopw [2, 10] (fun v i wr => v = .int .i64 (s + 1) ∧ i = .int .i64 0 ∧ Below w.heap.size w wr) (fun _ i _ => 0)
    case atStart => exact ⟨rfl, rfl, g2⟩
    case round =>
      obtain ⟨rfl, rfl, hbr⟩ := hrel
      go_wp2
      go_ret2
      exact ⟨rfl, hbr⟩
  obtain ⟨rfl, hbl⟩ := ha (by omega)
  have HL := Lib.hid hl
  have HB := Lib.hid hbl
  clear hl hbl hz ha
  have hn2 : (T.kn : Int) ≤ 1048576 := by omega
  obtain ⟨n, hn⟩ : ∃ n, T.kn = n := ⟨_, rfl⟩
  rw [hn] at hkn HL HR2 hn2 ⊢
  have HN := Lib.hid hn
  clear hn
  obtain ⟨f, hf⟩ : ∃ f, (fun i t => (T.kid i).look (d + 1) t) = f := ⟨_, rfl⟩
  rw [hf] at HR2 HF
  have Hf := Lib.hid hf
  clear hf
  go_wp2_with fail
  go_loopw [2, 10] (fun v i wr => ∃ k : Nat, k ≤ n ∧ i = .int .i64 k ∧ v = .int .i64 (foldE f k (s + 1)).1 ∧ (foldE f k (s + 1)).2 = 0 ∧ Below w.heap.size w wr ∧ Below w2.heap.size w2 wr) (fun _ i _ => n - (intOf i).toNat)
  case atStart => exact ⟨0, by omega, rfl, rfl, rfl, g2, Below.refl _ _⟩
  case round =>
    clear g2
    obtain ⟨k, hk, rfl, rfl, hk0, hbr, hbx⟩ := hrel
    have hki : (0 : Int) ≤ k := by omega
    obtain ⟨q1, q2⟩ := HF.out k
    have hstay := foldE_stays (f := f) (s := s + 1) (n := k + 1)
    have hsucc := foldE_succ (f := f) (s := s + 1) (n := k) hk0
    obtain ⟨t, ht'⟩ : ∃ t, (foldE f k (s + 1)).1 = t := ⟨_, rfl⟩
    rw [ht'] at q1 q2 hsucc ⊢
    by_cases hkn' : k < n
    · have hl := (HL.out k hkn').below hbx HB.out
      obtain ⟨l0, l1, l2, l3, l4, l5, l6, l7, l8, l9, l10, l11, l12⟩ := hl.c13
      have hki2 : (k : Int) < n := by omega
      have hrec := HI2.out k (by rw [HN.out]; exact hkn') (d + 1) t top wr (Vt.In.below (hbr.mono ht) (HI.out.kid (by rw [HN.out]; exact hkn'))) (Nat.le_trans ht hbr.size) (by omega) (by omega) (by omega) (by omega)
      have hfk : (T.kid k).look (d + 1) t = f k t := by rw [← Hf.out]
      rw [hfk] at hrec
      have HC := Lib.hid hrec
      have HS := Lib.hid hsucc
      have HT := Lib.hid hstay
      have H0 := Lib.hid hk0
      have HTt := Lib.hid ht'
      clear hl hrec hsucc hfk hk0 ht' hstay
      obtain ⟨S, hS⟩ : ∃ S, f k t = S := ⟨_, rfl⟩
      rw [hS] at HC HS
      have HSS := Lib.hid hS
      clear hS
      obtain ⟨S1, S2⟩ := S
      generalize hG : (T.kid k).h = G at *
      clear hG
      by_cases z : S2 = 0
      · subst z
        go_wp2_with fail
        refine HC.out.mono ?_; rintro _ w3 ⟨rfl, hb3⟩
        clear l0 l1 l2 l3 l4 l5 l6 l7 l8 l9 l10 l11 l12
        go_wp2
        go_roundw
        case rel => exact ⟨k + 1, by omega, by go_num, by rw [HS.out], by rw [HS.out], below_then hbr hb3, below_then hbx hb3⟩
        case measure => simp [intOf]; omega
      · have z1 : (S2 == 0) = false := beq_eq_false_iff_ne.2 z
        have z2 : (S2 != 0) = true := by simpa using z
        have e : (R1, R2) = (S1, S2) := by
          rw [HR2.out, HT.out (by rw [HS.out]; exact z) n (by omega), HS.out]
        rw [Prod.mk.injEq] at e
        obtain ⟨rfl, rfl⟩ := e
        clear HR2 z
        go_wp2_with fail
        refine HC.out.mono ?_; rintro _ w3 ⟨rfl, hb3⟩
        clear l0 l1 l2 l3 l4 l5 l6 l7 l8 l9 l10 l11 l12
        go_wp2
        go_ret2
        exact ⟨rfl, below_then hbr hb3⟩
    · obtain rfl : k = n := by omega
      have e := HR2.out
      have e1 : R1 = t := by rw [← ht', ← e]
      have e2 : R2 = 0 := by rw [← hk0, ← e]
      subst e1 e2
      clear HR2 e hkn' hk0 hsucc hstay ht'
      go_wp2
      go_ret2
      exact ⟨rfl, hbr⟩
theorem check_any {T : Vt} {top : Nat} {w : World} (hT : T.In w top) (ht : top ≤ w.heap.size) :
    Calls Tryd.prog 19 #[.agg T.h.cells] w fun r w' => r = .returned (.int .i64 (T.look 1 0).2) ∧ Below w.heap.size w w' := by
  have hb0 := (Below.refl w.heap.size w).alloc (Nat.le_refl _) (.cells T.h.cells 30)
  have HL := Lib.hid (look_any T 1 0 top (w.alloc (.cells T.h.cells 30)) (Vt.In.below (hb0.mono ht) hT) (Nat.le_trans ht hb0.size) (by decide) (by decide) (by decide) (by decide))
  clear hT
  generalize T.look 1 0 = R at *
  obtain ⟨R1, R2⟩ := R
  simp only [Vh.cells] at hb0 HL ⊢
  go_enter Tryd.func19, Tryd.ntmps19
  go_wp2_with fail
  refine HL.out.mono ?_; rintro _ w1 ⟨rfl, hb1⟩
  go_wp2
  go_ret
  exact ⟨rfl, below_then hb0 hb1⟩
end Go.Proofs.YtfkfboiblgoamaaDoor
/- Values: how many values there are in a value (datakitref07.Size), and which values the law asks for. -/
namespace Go.Proofs.YtfkfboiblgoamaaDoor
open Go.RowKit

def SizeIs (T : Vt) : Prop := ∀ (top : Nat) (w : World), T.In w top → top ≤ w.heap.size → T.size ≤ 65536 →
    Calls Tryd.prog 20 #[.agg T.h.cells] w fun r w' => r = .returned (.int .i64 T.size) ∧ Below w.heap.size w w'
set_option maxHeartbeats 4000000 in
set_option maxRecDepth 100000 in
theorem size_any : ∀ T : Vt, SizeIs T := by
  refine Vt.kids_ind (fun T hne ih => ?_) (fun _ _ h => h.elim)
  intro top w hT ht hsz
  have hb0 := (Below.refl w.heap.size w).alloc (Nat.le_refl _) (.cells T.h.cells 30)
  have P := Whole.new w 30 T.h.cells
  have hkn := Vt.kn_le hT
  have HI := Lib.hid hT
  have HKd := Lib.hid (fun (w1 : World) (hb : Below w.heap.size w w1) => kids_any (T := T) (Vt.In.below (hb.mono ht) hT) (Nat.le_trans ht hb.size))
  have HE := Lib.hid (Vt.size_eq hne)
  have HI2 := Lib.hid ih
  have HK := Lib.hid (fun i (hi : i < T.kn) => Vt.size_kid hne hi)
  have hsum : Hid (∀ k, k ≤ T.kn → 1 + sumN (fun i => (T.kid i).size) k ≤ 65536) := Lib.hid fun k hk => by
    have := sumN_mono (f := fun i => (T.kid i).size) hk
    have e := HE.out
    omega
  clear ih hne hT
  obtain ⟨Z, hZ⟩ : ∃ Z, T.size = Z := ⟨_, rfl⟩
  rw [hZ] at HE hsz HK ⊢
  clear hZ
  go_enter Tryd.func20, Tryd.ntmps20
  simp only [Vh.cells] at hb0 HKd ⊢
  go_wp2_with fail
  refine (HKd.out _ hb0).mono ?_; rintro _ w2 ⟨a, c, b, o, rfl, ha, hl, hb2⟩
  have g2 := below_then hb0 hb2
  clear P HKd hb0 hb2
  by_cases hz : T.kn = 0
  · have e := HE.out
    rw [hz] at e
    simp only [sumN] at e
    subst e
    rw [hz]
    clear ha hl HI2 HI hz hkn HE HK hsum
    go_wp2_with fail
    go_loopw [3, 5] (fun v i wr => v = .int .i64 1 ∧ i = .int .i64 0 ∧ Below w.heap.size w wr) (fun _ i _ => 0)
    case atStart => exact ⟨rfl, rfl, g2⟩
    case round =>
      obtain ⟨rfl, rfl, hbr⟩ := hrel
      go_wp2
      go_ret
      exact ⟨rfl, hbr⟩
  obtain ⟨rfl, hbl⟩ := ha (by omega)
  have HL := Lib.hid hl
  have HB := Lib.hid hbl
  clear hl hbl hz ha
  have hn2 : (T.kn : Int) ≤ 1048576 := by omega
  obtain ⟨n, hn⟩ : ∃ n, T.kn = n := ⟨_, rfl⟩
  rw [hn] at hkn HL HE hsum hn2 HK ⊢
  have HN := Lib.hid hn
  clear hn
  go_wp2_with fail
  go_loopw [3, 5] (fun v i wr => ∃ k : Nat, k ≤ n ∧ i = .int .i64 k ∧ v = .int .i64 ((1 + sumN (fun i => (T.kid i).size) k : Nat) : Int) ∧ Below w.heap.size w wr ∧ Below w2.heap.size w2 wr) (fun _ i _ => n - (intOf i).toNat)
  case atStart => exact ⟨0, by omega, rfl, rfl, g2, Below.refl _ _⟩
  case round =>
    clear g2
    obtain ⟨k, hk, rfl, rfl, hbr, hbx⟩ := hrel
    have hki : (0 : Int) ≤ k := by omega
    have q1 := hsum.out k hk
    have hS : 1 + sumN (fun i => (T.kid i).size) (k + 1) = 1 + sumN (fun i => (T.kid i).size) k + (T.kid k).size := by
      show 1 + (sumN (fun i => (T.kid i).size) k + (T.kid k).size) = _
      omega
    have q3 : k < n → 1 + sumN (fun i => (T.kid i).size) k + (T.kid k).size ≤ 65536 := fun h => by
      have := hsum.out (k + 1) (by omega)
      omega
    have HS := Lib.hid hS
    clear hS
    obtain ⟨t, ht'⟩ : ∃ t, 1 + sumN (fun i => (T.kid i).size) k = t := ⟨_, rfl⟩
    rw [ht'] at q1 q3 HS ⊢
    by_cases hkn' : k < n
    · have hl := (HL.out k hkn').below hbx HB.out
      obtain ⟨l0, l1, l2, l3, l4, l5, l6, l7, l8, l9, l10, l11, l12⟩ := hl.c13
      have hki2 : (k : Int) < n := by omega
      have q4 := q3 hkn'
      have hrec := HI2.out k (by rw [HN.out]; exact hkn') top wr (Vt.In.below (hbr.mono ht) (HI.out.kid (by rw [HN.out]; exact hkn'))) (Nat.le_trans ht hbr.size) (by omega)
      have HC := Lib.hid hrec
      clear hl hrec ht' q3
      obtain ⟨u, hu⟩ : ∃ u, (T.kid k).size = u := ⟨_, rfl⟩
      rw [hu] at HC HS q4
      clear hu
      generalize hG : (T.kid k).h = G at *
      clear hG
      have i1 : (t : Int) + u ≤ 65536 := by omega
      have i2 : (0 : Int) ≤ t := by omega
      have i3 : (0 : Int) ≤ u := by omega
      go_wp2_with fail
      refine HC.out.mono ?_; rintro _ w3 ⟨rfl, hb3⟩
      clear l0 l1 l2 l3 l4 l5 l6 l7 l8 l9 l10 l11 l12
      go_wp2
      go_roundw
      case rel => exact ⟨k + 1, by omega, by go_num, by rw [HS.out]; go_num, below_then hbr hb3, below_then hbx hb3⟩
      case measure => simp [intOf]; omega
    · obtain rfl : k = n := by omega
      have e : t = Z := by rw [← ht', HE.out]
      subst e
      clear HE hkn' ht' q3 HS
      go_wp2
      go_ret
      exact ⟨rfl, hbr⟩
/-- A value that the law asks for. -/
noncomputable def vldB (T : Vt) : Bool := decide ((T.look 1 0).2 = 0 ∧ T.size ≤ 300)
theorem look_size {T : Vt} (hw : T.whole) (h : (T.look 1 0).2 = 0) : T.size ≤ 65536 := by
  have h1 := (Vt.look_ok (d := 1) (s := 0) hw h).2.2
  have h2 := Vt.look_bd T 1 0 (by decide)
  have h3 : (T.look 1 0).1 = ((0 : Int) + T.size) := h1
  omega
theorem valid_parts {T : Vt} (hw : T.whole) (h : vldB T = true) : T.good ∧ T.upto 48 ∧ T.size ≤ 300 := by
  have h1 := of_decide_eq_true h
  have h2 := Vt.look_ok (d := 1) (s := 0) hw h1.1
  exact ⟨h2.1, h2.2.1, h1.2⟩
set_option maxHeartbeats 4000000 in
set_option maxRecDepth 100000 in
theorem lvalid_any {T : Vt} {top : Nat} {w : World} (hT : T.In w top) (ht : top ≤ w.heap.size) :
    Calls Tryd.prog 7 #[.agg T.h.cells] w fun r w' => r = .returned (.bool (vldB T)) ∧ Below w.heap.size w w' := by
  have hb0 := (Below.refl w.heap.size w).alloc (Nat.le_refl _) (.cells T.h.cells 30)
  have P := Whole.new w 30 T.h.cells
  have HC := Lib.hid (fun (w1 : World) (hb : Below w.heap.size w w1) => check_any (T := T) (Vt.In.below (hb.mono ht) hT) (Nat.le_trans ht hb.size))
  have HS := Lib.hid (fun (w1 : World) (hb : Below w.heap.size w w1) (hz : T.size ≤ 65536) => size_any T top w1 (Vt.In.below (hb.mono ht) hT) (Nat.le_trans ht hb.size) hz)
  have HW := Lib.hid (fun h => look_size hT.whole h)
  obtain ⟨R, hR⟩ : ∃ R, vldB T = R := ⟨_, rfl⟩
  rw [hR]
  unfold vldB at hR
  have HR := Lib.hid hR
  clear hR hT
  generalize (T.look 1 0).2 = e at *
  by_cases z : e = 0
  · have hz := HW.out z
    subst z
    have HS2 := Lib.hid (fun w1 hb => HS.out w1 hb hz)
    have hR : R = decide (T.size ≤ 300) := by rw [← HR.out]; simp
    clear HS HR
    generalize T.size = Z at *
    by_cases q : Z ≤ 300
    · have hR' : R = true := by rw [hR]; exact decide_eq_true q
      subst hR'
      clear hR HW
      have d1 : decide ((Z : Int) ≤ 300) = true := decide_eq_true (by omega)
      go_enter Tryd.func7, Tryd.ntmps7
      simp only [Vh.cells] at hb0 HC HS2 ⊢
      go_wp2_with fail
      refine (HC.out _ hb0).mono ?_; rintro _ w1 ⟨rfl, hb1⟩
      have g1 := below_then hb0 hb1
      obtain ⟨c0, c1, c2, c3, c4, c5, c6, c7, c8, c9, c10, c11, c12⟩ := (P.below hb1 P.lt).c13
      go_wp2_with fail
      refine (HS2.out _ g1).mono ?_; rintro _ w2 ⟨rfl, hb2⟩
      go_wp2
      go_ret
      exact ⟨rfl, below_then g1 hb2⟩
    · have hR' : R = false := by rw [hR]; exact decide_eq_false q
      subst hR'
      clear hR HW
      have d1 : decide ((Z : Int) ≤ 300) = false := decide_eq_false (by omega)
      go_enter Tryd.func7, Tryd.ntmps7
      simp only [Vh.cells] at hb0 HC HS2 ⊢
      go_wp2_with fail
      refine (HC.out _ hb0).mono ?_; rintro _ w1 ⟨rfl, hb1⟩
      have g1 := below_then hb0 hb1
      obtain ⟨c0, c1, c2, c3, c4, c5, c6, c7, c8, c9, c10, c11, c12⟩ := (P.below hb1 P.lt).c13
      go_wp2_with fail
      refine (HS2.out _ g1).mono ?_; rintro _ w2 ⟨rfl, hb2⟩
      go_wp2
      go_ret
      exact ⟨rfl, below_then g1 hb2⟩
  · have hR : R = false := by rw [← HR.out]; exact decide_eq_false (fun h => z h.1)
    subst hR
    have d1 : (e == 0) = false := beq_eq_false_iff_ne.2 z
    clear HR HW HS z
    go_enter Tryd.func7, Tryd.ntmps7
    simp only [Vh.cells] at hb0 HC ⊢
    go_wp2_with fail
    refine (HC.out _ hb0).mono ?_; rintro _ w1 ⟨rfl, hb1⟩
    go_wp2
    go_ret
    exact ⟨rfl, below_then hb0 hb1⟩
end Go.Proofs.YtfkfboiblgoamaaDoor
