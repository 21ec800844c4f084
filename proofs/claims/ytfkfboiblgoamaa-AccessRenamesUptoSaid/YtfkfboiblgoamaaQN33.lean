/- Laid together for one claim: VtRrnD, VtLawN, Base. -/
import Derived.Test.YtfkfboiblgoamaaQN31
import Derived.Test.YtfkfboiblgoamaaQN32
import Derived.Test.YtfkfboiblgoamaaQN26
import Derived.Test.YtfkfboiblgoamaaQN15
import Derived.Test.YtfkfboiblgoamaaQN14
import Derived.Below
import Derived.ChangeSame
import Derived.ProofKit
/- The reference's Rename, walked. -/
namespace Go.Proofs.Ytfkfboiblgoamaa
open Go.RowKit
set_option linter.unusedSimpArgs false
set_option linter.unusedVariables false
theorem rren_any {T : Vt} {p : Pth} {key : ByteArray} {top : Nat} {w : World} (hT : T.In w top) (hp : p.In w top) (ht : top ≤ w.heap.size) (hk : key.size ≤ 1048576) (hg : T.good) (hsz : T.size ≤ 65536) :
    Calls Try.prog 22 #[.agg T.h.cells, .slice p.a p.n p.c, .string key] w (ResOut (T.renV p.S p.n key) w.heap.size w) := by
  cases h : pathB p.S p.n with
  | false => rw [renV_bad (.inl h)]; exact rren_bad hT hp ht hk h
  | true =>
    cases hn : p.n with
    | zero => rw [renV_bad (.inr (.inl rfl)), ← hn]; exact rren_nil hT hp ht hk h hn
    | succ m =>
      cases hix : (p.S m).ix with
      | true => rw [renV_bad (.inr (.inr (.inl hix))), ← hn]; exact rren_ix hT hp ht hk h hn hix
      | false =>
        cases hkb : pathB (fun _ => stK key) 1 with
        | false => rw [renV_bad (.inr (.inr (.inr hkb))), ← hn]; exact rren_key hT hp ht hk h hn hix hkb
        | true =>
          by_cases h2 : (T.atN p.S (m + 1)).2 = 0
          · by_cases hd : key ≠ (p.S m).key ∧ fidx (T.atN p.S m).1.K key (T.atN p.S m).1.h.fn < (T.atN p.S m).1.h.fn
            · rw [renV_dup (by rw [← hn]; exact h) hix hkb h2 hd, ← hn]; exact rren_dup hT hp ht hk hg hsz h hn hix hkb h2 hd
            · rw [renV_ok (by rw [← hn]; exact h) hix hkb h2 hd, ← hn]
              by_cases hq : key = (p.S m).key
              · exact rren_same hT hp ht hk hg hsz h hn hix hkb h2 hq
              · exact rren_new hT hp ht hk hg hsz h hn hix hkb h2 ⟨hq, fun r => hd ⟨hq, r⟩⟩
          · rw [renV_at (by rw [← hn]; exact h) hix hkb h2]; have q := rren_at hT hp ht hk h hn hix hkb h2; rw [hn] at q; exact q
end Go.Proofs.Ytfkfboiblgoamaa
/- The law of Renames, walked. -/
namespace Go.Proofs.Ytfkfboiblgoamaa
open Go.RowKit
set_option linter.unusedSimpArgs false
set_option linter.unusedVariables false

theorem res_alikeRenames {R : Vt × Int} {X U : Vt} (h0 : R.2 = 0 → X.Same R.1) (h1 : R.2 ≠ 0 → X = .z) (k0 : R.2 = 0 → U.Same R.1) (k1 : R.2 ≠ 0 → U = .z) : X.Same U := by
  by_cases e : R.2 = 0
  · exact (h0 e).trans (k0 e).symm
  · rw [h1 e, k1 e]; exact Vt.z_same

set_option maxHeartbeats 8000000 in
set_option maxRecDepth 100000 in
theorem walk_AccessRenames (W : World) (T : Vt) (hT : T.In W W.heap.size) (p : Pth) (hp : p.In W W.heap.size) (key : ByteArray) (hk : key.size ≤ 1048576) :
    Calls Try.prog 6 #[.agg T.h.cells, .slice p.a p.n p.c, .string key] W fun e W' => e = .returned (.bool true) ∧ Below W.heap.size W W' := by
  have hb0 := (Below.refl W.heap.size W).alloc (Nat.le_refl _) (.cells T.h.cells 30)
  have P := Whole.new W 30 T.h.cells
  have HV := Lib.hid (fun (w1 : World) (hb : Below W.heap.size W w1) => lvalid_any (Vt.In.below hb hT) hb.size)
  obtain ⟨B, hB⟩ : ∃ B, vldB T = B := ⟨_, rfl⟩
  rw [hB] at HV
  cases B
  · clear hT hp hB
    simp only [Vh.cells] at hb0 HV ⊢
    go_enter Try.func6, Try.ntmps6
    go_wp2_with fail
    refine (HV.out _ hb0).mono ?_; rintro _ w1 ⟨rfl, hb1⟩
    go_wp2
    go_ret
    exact ⟨rfl, below_then hb0 hb1⟩
  obtain ⟨hg, hu, hsz⟩ := valid_parts hT.whole hB
  have hsz : T.size ≤ 65536 := by omega
  have HG := Lib.hid (fun (w1 : World) (hb : Below W.heap.size W w1) => aren_any (Vt.In.below hb hT) (Pth.In.below hp hb) hb.size hk hu)
  have HR := Lib.hid (fun (w1 : World) (hb : Below W.heap.size W w1) => rren_any (Vt.In.below hb hT) (Pth.In.below hp hb) hb.size hk hg hsz)
  obtain ⟨R, hR⟩ : ∃ R, T.renV p.S p.n key = R := ⟨_, rfl⟩
  rw [hR] at HG HR
  clear hR hT hp hB hu hg hsz hk
  simp only [Vh.cells] at hb0 HV HR HG ⊢
  go_enter Try.func6, Try.ntmps6
  go_wp2_with fail
  refine (HV.out _ hb0).mono ?_; rintro _ w1 ⟨rfl, hb1⟩
  have g1 := below_then hb0 hb1
  have P1 := Whole.below P hb1 (Whole.lt P)
  clear P hb0 hb1
  obtain ⟨c0, c1, c2, c3, c4, c5, c6, c7, c8, c9, c10, c11, c12⟩ := Whole.c13 (h := T.h) P1
  go_wp2_with fail
  refine (HG.out _ g1).mono ?_; rintro _ w2 ⟨X, rfl, hX, -, hX0, hX1, hb2⟩
  have g2 := below_then g1 hb2
  have P2 := (P1.below hb2 P1.lt).alloc (.cells X.h.cells 30)
  have gA := g2.alloc g2.size (.cells X.h.cells 30)
  have XA := Whole.new w2 30 X.h.cells
  have hXA := Lib.hid (hX.later ((Below.refl _ w2).alloc (Nat.le_refl _) (.cells X.h.cells 30)))
  have HX0 := Lib.hid hX0
  have HX1 := Lib.hid hX1
  clear c0 c1 c2 c3 c4 c5 c6 c7 c8 c9 c10 c11 c12 hX0 hX1 hX P1 HV HG g1 g2
  have q1 := P2.lt
  have q2 := XA.lt
  obtain ⟨c0, c1, c2, c3, c4, c5, c6, c7, c8, c9, c10, c11, c12⟩ := Whole.c13 (h := T.h) P2
  simp only [Vh.cells] at gA XA hXA P2 q1 q2 c0 c1 c2 c3 c4 c5 c6 c7 c8 c9 c10 c11 c12
  go_wp2_with fail
  refine (HR.out _ gA).mono ?_; rintro _ w3 ⟨U, rfl, hU, -, hU0, hU1, hb3⟩
  clear c0 c1 c2 c3 c4 c5 c6 c7 c8 c9 c10 c11 c12
  have g3 := below_then gA hb3
  have X3 := (XA.below hb3 q2).alloc (.cells U.h.cells 30)
  have U3 := Whole.new w3 30 U.h.cells
  have gB := g3.alloc g3.size (.cells U.h.cells 30)
  have hXB := hXA.out.later (hb3.alloc hb3.size (.cells U.h.cells 30))
  have hUB := hU.later ((Below.refl _ w3).alloc (Nat.le_refl _) (.cells U.h.cells 30))
  have HAl := Lib.hid (alike_any (e := R.2) (f := R.2) hXB hUB (Nat.le_refl _))
  have hS : sameB X U = true := sameB_iff.2 (res_alikeRenames HX0.out HX1.out hU0 hU1)
  rw [hS] at HAl
  have hE : (R.2 == R.2 && true) = true := by simp
  rw [hE] at HAl
  clear hS hE hXB hXA hUB hU hU0 hU1 HX0 HX1 HR g3 gA hb3 hb2 XA P2 q1 q2
  obtain ⟨c0, c1, c2, c3, c4, c5, c6, c7, c8, c9, c10, c11, c12⟩ := Whole.c13 (h := X.h) X3
  obtain ⟨u0, u1, u2, u3, u4, u5, u6, u7, u8, u9, u10, u11, u12⟩ := Whole.c13 (h := U.h) U3
  simp only [Vh.cells] at gB HAl c0 c1 c2 c3 c4 c5 c6 c7 c8 c9 c10 c11 c12 u0 u1 u2 u3 u4 u5 u6 u7 u8 u9 u10 u11 u12
  go_wp2_with fail
  refine HAl.out.mono ?_; rintro _ w4 ⟨rfl, hb4⟩
  have g4 := below_then gB hb4
  clear c0 c1 c2 c3 c4 c5 c6 c7 c8 c9 c10 c11 c12 u0 u1 u2 u3 u4 u5 u6 u7 u8 u9 u10 u11 u12 HAl X3 U3 gB
  go_wp2
  go_ret
  exact ⟨rfl, g4⟩
end Go.Proofs.Ytfkfboiblgoamaa
/- Small lemmas that every law's last step uses: the row's post out of a world below which nothing has turned. -/
namespace Go.Proofs.Ytfkfboiblgoamaa
open Go.RowKit Go.WideShapes Go.ChangeShapes
section
variable {H : Type} {enc : TypeId × Value → H} {P : Program}
theorem post_of_below {f : Func} {s : ChangeSpec} {apart fresh handsOn again : Bool} {W W' : World} {args : Array Value} {v : Value} {ds gs : List (DataW H)} {before pa pv : List MemPlace}
    (hW : DataW.Whole enc P f.params.toList s.vars apart W args.toList ds gs before)
    (hres : ∀ (b : Nat) (sp : Nat → Bool) (hd : Bool), DataW.TrodAll enc P W' b sp hd f.resultTypes.toList (v.resultList f.resultTypes.size) (s.fn H (ds ++ gs)).results [])
    (hargs : ∀ sp : Nat → Bool, (∀ p ∈ before, sp p.block = true) → DataW.TrodAll enc P W' 0 sp true f.params.toList args.toList (s.fn H (ds ++ gs)).args pa)
    (hvars : ∀ sp : Nat → Bool, (∀ p ∈ before, sp p.block = true) → DataW.TrodVars enc P W' sp s.vars (s.fn H (ds ++ gs)).vars pv)
    (hps : before = pa ++ pv) (hb : Below W.heap.size W W')
    (hok : ∀ (j : Nat) (t : TypeId) (r : Value), f.resultTypes[j]? = some t → (v.resultList f.resultTypes.size)[j]? = some r → Value.okWide P W' .any 0 t r) :
    s.post enc P f apart fresh handsOn again W args v W' := by
  have hlt : ∀ p ∈ before, p.block < W.heap.size := fun p hp => hW.lt p hp
  have hold : ∀ p ∈ before, (fun b => decide (b < W.heap.size)) p.block = true := fun p hp => by simpa using hlt p hp
  refine ⟨ds, gs, before, [], pa, pv, hW, hres _ _ _, hargs _ hold, hvars _ hold, World.keptBut_mono (fun p hp => ⟨hp, ?_⟩) (hb.frame (· ∈ before)), fun _ => ?_⟩
  · rw [hps, List.mem_append] at hp
    exact Or.inr hp
  · obtain ⟨_, _, _, _, _, hz, hn⟩ := hW
    refine ⟨hok, _, _, ([] ++ pa) ++ pv, ⟨[] ++ pa, pv, trodAll_append (hargs _ (fun _ _ => rfl)) (hres _ _ _), hvars _ (fun _ _ => rfl), rfl, ?_, ?_⟩, ?_⟩
    · intro b off hp
      have hin : MemPlace.cell b off ∈ before := by rw [hps]; simpa using hp
      rw [hb.frozen (hlt _ hin)]
      exact hz b off hin
    · intro ha
      have := hn ha
      rw [hps] at this
      simpa using this
    · intro p hp _
      rw [hps]
      simpa using hp
end
end Go.Proofs.Ytfkfboiblgoamaa
