/- Decimals: rounded decimals. -/
import Derived.Test.YtcnfgcdbjofihaaDoorDecQuoP
import Derived.Test.YtcnfgcdbjofihaaDoorDecQuoR
import Derived.Test.YtcnfgcdbjofihaaDoorDecFJ
namespace Go.Proofs.YtcnfgcdbjofihaaDoor
open Go.RowKit

/-- A decimal in a box, and a result that is still empty. -/
structure B1r (w W : World) (n : Bool) (x : ByteArray) (e : Int) : Prop where
  one : Whole W w.heap.size 23 #[.bool n, .string x, .int .i64 e]
  res : Whole W (w.heap.size + 1) 23 #[.bool false, .string ⟨#[]⟩, .int .i64 0]
  below : Below w.heap.size w W
section
variable {w W W' : World} {n : Bool} {x : ByteArray} {e : Int}
theorem B1r.new (w : World) (n : Bool) (x : ByteArray) (e : Int) : B1r w ((w.alloc (.cells #[.bool n, .string x, .int .i64 e] 23)).alloc (.cells #[.bool false, .string ⟨#[]⟩, .int .i64 0] 23)) n x e := by
  have K := B2.new w n x e false ⟨#[]⟩ 0
  exact ⟨K.one, K.two, K.below⟩
theorem B1r.call (h : B1r w W n x e) (hb : Below W.heap.size W W') : B1r w W' n x e := ⟨h.one.below hb h.one.lt, h.res.below hb h.res.lt, below_then h.below hb⟩
theorem B1r.drew (h : B1r w W n x e) : B1r w W.drew n x e := ⟨h.one.drew, h.res.drew, h.below.drew⟩
theorem B1r.cells (h : B1r w W n x e) : (W.cell? ⟨w.heap.size, 0, none⟩ = some (.bool n) ∧ W.cell? ⟨w.heap.size, 1, none⟩ = some (.string x) ∧ W.cell? ⟨w.heap.size, 2, none⟩ = some (.int .i64 e)) ∧ W.cell? ⟨w.heap.size + 1, 0, none⟩ = some (.bool false) ∧ W.cell? ⟨w.heap.size + 1, 1, none⟩ = some (.string ⟨#[]⟩) ∧ W.cell? ⟨w.heap.size + 1, 2, none⟩ = some (.int .i64 0) := ⟨h.one.c3, h.res.c3⟩
theorem B1r.put (h : B1r w W n x e) (a b c : Value) : Whole (((W.setCell ⟨w.heap.size + 1, 0, none⟩ a).setCell ⟨w.heap.size + 1, 1, none⟩ b).setCell ⟨w.heap.size + 1, 2, none⟩ c) (w.heap.size + 1) 23 #[a, b, c] ∧ Below w.heap.size w (((W.setCell ⟨w.heap.size + 1, 0, none⟩ a).setCell ⟨w.heap.size + 1, 1, none⟩ b).setCell ⟨w.heap.size + 1, 2, none⟩ c) :=
  ⟨h.res.s3 _ _ _, ((h.below.setCell (p := ⟨w.heap.size + 1, 0, none⟩) (Nat.le_add_right _ _) _).setCell (p := ⟨w.heap.size + 1, 1, none⟩) (Nat.le_add_right _ _) _).setCell (p := ⟨w.heap.size + 1, 2, none⟩) (Nat.le_add_right _ _) _⟩
end
namespace Dec
/-- A rounded decimal. -/
def roundR (a : Dc) (pl mode : Int) : Dc × Int := quoR a (fiR 1) pl mode
theorem one_ok : ok (fiR 1) := (norm_ok _ _ (by omega))
end Dec

set_option maxHeartbeats 2000000 in
set_option maxRecDepth 100000 in
theorem dround_leaf {n : Bool} {m : Nat} {e : Int} (ha : Dec.ok ⟨n, m, e⟩) (pl mode : Int) {rg : Bool} {rm : Nat} {re rr : Int} (hR : Dec.roundR ⟨n, m, e⟩ pl mode = (⟨rg, rm, re⟩, rr)) {x q : ByteArray} (hx : Dig.st m = x) (hq : Dig.st rm = q) (w : World) :
    Calls Tryd.prog 43 #[.agg #[.bool n, .string x, .int .i64 e], .int .i64 pl, .int .i64 mode] w fun r w' => r = .returned (.tuple #[.agg #[.bool rg, .string q, .int .i64 re], .int .i64 rr]) ∧ Below w.heap.size w w' := by
  have HF := Lib.hid (fun w => fi_any (n := 1) (by omega) (by omega) w)
  have HQ := Lib.hid (fun w => dquo_any ha Dec.one_ok pl mode w)
  unfold Dec.roundR at hR
  rw [hR] at HQ
  generalize Dec.fiR 1 = O at *
  obtain ⟨og, om, oe⟩ := O
  unfold Dec.ag at HF HQ
  dsimp only at HF HQ
  rw [hx, hq] at HQ
  generalize Dig.st om = oq at *
  clear hR hx hq ha
  have K := B1r.new w n x e
  obtain ⟨⟨x0, x1, x2⟩, z0, z1, z2⟩ := K.cells
  go_enter Tryd.func43, Tryd.ntmps43
  go_upto_region 1 with fail
  replace K := K.drew
  go_region_with (first
    | (go_at_call 32; refine (HF.out _).mono ?_; rintro _ w3 ⟨rfl, hb3⟩; replace K := K.call hb3; clear hb3 x0 x1 x2 z0 z1 z2; obtain ⟨⟨x0, x1, x2⟩, z0, z1, z2⟩ := K.cells)
    | (go_at_call 42; refine (HQ.out _).mono ?_; rintro _ w4 ⟨rfl, hb4⟩; replace K := K.call hb4; clear hb4 x0 x1 x2 z0 z1 z2; obtain ⟨⟨x0, x1, x2⟩, z0, z1, z2⟩ := K.cells; have zf := K.res.frozen))
  all_goals
    obtain ⟨hfin, hbf⟩ := K.put (.bool rg) (.string q) (.int .i64 re)
    go_wp2
    exact bodyPost_ret (v := .tuple #[.agg #[.bool rg, .string q, .int .i64 re], .int .i64 rr]) (by simp [results, Tryd.results43, go_sem, hfin.c3]) rfl ⟨rfl, hbf⟩
set_option maxHeartbeats 2000000 in
set_option maxRecDepth 100000 in
theorem rround_leaf {n : Bool} {m : Nat} {e : Int} (ha : Dec.ok ⟨n, m, e⟩) (pl mode : Int) {rg : Bool} {rm : Nat} {re rr : Int} (hR : Dec.roundR ⟨n, m, e⟩ pl mode = (⟨rg, rm, re⟩, rr)) {x q : ByteArray} (hx : Dig.st m = x) (hq : Dig.st rm = q) (w : World) :
    Calls Tryd.prog 45 #[.agg #[.bool n, .string x, .int .i64 e], .int .i64 pl, .int .i64 mode] w fun r w' => r = .returned (.tuple #[.agg #[.bool rg, .string q, .int .i64 re], .int .i64 rr]) ∧ Below w.heap.size w w' := by
  have HF := Lib.hid (fun w => rfi_any (n := 1) (by omega) (by omega) w)
  have HQ := Lib.hid (fun w => rquo2_any ha Dec.one_ok pl mode w)
  unfold Dec.roundR at hR
  rw [hR] at HQ
  generalize Dec.fiR 1 = O at *
  obtain ⟨og, om, oe⟩ := O
  unfold Dec.ag at HF HQ
  dsimp only at HF HQ
  rw [hx, hq] at HQ
  generalize Dig.st om = oq at *
  clear hR hx hq ha
  have K := B1r.new w n x e
  obtain ⟨⟨x0, x1, x2⟩, z0, z1, z2⟩ := K.cells
  go_enter Tryd.func45, Tryd.ntmps45
  go_upto_region 1 with fail
  replace K := K.drew
  go_region_with (first
    | (go_at_call 34; refine (HF.out _).mono ?_; rintro _ w3 ⟨rfl, hb3⟩; replace K := K.call hb3; clear hb3 x0 x1 x2 z0 z1 z2; obtain ⟨⟨x0, x1, x2⟩, z0, z1, z2⟩ := K.cells)
    | (go_at_call 44; refine (HQ.out _).mono ?_; rintro _ w4 ⟨rfl, hb4⟩; replace K := K.call hb4; clear hb4 x0 x1 x2 z0 z1 z2; obtain ⟨⟨x0, x1, x2⟩, z0, z1, z2⟩ := K.cells; have zf := K.res.frozen))
  all_goals
    obtain ⟨hfin, hbf⟩ := K.put (.bool rg) (.string q) (.int .i64 re)
    go_wp2
    exact bodyPost_ret (v := .tuple #[.agg #[.bool rg, .string q, .int .i64 re], .int .i64 rr]) (by simp [results, Tryd.results45, go_sem, hfin.c3]) rfl ⟨rfl, hbf⟩
theorem dquo_leaf {n n' rg : Bool} {m m' rm : Nat} {e e' re rr : Int} (ha : Dec.ok ⟨n, m, e⟩) (hb : Dec.ok ⟨n', m', e'⟩) (pl mode : Int) (hk : Dec.quoR ⟨n, m, e⟩ ⟨n', m', e'⟩ pl mode = (⟨rg, rm, re⟩, rr)) {x y q : ByteArray} (hx : Dig.st m = x) (hy : Dig.st m' = y) (hq : Dig.st rm = q) (w : World) :
    Calls Tryd.prog 42 #[.agg #[.bool n, .string x, .int .i64 e], .agg #[.bool n', .string y, .int .i64 e'], .int .i64 pl, .int .i64 mode] w fun r w' => r = .returned (.tuple #[.agg #[.bool rg, .string q, .int .i64 re], .int .i64 rr]) ∧ Below w.heap.size w w' := by
  have := dquo_any ha hb pl mode w
  rw [hk] at this
  unfold Dec.ag at this
  dsimp only at this
  rwa [hx, hy, hq] at this
theorem rquo2_leaf {n n' rg : Bool} {m m' rm : Nat} {e e' re rr : Int} (ha : Dec.ok ⟨n, m, e⟩) (hb : Dec.ok ⟨n', m', e'⟩) (pl mode : Int) (hk : Dec.quoR ⟨n, m, e⟩ ⟨n', m', e'⟩ pl mode = (⟨rg, rm, re⟩, rr)) {x y q : ByteArray} (hx : Dig.st m = x) (hy : Dig.st m' = y) (hq : Dig.st rm = q) (w : World) :
    Calls Tryd.prog 44 #[.agg #[.bool n, .string x, .int .i64 e], .agg #[.bool n', .string y, .int .i64 e'], .int .i64 pl, .int .i64 mode] w fun r w' => r = .returned (.tuple #[.agg #[.bool rg, .string q, .int .i64 re], .int .i64 rr]) ∧ Below w.heap.size w w' := by
  have := rquo2_any ha hb pl mode w
  rw [hk] at this
  unfold Dec.ag at this
  dsimp only at this
  rwa [hx, hy, hq] at this
end Go.Proofs.YtcnfgcdbjofihaaDoor
