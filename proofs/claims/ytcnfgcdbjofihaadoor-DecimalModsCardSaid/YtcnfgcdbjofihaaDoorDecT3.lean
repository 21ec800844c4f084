/- Decimals: three decimals out of an array, in boxes. -/
import Derived.Test.YtcnfgcdbjofihaaDoorDecCmp
import Derived.Deep.DeepCutAuto
namespace Go.Proofs.YtcnfgcdbjofihaaDoor
open Go.RowKit

def Dec.cs (d : Dec.Dc) : Array Value := #[.bool d.neg, .string (Dig.st d.m), .int .i64 d.e]
theorem Dec.of_vd {n : Bool} {s : ByteArray} {e : Int} (h : Dec.vd n s e) : ∃ m : Nat, Dig.st m = s ∧ Dec.ok ⟨n, m, e⟩ := by
  have hs : ∃ m : Nat, Dig.st m = s := by
    unfold Dec.vd at h
    split at h
    · rename_i h0
      exact ⟨0, by rw [Dec.st0, Dec.size_zero h0]⟩
    · exact ⟨Dig.V s, (Dig.vld_st h.1).1.symm⟩
  obtain ⟨m, hm⟩ := hs
  refine ⟨m, hm, ?_⟩
  unfold Dec.ok
  dsimp only
  rw [hm]
  exact h
theorem three1 {W : World} {k : Nat} {t t' t'' : TypeId} {x y z : Array Value} (hk : W.heap.size = k) : Whole (((W.alloc (.cells x t)).alloc (.cells y t')).alloc (.cells z t'')) k t x := by
  subst hk
  exact ((Whole.new W t x).alloc _).alloc _
theorem three2 {W : World} {k : Nat} {t t' t'' : TypeId} {x y z : Array Value} (hk : W.heap.size = k) : Whole (((W.alloc (.cells x t)).alloc (.cells y t')).alloc (.cells z t'')) (k + 1) t' y := by
  subst hk
  have := (Whole.new (W.alloc (.cells x t)) t' y).alloc (.cells z t'')
  simpa using this
theorem three3 {W : World} {k : Nat} {t t' t'' : TypeId} {x y z : Array Value} (hk : W.heap.size = k) : Whole (((W.alloc (.cells x t)).alloc (.cells y t')).alloc (.cells z t'')) (k + 1 + 1) t'' z := by
  subst hk
  have := Whole.new ((W.alloc (.cells x t)).alloc (.cells y t')) t'' z
  simpa using this
structure T3 (w W : World) (B1 B2 B3 : Nat) (n1 : Bool) (s1 : ByteArray) (e1 : Int) (n2 : Bool) (s2 : ByteArray) (e2 : Int) (n3 : Bool) (s3 : ByteArray) (e3 : Int) : Prop where
  one : Whole W B1 23 #[.bool n1, .string s1, .int .i64 e1]
  two : Whole W B2 23 #[.bool n2, .string s2, .int .i64 e2]
  three : Whole W B3 23 #[.bool n3, .string s3, .int .i64 e3]
  below : Below w.heap.size w W
section
variable {w W : World} {B1 B2 B3 : Nat} {n1 n2 n3 : Bool} {s1 s2 s3 : ByteArray} {e1 e2 e3 : Int}
theorem T3.call {W' : World} (h : T3 w W B1 B2 B3 n1 s1 e1 n2 s2 e2 n3 s3 e3) (hb : Below W.heap.size W W') : T3 w W' B1 B2 B3 n1 s1 e1 n2 s2 e2 n3 s3 e3 :=
  ⟨h.one.below hb h.one.lt, h.two.below hb h.two.lt, h.three.below hb h.three.lt, below_then h.below hb⟩
theorem T3.alloc (h : T3 w W B1 B2 B3 n1 s1 e1 n2 s2 e2 n3 s3 e3) (o : Obj) : T3 w (W.alloc o) B1 B2 B3 n1 s1 e1 n2 s2 e2 n3 s3 e3 :=
  ⟨h.one.alloc o, h.two.alloc o, h.three.alloc o, h.below.alloc h.below.size o⟩
theorem T3.drew (h : T3 w W B1 B2 B3 n1 s1 e1 n2 s2 e2 n3 s3 e3) : T3 w W.drew B1 B2 B3 n1 s1 e1 n2 s2 e2 n3 s3 e3 := ⟨h.one.drew, h.two.drew, h.three.drew, h.below.drew⟩
theorem T3.cells (h : T3 w W B1 B2 B3 n1 s1 e1 n2 s2 e2 n3 s3 e3) : (W.cell? ⟨B1, 0, none⟩ = some (.bool n1) ∧ W.cell? ⟨B1, 1, none⟩ = some (.string s1) ∧ W.cell? ⟨B1, 2, none⟩ = some (.int .i64 e1)) ∧ (W.cell? ⟨B2, 0, none⟩ = some (.bool n2) ∧ W.cell? ⟨B2, 1, none⟩ = some (.string s2) ∧ W.cell? ⟨B2, 2, none⟩ = some (.int .i64 e2)) ∧ W.cell? ⟨B3, 0, none⟩ = some (.bool n3) ∧ W.cell? ⟨B3, 1, none⟩ = some (.string s3) ∧ W.cell? ⟨B3, 2, none⟩ = some (.int .i64 e3) := ⟨h.one.c3, h.two.c3, h.three.c3⟩
end
end Go.Proofs.YtcnfgcdbjofihaaDoor
