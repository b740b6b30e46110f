/- The engine, part X3: numbers, in the words of printed propositions. -/
import Derived.Test.YtkaladiliikheaaGreatDoorEngX2
import Derived.IntWalk
set_option linter.unusedVariables false
set_option linter.unusedSectionVars false
set_option linter.unusedSimpArgs false
namespace Go.Eng
open Go

section
variable {k : IntKind} {x y : Int}
theorem ar_add : ar .add (.int k x) (.int k y) = some (.int k (k.wrap (x + y))) := by simp [ar, iop, Op.intArith, pureV]; rfl
theorem ar_sub : ar .sub (.int k x) (.int k y) = some (.int k (k.wrap (x - y))) := by simp [ar, iop, Op.intArith, pureV]; rfl
theorem ar_mul : ar .mul (.int k x) (.int k y) = some (.int k (k.wrap (x * y))) := by simp [ar, iop, Op.intArith, pureV]; rfl
theorem ar_lss : ar .lss (.int k x) (.int k y) = some (.bool (decide (x < y))) := by simp [ar, iop, Op.intCmp, pureV]; rfl
theorem ar_leq : ar .leq (.int k x) (.int k y) = some (.bool (decide (x ≤ y))) := by simp [ar, iop, Op.intCmp, pureV]; rfl
theorem ar_gtr : ar .gtr (.int k x) (.int k y) = some (.bool (decide (x > y))) := by simp [ar, iop, Op.intCmp, pureV]; rfl
theorem ar_geq : ar .geq (.int k x) (.int k y) = some (.bool (decide (x ≥ y))) := by simp [ar, iop, Op.intCmp, pureV]; rfl
theorem eqI_num : eqI (.int k x) (.int k y) = some (.bool (x == y)) := by simp [eqI]
theorem ar_and_u64 {a b : Nat} (ha : a < 18446744073709551616) (hb : b < 18446744073709551616) : ar .and (.int .u64 a) (.int .u64 b) = some (.int .u64 ((a &&& b : Nat) : Int)) := by
  have h1 : (a &&& b) ≤ a := Nat.and_le_left
  have e : (BitVec.ofInt 64 (a : Int) &&& BitVec.ofInt 64 (b : Int)).toNat = (a &&& b) := by
    rw [BitVec.toNat_and, BitVec.toNat_ofInt, BitVec.toNat_ofInt]
    congr 1 <;> omega
  show (pureV (Op.intBits .and .u64 a b)) = _
  have e2 : Op.intBits .and .u64 (a : Int) (b : Int) = pure (.int .u64 (IntKind.u64.wrap ((BitVec.ofInt 64 (a : Int) &&& BitVec.ofInt 64 (b : Int)).toNat : Int))) := rfl
  rw [e2, e, IntWalk.u64_in _ (by omega)]
  rfl
theorem ar_shr {k' : IntKind} {n : Nat} (hn : n ≤ k.bits) : ar .shr (.int k x) (.int k' (n : Int)) = some (.int k (x.fdiv (2 ^ n))) := by
  show pureV (Op.shift .shr k x .i64 (n : Int)) = _
  have e : Op.shift .shr k x .i64 (n : Int) = pure (.int k (x.fdiv (2 ^ (min (n : Int).toNat k.bits)))) := by
    unfold Op.shift
    rw [if_neg (by omega)]
  rw [e, Int.toNat_natCast, Nat.min_eq_left hn]
  rfl
theorem cvI_num {k' : IntKind} : cvI k (.int k' x) = some (.int k (k.wrap x)) := rfl
end
theorem ext_0 (a b : Value) : ext 0 (.tuple ⟨[a, b]⟩) = some a := rfl
theorem ext_1 (a b : Value) : ext 1 (.tuple ⟨[a, b]⟩) = some b := rfl
end Go.Eng
