/- What the small functions on numbers come to: Add, Sub, Mul, Div, Rem, Is of the program; Wrap of the reference; pick of the laws. -/
import Derived.Test.YtkaladiliikheaaGreatDoorRows
import Derived.Test.YtkaladiliikheaaGreatDoorEngV
import Derived.WalkKit
import Derived.ProofKit
import Derived.OpenShut
set_option linter.unusedVariables false
set_option linter.unusedSectionVars false
namespace Go.Proofs.YtkaladiliikheaaGreatDoor.plain
open Go.ChangeShapes Go.WideShapes Go.ChangeAt Go.RowKit

/-- A call that computes, whatever the world. -/
def Comp (f : Nat) (l : List Value) (v : Value) : Prop := ∀ w : World, Calls Tryz.prog f ⟨l⟩ w fun e w' => e = .returned v ∧ w' = w
def In64 (n : Int) : Prop := -9223372036854775808 ≤ n ∧ n < 9223372036854775808
def Num (n : Int) : Prop := -4611686018427387904 ≤ n ∧ n ≤ 4611686018427387903
theorem in64_wrap (n : Int) : In64 (wrap64 n) := by unfold In64 wrap64; omega
theorem in64_half (n : Int) : In64 (wrap64 n / 2) := by unfold In64 wrap64; omega
theorem in64_num {n : Int} (h : Num n) : In64 n := by unfold In64; unfold Num at h; omega
theorem in64_zero : In64 0 := by unfold In64; omega
theorem u64_wrap (n : Int) : IntKind.u64.wrap n = n % 18446744073709551616 := by simp [IntKind.wrap, IntKind.bits, IntKind.signed]

theorem is_comp (x : Int) (h : Num x) : Comp 217 [.int .i64 x] (.bool true) := by
  intro w
  obtain ⟨h1, h2⟩ := h
  show Calls Tryz.prog 217 #[.int .i64 x] w _
  go_enter Tryz.func217, Tryz.ntmps217
  go_wp2
  go_ret
  exact ⟨rfl, rfl⟩
theorem add_comp (x y : Int) : ∃ r, In64 r ∧ Comp 17 [.int .i64 x, .int .i64 y] (.int .i64 r) := by
  refine ⟨wrap64 (wrap64 (x + y) * 2) / 2, in64_half _, fun w => ?_⟩
  show Calls Tryz.prog 17 #[.int .i64 x, .int .i64 y] w _
  go_enter Tryz.func17, Tryz.ntmps17
  go_wp2
  go_ret
  exact ⟨rfl, rfl⟩
theorem sub_comp (x y : Int) : ∃ r, In64 r ∧ Comp 18 [.int .i64 x, .int .i64 y] (.int .i64 r) := by
  refine ⟨wrap64 (wrap64 (x - y) * 2) / 2, in64_half _, fun w => ?_⟩
  show Calls Tryz.prog 18 #[.int .i64 x, .int .i64 y] w _
  go_enter Tryz.func18, Tryz.ntmps18
  go_wp2
  go_ret
  exact ⟨rfl, rfl⟩
theorem mul_comp (x y : Int) : ∃ r, In64 r ∧ Comp 19 [.int .i64 x, .int .i64 y] (.int .i64 r) := by
  refine ⟨wrap64 (wrap64 (x * y) * 2) / 2, in64_half _, fun w => ?_⟩
  show Calls Tryz.prog 19 #[.int .i64 x, .int .i64 y] w _
  go_enter Tryz.func19, Tryz.ntmps19
  go_wp2
  go_ret
  exact ⟨rfl, rfl⟩
theorem div_comp0 (x y : Int) (h : wrap64 (y * 2) / 2 = 0) : Comp 20 [.int .i64 x, .int .i64 y] (.tuple #[.int .i64 0, .bool false]) := by
  intro w
  show Calls Tryz.prog 20 #[.int .i64 x, .int .i64 y] w _
  go_enter Tryz.func20, Tryz.ntmps20
  go_wp2
  go_ret2
  exact ⟨rfl, rfl⟩
theorem div_comp (x y : Int) (h : wrap64 (y * 2) / 2 ≠ 0) : ∃ r, In64 r ∧ Comp 20 [.int .i64 x, .int .i64 y] (.tuple #[.int .i64 r, .bool true]) := by
  refine ⟨wrap64 (wrap64 ((wrap64 (x * 2) / 2).tdiv (wrap64 (y * 2) / 2)) * 2) / 2, in64_half _, fun w => ?_⟩
  show Calls Tryz.prog 20 #[.int .i64 x, .int .i64 y] w _
  go_enter Tryz.func20, Tryz.ntmps20
  go_wp2
  go_ret2
  exact ⟨rfl, rfl⟩
theorem rem_comp0 (x y : Int) (h : wrap64 (y * 2) / 2 = 0) : Comp 21 [.int .i64 x, .int .i64 y] (.tuple #[.int .i64 0, .bool false]) := by
  intro w
  show Calls Tryz.prog 21 #[.int .i64 x, .int .i64 y] w _
  go_enter Tryz.func21, Tryz.ntmps21
  go_wp2
  go_ret2
  exact ⟨rfl, rfl⟩
theorem in64_tmod (x y : Int) (h : In64 x) : In64 (x.tmod y) := by
  have h2 := Int.natAbs_tmod x y
  have h3 : x.natAbs % y.natAbs ≤ x.natAbs := Nat.mod_le _ _
  unfold In64 at *
  rcases Int.lt_or_le x 0 with hx | hx
  · have : x.tmod y ≤ 0 := by
      have := Int.tmod_nonneg (a := -x) y (by omega)
      rw [Int.neg_tmod] at this
      omega
    omega
  · have := Int.tmod_nonneg y hx
    omega
theorem rem_comp (x y : Int) (h : wrap64 (y * 2) / 2 ≠ 0) : ∃ r, In64 r ∧ Comp 21 [.int .i64 x, .int .i64 y] (.tuple #[.int .i64 r, .bool true]) := by
  refine ⟨(wrap64 (x * 2) / 2).tmod (wrap64 (y * 2) / 2), in64_tmod _ _ (in64_half _), fun w => ?_⟩
  show Calls Tryz.prog 21 #[.int .i64 x, .int .i64 y] w _
  go_enter Tryz.func21, Tryz.ntmps21
  go_wp2
  go_ret2
  exact ⟨rfl, rfl⟩
theorem wrap_walk1 (x : Int) (h : 4611686018427387904 ≤ (IntKind.u64.wrap x).tmod 9223372036854775808) : Comp 12 [.int .i64 x] (.int .i64 (wrap64 (IntKind.u64.wrap ((IntKind.u64.wrap x).tmod 9223372036854775808 + 9223372036854775808)))) := by
  intro w
  show Calls Tryz.prog 12 #[.int .i64 x] w _
  go_enter Tryz.func12, Tryz.ntmps12
  go_wp2
  go_ret
  exact ⟨rfl, rfl⟩
theorem wrap_walk0 (x : Int) (h : ¬ 4611686018427387904 ≤ (IntKind.u64.wrap x).tmod 9223372036854775808) : Comp 12 [.int .i64 x] (.int .i64 (wrap64 ((IntKind.u64.wrap x).tmod 9223372036854775808))) := by
  intro w
  show Calls Tryz.prog 12 #[.int .i64 x] w _
  go_enter Tryz.func12, Tryz.ntmps12
  go_wp2
  go_ret
  exact ⟨rfl, rfl⟩
theorem wrap_comp (x : Int) : ∃ r, Num r ∧ Comp 12 [.int .i64 x] (.int .i64 r) := by
  have hm : 0 ≤ (IntKind.u64.wrap x).tmod 9223372036854775808 ∧ (IntKind.u64.wrap x).tmod 9223372036854775808 < 9223372036854775808 := by
    rw [u64_wrap x, Int.tmod_eq_emod_of_nonneg (by omega)]
    omega
  by_cases h : 4611686018427387904 ≤ (IntKind.u64.wrap x).tmod 9223372036854775808
  · refine ⟨_, ?_, wrap_walk1 x h⟩
    rw [u64_wrap ((IntKind.u64.wrap x).tmod 9223372036854775808 + 9223372036854775808)]
    unfold Num wrap64
    omega
  · refine ⟨_, ?_, wrap_walk0 x h⟩
    unfold Num wrap64
    omega
theorem pick_walk1 (x n : Int) (h : x < 0) (hne : n ≠ 0) : Comp 13 [.int .i64 x, .int .i64 n] (.int .i64 ((wrap64 (-wrap64 (x + 1))).tmod n)) := by
  intro w
  show Calls Tryz.prog 13 #[.int .i64 x, .int .i64 n] w _
  go_enter Tryz.func13, Tryz.ntmps13
  go_wp2
  go_ret
  exact ⟨rfl, rfl⟩
theorem pick_walk0 (x n : Int) (h : 0 ≤ x) (hne : n ≠ 0) : Comp 13 [.int .i64 x, .int .i64 n] (.int .i64 (x % n)) := by
  intro w
  show Calls Tryz.prog 13 #[.int .i64 x, .int .i64 n] w _
  go_enter Tryz.func13, Tryz.ntmps13
  go_wp2
  go_ret
  exact ⟨rfl, rfl⟩
theorem pick_comp (x : Int) (hx : In64 x) (n : Int) (hn : 0 < n) (hn' : In64 n) : ∃ r, 0 ≤ r ∧ r < n ∧ Comp 13 [.int .i64 x, .int .i64 n] (.int .i64 r) := by
  unfold In64 at hx hn'
  have hne : n ≠ 0 := by omega
  by_cases h : x < 0
  · refine ⟨_, ?_, ?_, pick_walk1 x n h hne⟩
    · have e : wrap64 (-wrap64 (x + 1)) = -(x + 1) := by unfold wrap64; omega
      rw [e]; exact Int.tmod_nonneg _ (by omega)
    · exact Int.tmod_lt_of_pos _ hn
  · exact ⟨_, Int.emod_nonneg _ hne, Int.emod_lt_of_pos _ hn, pick_walk0 x n (by omega) hne⟩
end Go.Proofs.YtkaladiliikheaaGreatDoor.plain
