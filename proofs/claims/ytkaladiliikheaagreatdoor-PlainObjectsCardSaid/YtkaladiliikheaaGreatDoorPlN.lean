/- The law 'PlainObjects' over an array of one element: what is known by heart. -/
import Derived.Test.YtkaladiliikheaaGreatDoorPlO
set_option linter.unusedVariables false
set_option linter.unusedSectionVars false
namespace Go.Proofs.YtkaladiliikheaaGreatDoor.plain
open Go.Eng
set_option maxRecDepth 100000
/-- Nothing is asked of numbers that are not known. -/
@[reducible] noncomputable def orcI : Orc := ⟨fun _ _ _ => none⟩
/-! ### The run -/
noncomputable def E0i (f : Nat) : List Value → S → R := @evF orcI Tryz.prog (fun _ => none) (L0 100000) 300 f
noncomputable def v219i : Value := vo (E0i 219 [] (emp 4))
theorem hv219i : hv (E0i 219 [] (emp 4)) = true := by kernel_rfl
noncomputable def hook0i (f : Nat) : Option (List Value → S → R) := Bool.rec (motive := fun _ => Option (List Value → S → R)) none (some (memo [([], v219i)] (E0i 219))) (Nat.beq f 219)
noncomputable def E1i (f : Nat) : List Value → S → R := @evF orcI Tryz.prog hook0i (L0 100000) 300 f
noncomputable def v190i (k : Int) : Value := vo (E1i 190 [.int .i64 k] (emp 4))
theorem ihv190_1 : hv (E1i 190 [.int .i64 1] (emp 4)) = true := by kernel_rfl
theorem ihv190_25 : hv (E1i 190 [.int .i64 25] (emp 4)) = true := by kernel_rfl
theorem ihv190_4 : hv (E1i 190 [.int .i64 4] (emp 4)) = true := by kernel_rfl
theorem ihv190_3 : hv (E1i 190 [.int .i64 3] (emp 4)) = true := by kernel_rfl
theorem ihv190_36 : hv (E1i 190 [.int .i64 36] (emp 4)) = true := by kernel_rfl
theorem ihv190_27 : hv (E1i 190 [.int .i64 27] (emp 4)) = true := by kernel_rfl
theorem ihv190_26 : hv (E1i 190 [.int .i64 26] (emp 4)) = true := by kernel_rfl
theorem ihv190_35 : hv (E1i 190 [.int .i64 35] (emp 4)) = true := by kernel_rfl
theorem ihv190_28 : hv (E1i 190 [.int .i64 28] (emp 4)) = true := by kernel_rfl
theorem ihv190_21 : hv (E1i 190 [.int .i64 21] (emp 4)) = true := by kernel_rfl
theorem ib216_0 : isV (.bool false) (E0i 216 [.int .i64 0] (emp 4)) = true := by kernel_rfl
theorem ib216_1 : isV (.bool false) (E0i 216 [.int .i64 1] (emp 4)) = true := by kernel_rfl
theorem ib216_3 : isV (.bool false) (E0i 216 [.int .i64 3] (emp 4)) = true := by kernel_rfl
theorem ib216_6 : isV (.bool false) (E0i 216 [.int .i64 6] (emp 4)) = true := by kernel_rfl
theorem ib191_1 : isV (.bool false) (E0i 191 [.int .i64 1] (emp 4)) = true := by kernel_rfl
theorem ib191_25 : isV (.bool false) (E0i 191 [.int .i64 25] (emp 4)) = true := by kernel_rfl
theorem ib191_4 : isV (.bool false) (E0i 191 [.int .i64 4] (emp 4)) = true := by kernel_rfl
theorem ib191_3 : isV (.bool false) (E0i 191 [.int .i64 3] (emp 4)) = true := by kernel_rfl
theorem ib191_36 : isV (.bool false) (E0i 191 [.int .i64 36] (emp 4)) = true := by kernel_rfl
theorem ib191_27 : isV (.bool false) (E0i 191 [.int .i64 27] (emp 4)) = true := by kernel_rfl
theorem ib191_26 : isV (.bool false) (E0i 191 [.int .i64 26] (emp 4)) = true := by kernel_rfl
theorem ib191_35 : isV (.bool false) (E0i 191 [.int .i64 35] (emp 4)) = true := by kernel_rfl
theorem ib191_28 : isV (.bool false) (E0i 191 [.int .i64 28] (emp 4)) = true := by kernel_rfl
theorem ib191_21 : isV (.bool true) (E0i 191 [.int .i64 21] (emp 4)) = true := by kernel_rfl
theorem ib221_0 : isV (.int .i64 0) (E0i 221 [.int .u64 0] (emp 4)) = true := by kernel_rfl
theorem ib221_1 : isV (.int .i64 1) (E0i 221 [.int .u64 1] (emp 4)) = true := by kernel_rfl
noncomputable def tabAi : Tab := [
  (11, [([], .bool true)]),
  (12, [([tk 2], tk 6)]),
  (13, [([tk 0, .int .i64 1000], .int .i64 0), ([tk 1, .int .i64 1], .int .i64 0)])]
noncomputable def tabBi : Tab := [
  (190, [([.int .i64 1], v190i 1), ([.int .i64 25], v190i 25), ([.int .i64 4], v190i 4), ([.int .i64 3], v190i 3), ([.int .i64 36], v190i 36), ([.int .i64 27], v190i 27), ([.int .i64 26], v190i 26), ([.int .i64 35], v190i 35), ([.int .i64 28], v190i 28), ([.int .i64 21], v190i 21)]),
  (191, [([.int .i64 1], .bool false), ([.int .i64 25], .bool false), ([.int .i64 4], .bool false), ([.int .i64 3], .bool false), ([.int .i64 36], .bool false), ([.int .i64 27], .bool false), ([.int .i64 26], .bool false), ([.int .i64 35], .bool false), ([.int .i64 28], .bool false), ([.int .i64 21], .bool true)]),
  (216, [([.int .i64 0], .bool false), ([.int .i64 1], .bool false), ([.int .i64 3], .bool false), ([.int .i64 6], .bool false)]),
  (221, [([.int .u64 0], .int .i64 0), ([.int .u64 1], .int .i64 1)]),
  (219, [([], v219i)]),
  (217, [])]
noncomputable def hookLi (t : Tab) (f : Nat) : Option (List Value → S → R) := List.rec (motive := fun _ => Option (List Value → S → R)) none (fun y _ ih => Bool.rec (motive := fun _ => Option (List Value → S → R)) ih (some (memo y.2 (E0i y.1))) (Nat.beq f y.1)) t
noncomputable def hookI (f : Nat) : Option (List Value → S → R) :=
  Bool.rec (motive := fun _ => Option (List Value → S → R))
    (Bool.rec (motive := fun _ => Option (List Value → S → R))
      (Bool.rec (motive := fun _ => Option (List Value → S → R)) (hookLi tabBi f) (Bool.rec (motive := fun _ => Option (List Value → S → R)) none none (Nat.beq f 171)) (Nat.ble f 189))
      none (Nat.ble f 170))
    (hookLi tabAi f) (Nat.ble f 13)
end Go.Proofs.YtkaladiliikheaaGreatDoor.plain
