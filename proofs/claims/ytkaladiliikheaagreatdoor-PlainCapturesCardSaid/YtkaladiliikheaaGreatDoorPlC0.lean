/- The law 'PlainCaptures' over numbers that are not known: which functions' answers are known by heart; the run. -/
import Derived.Test.YtkaladiliikheaaGreatDoorPlBase
set_option linter.unusedVariables false
set_option linter.unusedSectionVars false
namespace Go.Proofs.YtkaladiliikheaaGreatDoor.plain
open Go.Eng
set_option maxRecDepth 100000
/-- A number that is not known. -/
def tk (k : Nat) : Value := .float .f64 k
section
variable [Toks]
/-- 0, 1, 2: what the law was given; 3, 4, 5: the same, wrapped; 6, 7: the first less the third, the second less the third. -/
noncomputable def tabC : Tab := [
  (219, [([], v219)]),
  (217, [([tk 3], .bool true), ([tk 4], .bool true), ([tk 5], .bool true)]),
  (11, [([], .bool true)]),
  (12, [([tk 0], tk 3), ([tk 1], tk 4), ([tk 2], tk 5)]),
  (18, [([tk 3, tk 5], tk 6), ([tk 4, tk 5], tk 7)])]
theorem capt : okT (ET tabC 5 [tk 0, tk 1, tk 2] (emp 4)) = true := by kernel_rfl
end
end Go.Proofs.YtkaladiliikheaaGreatDoor.plain
