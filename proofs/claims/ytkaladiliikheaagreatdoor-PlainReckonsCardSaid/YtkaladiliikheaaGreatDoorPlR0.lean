/- The law 'PlainReckons' over numbers that are not known: which functions' answers are known by heart. -/
import Derived.Test.YtkaladiliikheaaGreatDoorPlBase
set_option linter.unusedVariables false
set_option linter.unusedSectionVars false
namespace Go.Proofs.YtkaladiliikheaaGreatDoor.plain
open Go.Eng
set_option maxRecDepth 100000
/-- A number that is not known. -/
def tk (k : Nat) : Value := .float .f64 k
section
variable [Toks]
/-- 0, 1, 2: what the law was given; 3, 4: the first two, wrapped; 5 to 9: their sum, difference, product, quotient, rest. 'k': which operation; 'z': is the second 0? -/
noncomputable def tabR (k : Int) (z : Bool) : Tab := [
  (219, [([], v219)]),
  (217, [([tk 3], .bool true), ([tk 4], .bool true)]),
  (11, [([], .bool true)]),
  (12, [([tk 0], tk 3), ([tk 1], tk 4)]),
  (13, [([tk 2, .int .i64 5], .int .i64 k)]),
  (17, [([tk 3, tk 4], tk 5)]),
  (18, [([tk 3, tk 4], tk 6)]),
  (19, [([tk 3, tk 4], tk 7)]),
  (20, [([tk 3, tk 4], .tuple (bif z then #[.int .i64 0, .bool false] else #[tk 8, .bool true]))]),
  (21, [([tk 3, tk 4], .tuple (bif z then #[.int .i64 0, .bool false] else #[tk 9, .bool true]))])]
theorem reck0 (z : Bool) : okT (ET (tabR 0 z) 3 [tk 0, tk 1, tk 2] (emp 4)) = true := by kernel_rfl
end
end Go.Proofs.YtkaladiliikheaaGreatDoor.plain
