/- The law 'PlainObjects' over an array of one element: the whole run. -/
import Derived.Test.YtkaladiliikheaaGreatDoorPlN1
set_option linter.unusedVariables false
set_option linter.unusedSectionVars false
namespace Go.Proofs.YtkaladiliikheaaGreatDoor.plain
open Go.Eng
set_option maxRecDepth 100000
noncomputable def hookQ (f : Nat) : Option (List Value → S → R) := Bool.rec (motive := fun _ => Option (List Value → S → R)) (hookI f) (some (memoS iL iS0 iV iS1)) (Nat.beq f 14)
noncomputable def runQ : R := @evF orcI Tryz.prog hookQ (L0 100000) 300 7 [tk 0, tk 1, tk 2] (emp 4)
theorem objQ : okT runQ = true := by kernel_rfl
end Go.Proofs.YtkaladiliikheaaGreatDoor.plain
