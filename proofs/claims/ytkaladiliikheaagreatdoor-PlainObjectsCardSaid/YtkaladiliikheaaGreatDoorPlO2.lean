/- The law 'PlainObjects' over an array of two or more elements: the whole run. -/
import Derived.Test.YtkaladiliikheaaGreatDoorPlO1
set_option linter.unusedVariables false
set_option linter.unusedSectionVars false
namespace Go.Proofs.YtkaladiliikheaaGreatDoor.plain
open Go.Eng
set_option maxRecDepth 100000
noncomputable def hookP (f : Nat) : Option (List Value → S → R) := Bool.rec (motive := fun _ => Option (List Value → S → R)) (hookO f) (some (memoS oL oS0 oV oS1)) (Nat.beq f 14)
noncomputable def runP : R := @evF orcO Tryz.prog hookP (LX 100000 12 13 4) 300 7 [tk 0, tk 1, tk 2] (emp 4)
theorem objP : okT runP = true := by kernel_rfl
end Go.Proofs.YtkaladiliikheaaGreatDoor.plain
