/- The kernel runs known() of law 35 by the evaluator: it answers true; the two variables sha.start and sha.constants hold their rows. -/
import Derived.Test.YtonlnkibohmalaaGreatDoorEnv
set_option linter.unusedVariables false
set_option linter.unusedSimpArgs false
namespace Go.Proofs.YtonlnkibohmalaaGreatDoor.K35
open Go.Ev Go.RowKit
theorem known_run (e0 e1 : Nat) : (runF E 100000).call 6 [] (memG (glob e0 e1)) 12 yesK = true := by kernel_rfl
end Go.Proofs.YtonlnkibohmalaaGreatDoor.K35

