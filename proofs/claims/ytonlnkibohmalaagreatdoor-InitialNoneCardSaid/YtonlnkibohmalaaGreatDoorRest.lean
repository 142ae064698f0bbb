/- The kernel runs what stands behind the first test of InitialNone: it returns true; known() by its own contract. -/
import Derived.Test.YtonlnkibohmalaaGreatDoorEnv
set_option linter.unusedVariables false
set_option linter.unusedSimpArgs false
namespace Go.Proofs.YtonlnkibohmalaaGreatDoor.K35
open Go.Ev Go.RowKit
noncomputable def tops (n : Nat) : T AV := Nat.rec (motive := fun _ => T AV) .e (fun i t => T.upd t i .top) n
noncomputable def t3 : T AV := T.upd (T.upd (tops 32) 2 (.ptr 12 0)) 3 (.ptr 13 0)
noncomputable def retTrue : XK := fun x t ds _ _ => match x, ds with | .ret, [] => (match t.get 4 with | some (.bool b) => b | _ => false) | _, _ => false
theorem rest_true (e0 e1 : Nat) : (runF (E' e0 e1) 100000).exec 125 none rest3 t3 [] (mem1 e0 e1) 14 retTrue = true := by kernel_rfl
end Go.Proofs.YtonlnkibohmalaaGreatDoor.K35

