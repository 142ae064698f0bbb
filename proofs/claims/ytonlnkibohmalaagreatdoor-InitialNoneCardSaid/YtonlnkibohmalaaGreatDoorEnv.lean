/- The environment of the evaluator over this seat's program: its tables, two variables' rows; no condition. -/
import Derived.Test.YtonlnkibohmalaaGreatDoorProg
import Derived.Test.YtonlnkibohmalaaGreatDoorEv11
import Derived.KernelRfl
set_option linter.unusedVariables false
set_option linter.unusedSimpArgs false
namespace Go.Proofs.YtonlnkibohmalaaGreatDoor.K35
open Go.Ev Go.RowKit
def g0 : T AV := (.n (.n (.n (.n .e (some (.int .u32 (1541459225))) .e) (some (.int .u32 (2773480762))) .e) (some (.int .u32 (3144134277))) (.n .e (some (.int .u32 (2600822924))) .e)) (some (.int .u32 (1779033703))) (.n (.n .e (some (.int .u32 (1359893119))) .e) (some (.int .u32 (1013904242))) (.n .e (some (.int .u32 (528734635))) .e)))
def g1 : T AV := (.n (.n (.n (.n (.n (.n (.n .e (some (.int .u32 (3329325298))) .e) (some (.int .u32 (338241895))) .e) (some (.int .u32 (3248222580))) (.n .e (some (.int .u32 (275423344))) .e)) (some (.int .u32 (2870763221))) (.n (.n .e (some (.int .u32 (2456956037))) .e) (some (.int .u32 (1996064986))) (.n .e (some (.int .u32 (1747873779))) .e))) (some (.int .u32 (3921009573))) (.n (.n (.n .e (some (.int .u32 (1396182291))) .e) (some (.int .u32 (604807628))) (.n .e (some (.int .u32 (883997877))) .e)) (some (.int .u32 (1426881987))) (.n (.n .e (some (.int .u32 (3345764771))) .e) (some (.int .u32 (3210313671))) (.n .e (some (.int .u32 (2361852424))) .e)))) (some (.int .u32 (1899447441))) (.n (.n (.n (.n .e (some (.int .u32 (773529912))) .e) (some (.int .u32 (4022224774))) (.n .e (some (.int .u32 (506948616))) .e)) (some (.int .u32 (310598401))) (.n (.n .e (some (.int .u32 (2820302411))) .e) (some (.int .u32 (2821834349))) (.n .e (some (.int .u32 (2024104815))) .e))) (some (.int .u32 (1508970993))) (.n (.n (.n .e (some (.int .u32 (1986661051))) .e) (some (.int .u32 (1249150122))) (.n .e (some (.int .u32 (1322822218))) .e)) (some (.int .u32 (2162078206))) (.n (.n .e (some (.int .u32 (3600352804))) .e) (some (.int .u32 (3584528711))) (.n .e (some (.int .u32 (2756734187))) .e))))) (some (.int .u32 (1116352408))) (.n (.n (.n (.n (.n .e (some (.int .u32 (666307205))) .e) (some (.int .u32 (3835390401))) (.n .e (some (.int .u32 (430227734))) .e)) (some (.int .u32 (3624381080))) (.n (.n .e (some (.int .u32 (2730485921))) .e) (some (.int .u32 (2554220882))) (.n .e (some (.int .u32 (1955562222))) .e))) (some (.int .u32 (961987163))) (.n (.n (.n .e (some (.int .u32 (1695183700))) .e) (some (.int .u32 (770255983))) (.n .e (some (.int .u32 (958139571))) .e)) (some (.int .u32 (1925078388))) (.n (.n .e (some (.int .u32 (3516065817))) .e) (some (.int .u32 (3336571891))) (.n .e (some (.int .u32 (2428436474))) .e)))) (some (.int .u32 (3049323471))) (.n (.n (.n (.n .e (some (.int .u32 (1294757372))) .e) (some (.int .u32 (264347078))) (.n .e (some (.int .u32 (659060556))) .e)) (some (.int .u32 (607225278))) (.n (.n .e (some (.int .u32 (3259730800))) .e) (some (.int .u32 (2952996808))) (.n .e (some (.int .u32 (2227730452))) .e))) (some (.int .u32 (2453635748))) (.n (.n (.n .e (some (.int .u32 (2177026350))) .e) (some (.int .u32 (1555081692))) (.n .e (some (.int .u32 (1537002063))) .e)) (some (.int .u32 (2614888103))) (.n (.n .e (some (.int .u32 (4094571909))) .e) (some (.int .u32 (113926993))) (.n .e (some (.int .u32 (3204031479))) .e))))))
noncomputable def ext : T Ext := T.upd .e 433 extIndexByte
noncomputable def E : Env := envOf Tryz.prog 10 12 ext .e
noncomputable def glob (e0 e1 : Nat) : List GR := [⟨0, e0, 8, g0⟩, ⟨1, e1, 64, g1⟩]
noncomputable def con (e0 e1 : Nat) : T Ext := T.upd .e 6 (boolX (glob e0 e1))
noncomputable def E' (e0 e1 : Nat) : Env := envOf Tryz.prog 10 12 ext (con e0 e1)
noncomputable def mem1 (e0 e1 : Nat) : T AB := T.upd (T.upd (memG (glob e0 e1)) 12 (.row 29 10 .e [.unk] 0 0)) 13 (.row 43 18 .e [.unk] 0 0)
noncomputable def rest3 : Code := match Tryz.f3.body with | some (.seq _ (.seq _ b)) => b | _ => .skip
end Go.Proofs.YtonlnkibohmalaaGreatDoor.K35

namespace Go.Proofs.YtonlnkibohmalaaGreatDoor.K35
open Go.Ev Go.RowKit
theorem names : (Tryz.prog.funcs.toList.all fun fn => !(fn.name == "runtime.NumGoroutine")) = true := by kernel_rfl
theorem mixed : Tryz.prog.follows .mixedOrders = true := by kernel_rfl
theorem at433 : ExtAt Tryz.prog 433 Extern.BytealgIndexByte.indexByte := ⟨_, Tryz.func433, by kernel_rfl, by kernel_rfl, by kernel_rfl, by kernel_rfl⟩
theorem ext_get {f : Nat} {x : Ext} (h : ext.get f = some x) : f = 433 ∧ x = extIndexByte := by
  unfold ext at h
  rw [T.get_upd] at h
  split at h
  · rename_i e; cases h; exact ⟨e, rfl⟩
  · rw [T.get_e] at h; cases h
theorem envok : EnvOk Tryz.prog E := by
  refine envOf_ok (fun fn hf => ?_) (fun f x h => ?_)
  · have := List.all_eq_true.1 names fn hf
    simpa using this
  · obtain ⟨rfl, rfl⟩ := ext_get h
    exact extIndexByte_ok at433
theorem envshot : EnvShot E := ⟨fun f x h => by
  have h : ext.get f = some x := h
  obtain ⟨rfl, rfl⟩ := ext_get h
  exact sIndexByte⟩
theorem nocon : ∀ f x, E.con.get f = some x → ConOk Tryz.prog E f x := by
  intro f x h
  have h : (T.e : T Ext).get f = some x := h
  rw [T.get_e] at h; cases h
end Go.Proofs.YtonlnkibohmalaaGreatDoor.K35

