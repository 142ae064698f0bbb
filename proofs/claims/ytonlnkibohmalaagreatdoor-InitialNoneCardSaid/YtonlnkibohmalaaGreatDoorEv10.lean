/- A part of the evaluator that the proof of InitialNone leans on: definitions and their soundness over the kit's laws; no condition. -/
import Derived.Test.YtonlnkibohmalaaGreatDoorEv9
import Derived.Laws.Externs
set_option linter.unusedVariables false
set_option linter.unusedSimpArgs false
/- Every part of the evaluator of code calls what follows at one place. -/
namespace Go.Ev
variable {P : Program}

theorem Shot.to1 {A B C : Type} {F : (A → B → C → Bool) → Bool} (h : Shot F) : Shot1 fun (k : A × B × C → Bool) => F fun a b c => k (a, b, c) := by
  intro k hk
  obtain ⟨a, b, c, h1, h2⟩ := h _ hk
  exact ⟨(a, b, c), h1, fun k' hk' => h2 _ hk'⟩
theorem Shot.of1 {A B C : Type} {F : (A → B → C → Bool) → Bool} (h : Shot1 fun (k : A × B × C → Bool) => F fun a b c => k (a, b, c)) : Shot F := by
  intro k hk
  obtain ⟨⟨a, b, c⟩, h1, h2⟩ := h (fun p => k p.1 p.2.1 p.2.2) hk
  exact ⟨a, b, c, h1, fun k' hk' => h2 (fun p => k' p.1 p.2.1 p.2.2) hk'⟩
/-! ### regions -/
theorem sDrawF {E : Env} {rnd : Option Nat} {hv : HV} (H : HOk P E rnd hv) (n : Nat) (ops : Array Oper) (t : T AV) (mem : T AB) (next : Nat) : Shot fun k => drawF E hv n ops t mem next k := by
  refine Shot.of1 ?_
  unfold drawF
  split
  · exact Shot1.no
  · rename_i ms hs
    refine Shot1.bind (sNat _) fun nx => ?_
    refine Shot1.bind (F := fun k => drawD E hv n next ops ops.toList 0 [] t [⟨ops.size, 0, mem, nx⟩] ms fun t is sts => k (t, is, sts)) (G := fun (d : T AV × List DI × List DSt) (k : T AV × T AB × Nat → Bool) => match d.2.2 with
      | s :: _ => addL (fun d => !tb s.hm d.idx) next d.2.1 s.mem fun M => k (d.1, M, s.next)
      | [] => false) (sDrawD H _ _ _ _ _ _ _ _ _) fun d => ?_
    obtain ⟨t, is, sts⟩ := d
    cases sts with
    | nil => exact Shot1.no
    | cons s sts => exact Shot1.bind (sAddL _ _ _ _) fun M => Shot1.ret _

abbrev T5 := AX × T AV × List AD × T AB × Nat
abbrev kk {D : Type} (k : T5 → D) : AX → T AV → List AD → T AB → Nat → D := fun x t ds mem next => k (x, t, ds, mem, next)

theorem sOpsX {E : Env} {rnd : Option Nat} {hv : HV} (H : HOk P E rnd hv) (n : Nat) (ops : List Oper) (l : List Oper) : ∀ t ds mem next, Shot1 fun (k : T5 → Bool) => opsX E hv n ops l t ds mem next (kk k) := by
  induction l with
  | nil => intro t ds mem next; exact Shot1.ret _
  | cons o l ih =>
    intro t ds mem next
    show Shot1 fun (k : T5 → Bool) => guardA ops t o.guard fun wanted =>
      bif wanted then hv (aev E.G t) o mem next fun h mem next => (match h with
        | .val a => putT n t o.dst a fun t => opsX E hv n ops l t ds mem next (kk k)
        | .pnc c => kk k (.pnc c) t ds mem next
        | .dfr d => putT n t o.dst (.tup []) fun t => opsX E hv n ops l t (d :: ds) mem next (kk k))
      else putT n t o.dst (.tup []) fun t => opsX E hv n ops l t ds mem next (kk k)
    refine Shot1.bind (sGuard _ _ _) fun wanted => Shot1.bif (Shot.bd (H.shot _ _ _ _) fun hx mem next => ?_) (Shot1.bind (sPutT _ _ _ _) fun t => ih _ _ _ _)
    cases hx with
    | val a => exact Shot1.bind (sPutT _ _ _ _) fun t => ih _ _ _ _
    | pnc c => exact Shot1.ret _
    | dfr d => exact Shot1.bind (sPutT _ _ _ _) fun t => ih _ _ _ _

/-! ### small parts -/
theorem sMkT (n : Nat) (l : List AV) : ∀ i t, Shot1 fun k => mkTK n l i t k := by
  induction l with
  | nil => intro i t; exact Shot1.ret _
  | cons a l ih =>
    intro i t
    show Shot1 fun k => bif Nat.blt i n then t.set i a fun t => natK (Nat.succ i) fun i => mkTK n l i t k else false
    exact Shot1.bif (Shot1.bind (sSet _ _ _) fun t => Shot1.bind (sNat _) fun i => ih i t) Shot1.no
theorem sResK (E : Env) (t : T AV) (mem : T AB) (l : List ResultVar) : Shot1 fun k => resK E t mem l k := by
  induction l with
  | nil => exact Shot1.ret _
  | cons r l ih =>
    cases r with
    | tmp x =>
      show Shot1 fun k => avK (tget t x) fun a => resK E t mem l fun l => k (a :: l)
      exact Shot1.bind (sAv _) fun a => Shot1.bind ih fun l => Shot1.ret _
    | cell x ty =>
      show Shot1 fun k => loadP E.ti ty (tget t x) mem fun a => resK E t mem l fun l => k (a :: l)
      exact Shot1.bind (sLoadP _ _ _ _) fun a => Shot1.bind ih fun l => Shot1.ret _
theorem sResA (E : Env) (t : T AV) (mem : T AB) (l : List ResultVar) : Shot1 fun k => resA E t mem l k := by
  unfold resA
  refine Shot1.bind (sResK _ _ _ _) fun l => ?_
  split <;> exact Shot1.ret _
theorem bRes {D : Type} (E : Env) (t : T AV) (mem : T AB) (l : List ResultVar) {G : AV → (D → Bool) → Bool} (g : ∀ a, Shot1 (G a)) : Shot1 fun k => resA E t mem l fun a => G a k :=
  Shot1.bind (F := resA E t mem l) (sResA E t mem l) g
theorem sEnd (l : Nat) (j : Option Code) (mem : T AB) : Shot1 fun k => endRoundA l j mem k := by
  unfold endRoundA
  split
  · exact sSet _ _ _
  · exact Shot1.no

abbrev T4 := AX × T AV × MD × T AB × Nat
abbrev k4 {D : Type} (k : T4 → D) : AX → T AV → MD → T AB → Nat → D := fun x t md mem next => k (x, t, md, mem, next)
theorem sOpsD {E : Env} (hS : EnvShot E) (n : Nat) (ops : List Oper) (l : List Oper) : ∀ t md mem next, Shot1 fun (k : T4 → Bool) => opsD E n ops l t md mem next (k4 k) := by
  induction l with
  | nil => intro t md mem next; exact Shot1.ret _
  | cons o l ih =>
    intro t md mem next
    simp only [opsD_cons]
    refine Shot1.bind (sGuard _ _ _) fun wanted => Shot1.bif (Shot.bd (tOp hS _ _ _ _) fun nx mem next => ?_) (Shot1.bind (sPutT _ _ _ _) fun t => ih _ _ _ _)
    cases nx with
    | val a => exact Shot1.bind (sPutT _ _ _ _) fun t => ih _ _ _ _
    | skip => exact Shot1.bind (sPutT _ _ _ _) fun t => ih _ _ _ _
    | recov =>
      dsimp only
      split
      · exact Shot1.bind (sPutT _ _ _ _) fun t => ih _ _ _ _
      · exact Shot1.bind (sPutT _ _ _ _) fun t => ih _ _ _ _
    | _ => exact Shot1.no

/-! ### the parts -/
section
variable {E : Env} {ih : M} (hM : MOk P E ih)
include hM
theorem MOk.bexec {D : Type} (n : Nat) (rnd : Option Nat) (c : Code) (t : T AV) (ds : List AD) (mem : T AB) (next : Nat) {G : AX → T AV → List AD → T AB → Nat → (D → Bool) → Bool} (g : ∀ x t ds mem next, Shot1 (G x t ds mem next)) :
    Shot1 fun k => ih.exec n rnd c t ds mem next fun x t ds mem next => G x t ds mem next k := by
  intro k hk
  obtain ⟨⟨x, t1, ds1, mem1, next1⟩, h1, h2⟩ := hM.sexec n rnd c t ds mem next (fun p => G p.1 p.2.1 p.2.2.1 p.2.2.2.1 p.2.2.2.2 k) hk
  obtain ⟨d, g1, g2⟩ := g x t1 ds1 mem1 next1 k h1
  exact ⟨d, g1, fun k' hk' => h2 (fun p => G p.1 p.2.1 p.2.2.1 p.2.2.2.1 p.2.2.2.2 k') (g2 k' hk')⟩
theorem MOk.bexecD {D : Type} (n : Nat) (c : Code) (t : T AV) (md : MD) (mem : T AB) (next : Nat) {G : AX → T AV → MD → T AB → Nat → (D → Bool) → Bool} (g : ∀ x t md mem next, Shot1 (G x t md mem next)) :
    Shot1 fun k => ih.execD n c t md mem next fun x t md mem next => G x t md mem next k := by
  intro k hk
  obtain ⟨⟨x, t1, ds1, mem1, next1⟩, h1, h2⟩ := hM.sexecD n c t md mem next (fun p => G p.1 p.2.1 p.2.2.1 p.2.2.2.1 p.2.2.2.2 k) hk
  obtain ⟨d, g1, g2⟩ := g x t1 ds1 mem1 next1 k h1
  exact ⟨d, g1, fun k' hk' => h2 (fun p => G p.1 p.2.1 p.2.2.1 p.2.2.2.1 p.2.2.2.2 k') (g2 k' hk')⟩
theorem MOk.bcallD {D : Type} (f : Nat) (args : List AV) (md : MD) (mem : T AB) (next : Nat) {G : AE → MD → T AB → Nat → (D → Bool) → Bool} (g : ∀ e md mem next, Shot1 (G e md mem next)) :
    Shot1 fun k => ih.callD f args md mem next fun e md mem next => G e md mem next k := by
  intro k hk
  obtain ⟨⟨x, md1, mem1, next1⟩, h1, h2⟩ := hM.scallD f args md mem next (fun p => G p.1 p.2.1 p.2.2.1 p.2.2.2 k) hk
  obtain ⟨d, g1, g2⟩ := g x md1 mem1 next1 k h1
  exact ⟨d, g1, fun k' hk' => h2 (fun p => G p.1 p.2.1 p.2.2.1 p.2.2.2 k') (g2 k' hk')⟩

theorem step_scall (hcon : ∀ f x, E.con.get f = some x → ConOk P E f x) (f : Nat) (args : List AV) (mem : T AB) (next : Nat) : Shot fun (k : CK) => (stepM E ih).call f args mem next k := by
  refine Shot.of1 ?_
  simp only [stepM]
  split
  · rename_i x hx; exact ((hcon f x hx).shot args mem next |>.map fun a => AE.ret a).to1
  · split
    · refine Shot1.bind (sMkT _ _ _ _) fun t => hM.bexec _ _ _ _ _ _ _ fun x t ds mem next => ?_
      cases x with
      | nrm => exact (hM.sleave _ _ _ _ _ _).to1
      | ret => exact (hM.sleave _ _ _ _ _ _).to1
      | pnc c => exact (hM.sleave _ _ _ _ _ _).to1
      | exit i => exact Shot1.no
      | goto i => exact Shot1.no
    · exact Shot1.no

theorem step_sround (l n : Nat) (t : T AV) (assign body : Code) (mem : T AB) (next : Nat) : Shot fun (k : CK) => (stepM E ih).round l n t assign body mem next k := by
  refine Shot.of1 ?_
  simp only [stepM]
  refine hM.bexec _ _ _ _ _ _ _ fun x t ds mem next => ?_
  cases x with
  | nrm =>
    dsimp only
    split
    · refine Shot1.bind (sSet _ _ _) fun mem => hM.bexec _ _ _ _ _ _ _ fun x t ds mem next => ?_
      cases x with
      | pnc c => exact Shot1.no
      | _ => exact Shot1.bind (sEnd _ _ _) fun mem => Shot1.ret _
    · exact Shot1.no
  | _ => exact Shot1.no

theorem step_sleave (rs : List ResultVar) (t : T AV) (ds : List AD) (md : MD) (mem : T AB) (next : Nat) : Shot fun (k : CK) => (stepM E ih).leave rs t ds md mem next k := by
  refine Shot.of1 ?_
  cases ds with
  | nil =>
    cases md with
    | run => exact Shot1.no
    | ret => exact bRes _ _ _ _ fun a => Shot1.ret _
    | pan c => exact Shot1.ret _
  | cons d ds =>
    cases d with
    | nil args => exact Shot1.no
    | coll b =>
      simp only [stepM]
      split
      · exact Shot1.bind (sSet _ _ _) fun mem => (hM.sleave _ _ _ _ _ _).to1
      · exact Shot1.no
    | fnc f cap args =>
      cases f with
      | func g =>
        simp only [stepM]
        refine hM.bcallD _ _ _ _ _ fun e md mem next => ?_
        cases e with
        | ret a => exact (hM.sleave _ _ _ _ _ _).to1
        | pnc c => exact (hM.sleave _ _ _ _ _ _).to1
      | _ => exact Shot1.no

theorem step_scallD (f : Nat) (args : List AV) (md : MD) (mem : T AB) (next : Nat) : Shot1 fun (k : AE × MD × T AB × Nat → Bool) => (stepM E ih).callD f args md mem next fun x md mem next => k (x, md, mem, next) := by
  simp only [stepM]
  split
  · refine Shot1.bind (sMkT _ _ _ _) fun t => hM.bexecD _ _ _ _ _ _ fun x t md mem next => ?_
    cases x with
    | nrm => exact bRes _ _ _ _ fun a => Shot1.ret _
    | ret => exact bRes _ _ _ _ fun a => Shot1.ret _
    | pnc c => exact Shot1.ret _
    | exit i => exact Shot1.no
    | goto i => exact Shot1.no
  · exact Shot1.no

theorem step_sexecD (hS : EnvShot E) (n : Nat) (c : Code) (t : T AV) (md : MD) (mem : T AB) (next : Nat) : Shot1 fun (k : T4 → Bool) => (stepM E ih).execD n c t md mem next (k4 k) := by
  have plain : ∀ c : Code, Shot1 fun (k : T4 → Bool) => ih.exec n none c t [] mem next fun x t ds mem next => (match ds with
        | [] => k4 k x t md mem next
        | _ => false) := by
    intro c
    refine hM.bexec _ _ _ _ _ _ _ fun x t ds mem next => ?_
    cases ds with
    | nil => exact Shot1.ret _
    | cons d ds => exact Shot1.no
  cases c with
  | seq a b =>
    simp only [stepM]
    refine hM.bexecD _ _ _ _ _ _ fun x t md mem next => ?_
    cases x with
    | nrm => exact hM.sexecD _ _ _ _ _ _
    | _ => exact Shot1.ret _
  | cond x y z =>
    simp only [stepM]
    split
    · exact Shot1.bif (hM.sexecD _ _ _ _ _ _) (hM.sexecD _ _ _ _ _ _)
    · exact Shot1.no
  | region id ops draw =>
    simp only [stepM]
    refine Shot1.bif (Shot1.bif Shot1.no (sOpsD hS _ _ _ _ _ _ _)) (plain _)
  | _ => exact plain _

theorem step_sexec (hE : EnvOk P E) (hS : EnvShot E) (n : Nat) (rnd : Option Nat) (c : Code) (t : T AV) (ds : List AD) (mem : T AB) (next : Nat) : Shot1 fun (k : T5 → Bool) => (stepM E ih).exec n rnd c t ds mem next (kk k) := by
  have hH := heavyX_hok hE hS hM rnd
  cases c with
  | skip => exact Shot1.ret _
  | label l => exact Shot1.ret _
  | exit l => exact Shot1.ret _
  | goto l => exact Shot1.ret _
  | ret => exact Shot1.ret _
  | refuse s => exact Shot1.no
  | seq a b =>
    simp only [stepM]
    refine hM.bexec _ _ _ _ _ _ _ fun x t ds mem next => ?_
    cases x with
    | nrm => exact hM.sexec _ _ _ _ _ _ _
    | _ => exact Shot1.ret _
  | cond x y z =>
    simp only [stepM]
    split
    · exact Shot1.bif (hM.sexec _ _ _ _ _ _ _) (hM.sexec _ _ _ _ _ _ _)
    · exact Shot1.no
  | block id b =>
    simp only [stepM]
    refine hM.bexec _ _ _ _ _ _ _ fun x t ds mem next => ?_
    cases x with
    | exit i => exact Shot1.bif (Shot1.ret _) (Shot1.ret _)
    | _ => exact Shot1.ret _
  | loop b =>
    simp only [stepM]
    refine hM.bexec _ _ _ _ _ _ _ fun x t ds mem next => ?_
    cases x with
    | nrm => exact hM.sexec _ _ _ _ _ _ _
    | _ => exact Shot1.ret _
  | scope b =>
    simp only [stepM]
    refine hM.bexec _ _ _ _ _ _ _ fun x t ds mem next => ?_
    cases x with
    | goto i => exact Shot1.no
    | _ => exact Shot1.ret _
  | region id ops draw =>
    simp only [stepM]
    exact Shot1.bif (Shot.bd (sDrawF hH _ _ _ _ _) fun t mem next => Shot1.ret _) (sOpsX hH _ _ _ _ _ _ _)
  | rangeFunc g ps assign body =>
    simp only [stepM]
    split
    · rename_i f first cap hg
      have go : ∀ (d l : Nat) (ds : List AD) (mem : T AB), Shot1 fun (k : T5 → Bool) => mem.set l (.loop .ready none 0 n t ps assign body d) fun mem => natK (Nat.succ l) fun next => rangeK ih n rnd f first cap l t ds mem next (kk k) := by
        intro d l ds mem
        refine Shot1.bind (sSet _ _ _) fun mem => Shot1.bind (sNat _) fun next => ?_
        unfold rangeK
        refine Shot.bd (hM.scall _ _ _ _) fun e mem next => ?_
        cases e with
        | pnc c => exact Shot1.ret _
        | ret a =>
          dsimp only
          split
          · split
            · exact Shot1.no
            · refine Shot1.bind (sSet _ _ _) fun mem => ?_
              split
              · exact Shot1.ret _
              · exact hM.sexec _ _ _ _ _ _ _
          · exact Shot1.no
      cases rnd with
      | none =>
        dsimp only
        exact Shot1.bind (sSet _ _ _) fun mem => Shot1.bind (sNat _) fun l => go next l _ mem
      | some r =>
        dsimp only
        split
        · exact go _ next _ _
        · exact Shot1.no
    · exact Shot1.no
end
end Go.Ev

/- The evaluator of code is sound, whatever the fuel. -/
namespace Go.Ev
variable {P : Program}

theorem M0_ok (E : Env) : MOk P E M0 where
  exec := by intro _ _ _ _ _ _ _ _ _ _ _ _ _ _ _ _ hk; exact absurd (show false = true from hk) (by decide)
  sexec := fun _ _ _ _ _ _ _ => Shot1.no
  call := by intro _ _ _ _ _ _ _ _ _ _ _ _ hk; exact absurd (show false = true from hk) (by decide)
  fcall := by intro _ _ _ _ _ hk; exact absurd (show false = true from hk) (by decide)
  scall := fun _ _ _ _ => Shot.no
  round := by intro _ _ _ _ _ _ _ _ _ _ _ _ _ _ _ _ _ _ hk; exact absurd (show false = true from hk) (by decide)
  sround := fun _ _ _ _ _ _ _ => Shot.no
  leave := by intro _ _ _ _ _ _ _ _ _ _ _ _ _ _ _ _ _ hk; exact absurd (show false = true from hk) (by decide)
  sleave := fun _ _ _ _ _ _ => Shot.no
  callD := by intro _ _ _ _ _ _ _ _ _ _ _ _ _ _ hk; exact absurd (show false = true from hk) (by decide)
  fcallD := by intro _ _ _ _ _ _ hk; exact absurd (show false = true from hk) (by decide)
  scallD := fun _ _ _ _ _ => Shot1.no
  execD := by intro _ _ _ _ _ _ _ _ _ _ _ _ _ _ _ _ _ hk; exact absurd (show false = true from hk) (by decide)
  sexecD := fun _ _ _ _ _ _ => Shot1.no

theorem stepM_ok {E : Env} (hE : EnvOk P E) (hS : EnvShot E) (hcon : ∀ f x, E.con.get f = some x → ConOk P E f x) (hmix : P.follows .mixedOrders = true) {ih : M} (hM : MOk P E ih) (hL : LOk P E ih) : MOk P E (stepM E ih) where
  exec := step_exec hE hS hmix hM hL
  sexec := step_sexec hM hE hS
  call := step_call hE hcon hM
  fcall := step_fcall hcon
  scall := step_scall hM hcon
  round := step_round hM
  sround := step_sround hM
  leave := step_leave hE hM
  sleave := step_sleave hM
  callD := step_callD hE hM
  fcallD := step_fcallD
  scallD := step_scallD hM
  execD := step_execD hE hM
  sexecD := step_sexecD hM hS

theorem runM_ok {E : Env} (hE : EnvOk P E) (hS : EnvShot E) (hcon : ∀ f x, E.con.get f = some x → ConOk P E f x) (hmix : P.follows .mixedOrders = true) : ∀ n, MOk P E (runM E n) ∧ LOk P E (runM E n) := by
  intro n
  induction n with
  | zero => exact ⟨M0_ok E, ⟨by intro _ _ _ _ _ _ _ _ _ _ _ _ _ _ _ _ hk; exact absurd (show false = true from hk) (by decide)⟩⟩
  | succ n ih => exact ⟨stepM_ok hE hS hcon hmix ih.1 ih.2, step_loop ih.1 ih.2⟩
end Go.Ev

/- Functions without a Go body: the first index of a byte, a map's copy. -/
namespace Go.Ev
variable {P : Program}

structure ExtAt (P : Program) (f : Nat) (e : Array Value → Sem Value) : Prop where
  ex : ∃ fn, P.funcs[f]? = some fn ∧ (fn.name == "runtime.NumGoroutine") = false ∧ fn.body.isNone = true ∧ Extern.findNext fn = none ∧ Extern.find fn = some e

theorem idxK_spec (c : Nat) (l : List Nat) : ∀ (i : Nat) (k : Int → Bool), idxK c l i k = true →
    (∃ j, l[j]? = some c ∧ (∀ j', j' < j → l[j']? ≠ some c) ∧ k (Int.ofNat (i + j)) = true) ∨ ((∀ j : Nat, l[j]? ≠ some c) ∧ k (-1) = true) := by
  induction l with
  | nil => intro i k hk; exact .inr ⟨by simp, hk⟩
  | cons b l ih =>
    intro i k hk
    change (bif Nat.beq b c then k (Int.ofNat i) else natK (Nat.succ i) fun i => idxK c l i k) = true at hk
    cases hb : Nat.beq b c with
    | true =>
      rw [hb, cond_true] at hk
      exact .inl ⟨0, by simp [Nat.eq_of_beq_eq_true hb], by omega, hk⟩
    | false =>
      rw [hb, cond_false, natK_eq] at hk
      have hne := Nat.ne_of_beq_eq_false hb
      rcases ih _ _ hk with ⟨j, h1, h2, h3⟩ | ⟨h1, h3⟩
      · refine .inl ⟨j+1, by simpa using h1, ?_, by rw [show i + (j+1) = Nat.succ i + j by omega]; exact h3⟩
        intro j' hj'
        cases j' with
        | zero => simpa using hne
        | succ j' => simpa using h2 j' (by omega)
      · refine .inr ⟨?_, h3⟩
        intro j'
        cases j' with
        | zero => simpa using hne
        | succ j' => simpa using h1 j'
theorem sIdx (c : Nat) (l : List Nat) : ∀ i, Shot1 fun k => idxK c l i k := by
  induction l with
  | nil => intro i; exact Shot1.ret _
  | cons b l ih =>
    intro i
    show Shot1 fun k => bif Nat.beq b c then k (Int.ofNat i) else natK (Nat.succ i) fun i => idxK c l i k
    exact Shot1.bif (Shot1.ret _) (Shot1.bind (sNat _) fun i => ih i)

theorem byteAt (s : ByteArray) (c i : Nat) (hi : i < s.size) (hc : c < 256) : (s[i]! == c.toUInt8) = true ↔ (s.data.toList.map UInt8.toNat)[i]? = some c := by
  have h1 : s[i]! = s.data[i] := by
    rw [getElem!_pos s i hi]; rfl
  rw [h1]
  have hi' : i < s.data.size := hi
  simp only [List.getElem?_map, Array.getElem?_toList, Array.getElem?_eq_getElem hi', Option.map_some, Option.some.injEq, beq_iff_eq]
  constructor
  · intro h; rw [h]; simpa using Nat.mod_eq_of_lt hc
  · intro h
    apply UInt8.toNat_inj.1
    rw [h]
    simp [Nat.mod_eq_of_lt hc]

theorem extIndexByte_ok {f : Nat} (h : ExtAt P f Extern.BytealgIndexByte.indexByte) : ExtOk P f extIndexByte := by
  intro σ prot w0 m mem next w args args' k hR ha hk
  obtain ⟨fn, f1, f2, f3, f4, f5⟩ := h.ex
  unfold extIndexByte at hk
  split at hk
  · rename_i l c
    cases ha with
    | cons _ _ _ _ h1 h2 =>
      cases h2 with
      | cons _ _ _ _ h2 h3 =>
        cases h3
        cases h1 with
        | str _ s hs =>
          cases h2
          obtain ⟨hc, hk⟩ := bifT hk
          rw [Nat.blt_eq] at hc
          have hrun : (callFunc f ⟨[.string s, .int .u8 (.ofNat c)]⟩).run P w = .ok (.value (.int .i64 (firstIdx s c.toUInt8))) w := by
            rw [run_callFunc_extern f1 f2 f3 f4 f5]
            have := run_indexByte_string (P := P) s (Int.ofNat c) w
            show ((Extern.BytealgIndexByte.indexByte #[.string s, .int .u8 (Int.ofNat c)]).run P w).andThen _ = _
            rw [this]
            rfl
          rcases idxK_spec c l 0 _ hk with ⟨j, h1, h2, h3⟩ | ⟨h1, h3⟩
          · refine ⟨_, mem, next, m, w, _, h3, Nat.le_refl _, BM.ext_refl _ _ _, hR, ?_, hrun⟩
            have hj : j < s.size := by
              have := List.getElem?_eq_some_iff.1 h1
              obtain ⟨h, _⟩ := this
              rw [← hs] at h
              simpa using h
            have : firstIdx s c.toUInt8 = Int.ofNat (0 + j) := by
              unfold firstIdx
              have : (List.range s.size).find? (fun i => s[i]! == c.toUInt8) = some j := by
                rw [List.find?_range_eq_some]
                refine ⟨(byteAt s c j hj hc).2 (by rw [hs]; exact h1), by simpa using hj, ?_⟩
                intro j' hj'
                have := h2 j' hj'
                rw [← hs] at this
                have h4 : ¬ ((s[j']! == c.toUInt8) = true) := fun h => this ((byteAt s c j' (by omega) hc).1 h)
                simpa using h4
              rw [this]
              simp
            rw [this]
            exact .int _ _
          · refine ⟨_, mem, next, m, w, _, h3, Nat.le_refl _, BM.ext_refl _ _ _, hR, ?_, hrun⟩
            have : firstIdx s c.toUInt8 = -1 := by
              unfold firstIdx
              have : (List.range s.size).find? (fun i => s[i]! == c.toUInt8) = none := by
                rw [List.find?_eq_none]
                intro i hi h
                have := (byteAt s c i (by simpa using hi) hc).1 h
                rw [hs] at this
                exact h1 i this
              rw [this]
            rw [this]
            exact .int _ _
  · cases hk
theorem sIndexByte : ∀ args mem next, Shot fun k => extIndexByte args mem next k := by
  intro args mem next
  refine Shot.of1 ?_
  unfold extIndexByte
  split
  · exact Shot1.bif (Shot1.bind (sIdx _ _ _) fun i => Shot1.ret _) Shot1.no
  · exact Shot1.no

theorem extClone_ok {f : Nat} (h : ExtAt P f Extern.MapsClone.clone) : ExtOk P f extClone := by
  intro σ prot w0 m mem next w args args' k hR ha hk
  obtain ⟨fn, f1, f2, f3, f4, f5⟩ := h.ex
  unfold extClone at hk
  split at hk
  · rename_i t b
    cases ha with
    | cons _ _ _ _ h1 h2 =>
      cases h2
      cases h1 with
      | iface _ _ _ h1 =>
        cases h1 with
        | map _ r c hb =>
          split at hk
          · rename_i es clock hmem
            rw [T.set_eq] at hk
            obtain ⟨es', q1, q2⟩ := hR.blk b _ r c hmem hb
            have hx := ext_new hR 0
            have hn : (fun x => if x = next then some (w.heap.size, 0) else m x) next = some (w.heap.size, 0) := by simp
            obtain ⟨_, hR'⟩ := hR.alloc (.map es clock) 0 (.map ⟨es'⟩ clock) ⟨es', rfl, q2.mono hx.le⟩
            refine ⟨_, _, _, _, _, _, hk, Nat.le_succ _, hx, hR', .iface _ _ _ (.map _ _ _ hn), ?_⟩
            rw [run_callFunc_extern f1 f2 f3 f4 f5]
            have e : Extern.MapsClone.clone #[.iface t (.map (some r))] = (getObj r >>= fun o => match o with
              | .map entries clock => (newObj (.map entries clock) >>= fun n => pure (.iface t (.map (some n))))
              | _ => stuck "maps.clone: a map expected") := rfl
            have hg : (getObj r).run P w = .ok (.map ⟨es'⟩ clock) w := by simp [getObj, Sem.run, q1]
            show ((Extern.MapsClone.clone #[.iface t (.map (some r))]).run P w).andThen _ = _
            rw [e]
            simp [hg, Result.andThen, go_sem]
          · cases hk
  · cases hk
theorem sClone : ∀ args mem next, Shot fun k => extClone args mem next k := by
  intro args mem next
  refine Shot.of1 ?_
  unfold extClone
  split
  · split
    · exact Shot1.bind (sSet _ _ _) fun _ => Shot1.ret _
    · exact Shot1.no
  · exact Shot1.no
end Go.Ev

/- An environment out of a program's tables. -/
namespace Go.Ev

/-! ### a trie of a function's values -/
noncomputable def ofFn {α : Type} (g : Nat → Option α) (k : Nat) : Nat → Nat → T α :=
  Nat.rec (motive := fun _ => Nat → Nat → T α) (fun _ _ => .e)
    (fun _ ih a b => .n (ih (Nat.add a a) (Nat.add a b)) (g b) (ih (Nat.add a a) (Nat.add (Nat.add a a) b))) k
theorem ofFn_get {α : Type} (g : Nat → Option α) : ∀ (k a b i : Nat) (x : α), (ofFn g k a b).get i = some x → g (a * i + b) = some x := by
  intro k
  induction k with
  | zero => intro a b i x h; cases h
  | succ k ih =>
    intro a b i x h
    change (T.n (ofFn g k (a+a) (a+b)) (g b) (ofFn g k (a+a) (a+a+b))).get i = some x at h
    cases i with
    | zero => rw [T.get_n0] at h; simpa using h
    | succ i =>
      rw [T.get_ns] at h
      by_cases hp : i % 2 = 0
      · rw [if_pos hp] at h
        have := ih _ _ _ _ h
        have e : (a + a) * (i / 2) + (a + b) = a * (i + 1) + b := by
          have : i = 2 * (i / 2) := by omega
          generalize i / 2 = j at *
          subst this
          rw [Nat.add_mul, Nat.mul_add, Nat.mul_one, Nat.mul_left_comm, Nat.two_mul]; omega
        rw [e] at this; exact this
      · rw [if_neg hp] at h
        have := ih _ _ _ _ h
        have e : (a + a) * (i / 2) + (a + a + b) = a * (i + 1) + b := by
          have : i = 2 * (i / 2) + 1 := by omega
          generalize i / 2 = j at *
          subst this
          rw [Nat.add_mul, Nat.mul_add, Nat.mul_add, Nat.mul_one, Nat.mul_left_comm, Nat.two_mul]; omega
        rw [e] at this; exact this

/-! ### functions -/
def fiOf (P : Program) (f : Nat) : Option FI :=
  match P.funcs[f]? with
  | some fn => (match fn.body with
    | some b => some ⟨fn.ntmps, b, fn.results.toList⟩
    | none => none)
  | none => none
theorem fiOf_ok {P : Program} (hn : ∀ fn ∈ P.funcs.toList, (fn.name == "runtime.NumGoroutine") = false) {f : Nat} {x : FI} (h : fiOf P f = some x) : FIOk P f x := by
  unfold fiOf at h
  split at h
  · rename_i fn hf
    split at h
    · rename_i b hb
      cases h
      exact ⟨fn, hf, hb, rfl, rfl, hn fn (Array.mem_toList_iff.2 (Array.mem_of_getElem? hf))⟩
    · cases h
  · cases h

/-! ### types -/
def udOf (P : Program) : TypeDesc → Option UD
  | .bool => some .bool
  | .int k => some (.int k)
  | .string => some .str
  | .pointer e => some (.ptr e)
  | .slice e => some (.slice e)
  | .array n e => some (.arr n e)
  | .map k e => some (.map k e)
  | .struct fs => some (.strct (fs.toList.map fun f => (f.offset, f.type, P.cellsOf f.type)))
  | .func .. => some .func
  | .interface _ => some .iface
  | _ => none
theorem udOf_ok {P : Program} {d : TypeDesc} {u : UD} (h : udOf P d = some u) : UDRel P u d := by
  unfold udOf at h
  split at h <;> cases h <;> first
    | rfl
    | exact ⟨_, rfl, rfl⟩
    | exact ⟨_, _, _, rfl⟩
    | exact ⟨_, rfl⟩

noncomputable def cmpL (l : List AV) : List AV := match l with
  | a :: r => bif allR (avEq a) r then [a] else l
  | [] => []
theorem cmpL_ok (l : List AV) (j : Nat) (hj : j < l.length) : cellOf .e (cmpL l) j = l[j] := by
  have h0 : ∀ dz : List AV, cellOf .e dz j = List.getD dz (j % dz.length) .unk := fun _ => rfl
  rw [h0]
  cases l with
  | nil => simp at hj
  | cons a r =>
    have hc : cmpL (a :: r) = bif allR (avEq a) r then [a] else a :: r := rfl
    rw [hc]
    cases hb : allR (avEq a) r with
    | false =>
      rw [cond_false]
      rw [Nat.mod_eq_of_lt hj, List.getD_eq_getElem?_getD, List.getElem?_eq_getElem hj]
      rfl
    | true =>
      rw [cond_true]
      have : j % [a].length = 0 := by simp [Nat.mod_one]
      rw [this]
      show a = _
      cases j with
      | zero => rfl
      | succ j =>
        have hj' : j < r.length := by simpa using hj
        have := allR_iff.1 hb r[j] (List.getElem_mem hj')
        simpa using avEq_ok _ _ this

def valAgg : Value → Bool | .agg _ => true | _ => false
noncomputable def tiOf (P : Program) (t : Nat) : Option TI :=
  match P.info? t with
  | some i => (match P.underlying t with
    | some d => (match udOf P d with
      | some u => (match i.zero with
        | some z => (fun cl => bif Nat.beq cl.length i.size && (bif valAgg z then u.agg else bif u.agg then false else Nat.beq i.size 1) then some ⟨u, i.size, i.bytes, cmpL (cl.map ofC)⟩ else none) z.cells.toList
        | none => none)
      | none => none)
    | none => none)
  | none => none
theorem tiOf_ok {P : Program} {t : Nat} {x : TI} (h : tiOf P t = some x) : ∃ i d z, TIRel P t x i d z := by
  unfold tiOf at h
  split at h
  · rename_i i hi
    split at h
    · rename_i d hd
      split at h
      · rename_i u hu
        split at h
        · rename_i z hz
          have hb : ∀ (b : Bool) (y : TI), (bif b then some y else none) = some x → b = true ∧ y = x := by
            intro b y e; cases b with | true => exact ⟨rfl, by simpa using e⟩ | false => cases e
          obtain ⟨h1, rfl⟩ := hb _ _ h
          simp only [Bool.and_eq_true] at h1
          obtain ⟨h1, h2⟩ := h1
          have hsz := Nat.eq_of_beq_eq_true h1
          have hrel : ∀ σ m (j : Nat), j < i.size → ∃ v, z.cells[j]? = some v ∧ VRel σ m (cellOf .e (cmpL (z.cells.toList.map ofC)) j) v := by
            intro σ m j hj
            rw [← hsz] at hj
            have hj' : j < (z.cells.toList.map ofC).length := by simpa using hj
            have hj2 : j < z.cells.size := by simpa using hj
            rw [cmpL_ok _ j hj']
            refine ⟨z.cells[j], by simp [hj2], ?_⟩
            simp only [List.getElem_map, Array.getElem_toList]
            exact ofC_ok _
          refine ⟨i, d, z, hi, hd, udOf_ok hu, rfl, rfl, hz, by simpa using hsz, hrel, ?_, ?_⟩
          · intro ha
            cases z with
            | agg cs => exact ⟨cs, rfl⟩
            | _ => simp only [valAgg, cond_false] at h2; rw [show u.agg = true from ha] at h2; cases h2
          · intro ha
            have ha' : u.agg = false := ha
            have hv : valAgg z = false := by
              cases hz' : valAgg z with
              | false => rfl
              | true => rw [hz', cond_true, ha'] at h2; cases h2
            rw [hv, cond_false, ha', cond_false] at h2
            have h1' := Nat.eq_of_beq_eq_true h2
            refine ⟨h1', fun σ m => ?_⟩
            obtain ⟨v, e1, e2⟩ := hrel σ m 0 (by show 0 < i.size; omega)
            have : z.cells = #[z] := by cases z <;> first | rfl | (simp [valAgg] at hv)
            rw [this] at e1
            cases e1
            exact e2
        · cases h
      · cases h
    · cases h
  · cases h

/-! ### the environment -/
noncomputable def envOf (P : Program) (k G : Nat) (ext con : T Ext) : Env where
  ti := ofFn (tiOf P) k 1 0
  fns := ofFn (fiOf P) k 1 0
  G := G
  ext := ext
  con := con
theorem envOf_ok {P : Program} {k G : Nat} {ext con : T Ext} (hn : ∀ fn ∈ P.funcs.toList, (fn.name == "runtime.NumGoroutine") = false) (hx : ∀ f x, ext.get f = some x → ExtOk P f x) : EnvOk P (envOf P k G ext con) where
  ti := by
    intro t x h
    have := ofFn_get _ _ _ _ _ _ h
    rw [Nat.one_mul, Nat.add_zero] at this
    exact tiOf_ok this
  fns := by
    intro f x h
    have := ofFn_get _ _ _ _ _ _ h
    rw [Nat.one_mul, Nat.add_zero] at this
    exact fiOf_ok hn this
  ext := hx
end Go.Ev

/- One operation, by closed constants (printed by gen_ao.py): so the kernel need not turn every arm of a great match. -/
namespace Go.Ev
abbrev OpT := Env → (Operand → AV) → T AB → Nat → (ANx → T AB → Nat → Bool) → Bool
noncomputable def o_move (x : Operand) (E : Env) (ρ : Operand → AV) (mem : T AB) (next : Nat) (k : ANx → T AB → Nat → Bool) : Bool := avK (ρ x) fun a => k (.val a) mem next
noncomputable def o_assign (x : Operand) (E : Env) (ρ : Operand → AV) (mem : T AB) (next : Nat) (k : ANx → T AB → Nat → Bool) : Bool := avK (ρ x) fun a => k (.val a) mem next
noncomputable def o_pick (c : Operand) (a : Operand) (b : Operand) (E : Env) (ρ : Operand → AV) (mem : T AB) (next : Nat) (k : ANx → T AB → Nat → Bool) : Bool := match ρ c with | .bool c => boolK c fun c => avK (bif c then ρ a else ρ b) fun a => k (.val a) mem next | _ => false
noncomputable def o_alloc (e : Nat) (E : Env) (ρ : Operand → AV) (mem : T AB) (next : Nat) (k : ANx → T AB → Nat → Bool) : Bool := opAlloc E.ti e mem next fun a => k (.val a)
noncomputable def o_box (e : Nat) (x : Operand) (E : Env) (ρ : Operand → AV) (mem : T AB) (next : Nat) (k : ANx → T AB → Nat → Bool) : Bool := opBox e (ρ x) mem next fun a => k (.val a)
noncomputable def o_build (t : Nat) (ps : Array (Nat × Operand)) (E : Env) (ρ : Operand → AV) (mem : T AB) (next : Nat) (k : ANx → T AB → Nat → Bool) : Bool := evParts ρ ps.toList fun ps => opBuild E.ti t ps fun a => k (.val a) mem next
noncomputable def o_buildSlice (t : Nat) (l : Nat) (ps : Array (Nat × Operand)) (E : Env) (ρ : Operand → AV) (mem : T AB) (next : Nat) (k : ANx → T AB → Nat → Bool) : Bool := evParts ρ ps.toList fun ps => opBuildSlice E.ti t l ps mem next fun a => k (.val a)
noncomputable def o_insert (t : Nat) (a : Operand) (b : Operand) (c : Operand) (E : Env) (ρ : Operand → AV) (mem : T AB) (next : Nat) (k : ANx → T AB → Nat → Bool) : Bool := avK (ρ b) fun b => avK (ρ c) fun c => opMapUpdate E.ti t (ρ a) b c mem fun mem => k .skip mem next
noncomputable def o_load (t : Nat) (a : Operand) (E : Env) (ρ : Operand → AV) (mem : T AB) (next : Nat) (k : ANx → T AB → Nat → Bool) : Bool := opLoad E.ti t (ρ a) mem next fun a => k (.val a)
noncomputable def o_store (t : Nat) (a : Operand) (x : Operand) (E : Env) (ρ : Operand → AV) (mem : T AB) (next : Nat) (k : ANx → T AB → Nat → Bool) : Bool := opStore E.ti t (ρ a) (ρ x) mem fun mem => k .skip mem next
noncomputable def o_ready (g : Nat) (E : Env) (ρ : Operand → AV) (mem : T AB) (next : Nat) (k : ANx → T AB → Nat → Bool) : Bool := false
noncomputable def o_waits (g : Nat) (E : Env) (ρ : Operand → AV) (mem : T AB) (next : Nat) (k : ANx → T AB → Nat → Bool) : Bool := false
noncomputable def o_nilCheck (x : Operand) (E : Env) (ρ : Operand → AV) (mem : T AB) (next : Nat) (k : ANx → T AB → Nat → Bool) : Bool := match ρ x with | .ptr b off => k (.val (.ptr b off)) mem next | .fn (.func f) a b => k (.val (.fn (.func f) a b)) mem next | .yld l => k (.val (.yld l)) mem next | _ => false
noncomputable def o_binOp (op : BinOp) (t : Nat) (x : Operand) (y : Operand) (yt : Nat) (E : Env) (ρ : Operand → AV) (mem : T AB) (next : Nat) (k : ANx → T AB → Nat → Bool) : Bool := opBin E.ti op t x y (ρ x) (ρ y) fun a => k (.val a) mem next
noncomputable def o_unOp (op : UnOp) (t : Nat) (x : Operand) (E : Env) (ρ : Operand → AV) (mem : T AB) (next : Nat) (k : ANx → T AB → Nat → Bool) : Bool := opUn op (ρ x) fun a => k (.val a) mem next
noncomputable def o_convert (s : Nat) (d : Nat) (x : Operand) (E : Env) (ρ : Operand → AV) (mem : T AB) (next : Nat) (k : ANx → T AB → Nat → Bool) : Bool := opConv E.ti s d (ρ x) mem next fun a => k (.val a)
noncomputable def o_sliceToArrayPointer (d : Nat) (x : Operand) (E : Env) (ρ : Operand → AV) (mem : T AB) (next : Nat) (k : ANx → T AB → Nat → Bool) : Bool := false
noncomputable def o_makeInterface (t : Nat) (x : Operand) (E : Env) (ρ : Operand → AV) (mem : T AB) (next : Nat) (k : ANx → T AB → Nat → Bool) : Bool := opIface E.ti t (ρ x) fun a => k (.val a) mem next
noncomputable def o_makeFunc (fn : Fn) (first : Array Operand) (cap : Array Operand) (E : Env) (ρ : Operand → AV) (mem : T AB) (next : Nat) (k : ANx → T AB → Nat → Bool) : Bool := match fn with | .func f => evArgs ρ first.toList fun first => evArgs ρ cap.toList fun cap => k (.val (.fn (.func f) first cap)) mem next | _ => false
noncomputable def o_makeMap (t : Nat) (r : Option Operand) (E : Env) (ρ : Operand → AV) (mem : T AB) (next : Nat) (k : ANx → T AB → Nat → Bool) : Bool := match r with | none => opMakeMap mem next fun a => k (.val a) | some _ => false
noncomputable def o_makeChan (t : Nat) (s : Operand) (E : Env) (ρ : Operand → AV) (mem : T AB) (next : Nat) (k : ANx → T AB → Nat → Bool) : Bool := false
noncomputable def o_makeSlice (t : Nat) (l : Operand) (c : Operand) (E : Env) (ρ : Operand → AV) (mem : T AB) (next : Nat) (k : ANx → T AB → Nat → Bool) : Bool := opMakeSlice E.ti t (ρ l) (ρ c) mem next fun a => k (.val a)
noncomputable def o_slice (t : Nat) (x : Operand) (lo : Option Operand) (hi : Option Operand) (mx : Option Operand) (E : Env) (ρ : Operand → AV) (mem : T AB) (next : Nat) (k : ANx → T AB → Nat → Bool) : Bool := oev ρ lo fun lo => oev ρ hi fun hi => oev ρ mx fun mx => opSlice E.ti t (ρ x) lo hi mx mem fun a => k (.val a) mem next
noncomputable def o_fieldAddr (t : Nat) (x : Operand) (f : Nat) (E : Env) (ρ : Operand → AV) (mem : T AB) (next : Nat) (k : ANx → T AB → Nat → Bool) : Bool := opFieldAddr E.ti t (ρ x) f fun a => k (.val a) mem next
noncomputable def o_field (t : Nat) (x : Operand) (f : Nat) (E : Env) (ρ : Operand → AV) (mem : T AB) (next : Nat) (k : ANx → T AB → Nat → Bool) : Bool := opField E.ti t (ρ x) f fun a => k (.val a) mem next
noncomputable def o_indexAddr (t : Nat) (x : Operand) (i : Operand) (E : Env) (ρ : Operand → AV) (mem : T AB) (next : Nat) (k : ANx → T AB → Nat → Bool) : Bool := opIndexAddr E.ti t (ρ x) (ρ i) fun a => k (.val a) mem next
noncomputable def o_index (t : Nat) (x : Operand) (i : Operand) (E : Env) (ρ : Operand → AV) (mem : T AB) (next : Nat) (k : ANx → T AB → Nat → Bool) : Bool := opIndex E.ti t (ρ x) (ρ i) fun a => k (.val a) mem next
noncomputable def o_lookup (t : Nat) (x : Operand) (i : Operand) (ok : Bool) (E : Env) (ρ : Operand → AV) (mem : T AB) (next : Nat) (k : ANx → T AB → Nat → Bool) : Bool := opLookup E.ti t (ρ x) (ρ i) ok mem fun a => k (.val a) mem next
noncomputable def o_mapUpdate (t : Nat) (a : Operand) (b : Operand) (c : Operand) (E : Env) (ρ : Operand → AV) (mem : T AB) (next : Nat) (k : ANx → T AB → Nat → Bool) : Bool := avK (ρ b) fun b => avK (ρ c) fun c => opMapUpdate E.ti t (ρ a) b c mem fun mem => k .skip mem next
noncomputable def o_mapEntry (t : Nat) (a : Operand) (b : Operand) (E : Env) (ρ : Operand → AV) (mem : T AB) (next : Nat) (k : ANx → T AB → Nat → Bool) : Bool := false
noncomputable def o_entryStore (t : Nat) (a : Operand) (b : Operand) (c : Operand) (E : Env) (ρ : Operand → AV) (mem : T AB) (next : Nat) (k : ANx → T AB → Nat → Bool) : Bool := false
noncomputable def o_range (t : Nat) (x : Operand) (E : Env) (ρ : Operand → AV) (mem : T AB) (next : Nat) (k : ANx → T AB → Nat → Bool) : Bool := opRange E.ti t (ρ x) mem next fun a => k (.val a)
noncomputable def o_next (it : Operand) (s : Bool) (E : Env) (ρ : Operand → AV) (mem : T AB) (next : Nat) (k : ANx → T AB → Nat → Bool) : Bool := opNext (ρ it) s mem fun a => k (.val a) mem next
noncomputable def o_entry (it : Operand) (E : Env) (ρ : Operand → AV) (mem : T AB) (next : Nat) (k : ANx → T AB → Nat → Bool) : Bool := false
noncomputable def o_typeAssert (x : Operand) (xt : Nat) (t : Nat) (ok : Bool) (E : Env) (ρ : Operand → AV) (mem : T AB) (next : Nat) (k : ANx → T AB → Nat → Bool) : Bool := opAssert E.ti (ρ x) t ok fun a => k (.val a) mem next
noncomputable def o_extract (t : Operand) (i : Nat) (E : Env) (ρ : Operand → AV) (mem : T AB) (next : Nat) (k : ANx → T AB → Nat → Bool) : Bool := opExtract (ρ t) i fun a => k (.val a) mem next
noncomputable def o_call (c : Call) (E : Env) (ρ : Operand → AV) (mem : T AB) (next : Nat) (k : ANx → T AB → Nat → Bool) : Bool := callOp E ρ c mem next k
noncomputable def o_go (c : Call) (E : Env) (ρ : Operand → AV) (mem : T AB) (next : Nat) (k : ANx → T AB → Nat → Bool) : Bool := false
noncomputable def o_defer (c : Call) (E : Env) (ρ : Operand → AV) (mem : T AB) (next : Nat) (k : ANx → T AB → Nat → Bool) : Bool := deferOp ρ c fun d => k (.dfr d) mem next
noncomputable def o_panic (x : Operand) (E : Env) (ρ : Operand → AV) (mem : T AB) (next : Nat) (k : ANx → T AB → Nat → Bool) : Bool := match ρ x with | .iface t v => k (.pnc (.iface t v)) mem next | _ => false
noncomputable def o_send (a : Operand) (b : Operand) (E : Env) (ρ : Operand → AV) (mem : T AB) (next : Nat) (k : ANx → T AB → Nat → Bool) : Bool := false
noncomputable def o_recv (t : Nat) (a : Operand) (ok : Bool) (E : Env) (ρ : Operand → AV) (mem : T AB) (next : Nat) (k : ANx → T AB → Nat → Bool) : Bool := false
noncomputable def o_select (cs : Array SelectCase) (bl : Bool) (E : Env) (ρ : Operand → AV) (mem : T AB) (next : Nat) (k : ANx → T AB → Nat → Bool) : Bool := false
noncomputable def opF (op : Op) : OpT := Op.rec (motive := fun _ => OpT) o_move o_assign o_pick o_alloc o_box o_build o_buildSlice o_insert o_load o_store o_ready o_waits o_nilCheck o_binOp o_unOp o_convert o_sliceToArrayPointer o_makeInterface o_makeFunc o_makeMap o_makeChan o_makeSlice o_slice o_fieldAddr o_field o_indexAddr o_index o_lookup o_mapUpdate o_mapEntry o_entryStore o_range o_next o_entry o_typeAssert o_extract o_call o_go o_defer o_panic o_send o_recv o_select op
theorem opF_eq (E : Env) (ρ : Operand → AV) (o : Oper) (mem : T AB) (next : Nat) (k : ANx → T AB → Nat → Bool) : opF o.op E ρ mem next k = opA E ρ o mem next k := by
  obtain ⟨dst, op, ty, pos, after, guard⟩ := o
  cases op
  case makeMap t r => cases r <;> rfl
  all_goals rfl
end Go.Ev

/- The evaluator of code by closed constants: the same, cheaper for the kernel. -/
namespace Go.Ev

/-! ### heavy operations -/
noncomputable def hAE (k : HX → T AB → Nat → Bool) (e : AE) (mem : T AB) (next : Nat) : Bool :=
  AE.rec (motive := fun _ => Bool) (fun a => k (.val a) mem next) (fun c => k (.pnc c) mem next) e
abbrev HvT := M → Option Nat → (HX → T AB → Nat → Bool) → T AB → Nat → Bool
noncomputable def hv_val (a : AV) (_ : M) (_ : Option Nat) (k : HX → T AB → Nat → Bool) (mem : T AB) (next : Nat) : Bool := k (.val a) mem next
noncomputable def hv_skip (_ : M) (_ : Option Nat) (k : HX → T AB → Nat → Bool) (mem : T AB) (next : Nat) : Bool := k (.val (.tup [])) mem next
noncomputable def hv_enter (f : Nat) (args : List AV) (ih : M) (_ : Option Nat) (k : HX → T AB → Nat → Bool) (mem : T AB) (next : Nat) : Bool := ih.call f args mem next (hAE k)
noncomputable def hv_round (l _f n : Nat) (t : T AV) (assign body : Code) (ih : M) (_ : Option Nat) (k : HX → T AB → Nat → Bool) (mem : T AB) (next : Nat) : Bool := ih.round l n t assign body mem next (hAE k)
noncomputable def hv_dfr (d : AD) (_ : M) (rnd : Option Nat) (k : HX → T AB → Nat → Bool) (mem : T AB) (next : Nat) : Bool := Option.rec (k (.dfr d) mem next) (fun _ => false) rnd
noncomputable def hv_recov (_ : M) (_ : Option Nat) (_ : HX → T AB → Nat → Bool) (_ : T AB) (_ : Nat) : Bool := false
noncomputable def hv_pnc (a : AV) (_ : M) (_ : Option Nat) (k : HX → T AB → Nat → Bool) (mem : T AB) (next : Nat) : Bool := k (.pnc [⟨a, false⟩]) mem next
noncomputable def hvK (ih : M) (rnd : Option Nat) (k : HX → T AB → Nat → Bool) (nx : ANx) (mem : T AB) (next : Nat) : Bool :=
  ANx.rec (motive := fun _ => HvT) hv_val hv_skip hv_enter hv_round hv_dfr hv_recov hv_pnc nx ih rnd k mem next
noncomputable def heavyF (E : Env) (ih : M) (rnd : Option Nat) : HV := fun ρ o mem next k => opF o.op E ρ mem next (hvK ih rnd k)
theorem hAE_eq (k : HX → T AB → Nat → Bool) : hAE k = fun e mem next => (match e with
      | .ret a => k (.val a) mem next
      | .pnc c => k (.pnc c) mem next) := by
  funext e mem next; cases e <;> rfl
theorem heavyF_eq (E : Env) (ih : M) (rnd : Option Nat) : heavyF E ih rnd = heavyX E ih rnd := by
  funext ρ o mem next k
  show opF o.op E ρ mem next (hvK ih rnd k) = opA E ρ o mem next _
  rw [opF_eq]
  congr 1
  funext nx mem next
  cases nx with
  | enter f args => show ih.call f args mem next (hAE k) = _; rw [hAE_eq]; rfl
  | round l f n t assign body => show ih.round l n t assign body mem next (hAE k) = _; rw [hAE_eq]; rfl
  | dfr d => cases rnd <;> rfl
  | _ => rfl

/-! ### regions in text order -/
noncomputable def ox_h (n : Nat) (ih : T AV → List AD → T AB → Nat → XK → Bool) (o : Oper) (t : T AV) (ds : List AD) (k : XK) (h : HX) (mem : T AB) (next : Nat) : Bool :=
  HX.rec (motive := fun _ => Bool) (fun a => putT n t o.dst a fun t => ih t ds mem next k) (fun c => k (.pnc c) t ds mem next) (fun d => putT n t o.dst (.tup []) fun t => ih t (d :: ds) mem next k) h
noncomputable def ox_w (E : Env) (hv : HV) (n : Nat) (o : Oper) (ih : T AV → List AD → T AB → Nat → XK → Bool) (t : T AV) (ds : List AD) (mem : T AB) (next : Nat) (k : XK) (wanted : Bool) : Bool :=
  Bool.rec (putT n t o.dst (.tup []) fun t => ih t ds mem next k) (hv (aev E.G t) o mem next (ox_h n ih o t ds k)) wanted
noncomputable def ox_c (E : Env) (hv : HV) (n : Nat) (ops : List Oper) (o : Oper) (_ : List Oper) (ih : T AV → List AD → T AB → Nat → XK → Bool) (t : T AV) (ds : List AD) (mem : T AB) (next : Nat) (k : XK) : Bool :=
  guardA ops t o.guard (ox_w E hv n o ih t ds mem next k)
noncomputable def ox_n (t : T AV) (ds : List AD) (mem : T AB) (next : Nat) (k : XK) : Bool := k .nrm t ds mem next
noncomputable def opsF (E : Env) (hv : HV) (n : Nat) (ops : List Oper) (l : List Oper) : T AV → List AD → T AB → Nat → XK → Bool :=
  List.rec (motive := fun _ => T AV → List AD → T AB → Nat → XK → Bool) ox_n (ox_c E hv n ops) l
theorem opsX_cons (E : Env) (hv : HV) (n : Nat) (ops : List Oper) (o : Oper) (l : List Oper) (t : T AV) (ds : List AD) (mem : T AB) (next : Nat) (k : XK) :
    opsX E hv n ops (o :: l) t ds mem next k = guardA ops t o.guard fun wanted =>
      bif wanted then hv (aev E.G t) o mem next fun h mem next => (match h with
        | .val a => putT n t o.dst a fun t => opsX E hv n ops l t ds mem next k
        | .pnc c => k (.pnc c) t ds mem next
        | .dfr d => putT n t o.dst (.tup []) fun t => opsX E hv n ops l t (d :: ds) mem next k)
      else putT n t o.dst (.tup []) fun t => opsX E hv n ops l t ds mem next k := rfl
theorem opsF_cons (E : Env) (hv : HV) (n : Nat) (ops : List Oper) (o : Oper) (l : List Oper) (t : T AV) (ds : List AD) (mem : T AB) (next : Nat) (k : XK) :
    opsF E hv n ops (o :: l) t ds mem next k = guardA ops t o.guard (ox_w E hv n o (opsF E hv n ops l) t ds mem next k) := rfl
theorem opsF_eq (E : Env) (hv : HV) (n : Nat) (ops : List Oper) (l : List Oper) : opsF E hv n ops l = opsX E hv n ops l := by
  induction l with
  | nil => rfl
  | cons o l ih =>
    funext t ds mem next k
    rw [opsF_cons, opsX_cons, ih]
    congr 1
    funext wanted
    cases wanted with
    | false => rfl
    | true =>
      show hv (aev E.G t) o mem next _ = hv (aev E.G t) o mem next _
      congr 1
      funext h mem next
      cases h <;> rfl

/-! ### code -/
abbrev ExT := Env → M → Nat → Option Nat → T AV → List AD → T AB → Nat → XK → Bool
noncomputable def ax_seq (ih : M) (n : Nat) (rnd : Option Nat) (b : Code) (k : XK) (x : AX) (t : T AV) (ds : List AD) (mem : T AB) (next : Nat) : Bool :=
  AX.rec (motive := fun _ => Bool) (ih.exec n rnd b t ds mem next k) (fun i => k (.exit i) t ds mem next) (fun i => k (.goto i) t ds mem next) (k .ret t ds mem next) (fun c => k (.pnc c) t ds mem next) x
noncomputable def ax_block (id : Nat) (k : XK) (x : AX) (t : T AV) (ds : List AD) (mem : T AB) (next : Nat) : Bool :=
  AX.rec (motive := fun _ => Bool) (k .nrm t ds mem next) (fun i => bif Nat.beq i id then k .nrm t ds mem next else k (.exit i) t ds mem next) (fun i => k (.goto i) t ds mem next) (k .ret t ds mem next) (fun c => k (.pnc c) t ds mem next) x
noncomputable def ax_scope (k : XK) (x : AX) (t : T AV) (ds : List AD) (mem : T AB) (next : Nat) : Bool :=
  AX.rec (motive := fun _ => Bool) (k .nrm t ds mem next) (fun i => k (.exit i) t ds mem next) (fun _ => false) (k .ret t ds mem next) (fun c => k (.pnc c) t ds mem next) x
noncomputable def x_skip (_ : Env) (_ : M) (_ : Nat) (_ : Option Nat) (t : T AV) (ds : List AD) (mem : T AB) (next : Nat) (k : XK) : Bool := k .nrm t ds mem next
noncomputable def x_region (_ : Nat) (ops : Array Oper) (draw : Bool) (E : Env) (ih : M) (n : Nat) (rnd : Option Nat) (t : T AV) (ds : List AD) (mem : T AB) (next : Nat) (k : XK) : Bool :=
  bif draw then drawF E (heavyF E ih rnd) n ops t mem next fun t mem next => k .nrm t ds mem next else opsF E (heavyF E ih rnd) n ops.toList ops.toList t ds mem next k
noncomputable def x_seq (a b : Code) (_ _ : ExT) (_ : Env) (ih : M) (n : Nat) (rnd : Option Nat) (t : T AV) (ds : List AD) (mem : T AB) (next : Nat) (k : XK) : Bool := ih.exec n rnd a t ds mem next (ax_seq ih n rnd b k)
noncomputable def x_condK (ih : M) (n : Nat) (rnd : Option Nat) (a b : Code) (t : T AV) (ds : List AD) (mem : T AB) (next : Nat) (k : XK) (v : AV) : Bool :=
  match v with
  | .bool x => Bool.rec (ih.exec n rnd b t ds mem next k) (ih.exec n rnd a t ds mem next k) x
  | _ => false
noncomputable def x_cond (c : Operand) (a b : Code) (_ _ : ExT) (E : Env) (ih : M) (n : Nat) (rnd : Option Nat) (t : T AV) (ds : List AD) (mem : T AB) (next : Nat) (k : XK) : Bool := x_condK ih n rnd a b t ds mem next k (aev E.G t c)
noncomputable def x_block (id : Nat) (b : Code) (_ : ExT) (_ : Env) (ih : M) (n : Nat) (rnd : Option Nat) (t : T AV) (ds : List AD) (mem : T AB) (next : Nat) (k : XK) : Bool := ih.exec n rnd b t ds mem next (ax_block id k)
noncomputable def x_loop (b : Code) (_ : ExT) (_ : Env) (ih : M) (n : Nat) (rnd : Option Nat) (t : T AV) (ds : List AD) (mem : T AB) (next : Nat) (k : XK) : Bool := ih.exec n rnd b t ds mem next (ax_seq ih n rnd (.loop b) k)
noncomputable def x_rangeFunc (g : Operand) (ps : Array Tmp) (assign body : Code) (_ _ : ExT) (E : Env) (ih : M) (n : Nat) (rnd : Option Nat) (t : T AV) (ds : List AD) (mem : T AB) (next : Nat) (k : XK) : Bool := (stepM E ih).exec n rnd (.rangeFunc g ps assign body) t ds mem next k
noncomputable def x_exit (id : Nat) (_ : Env) (_ : M) (_ : Nat) (_ : Option Nat) (t : T AV) (ds : List AD) (mem : T AB) (next : Nat) (k : XK) : Bool := k (.exit id) t ds mem next
noncomputable def x_scope (b : Code) (_ : ExT) (_ : Env) (ih : M) (n : Nat) (rnd : Option Nat) (t : T AV) (ds : List AD) (mem : T AB) (next : Nat) (k : XK) : Bool := ih.exec n rnd b t ds mem next (ax_scope k)
noncomputable def x_label (_ : Nat) (_ : Env) (_ : M) (_ : Nat) (_ : Option Nat) (t : T AV) (ds : List AD) (mem : T AB) (next : Nat) (k : XK) : Bool := k .nrm t ds mem next
noncomputable def x_goto (l : Nat) (_ : Env) (_ : M) (_ : Nat) (_ : Option Nat) (t : T AV) (ds : List AD) (mem : T AB) (next : Nat) (k : XK) : Bool := k (.goto l) t ds mem next
noncomputable def x_ret (_ : Env) (_ : M) (_ : Nat) (_ : Option Nat) (t : T AV) (ds : List AD) (mem : T AB) (next : Nat) (k : XK) : Bool := k .ret t ds mem next
noncomputable def x_refuse (_ : String) (_ : Env) (_ : M) (_ : Nat) (_ : Option Nat) (_ : T AV) (_ : List AD) (_ : T AB) (_ : Nat) (_ : XK) : Bool := false
noncomputable def execF (E : Env) (ih : M) (n : Nat) (rnd : Option Nat) (c : Code) (t : T AV) (ds : List AD) (mem : T AB) (next : Nat) (k : XK) : Bool :=
  Code.rec (motive := fun _ => ExT) x_skip x_region x_seq x_cond x_block x_loop x_rangeFunc x_exit x_scope x_label x_goto x_ret x_refuse c E ih n rnd t ds mem next k

theorem ax_seq_eq (ih : M) (n : Nat) (rnd : Option Nat) (b : Code) (k : XK) : ax_seq ih n rnd b k = fun x t ds mem next => (match x with
      | .nrm => ih.exec n rnd b t ds mem next k
      | .exit i => k (.exit i) t ds mem next
      | .goto i => k (.goto i) t ds mem next
      | .ret => k .ret t ds mem next
      | .pnc c => k (.pnc c) t ds mem next) := by
  funext x t ds mem next; cases x <;> rfl

theorem execF_eq (E : Env) (ih : M) (n : Nat) (rnd : Option Nat) (c : Code) (t : T AV) (ds : List AD) (mem : T AB) (next : Nat) (k : XK) : execF E ih n rnd c t ds mem next k = (stepM E ih).exec n rnd c t ds mem next k := by
  cases c with
  | seq a b => show ih.exec n rnd a t ds mem next (ax_seq ih n rnd b k) = _; rw [ax_seq_eq]; rfl
  | cond c a b =>
    show x_condK ih n rnd a b t ds mem next k (aev E.G t c) = (match aev E.G t c with
      | .bool x => bif x then ih.exec n rnd a t ds mem next k else ih.exec n rnd b t ds mem next k
      | _ => false)
    generalize aev E.G t c = v
    cases v with
    | bool x => cases x <;> rfl
    | _ => rfl
  | block id b =>
    show ih.exec n rnd b t ds mem next (ax_block id k) = ih.exec n rnd b t ds mem next _
    congr 1
    funext x t ds mem next; cases x <;> rfl
  | loop b => show ih.exec n rnd b t ds mem next (ax_seq ih n rnd (.loop b) k) = _; rw [ax_seq_eq]; rfl
  | scope b =>
    show ih.exec n rnd b t ds mem next (ax_scope k) = ih.exec n rnd b t ds mem next _
    congr 1
    funext x t ds mem next; cases x <;> rfl
  | region id ops draw =>
    show (bif draw then drawF E (heavyF E ih rnd) n ops t mem next fun t mem next => k .nrm t ds mem next else opsF E (heavyF E ih rnd) n ops.toList ops.toList t ds mem next k) = _
    rw [heavyF_eq, opsF_eq]
    rfl
  | _ => rfl

/-! ### calls -/
noncomputable def cx_body (ih : M) (fi : FI) (k : CK) (x : AX) (t : T AV) (ds : List AD) (mem : T AB) (next : Nat) : Bool :=
  AX.rec (motive := fun _ => Bool) (ih.leave fi.results t ds .ret mem next k) (fun _ => false) (fun _ => false) (ih.leave fi.results t ds .ret mem next k) (fun c => ih.leave fi.results t ds (.pan c) mem next k) x
noncomputable def cx_enter (ih : M) (fi : FI) (mem : T AB) (next : Nat) (k : CK) (t : T AV) : Bool := ih.exec fi.ntm none fi.body t [] mem next (cx_body ih fi k)
noncomputable def cx_fi (ih : M) (args : List AV) (mem : T AB) (next : Nat) (k : CK) (fi : FI) : Bool := mkTK fi.ntm args 0 .e (cx_enter ih fi mem next k)
noncomputable def callF (E : Env) (ih : M) (f : Nat) (args : List AV) (mem : T AB) (next : Nat) (k : CK) : Bool :=
  Option.rec (Option.rec false (cx_fi ih args mem next k) (E.fns.get f)) (fun x => x args mem next fun a => k (.ret a)) (E.con.get f)
theorem callF_eq (E : Env) (ih : M) (f : Nat) (args : List AV) (mem : T AB) (next : Nat) (k : CK) : callF E ih f args mem next k = (stepM E ih).call f args mem next k := by
  show (Option.rec (Option.rec false (cx_fi ih args mem next k) (E.fns.get f)) (fun x => x args mem next fun a => k (.ret a)) (E.con.get f) : Bool) = (match E.con.get f with
    | some x => x args mem next fun a => k (.ret a)
    | none => (match E.fns.get f with
      | some fi => mkTK fi.ntm args 0 .e fun t => ih.exec fi.ntm none fi.body t [] mem next fun x t ds mem next => (match x with
        | .nrm => ih.leave fi.results t ds .ret mem next k
        | .ret => ih.leave fi.results t ds .ret mem next k
        | .pnc c => ih.leave fi.results t ds (.pan c) mem next k
        | _ => false)
      | none => false))
  generalize E.con.get f = c
  generalize E.fns.get f = g
  cases c with
  | some x => rfl
  | none =>
    cases g with
    | none => rfl
    | some fi =>
      show mkTK fi.ntm args 0 .e (cx_enter ih fi mem next k) = mkTK fi.ntm args 0 .e _
      congr 1
      funext t
      show ih.exec fi.ntm none fi.body t [] mem next _ = ih.exec fi.ntm none fi.body t [] mem next _
      congr 1
      funext x t ds mem next
      cases x <;> rfl

noncomputable def leaveF (E : Env) (ih : M) (rs : List ResultVar) (t : T AV) (ds : List AD) (md : MD) (mem : T AB) (next : Nat) (k : CK) : Bool :=
  match ds, md with
  | [], .ret => resA E t mem rs fun a => k (.ret a) mem next
  | ds, md => (stepM E ih).leave rs t ds md mem next k
theorem leaveF_eq (E : Env) (ih : M) (rs : List ResultVar) (t : T AV) (ds : List AD) (md : MD) (mem : T AB) (next : Nat) (k : CK) : leaveF E ih rs t ds md mem next k = (stepM E ih).leave rs t ds md mem next k := by
  unfold leaveF
  split <;> rfl

noncomputable def roundF (E : Env) (ih : M) (l n : Nat) (t : T AV) (assign body : Code) (mem : T AB) (next : Nat) (k : CK) : Bool := (stepM E ih).round l n t assign body mem next k
noncomputable def callDF (E : Env) (ih : M) (f : Nat) (args : List AV) (md : MD) (mem : T AB) (next : Nat) (k : AE → MD → T AB → Nat → Bool) : Bool := (stepM E ih).callD f args md mem next k
noncomputable def execDF (E : Env) (ih : M) (n : Nat) (c : Code) (t : T AV) (md : MD) (mem : T AB) (next : Nat) (k : AX → T AV → MD → T AB → Nat → Bool) : Bool := (stepM E ih).execD n c t md mem next k
noncomputable def stepF (E : Env) (ih : M) : M := M.mk (execF E ih) (callF E ih) (roundF E ih) (leaveF E ih) (callDF E ih) (execDF E ih)
theorem stepF_eq (E : Env) (ih : M) : stepF E ih = stepM E ih := by
  have h1 : execF E ih = (stepM E ih).exec := by funext n rnd c t ds mem next k; exact execF_eq ..
  have h2 : callF E ih = (stepM E ih).call := by funext f args mem next k; exact callF_eq ..
  have h3 : leaveF E ih = (stepM E ih).leave := by funext rs t ds md mem next k; exact leaveF_eq ..
  unfold stepF
  rw [h1, h2, h3]
  rfl
noncomputable def runF (E : Env) (n : Nat) : M := Nat.rec M0 (fun _ ih => stepF E ih) n
theorem runF_eq (E : Env) (n : Nat) : runF E n = runM E n := by
  induction n with
  | zero => rfl
  | succ n ih => show stepF E (runF E n) = stepM E (runM E n); rw [ih, stepF_eq]
end Go.Ev

