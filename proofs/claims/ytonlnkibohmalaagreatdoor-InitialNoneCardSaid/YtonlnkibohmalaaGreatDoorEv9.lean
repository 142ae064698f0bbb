/- A part of the evaluator that the proof of InitialNone leans on: definitions and their soundness over the kit's laws; no condition. -/
import Derived.Test.YtonlnkibohmalaaGreatDoorEv8
import Derived.Scope
set_option linter.unusedVariables false
set_option linter.unusedSimpArgs false
/- The evaluator of code: one level more (calls, leaving, rounds). -/
namespace Go.Ev
variable {P : Program}

/-- A function's own contract in the place of its body. -/
structure ConOk (P : Program) (E : Env) (f : Nat) (x : Ext) : Prop where
  fn : ∃ fi, E.fns.get f = some fi
  ok : ∀ (σ : Nat → Value) (prot : Nat → Prop) (w0 : World) (m : BM) (mem : T AB) (next : Nat) (w : World) (args : List AV) (args' : List Value) (k : AV → T AB → Nat → Bool) (R : Ending → World → Prop),
    x args mem next k = true → Rel σ prot w0 m mem next w → GOk E.G m → LRel σ m args args' →
    (∀ a mem' next' m' v w', k a mem' next' = true → next ≤ next' → BM.ext prot next m m' → Rel σ prot w0 m' mem' next' w' → VRel σ m' a v → R (.returned v) w') →
    CallsIn Fence.wide 0 P f ⟨args'⟩ w R
  shot : ∀ args mem next, Shot fun k => x args mem next k

theorem step_call {E : Env} (hE : EnvOk P E) (hcon : ∀ f x, E.con.get f = some x → ConOk P E f x) {ih : M} (hM : MOk P E ih)
    (σ : Nat → Value) (prot : Nat → Prop) (w0 : World) (m : BM) (mem : T AB) (next : Nat) (w : World) (f : Nat) (args : List AV) (args' : List Value) (k : CK) (R : Ending → World → Prop)
    (hk : (stepM E ih).call f args mem next k = true) (hR : Rel σ prot w0 m mem next w) (hG : GOk E.G m) (ha : LRel σ m args args')
    (hfin : ∀ x mem' next' m' e w', k x mem' next' = true → next ≤ next' → BM.ext prot next m m' → Rel σ prot w0 m' mem' next' w' → ERel σ m' x e → R e w') :
    CallsIn Fence.wide 0 P f ⟨args'⟩ w R := by
  simp only [stepM] at hk
  split at hk
  · rename_i x hx
    refine (hcon f x hx).ok σ prot w0 m mem next w args args' _ R hk hR hG ha ?_
    intro a mem' next' m' v w' hk hn he hR' hv
    exact hfin (.ret a) mem' next' m' _ w' hk hn he hR' ⟨v, rfl, hv⟩
  · split at hk
    · rename_i fi hfi
      obtain ⟨fn, f1, f2, f3, f4, f5⟩ := (hE.fns f fi hfi).ex
      obtain ⟨t, hk, t1, t2, _, t3⟩ := mkTK_ok hk (fun _ _ => rfl)
      refine callsIn_of_wp_marks f1 f2 trivial ?_
      have hT : TRel σ m fi.ntm t ((⟨args'⟩ : Array Value) ++ Array.replicate (fn.ntmps - (⟨args'⟩ : Array Value).size) undef) := by
        rw [f3]
        exact mkT_rel ha (by simpa using t1) (fun j hj => by simpa using t2 j hj) (fun j hj => t3 j (by simpa using hj))
      refine hM.exec σ prot w0 m mem next w fi.ntm none none fi.body t [] _ _ _ hk hR hG trivial hT rfl ?_
      intro x t' ds' mem' next' m' e a' w' hk hn hext hR' hT' hD' hx
      have go : ∀ (md : MD) (u : FrameMode), ih.leave fi.results t' ds' md mem' next' k = true → MDRel σ m' md u → LeavesInM Fence.wide 0 P fn a'.tmps R a'.defers u w' := by
        intro md u hk hmd
        rw [← f4] at hk
        refine hM.leave σ prot w0 m' mem' next' w' fi.ntm fn t' a'.tmps ds' a'.defers md u k R hk hR' (hG.mono hext.le) hT' hD' hmd ?_
        intro x mem2 next2 m2 e2 w2 hk hn2 hext2 hR2 he2
        exact hfin x mem2 next2 m2 e2 w2 hk (Nat.le_trans hn hn2) (BM.ext_trans hext hext2 hn) hR2 he2
      cases x with
      | nrm => cases hx; exact go .ret .returning hk rfl
      | ret => cases hx; exact go .ret .returning hk rfl
      | pnc c => obtain ⟨ch, rfl, hc⟩ := hx; exact go (.pan c) (.panicking ch) hk ⟨ch, rfl, hc⟩
      | exit i => cases hk
      | goto i => cases hk
    · cases hk

theorem settleA_ok {σ : Nat → Value} {m : BM} {md : MD} {u : FrameMode} (h : MDRel σ m md u) : MDRel σ m (settleA md) (settle u) := by
  cases md with
  | run => exact h.elim
  | ret => cases h; exact rfl
  | pan c =>
    obtain ⟨ch, rfl, hc⟩ := h
    cases c with
    | nil => cases hc; exact ⟨[], rfl, rfl⟩
    | cons p c =>
      obtain ⟨v, ch', rfl, hv, hc'⟩ := hc
      obtain ⟨pv, prc⟩ := p
      cases prc with
      | false => exact ⟨_, rfl, ⟨v, ch', rfl, hv, hc'⟩⟩
      | true =>
        have : ch'.dropWhile (fun x => !x.goexit) = [] := by
          clear hv
          induction c generalizing ch' with
          | nil => cases hc'; rfl
          | cons q c ih =>
            obtain ⟨v2, ch2, rfl, hv2, hc2⟩ := hc'
            simp [ih ch2 hc2]
        simp only [settleA, settle, this]
        exact rfl

theorem ChRel.append {σ : Nat → Value} {m : BM} : ∀ {c : List PE} {ch : List PanicEntry} {d : List PE} {dh : List PanicEntry}, ChRel σ m c ch → ChRel σ m d dh → ChRel σ m (c ++ d) (ch ++ dh) := by
  intro c
  induction c with
  | nil => intro ch d dh h h2; cases h; exact h2
  | cons p c ih =>
    intro ch d dh h h2
    obtain ⟨v, ch', rfl, hv, hc⟩ := h
    exact ⟨v, ch' ++ dh, rfl, hv, ih hc h2⟩

theorem raisedA_ok {σ : Nat → Value} {m : BM} {md : MD} {u : FrameMode} (h : MDRel σ m md u) {c : List PE} {ch : List PanicEntry} (hc : ChRel σ m c ch) : MDRel σ m (raisedA md c) (raised u ch) := by
  cases md with
  | run => exact h.elim
  | ret => cases h; exact ⟨ch, rfl, hc⟩
  | pan d =>
    obtain ⟨dh, rfl, hd⟩ := h
    exact ⟨ch ++ dh, rfl, hc.append hd⟩
end Go.Ev

/- The evaluator of code: one level more (leaving, deferred calls, rounds). -/
namespace Go.Ev
variable {P : Program}

theorem fiEnter {E : Env} (hE : EnvOk P E) {g : Nat} {fi : FI} (h : E.fns.get g = some fi) (args : Array Value) (w : World) : (callFunc g args).run P w = .ok (.enter g args) w := by
  obtain ⟨fn, f1, f2, f3, f4, f5⟩ := (hE.fns g fi h).ex
  have f5' : ¬ fn.name = "runtime.NumGoroutine" := by simpa using f5
  simp [callFunc, f1, f2, f5']

theorem step_leave {E : Env} (hE : EnvOk P E) {ih : M} (hM : MOk P E ih)
    (σ : Nat → Value) (prot : Nat → Prop) (w0 : World) (m : BM) (mem : T AB) (next : Nat) (w : World) (n : Nat) (fn : Func) (t : T AV) (tm : Array Value) (ds : List AD) (dl : List Deferred) (md : MD) (u : FrameMode) (k : CK) (R : Ending → World → Prop)
    (hk : (stepM E ih).leave fn.results.toList t ds md mem next k = true) (hR : Rel σ prot w0 m mem next w) (hG : GOk E.G m) (hT : TRel σ m n t tm) (hD : DsRel σ m ds dl) (hmd : MDRel σ m md u)
    (hfin : ∀ x mem' next' m' e w', k x mem' next' = true → next ≤ next' → BM.ext prot next m m' → Rel σ prot w0 m' mem' next' w' → ERel σ m' x e → R e w') :
    LeavesInM Fence.wide 0 P fn tm R dl u w := by
  have hu : u ≠ .run := by
    cases md with
    | run => exact hmd.elim
    | ret => cases hmd; simp
    | pan c => obtain ⟨ch, rfl, _⟩ := hmd; simp
  cases ds with
  | nil =>
    cases hD
    show LeavesIn Fence.wide 0 P fn tm R [] u w
    cases md with
    | run => exact hmd.elim
    | ret =>
      cases hmd
      simp only [stepM] at hk
      obtain ⟨a, v, h1, h2, h3⟩ := resA_ok hE hR hT hk
      exact ⟨v, h3, hfin _ mem next m _ w h1 (Nat.le_refl _) (BM.ext_refl _ _ _) hR ⟨v, rfl, h2⟩⟩
    | pan c =>
      obtain ⟨ch, rfl, hc⟩ := hmd
      exact hfin _ mem next m _ w hk (Nat.le_refl _) (BM.ext_refl _ _ _) hR ⟨ch, rfl, hc⟩
  | cons d ds =>
    obtain ⟨d', dl', rfl, hd, hds⟩ := hD
    refine ⟨hu, ?_⟩
    cases d with
    | nil args => exact absurd (show false = true from hk) (by decide)
    | coll b =>
      obtain ⟨r, c, rfl, hb⟩ := hd
      simp only [stepM] at hk
      split at hk
      · rename_i hmem
        rw [T.set_eq] at hk
        obtain ⟨dsx, q1, q2⟩ := hR.blk b _ r c hmem hb
        cases q2
        left
        refine ⟨r, putO w r (.deferred none), rfl, ?_, ?_⟩
        · have hg : (getObj r).run P w = .ok (.deferred (some [])) w := by simp [getObj, Sem.run, q1]
          have hs : (setObj r (.deferred none)).run P w = .ok () (putO w r (.deferred none)) := run_setObj q1 (by intro c e f h; cases h)
          simp only [Instr.takeDeferred, Sem.run_bind, hg, Result.andThen_ok, hs, Sem.run_pure]
        · exact hM.leave σ prot w0 m _ next _ n fn t tm ds dl' md u k R hk (hR.setObj b _ (.dfr none) r c hmem rfl hb _ rfl) hG hT hds hmd hfin
      · cases hk
    | fnc f cap args =>
      obtain ⟨cap', args', rfl, hc, ha⟩ := hd
      right
      cases f with
      | func g =>
        change (ih.callD g (args ++ cap) md mem next fun e md mem next => (match e with
          | .ret _ => ih.leave fn.results.toList t ds (settleA md) mem next k
          | .pnc c => ih.leave fn.results.toList t ds (raisedA md c) mem next k)) = true at hk
        obtain ⟨fi, hfi⟩ := hM.fcallD _ _ _ _ _ _ hk
        refine ⟨fr_depth (r := none), .func g, ⟨cap'⟩, g, ⟨args' ++ cap'⟩, rfl, ?_, fun _ _ => trivial, ?_⟩
        · have : (invoke (.fn (.func g) ⟨cap'⟩) ⟨args'⟩).run P w = (callFunc g ⟨args' ++ cap'⟩).run P w := by simp [invoke]
          rw [this]
          exact fiEnter hE hfi _ w
        · refine CallsDIn.mono (hM.callD σ prot w0 m mem next w g _ (args' ++ cap') md u _ hk hR hG (ha.append hc) hmd (R := fun e u' w' => match e with
            | .returned _ => LeavesInM Fence.wide 0 P fn tm R dl' (settle u') w'
            | .panicked chain => LeavesInM Fence.wide 0 P fn tm R dl' (raised u' chain) w'
            | .outgrown => False) ?_) ?_
          · intro x md' mem' next' m' e u' w' hk2 hn he hR2 hx hmd2
            cases x with
            | ret av =>
              obtain ⟨v, rfl, hv⟩ := hx
              exact hM.leave σ prot w0 m' mem' next' w' n fn t tm ds dl' _ _ k R hk2 hR2 (hG.mono he.le) (hT.mono he.le) (hds.mono he.le) (settleA_ok hmd2)
                fun x2 mem2 next2 m2 e2 w2 k2 n2 x2' r2 er => hfin x2 mem2 next2 m2 e2 w2 k2 (Nat.le_trans hn n2) (BM.ext_trans he x2' hn) r2 er
            | pnc c =>
              obtain ⟨ch, rfl, hc⟩ := hx
              exact hM.leave σ prot w0 m' mem' next' w' n fn t tm ds dl' _ _ k R hk2 hR2 (hG.mono he.le) (hT.mono he.le) (hds.mono he.le) (raisedA_ok hmd2 hc)
                fun x2 mem2 next2 m2 e2 w2 k2 n2 x2' r2 er => hfin x2 mem2 next2 m2 e2 w2 k2 (Nat.le_trans hn n2) (BM.ext_trans he x2' hn) r2 er
          · intro e u' w' he
            cases e with
            | outgrown => exact he.elim
            | _ => exact he
      | _ => exact absurd (show false = true from hk) (by decide)

theorem step_fcallD {E : Env} {ih : M} : ∀ f args md mem next k, (stepM E ih).callD f args md mem next k = true → ∃ fi, E.fns.get f = some fi := by
  intro f args md mem next k hk
  simp only [stepM] at hk
  split at hk
  · rename_i fi hfi; exact ⟨fi, hfi⟩
  · cases hk

theorem step_fcall {E : Env} (hcon : ∀ f x, E.con.get f = some x → ConOk P E f x) {ih : M} : ∀ f args mem next k, (stepM E ih).call f args mem next k = true → ∃ fi, E.fns.get f = some fi := by
  intro f args mem next k hk
  simp only [stepM] at hk
  split at hk
  · rename_i x hx; exact (hcon f x hx).fn
  · split at hk
    · rename_i fi hfi; exact ⟨fi, hfi⟩
    · cases hk

theorem step_callD {E : Env} (hE : EnvOk P E) {ih : M} (hM : MOk P E ih)
    (σ : Nat → Value) (prot : Nat → Prop) (w0 : World) (m : BM) (mem : T AB) (next : Nat) (w : World) (f : Nat) (args : List AV) (args' : List Value) (md : MD) (u : FrameMode) (k : AE → MD → T AB → Nat → Bool) (R : Ending → FrameMode → World → Prop)
    (hk : (stepM E ih).callD f args md mem next k = true) (hR : Rel σ prot w0 m mem next w) (hG : GOk E.G m) (ha : LRel σ m args args') (hmd : MDRel σ m md u)
    (hfin : ∀ x md' mem' next' m' e u' w', k x md' mem' next' = true → next ≤ next' → BM.ext prot next m m' → Rel σ prot w0 m' mem' next' w' → ERel σ m' x e → MDRel σ m' md' u' → R e u' w') :
    CallsDIn Fence.wide 0 P f ⟨args'⟩ u w R := by
  simp only [stepM] at hk
  split at hk
  · rename_i fi hfi
    obtain ⟨fn, f1, f2, f3, f4, f5⟩ := (hE.fns f fi hfi).ex
    obtain ⟨t, hk, t1, t2, _, t3⟩ := mkTK_ok hk (fun _ _ => rfl)
    refine callsDIn_of_wpSIn f1 f2 trivial fun c0 cs hc0 => ?_
    have hT : TRel σ m fi.ntm t ((⟨args'⟩ : Array Value) ++ Array.replicate (fn.ntmps - (⟨args'⟩ : Array Value).size) undef) := by
      rw [f3]
      exact mkT_rel ha (by simpa using t1) (fun j hj => by simpa using t2 j hj) (fun j hj => t3 j (by simpa using hj))
    refine hM.execD σ prot w0 m mem next w fi.ntm fi.body t md u _ _ c0 cs _ hk hR hG hT rfl hc0 hmd ?_
    intro x t' md' mem' next' m' e a' u' w' hk hn hext hR' hT' hD' hmd' hx
    rw [← f4] at hk
    cases x with
    | nrm =>
      cases hx
      obtain ⟨av, v, h1, h2, h3⟩ := resA_ok hE hR' hT' hk
      exact ⟨hD', u', rfl, v, h3, hfin _ _ _ _ _ _ _ _ h1 hn hext hR' ⟨v, rfl, h2⟩ hmd'⟩
    | ret =>
      cases hx
      obtain ⟨av, v, h1, h2, h3⟩ := resA_ok hE hR' hT' hk
      exact ⟨hD', u', rfl, v, h3, hfin _ _ _ _ _ _ _ _ h1 hn hext hR' ⟨v, rfl, h2⟩ hmd'⟩
    | pnc c =>
      obtain ⟨ch, rfl, hc⟩ := hx
      exact ⟨hD', u', rfl, hfin _ _ _ _ _ _ _ _ hk hn hext hR' ⟨ch, rfl, hc⟩ hmd'⟩
    | exit i => cases hk
    | goto i => cases hk
  · cases hk

theorem step_round {E : Env} {ih : M} (hM : MOk P E ih)
    (σ : Nat → Value) (prot : Nat → Prop) (w0 : World) (m : BM) (mem : T AB) (next : Nat) (w : World) (l n : Nat) (t : T AV) (assign body : Code) (k : CK) (rl cl fn : Nat) (tm : Array Value) (R : Ending → World → Prop)
    (hk : (stepM E ih).round l n t assign body mem next k = true) (hR : Rel σ prot w0 m mem next w) (hG : GOk E.G m) (hl : m l = some (rl, cl)) (hT : TRel σ m n t tm)
    (hfin : ∀ x mem' next' m' e w', k x mem' next' = true → next ≤ next' → BM.ext prot next m m' → Rel σ prot w0 m' mem' next' w' → ERel σ m' x e → R e w') :
    RoundIn Fence.wide 0 P rl fn tm assign body w R := by
  refine roundIn_of_wpIn trivial ?_
  change assign.wpIn (Fr (some rl)) 0 P _ _ w
  refine hM.exec σ prot w0 m mem next w n (some l) (some rl) assign t [] _ _ _ hk hR hG ⟨cl, hl⟩ hT rfl ?_
  intro x t1 ds1 mem1 next1 m1 e1 a1 w1 hk1 hn1 he1 hR1 hT1 hD1 hx1
  cases x with
  | nrm =>
    cases hx1
    dsimp only at hk1
    split at hk1
    · rename_i pend fn0 n0 tmps params as bd df hb
      rw [T.set_eq] at hk1
      obtain ⟨w2, hbr, hR2⟩ := beginRound_ok hR1 P hb (he1.le _ _ hl)
      refine ⟨w2, hbr, ?_⟩
      change body.wpIn (Fr (some rl)) 0 P _ _ w2
      refine hM.exec σ prot w0 m1 _ next1 w2 n (some l) (some rl) body t1 ds1 _ _ _ hk1 hR2 (hG.mono he1.le) ⟨cl, he1.le _ _ hl⟩ hT1 hD1 ?_
      intro x t3 ds3 mem3 next3 m3 e3 a3 w3 hk3 hn3 he3 hR3 hT3 hD3 hx3
      have hext := BM.ext_trans he1 he3 hn1
      have hl3 := hext.le _ _ hl
      cases x with
      | nrm =>
        cases hx3
        obtain ⟨mem4, w4, h1, h2, h3⟩ := endRoundA_ok hR3 P hl3 hk3
        exact ⟨_, w4, h2, hfin _ mem4 next3 m3 _ w4 h1 (Nat.le_trans hn1 hn3) hext h3 ⟨_, rfl, .bool _⟩⟩
      | ret =>
        cases hx3
        obtain ⟨mem4, w4, h1, h2, h3⟩ := endRoundA_ok hR3 P hl3 hk3
        exact ⟨_, w4, h2, hfin _ mem4 next3 m3 _ w4 h1 (Nat.le_trans hn1 hn3) hext h3 ⟨_, rfl, .bool _⟩⟩
      | exit i =>
        cases hx3
        obtain ⟨mem4, w4, h1, h2, h3⟩ := endRoundA_ok hR3 P hl3 hk3
        exact ⟨_, w4, h2, hfin _ mem4 next3 m3 _ w4 h1 (Nat.le_trans hn1 hn3) hext h3 ⟨_, rfl, .bool _⟩⟩
      | goto i =>
        cases hx3
        obtain ⟨mem4, w4, h1, h2, h3⟩ := endRoundA_ok hR3 P hl3 hk3
        exact ⟨_, w4, h2, hfin _ mem4 next3 m3 _ w4 h1 (Nat.le_trans hn1 hn3) hext h3 ⟨_, rfl, .bool _⟩⟩
      | pnc c => cases hk3
    · cases hk1
  | exit i => cases hk1
  | goto i => cases hk1
  | ret => cases hk1
  | pnc c => cases hk1
end Go.Ev

/- The evaluator of code: bodies of deferred calls. -/
namespace Go.Ev
variable {P : Program}

theorem recoverD_ok {σ : Nat → Value} {m : BM} {md : MD} {c0 : Frame} {cs : List Frame} (h : MDRel σ m md c0.mode) :
    match md with
    | .pan (⟨v, false⟩ :: older) => ∃ v', recoverD (c0 :: cs) = some (v', { c0 with mode := (match c0.mode with | .panicking (p :: q) => .panicking ({ p with recovered := true } :: q) | u => u) } :: cs) ∧ VRel σ m v v' ∧
        MDRel σ m (.pan (⟨v, true⟩ :: older)) (match c0.mode with | .panicking (p :: q) => .panicking ({ p with recovered := true } :: q) | u => u)
    | _ => recoverD (c0 :: cs) = none := by
  cases md with
  | run => exact h.elim
  | ret => have : c0.mode = .returning := h; simp [recoverD, this]
  | pan c =>
    obtain ⟨ch, hm, hc⟩ := h
    cases c with
    | nil => cases hc; simp [recoverD, hm]
    | cons p c =>
      obtain ⟨v, ch', rfl, hv, hc'⟩ := hc
      obtain ⟨pv, prc⟩ := p
      cases prc with
      | true => simp [recoverD, hm]
      | false => exact ⟨v, by simp [recoverD, hm], hv, _, by simp only [hm], v, ch', rfl, hv, hc'⟩

theorem opsD_cons (E : Env) (n : Nat) (ops : List Oper) (o : Oper) (l : List Oper) (t : T AV) (md : MD) (mem : T AB) (next : Nat) (k : AX → T AV → MD → T AB → Nat → Bool) :
    opsD E n ops (o :: l) t md mem next k = (guardA ops t o.guard fun wanted =>
      bif wanted then opA E (aev E.G t) o mem next fun nx mem next => (match nx with
        | .val a => putT n t o.dst a fun t => opsD E n ops l t md mem next k
        | .skip => putT n t o.dst (.tup []) fun t => opsD E n ops l t md mem next k
        | .recov => (match md with
          | .pan (⟨v, false⟩ :: older) => putT n t o.dst v fun t => opsD E n ops l t (.pan (⟨v, true⟩ :: older)) mem next k
          | _ => putT n t o.dst .nili fun t => opsD E n ops l t md mem next k)
        | _ => false)
      else putT n t o.dst (.tup []) fun t => opsD E n ops l t md mem next k) := rfl

theorem opsD_ok {E : Env} (hE : EnvOk P E) {n : Nat} {ops : Array Oper} {σ : Nat → Value} {prot : Nat → Prop} {w0 : World} {k : AX → T AV → MD → T AB → Nat → Bool} {c00 : Frame} {cs : List Frame} {Q : Exit → Act → List Frame → World → Prop} (m0 : BM) (next0 : Nat)
    (hQ : ∀ x t' md' mem' next' m' e a' u' w', k x t' md' mem' next' = true → next0 ≤ next' → BM.ext prot next0 m0 m' → Rel σ prot w0 m' mem' next' w' → TRel σ m' n t' a'.tmps → a'.defers = [] → MDRel σ m' md' u' → XRel σ m' x e → Q e a' ({ c00 with mode := u' } :: cs) w') :
    ∀ (l : List Oper) (i : Nat) (t : T AV) (md : MD) (mem : T AB) (next : Nat) (m : BM) (a : Act) (u : FrameMode) (w : World), ops.toList.drop i = l →
      opsD E n ops.toList l t md mem next k = true → next0 ≤ next → BM.ext prot next0 m0 m → Rel σ prot w0 m mem next w → GOk E.G m → TRel σ m n t a.tmps → a.defers = [] → MDRel σ m md u →
      wpOpsSIn Fence.wide 0 P ops Q (List.range' i l.length) a ({ c00 with mode := u } :: cs) w := by
  intro l
  induction l with
  | nil =>
    intro i t md mem next m a u w _ hk hn he hR hG hT hD hmd
    exact hQ .nrm t md mem next m .normal a u w hk hn he hR hT hD hmd rfl
  | cons o l ih =>
    intro i t md mem next m a u w hl hk hn he hR hG hT hD hmd
    have hop : ops[i]? = some o := by
      have : (ops.toList.drop i)[0]? = some o := by rw [hl]; rfl
      rw [List.getElem?_drop] at this
      simpa using this
    have hl' : ops.toList.drop (i+1) = l := by
      have : (ops.toList.drop i).drop 1 = l := by rw [hl]; rfl
      rw [List.drop_drop] at this
      rw [← this]
    rw [opsD_cons] at hk
    have hk := guardA_ok hT hk
    rw [List.length_cons, List.range'_succ]
    simp only [wpOpsSIn, hop]
    refine ⟨fun _ _ => trivial, ?_⟩
    cases hw : Region.wanted o (yielded ops a.tmps) with
    | false =>
      rw [hw, cond_false] at hk
      simp only [Bool.false_eq_true, if_false]
      obtain ⟨t', hk, hp⟩ := putT_ok hk
      exact ih (i+1) t' md mem next m _ u w hl' hk hn he hR hG (hT.put hp (.tup [] [] .nil)) (by rw [Act.put_defers']; exact hD) hmd
    | true =>
      rw [hw, cond_true] at hk
      simp only [if_true]
      obtain ⟨nx, mem1, next1, m1, w1, h1, h2, h3, h4, h5⟩ := opA_ok hE hR (aev_ok hG hT) hk
      have hn2 := Nat.le_trans hn h2
      have he2 := BM.ext_trans he h3 hn
      cases nx with
      | val av =>
        obtain ⟨v, hv, e⟩ := h5
        simp only [e]
        obtain ⟨t', hk, hp⟩ := putT_ok h1
        exact ih (i+1) t' md mem1 next1 m1 _ u w1 hl' hk hn2 he2 h4 (hG.mono h3.le) ((hT.mono h3.le).put hp hv) (by rw [Act.put_defers']; exact hD) (hmd.mono h3.le)
      | skip =>
        have e : (execOp a.eval o).run P w = .ok .skip w1 := h5
        simp only [e]
        obtain ⟨t', hk, hp⟩ := putT_ok h1
        exact ih (i+1) t' md mem1 next1 m1 _ u w1 hl' hk hn2 he2 h4 (hG.mono h3.le) ((hT.mono h3.le).put hp (.tup [] [] .nil)) (by rw [Act.put_defers']; exact hD) (hmd.mono h3.le)
      | recov =>
        have e : (execOp a.eval o).run P w = .ok .recover w1 := h5
        simp only [e]
        have hmd1 : MDRel σ m1 md ({ c00 with mode := u } : Frame).mode := hmd.mono h3.le
        have hrec := recoverD_ok (cs := cs) hmd1
        split at h1
        · rename_i v older
          obtain ⟨v', r1, r2, r3⟩ := hrec
          simp only [r1]
          obtain ⟨t', hk, hp⟩ := putT_ok h1
          exact ih (i+1) t' _ mem1 next1 m1 _ _ w1 hl' hk hn2 he2 h4 (hG.mono h3.le) ((hT.mono h3.le).put hp r2) (by rw [Act.put_defers']; exact hD) r3
        · rename_i hne
          have hnone : recoverD ({ c00 with mode := u } :: cs) = none := by
            split at hrec
            · rename_i v older _ _; exact absurd rfl (hne v older)
            · exact hrec
          simp only [hnone]
          obtain ⟨t', hk, hp⟩ := putT_ok h1
          exact ih (i+1) t' md mem1 next1 m1 _ u w1 hl' hk hn2 he2 h4 (hG.mono h3.le) ((hT.mono h3.le).put hp .nili) (by rw [Act.put_defers']; exact hD) (hmd.mono h3.le)
      | _ => cases h1

theorem step_execD {E : Env} (hE : EnvOk P E) {ih : M} (hM : MOk P E ih)
    (σ : Nat → Value) (prot : Nat → Prop) (w0 : World) (m : BM) (mem : T AB) (next : Nat) (w : World) (n : Nat) (c : Code) (t : T AV) (md : MD) (u : FrameMode) (k : AX → T AV → MD → T AB → Nat → Bool) (a : Act) (c0 : Frame) (cs : List Frame) (Q : Exit → Act → List Frame → World → Prop)
    (hk : (stepM E ih).execD n c t md mem next k = true) (hR : Rel σ prot w0 m mem next w) (hG : GOk E.G m) (hT : TRel σ m n t a.tmps) (hD : a.defers = []) (hu : c0.mode = u) (hmd : MDRel σ m md u)
    (hfin : ∀ x t' md' mem' next' m' e a' u' w', k x t' md' mem' next' = true → next ≤ next' → BM.ext prot next m m' → Rel σ prot w0 m' mem' next' w' → TRel σ m' n t' a'.tmps → a'.defers = [] → MDRel σ m' md' u' → XRel σ m' x e → Q e a' ({ c0 with mode := u' } :: cs) w') :
    c.wpSIn Fence.wide 0 P Q a (c0 :: cs) w := by
  subst hu
  have plain : ∀ c : Code, (ih.exec n none c t [] mem next fun x t ds mem next => (match ds with
        | [] => k x t md mem next
        | _ => false)) = true → c.wpSIn Fence.wide 0 P Q a (c0 :: cs) w := by
    intro c hk
    refine wpSIn_of_wpIn rfl ?_
    change c.wpIn (Fr none) 0 P _ a w
    refine hM.exec σ prot w0 m mem next w n none none c t [] _ a _ hk hR hG trivial hT (by rw [hD]; rfl) ?_
    intro x t' ds' mem' next' m' e a' w' hk hn he hR' hT' hD' hx
    cases ds' with
    | nil => exact hfin x t' md mem' next' m' e a' c0.mode w' hk hn he hR' hT' hD' (hmd.mono he.le) hx
    | cons d ds => cases hk
  cases c with
  | seq x y =>
    refine wpSIn_seq ?_
    change (ih.execD n x t md mem next fun x t md mem next => (match x with
      | .nrm => ih.execD n y t md mem next k
      | x => k x t md mem next)) = true at hk
    refine hM.execD σ prot w0 m mem next w n x t md c0.mode _ a c0 cs _ hk hR hG hT hD rfl hmd ?_
    intro x1 t1 md1 mem1 next1 m1 e1 a1 u1 w1 hk hn he hR1 hT1 hD1 hmd1 hx
    cases x1 with
    | nrm =>
      cases hx
      refine hM.execD σ prot w0 m1 mem1 next1 w1 n y t1 md1 u1 _ a1 { c0 with mode := u1 } cs _ hk hR1 (hG.mono he.le) hT1 hD1 rfl hmd1 ?_
      intro x2 t2 md2 mem2 next2 m2 e2 a2 u2 w2 hk hn2 he2 hR2 hT2 hD2 hmd2 hx2
      exact hfin x2 t2 md2 mem2 next2 m2 e2 a2 u2 w2 hk (Nat.le_trans hn hn2) (BM.ext_trans he he2 hn) hR2 hT2 hD2 hmd2 hx2
    | exit i => cases hx; exact hfin _ t1 md1 mem1 next1 m1 _ a1 u1 w1 hk hn he hR1 hT1 hD1 hmd1 rfl
    | goto i => cases hx; exact hfin _ t1 md1 mem1 next1 m1 _ a1 u1 w1 hk hn he hR1 hT1 hD1 hmd1 rfl
    | ret => cases hx; exact hfin _ t1 md1 mem1 next1 m1 _ a1 u1 w1 hk hn he hR1 hT1 hD1 hmd1 rfl
    | pnc c => obtain ⟨ch, rfl, hc⟩ := hx; exact hfin _ t1 md1 mem1 next1 m1 _ a1 u1 w1 hk hn he hR1 hT1 hD1 hmd1 ⟨ch, rfl, hc⟩
  | cond x y z =>
    change (match aev E.G t x with
      | .bool x => bif x then ih.execD n y t md mem next k else ih.execD n z t md mem next k
      | _ => false) = true at hk
    split at hk
    · rename_i b hb
      have hx := aev_ok hG hT x
      rw [hb] at hx
      generalize hv : a.eval x = v at hx
      cases hx
      refine wpSIn_cond hv ?_
      cases b with
      | true => exact hM.execD σ prot w0 m mem next w n y t md c0.mode k a c0 cs Q hk hR hG hT hD rfl hmd hfin
      | false => exact hM.execD σ prot w0 m mem next w n z t md c0.mode k a c0 cs Q hk hR hG hT hD rfl hmd hfin
    · cases hk
  | region id ops draw =>
    change (bif anyR asksRecover ops.toList then
        (bif draw then false else opsD E n ops.toList ops.toList t md mem next k)
      else ih.exec n none (.region id ops draw) t [] mem next fun x t ds mem next => (match ds with
        | [] => k x t md mem next
        | _ => false)) = true at hk
    cases hr : anyR asksRecover ops.toList with
    | false => rw [hr] at hk; exact plain _ hk
    | true =>
      rw [hr] at hk
      cases draw with
      | true => cases hk
      | false =>
        refine wpSIn_region ?_
        have := opsD_ok hE (Q := Q) (c00 := c0) (cs := cs) m next hfin ops.toList 0 t md mem next m a c0.mode w rfl hk (Nat.le_refl _) (BM.ext_refl _ _ _) hR hG hT hD hmd
        rw [List.range_eq_range']
        simpa using this
  | _ => exact plain _ hk
end Go.Ev

/- The evaluator of code: loops, scopes, range over functions. -/
namespace Go.Ev
variable {P : Program}

/-! ### loops -/
def loopGo (F : Fence) (P : Program) (c : Code) (Q : Exit → Act → World → Prop) (a : Act) (w : World) : Prop :=
  ∀ (b : Frame) (k : List Item) (cs : List Frame), b.roundOf = F.round → F.fn b.fn → F.room (cs.length + 1 + 0) →
    ∃ e a' w', Q e a' w' ∧ ArrivesIn (Machine.fenced P F) P (lone (b.atR a (.code c :: .inLoop c :: k)) cs w) b k cs e a' w'

theorem wpIn_of_loopGo {F : Fence} {c : Code} {Q : Exit → Act → World → Prop} {a : Act} {w : World} (h : loopGo F P c Q a w) : (Code.loop c).wpIn F 0 P Q a w := by
  intro b k cs hro hb hr
  obtain ⟨e, a', w', hq, harr⟩ := h b k cs hro hb hr
  exact ⟨e, a', w', hq, .of_steps (.one (fenced_calm hb hr rfl) stepR_loop) harr⟩

theorem loopGo_of {F : Fence} {c : Code} {Q : Exit → Act → World → Prop} {a : Act} {w : World} (h : c.wpIn F 0 P (Exit.then (fun a' w' => loopGo F P c Q a' w') Q) a w) : loopGo F P c Q a w := by
  intro b k cs hro hb hr
  obtain ⟨e, a₁, w₁, hq, harr⟩ := h b (.inLoop c :: k) cs hro hb hr
  cases e with
  | normal =>
    obtain ⟨e₂, a₂, w₂, hq₂, harr₂⟩ := hq b k cs hro hb hr
    exact ⟨e₂, a₂, w₂, hq₂, .of_steps (StepsIn.trans harr (.one (fenced_calm hb hr rfl) stepR_inLoop)) harr₂⟩
  | exit id => exact ⟨_, a₁, w₁, hq, .pass (x := .inLoop c) rfl (fun _ _ => .inl (by simp)) harr⟩
  | goto l => exact ⟨_, a₁, w₁, hq, .pass (x := .inLoop c) rfl (fun _ _ => .inl (by simp)) harr⟩
  | ret => exact ⟨_, a₁, w₁, hq, .pass (x := .inLoop c) rfl (fun _ _ => .inl (by simp)) harr⟩
  | panic ch => exact ⟨_, a₁, w₁, hq, .pass (x := .inLoop c) rfl (fun _ _ => .inl (by simp)) harr⟩
  | outgrown => exact ⟨_, a₁, w₁, hq, .pass (x := .inLoop c) rfl (fun _ _ => .inl (by simp)) harr⟩

structure LOk (P : Program) (E : Env) (M : M) : Prop where
  loop : ∀ (σ : Nat → Value) (prot : Nat → Prop) (w0 : World) (m : BM) (mem : T AB) (next : Nat) (w : World) (n : Nat) (rnd r : Option Nat) (c : Code) (t : T AV) (ds : List AD) (k : XK) (a : Act) (Q : Exit → Act → World → Prop),
    M.exec n rnd (.loop c) t ds mem next k = true → Rel σ prot w0 m mem next w → GOk E.G m → RndRel m rnd r → TRel σ m n t a.tmps → DsRel σ m ds a.defers →
    (∀ x t' ds' mem' next' m' e a' w', k x t' ds' mem' next' = true → next ≤ next' → BM.ext prot next m m' → Rel σ prot w0 m' mem' next' w' → TRel σ m' n t' a'.tmps → DsRel σ m' ds' a'.defers → XRel σ m' x e → Q e a' w') →
    loopGo (Fr r) P c Q a w

theorem step_loop {E : Env} {ih : M} (hM : MOk P E ih) (hL : LOk P E ih) : LOk P E (stepM E ih) where
  loop := by
    intro σ prot w0 m mem next w n rnd r c t ds k a Q hk hR hG hrnd hT hD hfin
    refine loopGo_of ?_
    simp only [stepM] at hk
    refine hM.exec σ prot w0 m mem next w n rnd r c t ds _ a _ hk hR hG hrnd hT hD ?_
    intro x t1 ds1 mem1 next1 m1 e1 a1 w1 hk hn he hR1 hT1 hD1 hx
    cases x with
    | nrm =>
      cases hx
      refine hL.loop σ prot w0 m1 mem1 next1 w1 n rnd r c t1 ds1 k a1 Q hk hR1 (hG.mono he.le) (hrnd.mono he.le) hT1 hD1 ?_
      intro x2 t2 ds2 mem2 next2 m2 e2 a2 w2 hk hn2 he2 hR2 hT2 hD2 hx2
      exact hfin x2 t2 ds2 mem2 next2 m2 e2 a2 w2 hk (Nat.le_trans hn hn2) (BM.ext_trans he he2 hn) hR2 hT2 hD2 hx2
    | exit i => cases hx; exact hfin _ t1 ds1 mem1 next1 m1 _ a1 w1 hk hn he hR1 hT1 hD1 rfl
    | goto i => cases hx; exact hfin _ t1 ds1 mem1 next1 m1 _ a1 w1 hk hn he hR1 hT1 hD1 rfl
    | ret => cases hx; exact hfin _ t1 ds1 mem1 next1 m1 _ a1 w1 hk hn he hR1 hT1 hD1 rfl
    | pnc c => obtain ⟨ch, rfl, hc⟩ := hx; exact hfin _ t1 ds1 mem1 next1 m1 _ a1 w1 hk hn he hR1 hT1 hD1 ⟨ch, rfl, hc⟩

/-! ### scopes -/
section
variable {b : Frame} {a : Act} {k : List Item} {cs : List Frame} {w : World} {Q : Exit → Act → World → Prop} {F : Fence}
theorem stepR_scope {c : Code} : step P (lone (b.atR a (.code (.scope c) :: k)) cs w) = .next (lone (b.atR a (.code c :: .inScope c :: k)) cs w) :=
  step_lone_go (by simp [stepG, stepG.exec, Frame.atR])
theorem stepR_inScope {c : Code} : step P (lone (b.atR a (.inScope c :: k)) cs w) = .next (lone (b.atR a k) cs w) :=
  step_lone_go (by simp [stepG, stepG.exec, Frame.atR])
theorem wpIn_scope {c : Code} (h : c.wpIn F 0 P (Exit.noGoto Q) a w) : (Code.scope c).wpIn F 0 P Q a w := by
  intro b k cs hro hb hr
  have h0 : (lone (b.atR a (.code (.scope c) :: k)) cs w).fenced P F := fenced_calm hb hr rfl
  obtain ⟨e, a₁, w₁, hq, harr⟩ := h b (.inScope c :: k) cs hro hb hr
  cases e with
  | normal => exact ⟨.normal, a₁, w₁, hq, .head h0 stepR_scope (StepsIn.trans harr (.one (fenced_calm hb hr rfl) stepR_inScope))⟩
  | exit id =>
    have hx : exitTo id (.inScope c :: k) = exitTo id k := by simp [exitTo]
    exact ⟨.exit id, a₁, w₁, hq, fun k' hk => .head h0 stepR_scope (harr.1 k' (by rw [hx]; exact hk)),
      fun hr' hk => let ⟨k₁, h1, h2⟩ := harr.2 hr' (by rw [hx]; exact hk); ⟨k₁, h1, .head h0 stepR_scope h2⟩⟩
  | goto l => exact hq.elim
  | ret => exact ⟨_, a₁, w₁, hq, .of_steps (.one h0 stepR_scope) harr⟩
  | panic ch => exact ⟨_, a₁, w₁, hq, .of_steps (.one h0 stepR_scope) harr⟩
  | outgrown => exact ⟨_, a₁, w₁, hq, .of_steps (.one h0 stepR_scope) harr⟩
end

/-! ### range over functions -/
section
variable {σ : Nat → Value} {prot : Nat → Prop} {w0 : World} {m : BM} {mem : T AB} {next : Nat} {w : World}
theorem newLoop (h : Rel σ prot w0 m mem next w) {d rd cd : Nat} (hd : m d = some (rd, cd)) {n : Nat} {t : T AV} {tm : Array Value} (hT : TRel σ m n t tm) (fn : Nat) (ps : Array Nat) (assign body : Code) :
    ∃ m1, BM.ext prot next m m1 ∧ m1 next = some (w.heap.size, 0) ∧ Rel σ prot w0 m1 (mem.upd next (.loop .ready none 0 n t ps assign body d)) (next+1) (w.alloc (.loop { state := .ready, pending := none, fn := fn, tmps := tm, params := ps, assign := assign, body := body, defers := rd })) := by
  have hx := ext_new h 0
  have hn : (fun x => if x = next then some (w.heap.size, 0) else m x) next = some (w.heap.size, 0) := by simp
  obtain ⟨_, hR⟩ := h.alloc (.loop .ready none 0 n t ps assign body d) 0 (.loop { state := .ready, pending := none, fn := fn, tmps := tm, params := ps, assign := assign, body := body, defers := rd })
    ⟨fn, tm, rd, cd, rfl, hT.mono hx.le, hx.le _ _ hd⟩
  exact ⟨_, hx, hn, hR⟩

theorem enterLoop_none (h : Rel σ prot w0 m mem next w) {n : Nat} {t : T AV} {tm : Array Value} (hT : TRel σ m n t tm) (fn : Nat) (ps : Array Nat) (assign body : Code) :
    ∃ lr mr w1 m1, (Instr.enterLoop fn tm ps assign body none).run P w = .ok (lr, [{ target := .collected mr, args := #[] }]) w1 ∧ BM.ext prot next m m1 ∧ m1 (next+1) = some (lr, 0) ∧ m1 next = some (mr, 0) ∧
      Rel σ prot w0 m1 ((mem.upd next (.dfr (some []))).upd (next+1) (.loop .ready none 0 n t ps assign body next)) (next+2) w1 := by
  have hx := ext_new h 0
  have hn : (fun x => if x = next then some (w.heap.size, 0) else m x) next = some (w.heap.size, 0) := by simp
  obtain ⟨_, hR⟩ := h.alloc (.dfr (some [])) 0 (.deferred (some [])) ⟨[], rfl, rfl⟩
  obtain ⟨m1, h1, h2, h3⟩ := newLoop hR hn (hT.mono hx.le) fn ps assign body
  refine ⟨_, w.heap.size, _, m1, ?_, BM.ext_trans hx h1 (Nat.le_succ _), h2, h1.le _ _ hn, h3⟩
  simp [Instr.enterLoop]

theorem enterLoop_some (h : Rel σ prot w0 m mem next w) {n : Nat} {t : T AV} {tm : Array Value} (hT : TRel σ m n t tm) (fn : Nat) (ps : Array Nat) (assign body : Code)
    {l r c : Nat} {st : LoopState} {pend : Option Code} {fn' n' : Nat} {t' : T AV} {ps' : Array Nat} {as' bd' : Code} {d : Nat} (hb : mem.get l = some (.loop st pend fn' n' t' ps' as' bd' d)) (hm : m l = some (r, c)) :
    ∃ lr w1 m1, (Instr.enterLoop fn tm ps assign body (some r)).run P w = .ok (lr, []) w1 ∧ BM.ext prot next m m1 ∧ m1 next = some (lr, 0) ∧
      Rel σ prot w0 m1 (mem.upd next (.loop .ready none 0 n t ps assign body d)) (next+1) w1 := by
  obtain ⟨_, tm', rd, cd, _, hg, hd, _⟩ := loopRec h P hb hm
  obtain ⟨m1, h1, h2, h3⟩ := newLoop h hd hT fn ps assign body
  refine ⟨_, _, m1, ?_, h1, h2, h3⟩
  simp only [Instr.enterLoop, Sem.run_bind, hg, Result.andThen_ok, Sem.run_pure]
  simp
end
end Go.Ev

/- A drawn region, its static part apart: the same. -/
namespace Go.Ev
variable {P : Program}

theorem Shot1.imp {A : Type} {F : (A → Bool) → Bool} (h : Shot1 F) {K K' : A → Bool} (hk : F K' = true) (hi : ∀ a, K' a = true → K a = true) : F K = true := by
  obtain ⟨a, h1, h2⟩ := h _ hk
  exact h2 _ (hi _ h1)
theorem Shot.imp {A B C : Type} {F : (A → B → C → Bool) → Bool} (h : Shot F) {K K' : A → B → C → Bool} (hk : F K' = true) (hi : ∀ a b c, K' a b c = true → K a b c = true) : F K = true := by
  obtain ⟨a, b, c, h1, h2⟩ := h _ hk
  exact h2 _ (hi _ _ _ h1)

theorem Shot.bd {A B C D : Type} {F : (A → B → C → Bool) → Bool} (h : Shot F) {G : A → B → C → (D → Bool) → Bool} (g : ∀ a b c, Shot1 (G a b c)) : Shot1 fun k => F fun a b c => G a b c k := by
  intro k hk
  obtain ⟨a, b, c, h1, h2⟩ := h _ hk
  obtain ⟨d, g1, g2⟩ := g a b c k h1
  exact ⟨d, g1, fun k' hk' => h2 _ (g2 k' hk')⟩

def Shot0 (F : Bool → Bool) : Prop := ∀ b, F b = true → b = true ∧ F true = true
theorem Shot0.id : Shot0 fun b => b := fun _ h => ⟨h, rfl⟩
theorem Shot0.no : Shot0 fun _ => false := fun _ h => by cases h
theorem Shot0.bif {c : Bool} {F G : Bool → Bool} (h : Shot0 F) (g : Shot0 G) : Shot0 fun b => bif c then F b else G b := by cases c; exact g; exact h
theorem Shot0.bind {D : Type} {F : (D → Bool) → Bool} (h : Shot1 F) {G : D → Bool → Bool} (g : ∀ d, Shot0 (G d)) : Shot0 fun b => F fun d => G d b := by
  intro b hb
  obtain ⟨d, h1, h2⟩ := h _ hb
  obtain ⟨g1, g2⟩ := g d b h1
  exact ⟨g1, h2 _ g2⟩
theorem Shot1.after {A : Type} {F : Bool → Bool} (h : Shot0 F) {G : (A → Bool) → Bool} (g : Shot1 G) : Shot1 fun k => F (G k) := by
  intro k hk
  obtain ⟨h1, h2⟩ := h _ hk
  obtain ⟨a, g1, g2⟩ := g k h1
  exact ⟨a, g1, fun k' hk' => by show F (G k') = true; rw [g2 k' hk']; exact h2⟩
theorem Shot0.imp {F : Bool → Bool} (h : Shot0 F) {b b' : Bool} (hk : F b' = true) (hi : b' = true → b = true) : F b = true := by
  obtain ⟨h1, h2⟩ := h _ hk
  rw [hi h1]; exact h2

theorem sAddL (p : DI → Bool) (base : Nat) (is : List DI) : ∀ mem, Shot1 fun k => addL p base is mem k := by
  induction is with
  | nil => intro mem; exact Shot1.ret _
  | cons d is ih =>
    intro mem
    show Shot1 fun k => match d.kd with
      | .val _ (some B) => bif p d then natK (Nat.add base d.idx) fun i => mem.set i B fun mem => addL p base is mem k else addL p base is mem k
      | _ => addL p base is mem k
    split
    · exact Shot1.bif (Shot1.bind (sNat _) fun _ => Shot1.bind (sSet _ _ _) fun m => ih m) (ih mem)
    · exact ih mem
theorem sRdS (E : Env) (ρ : Operand → AV) (o : Oper) (is : List DI) (base mask : Nat) (a : AV) (sts : List DSt) : Shot0 fun b => rdS E ρ o is base mask a sts b := by
  induction sts with
  | nil => exact Shot0.no
  | cons s sts ih =>
    show Shot0 fun b => addL (fun d => !tb s.hm d.idx) base is s.mem fun M => readA E ρ o M fun a' => bif avEq a' a then (bif sub s.hm mask then b else rdS E ρ o is base mask a sts b) else false
    exact Shot0.bind (sAddL _ _ _ _) fun M => Shot0.bind (sRead _ _ _ _) fun a' => Shot0.bif (Shot0.bif Shot0.id ih) Shot0.no
theorem sReread (E : Env) (is : List DI) (base mask hm : Nat) (mem : T AB) : Shot0 fun b => reread E is base mask hm mem b := by
  unfold reread
  exact Shot0.bif (Shot0.bind (sAddL _ _ _ _) fun M => Shot0.bif Shot0.id Shot0.no) Shot0.id

theorem drawD_cons (E : Env) (hv : HV) (n base : Nat) (ops : Array Oper) (o : Oper) (l : List Oper) (i : Nat) (is : List DI) (t : T AV) (sts : List DSt) (mask : Nat) (ms : List Nat) (k : T AV → List DI → List DSt → Bool) :
    drawD E hv n base ops (o :: l) i is t sts (mask :: ms) k = (
        natK (Nat.add base i) fun id =>
        natK (Nat.succ i) fun i' =>
        guardA ops.toList t o.guard fun wanted =>
          bif wanted then
            (bif isRead (aev E.G t) o then
              (match sts with
               | s :: _ => addL (fun d => !tb s.hm d.idx) base is s.mem fun M => readA E (aev E.G t) o M fun a => rdS E (aev E.G t) o is base mask a sts (putT n t o.dst a fun t' => drawD E hv n base ops l i' (⟨i, o, o.looksAt ops, mask, t, .read a⟩ :: is) t' sts ms k)
               | [] => false)
             else bif isLight o then
              lightA E (aev E.G t) o .e id fun a m' _ => bif allR (fun s => isFree (s.mem.get id)) sts then
                putT n t o.dst a fun t' => drawD E hv n base ops l i' (⟨i, o, o.looksAt ops, mask, t, .val a (m'.get id)⟩ :: is) t' sts ms k else false
             else (match sts with
              | s :: _ => bif sub s.hm mask then
                  addL (fun d => tb mask d.idx && !tb s.hm d.idx) base is s.mem fun M =>
                  natK (Nat.lor mask (Nat.pow 2 i)) fun cm =>
                  hv (aev E.G t) o M s.next fun hx m' nx => (match hx with
                    | .val a => bif allR (pendFree base mask m') is then
                        reread E is base mask cm m' (putT n t o.dst a fun t' => drawD E hv n base ops l i' (⟨i, o, o.looksAt ops, mask, t, .heavy a⟩ :: is) t' (⟨i, cm, m', nx⟩ :: sts) ms k)
                        else false
                    | _ => false)
                 else false
              | [] => false))
          else putT n t o.dst (.tup []) fun t' => drawD E hv n base ops l i' (⟨i, o, o.looksAt ops, mask, t, .skip⟩ :: is) t' sts ms k) := rfl
theorem statL_cons (ops : Array Oper) (o : Oper) (l : List Oper) (i : Nat) (is : List DI) (mks : T Nat) :
    statL ops (o :: l) i is mks = (match maskO o.after.toList mks 0 with
      | none => none
      | some mask => (fun rs => bif allR (pairOk o.dst rs mask) is && gdOk o mask then
          natK (Nat.lor mask (Nat.pow 2 i)) fun cm => mks.set i cm fun mks => natK (Nat.succ i) fun i' =>
            (match statL ops l i' (⟨i, o, rs, mask, .e, .skip⟩ :: is) mks with
              | some ms => some (mask :: ms)
              | none => none)
          else none) (o.looksAt ops)) := rfl

theorem maskO_eq (es : List Edge) (mks : T Nat) : ∀ (acc : Nat) (k : Nat → Bool) (m : Nat), maskO es mks acc = some m → maskK es mks acc k = k m := by
  induction es with
  | nil => intro acc k m h; cases h; rfl
  | cons e es ih =>
    intro acc k m h
    change (bif Region.binds .any e then (match mks.get e.on with
      | some c => natK (Nat.lor acc c) fun acc => maskO es mks acc
      | none => none) else maskO es mks acc) = some m at h
    show (bif Region.binds .any e then (match mks.get e.on with
      | some c => natK (Nat.lor acc c) fun acc => maskK es mks acc k
      | none => false) else maskK es mks acc k) = k m
    cases hb : Region.binds .any e with
    | false => rw [hb, cond_false] at h; rw [cond_false]; exact ih _ _ _ h
    | true =>
      rw [hb, cond_true] at h
      rw [cond_true]
      split at h
      · rename_i c hc
        rw [natK_eq] at h
        simp only [natK_eq]
        exact ih _ _ _ h
      · cases h

def stp (d : DI) : Nat × Oper × List Nat := (d.idx, d.o, d.rs)
theorem pairOk_stp {dst : Option Nat} {rs : List Nat} {mask : Nat} : ∀ {is is' : List DI}, is.map stp = is'.map stp → allR (pairOk dst rs mask) is = allR (pairOk dst rs mask) is' := by
  intro is
  induction is with
  | nil => intro is' h; cases is' with | nil => rfl | cons => cases h
  | cons d is ih =>
    intro is' h
    cases is' with
    | nil => cases h
    | cons d' is' =>
      simp only [List.map_cons, List.cons.injEq] at h
      obtain ⟨h1, h2⟩ := h
      have hp : pairOk dst rs mask d = pairOk dst rs mask d' := by
        simp only [stp, Prod.mk.injEq] at h1
        obtain ⟨e1, e2, e3⟩ := h1
        unfold pairOk
        rw [e1, e2, e3]
      show (Bool.rec false (allR (pairOk dst rs mask) is) (pairOk dst rs mask d) : Bool) = Bool.rec false (allR (pairOk dst rs mask) is') (pairOk dst rs mask d')
      rw [hp, ih h2]

theorem drawD_imp {E : Env} {rnd : Option Nat} {hv : HV} (H : HOk P E rnd hv) (n base : Nat) (ops : Array Oper) (k : T AV → List DI → List DSt → Bool) (l : List Oper) : ∀ (i : Nat) (is is' : List DI) (mks : T Nat) (t : T AV) (sts : List DSt) (ms : List Nat),
    statL ops l i is' mks = some ms → is.map stp = is'.map stp → drawD E hv n base ops l i is t sts ms k = true → drawL E hv n base ops l i is mks t sts k = true := by
  induction l with
  | nil => intro i is is' mks t sts ms _ _ h; exact h
  | cons o l ih =>
    intro i is is' mks t sts ms hs he h
    rw [statL_cons] at hs
    split at hs
    · cases hs
    · rename_i mask hm
      dsimp only at hs
      cases hb : (allR (pairOk o.dst (o.looksAt ops) mask) is' && gdOk o mask) with
      | false => rw [hb, cond_false] at hs; cases hs
      | true =>
        rw [hb, cond_true, natK_eq, T.set_eq, natK_eq] at hs
        split at hs
        · rename_i ms' hs'
          cases hs
          rw [drawD_cons] at h
          rw [drawL_cons, maskO_eq _ _ _ _ _ hm, natK_eq, natK_eq]
          rw [natK_eq, natK_eq] at h
          dsimp only
          rw [pairOk_stp he]
          change (bif allR (pairOk o.dst (o.looksAt ops) mask) is' && gdOk o mask then _ else false) = true
          rw [hb, cond_true, natK_eq, T.set_eq]
          have rec_ : ∀ (d : DI) (t' : T AV) (sts' : List DSt), stp d = (i, o, o.looksAt ops) → drawD E hv n base ops l (Nat.succ i) (d :: is) t' sts' ms' k = true →
              drawL E hv n base ops l (Nat.succ i) (d :: is) (mks.upd i (Nat.lor mask (Nat.pow 2 i))) t' sts' k = true := by
            intro d t' sts' hd h
            refine ih _ _ _ _ _ _ _ hs' ?_ h
            simp only [List.map_cons, he, hd]
            rfl
          refine Shot1.imp (sGuard _ _ _) h fun wanted h => ?_
          cases wanted with
          | false =>
            rw [cond_false] at h ⊢
            exact Shot1.imp (sPutT _ _ _ _) h fun t' h => rec_ _ _ _ rfl h
          | true =>
            rw [cond_true] at h ⊢
            cases hr : isRead (aev E.G t) o with
            | true =>
              rw [hr, cond_true] at h
              rw [cond_true]
              cases sts with
              | nil => cases h
              | cons s sts =>
                exact Shot1.imp (sAddL _ _ _ _) h fun M h => Shot1.imp (sRead _ _ _ _) h fun a h => Shot0.imp (sRdS _ _ _ _ _ _ _ _) h fun h => Shot1.imp (sPutT _ _ _ _) h fun t' h => rec_ _ _ _ rfl h
            | false =>
              rw [hr, cond_false] at h
              rw [cond_false]
              cases hl : isLight o with
              | true =>
                rw [hl, cond_true] at h
                rw [cond_true]
                refine Shot.imp (sLight _ _ _ _ _) h fun a m' _ h => ?_
                obtain ⟨h1, h⟩ := bifT h
                rw [h1, cond_true]
                exact Shot1.imp (sPutT _ _ _ _) h fun t' h => rec_ _ _ _ rfl h
              | false =>
                rw [hl, cond_false] at h
                rw [cond_false]
                cases sts with
                | nil => cases h
                | cons s sts =>
                  dsimp only at h ⊢
                  obtain ⟨h1, h⟩ := bifT h
                  rw [h1, cond_true]
                  refine Shot1.imp (sAddL _ _ _ _) h fun M h => ?_
                  rw [natK_eq] at h
                  refine Shot.imp (H.shot _ _ _ _) h fun hx m' nx h => ?_
                  cases hx with
                  | val a =>
                    dsimp only at h ⊢
                    obtain ⟨h1, h⟩ := bifT h
                    rw [h1, cond_true]
                    exact Shot0.imp (sReread _ _ _ _ _ _) h fun h => Shot1.imp (sPutT _ _ _ _) h fun t' h => rec_ _ _ _ rfl h
                  | pnc c => cases h
                  | dfr d => cases h
        · cases hs

theorem drawF_imp {E : Env} {rnd : Option Nat} {hv : HV} (H : HOk P E rnd hv) {n : Nat} {ops : Array Oper} {t : T AV} {mem : T AB} {next : Nat} {k : T AV → T AB → Nat → Bool} (h : drawF E hv n ops t mem next k = true) : drawX E hv n ops t mem next k = true := by
  unfold drawF at h
  split at h
  · cases h
  · rename_i ms hs
    unfold drawX
    rw [natK_eq] at h ⊢
    exact drawD_imp H n next ops _ ops.toList 0 [] [] .e t _ ms hs rfl h

theorem sDrawD {E : Env} {rnd : Option Nat} {hv : HV} (H : HOk P E rnd hv) (n base : Nat) (ops : Array Oper) (l : List Oper) : ∀ i is t sts ms, Shot1 fun (k : T AV × List DI × List DSt → Bool) => drawD E hv n base ops l i is t sts ms fun t is sts => k (t, is, sts) := by
  induction l with
  | nil => intro i is t sts ms; exact Shot1.ret _
  | cons o l ih =>
    intro i is t sts ms
    cases ms with
    | nil => exact Shot1.no
    | cons mask ms =>
      simp only [drawD_cons]
      refine Shot1.bind (sNat _) fun id => Shot1.bind (sNat _) fun i' => ?_
      refine Shot1.bind (sGuard _ _ _) fun wanted => Shot1.bif ?_ (Shot1.bind (sPutT _ _ _ _) fun t' => ih _ _ _ _ _)
      refine Shot1.bif ?_ (Shot1.bif ?_ ?_)
      · cases sts with
        | nil => exact Shot1.no
        | cons s sts =>
          exact Shot1.bind (sAddL _ _ _ _) fun M => Shot1.bind (sRead _ _ _ _) fun a => Shot1.after (sRdS _ _ _ _ _ _ _ _) (Shot1.bind (sPutT _ _ _ _) fun t' => ih _ _ _ _ _)
      · exact Shot.bd (sLight _ _ _ _ _) fun a m' _ => Shot1.bif (Shot1.bind (sPutT _ _ _ _) fun t' => ih _ _ _ _ _) Shot1.no
      · cases sts with
        | nil => exact Shot1.no
        | cons s sts =>
          refine Shot1.bif (Shot1.bind (sAddL _ _ _ _) fun M => Shot1.bind (sNat _) fun cm => Shot.bd (H.shot _ _ _ _) fun hx m' nx => ?_) Shot1.no
          cases hx with
          | val a => exact Shot1.bif (Shot1.after (sReread _ _ _ _ _ _) (Shot1.bind (sPutT _ _ _ _) fun t' => ih _ _ _ _ _)) Shot1.no
          | pnc c => exact Shot1.no
          | dfr d => exact Shot1.no
end Go.Ev

/- The evaluator of code: one level more. -/
namespace Go.Ev
variable {P : Program}

/-- What happens once the record is laid. -/
noncomputable def rangeK (ih : M) (n : Nat) (rnd : Option Nat) (f : Nat) (first cap : List AV) (l : Nat) (t : T AV) (ds : List AD) (mem : T AB) (next : Nat) (k : XK) : Bool :=
  ih.call f (first ++ [.yld l] ++ cap) mem next fun e mem next => (match e with
    | .ret _ => (match mem.get l with
      | some (.loop st pend fn n' tmps params as bd df) => (match st with
        | .busy => false
        | _ => mem.set l (.loop .exhausted pend fn n' tmps params as bd df) fun mem => (match pend with
          | none => k .nrm t ds mem next
          | some c => ih.exec n rnd c t ds mem next k))
      | _ => false)
    | .pnc c => k (.pnc c) t ds mem next)

theorem rangeK_ok {E : Env} {ih : M} (hM : MOk P E ih)
    (σ : Nat → Value) (prot : Nat → Prop) (w0 : World) (m : BM) (mem : T AB) (next : Nat) (w : World) (n : Nat) (rnd r : Option Nat) (f : Nat) (first cap : List AV) (first' cap' : List Value) (l lr : Nat) (t : T AV) (ds : List AD) (k : XK) (a : Act) (Q : Exit → Act → World → Prop)
    (hk : rangeK ih n rnd f first cap l t ds mem next k = true) (hR : Rel σ prot w0 m mem next w) (hG : GOk E.G m) (hrnd : RndRel m rnd r) (hT : TRel σ m n t a.tmps) (hD : DsRel σ m ds a.defers)
    (hl : m l = some (lr, 0)) (h1 : LRel σ m first first') (h2 : LRel σ m cap cap')
    (hfin : ∀ x t' ds' mem' next' m' e a' w', k x t' ds' mem' next' = true → next ≤ next' → BM.ext prot next m m' → Rel σ prot w0 m' mem' next' w' → TRel σ m' n t' a'.tmps → DsRel σ m' ds' a'.defers → XRel σ m' x e → Q e a' w') :
    (∃ fi, E.fns.get f = some fi) ∧ CallsIn (Fr r) 0 P f ⟨first' ++ [.func (.yield lr) #[] #[]] ++ cap'⟩ w (rangePost (Fr r) 0 P lr Q a) := by
  unfold rangeK at hk
  refine ⟨hM.fcall _ _ _ _ _ hk, ?_⟩
  have hargs : LRel σ m (first ++ [.yld l] ++ cap) (first' ++ [.func (.yield lr) #[] #[]] ++ cap') := (h1.append (.cons _ _ _ _ (.yld _ _ _ hl) .nil)).append h2
  have hc := hM.call σ prot w0 m mem next w f _ _ _ (rangePost (Fr r) 0 P lr Q a) hk hR hG hargs ?_
  · exact hc
  · intro x mem1 next1 m1 e w1 hk hn he hR1 hx
    cases x with
    | pnc c =>
      obtain ⟨ch, rfl, hc⟩ := hx
      exact hfin (.pnc c) t ds mem1 next1 m1 (.panic ch) a w1 hk hn he hR1 (hT.mono he.le) (hD.mono he.le) ⟨ch, rfl, hc⟩
    | ret av =>
      obtain ⟨v, rfl, hv⟩ := hx
      dsimp only at hk
      split at hk
      · rename_i st pend fn n' tmps params as bd df hb
        split at hk
        · cases hk
        · rename_i hst
          rw [T.set_eq] at hk
          obtain ⟨w2, h3, h4⟩ := endLoop_ok hR1 P hst hb (he.le _ _ hl)
          refine ⟨pend, w2, h3, ?_⟩
          cases pend with
          | none => exact hfin .nrm t ds _ next1 m1 .normal a w2 hk hn he h4 (hT.mono he.le) (hD.mono he.le) rfl
          | some c =>
            refine hM.exec σ prot w0 m1 _ next1 w2 n rnd r c t ds k a Q hk h4 (hG.mono he.le) (hrnd.mono he.le) (hT.mono he.le) (hD.mono he.le) ?_
            intro x2 t2 ds2 mem2 next2 m2 e2 a2 w2 hk hn2 he2 hR2 hT2 hD2 hx2
            exact hfin x2 t2 ds2 mem2 next2 m2 e2 a2 w2 hk (Nat.le_trans hn hn2) (BM.ext_trans he he2 hn) hR2 hT2 hD2 hx2
      · cases hk

theorem step_range {E : Env} (hE : EnvOk P E) {ih : M} (hM : MOk P E ih)
    (σ : Nat → Value) (prot : Nat → Prop) (w0 : World) (m : BM) (mem : T AB) (next : Nat) (w : World) (n : Nat) (rnd r : Option Nat) (g : Operand) (ps : Array Nat) (assign body : Code) (t : T AV) (ds : List AD) (k : XK) (a : Act) (Q : Exit → Act → World → Prop)
    (hk : (stepM E ih).exec n rnd (.rangeFunc g ps assign body) t ds mem next k = true) (hR : Rel σ prot w0 m mem next w) (hG : GOk E.G m) (hrnd : RndRel m rnd r) (hT : TRel σ m n t a.tmps) (hD : DsRel σ m ds a.defers)
    (hfin : ∀ x t' ds' mem' next' m' e a' w', k x t' ds' mem' next' = true → next ≤ next' → BM.ext prot next m m' → Rel σ prot w0 m' mem' next' w' → TRel σ m' n t' a'.tmps → DsRel σ m' ds' a'.defers → XRel σ m' x e → Q e a' w') :
    (Code.rangeFunc g ps assign body).wpIn (Fr r) 0 P Q a w := by
  simp only [stepM] at hk
  split at hk
  · rename_i f first cap hg
    have hgv := aev_ok hG hT g
    rw [hg] at hgv
    generalize hgv' : a.eval g = gv at hgv
    cases hgv with
    | fn _ _ _ first' cap' h1 h2 =>
      refine wpIn_rangeFunc fun fn _ => ?_
      have hres : ∀ lr w1, (resolve a.eval (rangeCall g lr) 0).run P w1 = .ok { target := .fn (.func f) ⟨cap'⟩, args := ⟨first' ++ [.func (.yield lr) #[] #[]]⟩ } w1 := by
        intro lr w1
        have : (resolve a.eval (rangeCall g lr) 0) = Deferred.ofValue (a.eval g) #[.func (.yield lr) #[] #[]] := by
          simp [resolve, rangeCall, Act.eval]
        rw [this, hgv']
        simp [Deferred.ofValue]
      have hinv : ∀ lr w1, (∃ fi, E.fns.get f = some fi) → (invoke (.fn (.func f) ⟨cap'⟩) ⟨first' ++ [.func (.yield lr) #[] #[]]⟩).run P w1 = .ok (.enter f ⟨first' ++ [.func (.yield lr) #[] #[]] ++ cap'⟩) w1 := by
        intro lr w1 ⟨fi, hfi⟩
        have : (invoke (.fn (.func f) ⟨cap'⟩) ⟨first' ++ [.func (.yield lr) #[] #[]]⟩).run P w1 = (callFunc f ⟨first' ++ [.func (.yield lr) #[] #[]] ++ cap'⟩).run P w1 := by simp [invoke]
        rw [this]
        exact fiEnter hE hfi _ w1
      cases rnd with
      | none =>
        cases r with
        | some _ => exact hrnd.elim
        | none =>
          dsimp only at hk
          rw [T.set_eq, natK_eq, T.set_eq, natK_eq] at hk
          change rangeK ih n none f first cap (next+1) t (AD.coll next :: ds) _ (next+2) k = true at hk
          obtain ⟨lr, mr, w1, m1, e1, e2, e3, e4, e5⟩ := enterLoop_none (P := P) hR hT fn ps assign body
          obtain ⟨f1, f2⟩ := rangeK_ok hM σ prot w0 m1 _ (next+2) w1 n none none f first cap first' cap' (next+1) lr t (AD.coll next :: ds) k { a with defers := [{ target := .collected mr, args := #[] }] ++ a.defers } Q hk e5 (hG.mono e2.le) trivial (hT.mono e2.le)
            ⟨_, _, rfl, ⟨mr, 0, rfl, e4⟩, hD.mono e2.le⟩ e3 (h1.mono e2.le) (h2.mono e2.le) fun x2 t2 ds2 mem2 next2 m2 ee2 a2 w2 hk hn2 he2 hR2 hT2 hD2 hx2 =>
              hfin x2 t2 ds2 mem2 next2 m2 ee2 a2 w2 hk (by omega) (BM.ext_trans e2 he2 (by omega)) hR2 hT2 hD2 hx2
          exact ⟨lr, _, w1, _, w1, f, _, w1, e1, hres lr w1, fun _ _ => trivial, hinv lr w1 f1, fr_depth, f2⟩
      | some rr =>
        dsimp only at hk
        split at hk
        · rename_i st pend fn' n' t' ps' as' bd' d hb
          cases r with
          | none => exact hrnd.elim
          | some rw_ =>
            obtain ⟨c, hm⟩ := hrnd
            rw [T.set_eq, natK_eq] at hk
            change rangeK ih n (some rr) f first cap next t ds _ (next+1) k = true at hk
            obtain ⟨lr, w1, m1, e1, e2, e3, e5⟩ := enterLoop_some (P := P) hR hT fn ps assign body hb hm
            obtain ⟨f1, f2⟩ := rangeK_ok hM σ prot w0 m1 _ (next+1) w1 n (some rr) (some rw_) f first cap first' cap' next lr t ds k { a with defers := [] ++ a.defers } Q hk e5 (hG.mono e2.le) ⟨c, e2.le _ _ hm⟩ (hT.mono e2.le)
              (hD.mono e2.le) e3 (h1.mono e2.le) (h2.mono e2.le) fun x2 t2 ds2 mem2 next2 m2 ee2 a2 w2 hk hn2 he2 hR2 hT2 hD2 hx2 =>
                hfin x2 t2 ds2 mem2 next2 m2 ee2 a2 w2 hk (by omega) (BM.ext_trans e2 he2 (by omega)) hR2 hT2 hD2 hx2
            exact ⟨lr, _, w1, _, w1, f, _, w1, e1, hres lr w1, fun _ _ => trivial, hinv lr w1 f1, fr_depth, f2⟩
        · cases hk
  · cases hk

theorem step_exec {E : Env} (hE : EnvOk P E) (hS : EnvShot E) (hmix : P.follows .mixedOrders = true) {ih : M} (hM : MOk P E ih) (hL : LOk P E ih)
    (σ : Nat → Value) (prot : Nat → Prop) (w0 : World) (m : BM) (mem : T AB) (next : Nat) (w : World) (n : Nat) (rnd r : Option Nat) (c : Code) (t : T AV) (ds : List AD) (k : XK) (a : Act) (Q : Exit → Act → World → Prop)
    (hk : (stepM E ih).exec n rnd c t ds mem next k = true) (hR : Rel σ prot w0 m mem next w) (hG : GOk E.G m) (hrnd : RndRel m rnd r) (hT : TRel σ m n t a.tmps) (hD : DsRel σ m ds a.defers)
    (hfin : ∀ x t' ds' mem' next' m' e a' w', k x t' ds' mem' next' = true → next ≤ next' → BM.ext prot next m m' → Rel σ prot w0 m' mem' next' w' → TRel σ m' n t' a'.tmps → DsRel σ m' ds' a'.defers → XRel σ m' x e → Q e a' w') :
    c.wpIn (Fr r) 0 P Q a w := by
  have now : ∀ x e, k x t ds mem next = true → XRel σ m x e → Q e a w := fun x e h hx => hfin x t ds mem next m e a w h (Nat.le_refl _) (BM.ext_refl _ _ _) hR hT hD hx
  cases c with
  | skip => exact wpIn_skip (now .nrm .normal hk rfl)
  | label l => exact wpIn_label (now .nrm .normal hk rfl)
  | exit id => exact wpIn_exit (now (.exit id) _ hk rfl)
  | goto l => exact wpIn_goto (now (.goto l) _ hk rfl)
  | ret => exact wpIn_ret (now .ret _ hk rfl)
  | refuse s => exact absurd (show false = true from hk) (by decide)
  | seq x y =>
    refine wpIn_seq ?_
    simp only [stepM] at hk
    refine hM.exec σ prot w0 m mem next w n rnd r x t ds _ a _ hk hR hG hrnd hT hD ?_
    intro x t1 ds1 mem1 next1 m1 e1 a1 w1 hk hn he hR1 hT1 hD1 hx
    cases x with
    | nrm =>
      cases hx
      refine hM.exec σ prot w0 m1 mem1 next1 w1 n rnd r y t1 ds1 k a1 Q hk hR1 (hG.mono he.le) (hrnd.mono he.le) hT1 hD1 ?_
      intro x2 t2 ds2 mem2 next2 m2 e2 a2 w2 hk hn2 he2 hR2 hT2 hD2 hx2
      exact hfin x2 t2 ds2 mem2 next2 m2 e2 a2 w2 hk (Nat.le_trans hn hn2) (BM.ext_trans he he2 hn) hR2 hT2 hD2 hx2
    | exit i => cases hx; exact hfin _ t1 ds1 mem1 next1 m1 _ a1 w1 hk hn he hR1 hT1 hD1 rfl
    | goto i => cases hx; exact hfin _ t1 ds1 mem1 next1 m1 _ a1 w1 hk hn he hR1 hT1 hD1 rfl
    | ret => cases hx; exact hfin _ t1 ds1 mem1 next1 m1 _ a1 w1 hk hn he hR1 hT1 hD1 rfl
    | pnc c => obtain ⟨ch, rfl, hc⟩ := hx; exact hfin _ t1 ds1 mem1 next1 m1 _ a1 w1 hk hn he hR1 hT1 hD1 ⟨ch, rfl, hc⟩
  | cond x y z =>
    change (match aev E.G t x with
      | .bool x => bif x then ih.exec n rnd y t ds mem next k else ih.exec n rnd z t ds mem next k
      | _ => false) = true at hk
    split at hk
    · rename_i b hb
      have hx := aev_ok hG hT x
      rw [hb] at hx
      generalize hv : a.eval x = v at hx
      cases hx
      refine wpIn_cond hv ?_
      cases b with
      | true => exact hM.exec σ prot w0 m mem next w n rnd r y t ds k a Q hk hR hG hrnd hT hD hfin
      | false => exact hM.exec σ prot w0 m mem next w n rnd r z t ds k a Q hk hR hG hrnd hT hD hfin
    · cases hk
  | block id b =>
    refine wpIn_block ?_
    simp only [stepM] at hk
    refine hM.exec σ prot w0 m mem next w n rnd r b t ds _ a _ hk hR hG hrnd hT hD ?_
    intro x t1 ds1 mem1 next1 m1 e1 a1 w1 hk hn he hR1 hT1 hD1 hx
    cases x with
    | nrm => cases hx; exact hfin _ t1 ds1 mem1 next1 m1 _ a1 w1 hk hn he hR1 hT1 hD1 rfl
    | exit i =>
      cases hx
      dsimp only at hk
      show (if i = id then Q .normal a1 w1 else Q (.exit i) a1 w1)
      cases hb : Nat.beq i id with
      | true =>
        rw [hb, cond_true] at hk
        rw [if_pos (Nat.eq_of_beq_eq_true hb)]
        exact hfin _ t1 ds1 mem1 next1 m1 _ a1 w1 hk hn he hR1 hT1 hD1 rfl
      | false =>
        rw [hb, cond_false] at hk
        rw [if_neg (Nat.ne_of_beq_eq_false hb)]
        exact hfin _ t1 ds1 mem1 next1 m1 _ a1 w1 hk hn he hR1 hT1 hD1 rfl
    | goto i => cases hx; exact hfin _ t1 ds1 mem1 next1 m1 _ a1 w1 hk hn he hR1 hT1 hD1 rfl
    | ret => cases hx; exact hfin _ t1 ds1 mem1 next1 m1 _ a1 w1 hk hn he hR1 hT1 hD1 rfl
    | pnc c => obtain ⟨ch, rfl, hc⟩ := hx; exact hfin _ t1 ds1 mem1 next1 m1 _ a1 w1 hk hn he hR1 hT1 hD1 ⟨ch, rfl, hc⟩
  | loop b =>
    exact wpIn_of_loopGo ((step_loop hM hL).loop σ prot w0 m mem next w n rnd r b t ds k a Q hk hR hG hrnd hT hD hfin)
  | scope b =>
    refine wpIn_scope ?_
    simp only [stepM] at hk
    refine hM.exec σ prot w0 m mem next w n rnd r b t ds _ a _ hk hR hG hrnd hT hD ?_
    intro x t1 ds1 mem1 next1 m1 e1 a1 w1 hk hn he hR1 hT1 hD1 hx
    cases x with
    | nrm => cases hx; exact hfin _ t1 ds1 mem1 next1 m1 _ a1 w1 hk hn he hR1 hT1 hD1 rfl
    | exit i => cases hx; exact hfin _ t1 ds1 mem1 next1 m1 _ a1 w1 hk hn he hR1 hT1 hD1 rfl
    | goto i => cases hk
    | ret => cases hx; exact hfin _ t1 ds1 mem1 next1 m1 _ a1 w1 hk hn he hR1 hT1 hD1 rfl
    | pnc c => obtain ⟨ch, rfl, hc⟩ := hx; exact hfin _ t1 ds1 mem1 next1 m1 _ a1 w1 hk hn he hR1 hT1 hD1 ⟨ch, rfl, hc⟩
  | region id ops draw =>
    have hH := heavyX_hok hE hS hM rnd
    cases draw with
    | true =>
      refine drawX_ok hE hmix hH (k := fun t mem next => k .nrm t ds mem next) (drawF_imp hH hk) hR hG hrnd hT hD ?_
      intro t' mem' next' m' a' w' hk hn he hR' hT' hD'
      exact hfin _ t' ds mem' next' m' _ a' w' hk hn he hR' hT' hD' rfl
    | false =>
      refine wpIn_region ?_
      have := opsX_ok hH (Q := Q) m next hfin ops.toList 0 t ds mem next m a w rfl hk (Nat.le_refl _) (BM.ext_refl _ _ _) hR hG hrnd hT hD
      rw [List.range_eq_range']
      simpa using this
  | rangeFunc g ps assign body => exact step_range hE hM σ prot w0 m mem next w n rnd r g ps assign body t ds k a Q hk hR hG hrnd hT hD hfin
end Go.Ev

