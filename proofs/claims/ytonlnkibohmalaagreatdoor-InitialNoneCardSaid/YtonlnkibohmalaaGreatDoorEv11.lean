/- A part of the evaluator that the proof of InitialNone leans on: definitions and their soundness over the kit's laws; no condition. -/
import Derived.Test.YtonlnkibohmalaaGreatDoorEv10
set_option linter.unusedVariables false
set_option linter.unusedSimpArgs false
/- A closed call, run by the kernel, in every world whose package-level variables read as the rows that were given to it. -/
namespace Go.Ev
open Go.RowKit
variable {P : Program}

/-- The rows of the variables, as they lie in the world. -/
def RowsOk (W : World) (mem : T AB) : Prop := ∀ b B, mem.get b = some B → ∃ e n cells, B = .row e n cells [] 0 n ∧ ∃ cs fr, W.heap[b]? = some (.cells cs e fr) ∧ cs.size = n ∧
  ∀ i, i < n → ∃ v, cs[i]? = some v ∧ ∀ (σ : Nat → Value) (m : BM), VRel σ m (cellOf cells [] i) v

def idM (G : Nat) : BM := fun b => if b < G then some (b, 0) else none
theorem idM_some {G b r c : Nat} (h : idM G b = some (r, c)) : b < G ∧ r = b ∧ c = 0 := by
  unfold idM at h
  split at h
  · rename_i hb; cases h; exact ⟨hb, rfl, rfl⟩
  · cases h

theorem rel_rows {W : World} {mem : T AB} {G : Nat} (h : RowsOk W mem) (hG : G ≤ W.heap.size) (σ : Nat → Value) : Rel σ (fun r => r < W.heap.size) W (idM G) mem G W := by
  refine ⟨rfl, rfl, rfl, Nat.le_refl _, fun r hr => hr, fun _ _ => rfl, ?_, ?_, ?_, ?_, ?_⟩
  · intro b B r c hb hm
    obtain ⟨_, rfl, rfl⟩ := idM_some hm
    obtain ⟨e, n, cells, rfl, cs, fr, h1, h2, h3⟩ := h r B hb
    refine ⟨cs, fr, h1, by omega, fun _ => h2, fun h => absurd rfl h, fun i hi => ?_, ⟨fun i a b => by omega, fun h => ?_⟩⟩
    · obtain ⟨v, e1, e2⟩ := h3 i hi
      exact ⟨v, e1, e2 σ _⟩
    · rcases h with h | h
      · omega
      · exact absurd rfl h
  · intro b b' B B' r c c' _ _ _ _ h1 h2
    obtain ⟨_, e1, _⟩ := idM_some h1
    obtain ⟨_, e2, _⟩ := idM_some h2
    rw [← e1, ← e2]
  · intro b r c hm
    obtain ⟨hb, rfl, _⟩ := idM_some hm
    exact Nat.lt_of_lt_of_le hb hG
  · intro b hb
    unfold idM
    rw [if_neg (by omega)]
  · intro b B r c hb hw hm
    obtain ⟨e, n, cells, rfl, _⟩ := h b B hb
    simp [AB.wr] at hw

theorem gok_idM (G : Nat) : GOk G (idM G) := fun g hg => ⟨0, by unfold idM; rw [if_pos hg]⟩

theorem Rel.below {σ : Nat → Value} {W : World} {m : BM} {mem : T AB} {next : Nat} {w : World} (h : Rel σ (fun r => r < W.heap.size) W m mem next w) : Below W.heap.size W w :=
  ⟨h.os, h.tape, h.output, h.size, fun k hk => h.keep k hk⟩

def yesK (e : AE) (_ : T AB) (_ : Nat) : Bool := match e with | .ret (.bool b) => b | _ => false

theorem run_bool {E : Env} (hE : EnvOk P E) (hS : EnvShot E) (hcon : ∀ f x, E.con.get f = some x → ConOk P E f x) (hmix : P.follows .mixedOrders = true) {n f : Nat} {mem : T AB}
    (hk : (runF E n).call f [] mem E.G yesK = true) {W : World} (hW : RowsOk W mem) (hG : E.G ≤ W.heap.size) :
    Calls P f #[] W fun e w' => e = .returned (.bool true) ∧ Below W.heap.size W w' := by
  rw [runF_eq] at hk
  refine callsIn_wide.1 ((runM_ok hE hS hcon hmix n).1.call (fun _ => default) _ W (idM E.G) mem E.G W f [] [] yesK _ hk (rel_rows hW hG _) (gok_idM _) .nil ?_)
  intro x mem' next' m' e w' hx _ _ hR he
  cases x with
  | pnc c => cases hx
  | ret a =>
    obtain ⟨v, rfl, hv⟩ := he
    cases hv with
    | bool b =>
      have : b = true := hx
      subst this
      exact ⟨rfl, hR.below⟩
    | _ => cases hx
end Go.Ev

/- A closed call's contract in the place of its body. -/
namespace Go.Ev
open Go.RowKit
variable {P : Program}

theorem Rel.of_below {σ : Nat → Value} {prot : Nat → Prop} {w0 : World} {m : BM} {mem : T AB} {next : Nat} {w w' : World} (h : Rel σ prot w0 m mem next w) (hb : Below w.heap.size w w') : Rel σ prot w0 m mem next w' := by
  refine ⟨hb.os.trans h.os, hb.tape.trans h.tape, hb.output.trans h.output, Nat.le_trans h.size hb.size, h.plt, ?_, ?_, h.inj, ?_, h.fresh, h.wr⟩
  · intro r hr
    rw [hb.block r (Nat.lt_of_lt_of_le (h.plt r hr) h.size)]; exact h.keep r hr
  · intro b B r c hB hm
    rw [hb.block r (h.lt b r c hm)]; exact h.blk b B r c hB hm
  · intro b r c hm
    exact Nat.lt_of_lt_of_le (h.lt b r c hm) hb.size

/-- Whole numbers alone. -/
def isInt : AV → Bool | .int _ _ => true | _ => false
theorem isInt_any {a : AV} (ha : isInt a = true) {σ : Nat → Value} {m : BM} {v : Value} (h : VRel σ m a v) : ∀ (σ' : Nat → Value) (m' : BM), VRel σ' m' a v := by
  cases a <;> simp [isInt] at ha
  cases h
  exact fun _ _ => .int _ _

noncomputable def rowIs (mem : T AB) (g n : Nat) (lit : T AV) : Bool :=
  match mem.get g with
  | some (.row _ n' cells dz gr _) => Nat.beq n' n && Nat.beq gr 0 && allR (fun i => avEq (cellOf cells dz i) (cellOf lit [] i) && isInt (cellOf lit [] i)) (List.range n)
  | _ => false

theorem rowIs_ok {σ : Nat → Value} {prot : Nat → Prop} {w0 : World} {m : BM} {mem : T AB} {next : Nat} {w : World} {G : Nat} (h : Rel σ prot w0 m mem next w) (hG : GOk G m) {g n : Nat} {lit : T AV} (hg : g < G) (hr : rowIs mem g n lit = true) :
    ∃ cs e fr, w.heap[g]? = some (.cells cs e fr) ∧ cs.size = n ∧ ∀ i, i < n → ∃ v, cs[i]? = some v ∧ ∀ (σ : Nat → Value) (m : BM), VRel σ m (cellOf lit [] i) v := by
  unfold rowIs at hr
  split at hr
  · rename_i e' n' cells dz gr ro hb
    simp only [Bool.and_eq_true] at hr
    obtain ⟨⟨r2, r3⟩, r4⟩ := hr
    have r2 := Nat.eq_of_beq_eq_true r2
    have r3 := Nat.eq_of_beq_eq_true r3
    subst r2; subst r3
    obtain ⟨c, hm⟩ := hG g hg
    obtain ⟨cs, fr, q1, q2⟩ := h.blk g _ g c hb hm
    refine ⟨cs, e', fr, q1, q2.2.1 rfl, fun i hi => ?_⟩
    obtain ⟨v, e1, e2⟩ := q2.2.2.2.1 i hi
    have := allR_iff.1 r4 i (List.mem_range.2 hi)
    simp only [Bool.and_eq_true] at this
    obtain ⟨a1, a2⟩ := this
    rw [avEq_ok _ _ a1] at e2
    exact ⟨v, e1, isInt_any a2 e2⟩
  · cases hr

/-- Rows of variables: number, element type, size, cells. -/
structure GR where
  g : Nat
  e : Nat
  n : Nat
  cells : T AV
noncomputable def memG (l : List GR) : T AB := List.rec .e (fun r _ ih => T.upd ih r.g (.row r.e r.n r.cells [] 0 r.n)) l
theorem memG_get {l : List GR} {b : Nat} {B : AB} (h : (memG l).get b = some B) : ∃ r ∈ l, b = r.g ∧ B = .row r.e r.n r.cells [] 0 r.n := by
  induction l with
  | nil => cases h
  | cons r l ih =>
    change (T.upd (memG l) r.g (.row r.e r.n r.cells [] 0 r.n)).get b = some B at h
    rw [T.get_upd] at h
    split at h
    · rename_i e; cases h; exact ⟨r, List.mem_cons_self, e, rfl⟩
    · obtain ⟨r', h1, h2⟩ := ih h
      exact ⟨r', List.mem_cons_of_mem _ h1, h2⟩

/-- What is asked of a world: the rows lie in it. -/
def RowAt (W : World) (r : GR) : Prop := ∃ cs fr, W.heap[r.g]? = some (.cells cs r.e fr) ∧ cs.size = r.n ∧ ∀ i, i < r.n → ∃ v, cs[i]? = some v ∧ ∀ (σ : Nat → Value) (m : BM), VRel σ m (cellOf r.cells [] i) v
/-- The same, whatever the type that the block is marked with. -/
def RowIn (W : World) (r : GR) : Prop := ∃ cs e fr, W.heap[r.g]? = some (.cells cs e fr) ∧ cs.size = r.n ∧ ∀ i, i < r.n → ∃ v, cs[i]? = some v ∧ ∀ (σ : Nat → Value) (m : BM), VRel σ m (cellOf r.cells [] i) v
theorem RowIn.at {W : World} {r : GR} (h : RowIn W r) : ∃ e, RowAt W { r with e := e } := let ⟨cs, e, fr, h1, h2, h3⟩ := h; ⟨e, cs, fr, h1, h2, h3⟩
theorem RowIn.mono {W w : World} {r : GR} (h : RowIn W r) (hg : r.g < W.heap.size) (hb : Below W.heap.size W w) : RowIn w r := by
  obtain ⟨cs, e, fr, h1, h2, h3⟩ := h
  exact ⟨cs, e, fr, (hb.block r.g hg).trans h1, h2, h3⟩
theorem rowsOk_of {W : World} {l : List GR} (h : ∀ r ∈ l, RowAt W r) : RowsOk W (memG l) := by
  intro b B hb
  obtain ⟨r, hr, rfl, rfl⟩ := memG_get hb
  exact ⟨r.e, r.n, r.cells, rfl, h r hr⟩

noncomputable def boolX (l : List GR) : Ext := fun args mem next k => match args with
  | [] => bif allR (fun r => rowIs mem r.g r.n r.cells) l then k (.bool true) mem next else false
  | _ => false

theorem boolX_ok {E : Env} {f G : Nat} {l : List GR} (hf : (E.fns.get f).isSome = true) (hl : ∀ r ∈ l, r.g < E.G) (hG : ∀ w : World, (∀ r ∈ l, RowIn w r) → E.G ≤ w.heap.size → Calls P f #[] w fun e w' => e = .returned (.bool true) ∧ Below w.heap.size w w') : ConOk P E f (boolX l) where
  fn := Option.isSome_iff_exists.1 hf
  shot := by
    intro args mem next
    refine Shot.of1 ?_
    unfold boolX
    split
    · exact Shot1.bif (Shot1.ret _) Shot1.no
    · exact Shot1.no
  ok := by
    intro σ prot w0 m mem next w args args' k R hk hR hGk ha hfin
    unfold boolX at hk
    split at hk
    · cases ha
      obtain ⟨h1, h2⟩ := bifT hk
      have hsz : E.G ≤ w.heap.size := by
        cases hE : E.G with
        | zero => exact Nat.zero_le _
        | succ g =>
          obtain ⟨c, hm⟩ := hGk g (by omega)
          have := hR.lt g g c hm
          omega
      have hrow : ∀ r ∈ l, RowIn w r := fun r hr => rowIs_ok hR hGk (hl r hr) (allR_iff.1 h1 r hr)
      refine CallsIn.mono (callsIn_wide.2 (hG w hrow hsz)) ?_
      rintro e w' ⟨rfl, hb⟩
      exact hfin _ mem next m _ w' h2 (Nat.le_refl _) (BM.ext_refl _ _ _) (hR.of_below hb) (.bool true)
    · cases hk
end Go.Ev

/- A piece of code, run by the kernel, in a walk by hand. -/
namespace Go.Ev
open Go.RowKit
variable {P : Program}

theorem exec_wp {E : Env} (hE : EnvOk P E) (hS : EnvShot E) (hcon : ∀ f x, E.con.get f = some x → ConOk P E f x) (hmix : P.follows .mixedOrders = true) {fuel n : Nat} {c : Code} {t : T AV} {mem : T AB} {next : Nat} {k : XK} {a : Act} {w : World}
    {Q : Exit → Act → World → Prop} {σ : Nat → Value} {prot : Nat → Prop} {w0 : World} {m : BM}
    (hk : (runF E fuel).exec n none c t [] mem next k = true) (hR : Rel σ prot w0 m mem next w) (hG : GOk E.G m) (hT : TRel σ m n t a.tmps) (ha : a.defers = [])
    (hfin : ∀ x t' ds' mem' next' m' e a' w', k x t' ds' mem' next' = true → next ≤ next' → BM.ext prot next m m' → Rel σ prot w0 m' mem' next' w' → TRel σ m' n t' a'.tmps → DsRel σ m' ds' a'.defers → XRel σ m' x e → Q e a' w') :
    c.wp P Q a w := by
  rw [runF_eq] at hk
  exact wpIn_wide.1 ((runM_ok hE hS hcon hmix fuel).1.exec σ prot w0 m mem next w n none none c t [] k a Q hk hR hG trivial hT (by rw [ha]; rfl) hfin)

/-- The same, where the walk stands at the first half of a sequence. -/
theorem exec_wp_k {E : Env} (hE : EnvOk P E) (hS : EnvShot E) (hcon : ∀ f x, E.con.get f = some x → ConOk P E f x) (hmix : P.follows .mixedOrders = true) {fuel n : Nat} {c d : Code} {t : T AV} {mem : T AB} {next : Nat} {k : XK} {a : Act} {w : World}
    {K : Act → World → Prop} {Q : Exit → Act → World → Prop} {σ : Nat → Value} {prot : Nat → Prop} {w0 : World} {m : BM}
    (hk : (runF E (fuel + 1)).exec n none (.seq c d) t [] mem next k = true) (hK : ∀ a w, d.wp P Q a w → K a w) (hR : Rel σ prot w0 m mem next w) (hG : GOk E.G m) (hT : TRel σ m n t a.tmps) (ha : a.defers = [])
    (hfin : ∀ x t' ds' mem' next' m' e a' w', k x t' ds' mem' next' = true → next ≤ next' → BM.ext prot next m m' → Rel σ prot w0 m' mem' next' w' → TRel σ m' n t' a'.tmps → DsRel σ m' ds' a'.defers → XRel σ m' x e → Q e a' w') :
    c.wp P (Exit.then K Q) a w := by
  rw [runF_eq] at hk
  have hM := (runM_ok hE hS hcon hmix fuel).1
  change ((runM E fuel).exec n none c t [] mem next fun x t ds mem next => (match x with
      | .nrm => (runM E fuel).exec n none d t ds mem next k
      | .exit i => k (.exit i) t ds mem next
      | .goto i => k (.goto i) t ds mem next
      | .ret => k .ret t ds mem next
      | .pnc c => k (.pnc c) t ds mem next)) = true at hk
  refine wpIn_wide.1 (hM.exec σ prot w0 m mem next w n none none c t [] _ a _ hk hR hG trivial hT (by rw [ha]; rfl) ?_)
  intro x t1 ds1 mem1 next1 m1 e1 a1 w1 hk hn he hR1 hT1 hD1 hx
  cases x with
  | nrm =>
    cases hx
    refine hK _ _ (wpIn_wide.1 (hM.exec σ prot w0 m1 mem1 next1 w1 n none none d t1 ds1 k a1 Q hk hR1 (hG.mono he.le) trivial hT1 hD1 ?_))
    intro x2 t2 ds2 mem2 next2 m2 e2 a2 w2 hk hn2 he2 hR2 hT2 hD2 hx2
    exact hfin x2 t2 ds2 mem2 next2 m2 e2 a2 w2 hk (Nat.le_trans hn hn2) (BM.ext_trans he he2 hn) hR2 hT2 hD2 hx2
  | exit i => cases hx; exact hfin _ t1 ds1 mem1 next1 m1 _ a1 w1 hk hn he hR1 hT1 hD1 rfl
  | goto i => cases hx; exact hfin _ t1 ds1 mem1 next1 m1 _ a1 w1 hk hn he hR1 hT1 hD1 rfl
  | ret => cases hx; exact hfin _ t1 ds1 mem1 next1 m1 _ a1 w1 hk hn he hR1 hT1 hD1 rfl
  | pnc c => obtain ⟨ch, rfl, hc⟩ := hx; exact hfin _ t1 ds1 mem1 next1 m1 _ a1 w1 hk hn he hR1 hT1 hD1 ⟨ch, rfl, hc⟩

/-- One row alone, that is only read. -/
def oneM (r : Nat) : BM := fun b => if b = 0 then some (r, 0) else none
theorem rel_one {W : World} {r e n : Nat} {cells : T AV} {dz : List AV} {cs : Array Value} {fr : Nat × Nat} (σ : Nat → Value) (hr : W.heap[r]? = some (.cells cs e fr)) (hn : cs.size = n)
    (hc : ∀ i, i < n → ∃ v, cs[i]? = some v ∧ VRel σ (oneM r) (cellOf cells dz i) v) : Rel σ (fun r => r < W.heap.size) W (oneM r) (T.upd .e 0 (.row e n cells dz 0 n)) 1 W := by
  have hlt : r < W.heap.size := by
    have := Array.getElem?_eq_some_iff.1 hr
    exact this.1
  have hm : ∀ {b x c}, oneM r b = some (x, c) → b = 0 ∧ x = r ∧ c = 0 := by
    intro b x c h
    unfold oneM at h
    split at h
    · rename_i hb; cases h; exact ⟨hb, rfl, rfl⟩
    · cases h
  have hg : ∀ {b B}, (T.upd (.e : T AB) 0 (.row e n cells dz 0 n)).get b = some B → B = .row e n cells dz 0 n := by
    intro b B h
    rw [T.get_upd] at h
    split at h
    · cases h; rfl
    · rw [T.get_e] at h; cases h
  refine ⟨rfl, rfl, rfl, Nat.le_refl _, fun r hr => hr, fun _ _ => rfl, ?_, ?_, ?_, ?_, ?_⟩
  · intro b B x c hb h
    obtain ⟨rfl, rfl, rfl⟩ := hm h
    cases hg hb
    refine ⟨cs, fr, hr, by omega, fun _ => hn, fun h => absurd rfl h, hc, ⟨fun i a b => by omega, fun h => ?_⟩⟩
    rcases h with h | h
    · omega
    · exact absurd rfl h
  · intro b b' B B' x c c' _ _ _ _ h1 h2
    rw [(hm h1).1, (hm h2).1]
  · intro b x c h
    obtain ⟨_, rfl, _⟩ := hm h
    exact hlt
  · intro b hb
    unfold oneM
    rw [if_neg (by omega)]
  · intro b B x c hb hw h
    rw [hg hb] at hw
    simp [AB.wr] at hw
end Go.Ev

