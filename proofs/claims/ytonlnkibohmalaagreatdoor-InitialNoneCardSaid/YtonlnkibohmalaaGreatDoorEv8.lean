/- A part of the evaluator that the proof of InitialNone leans on: definitions and their soundness over the kit's laws; no condition. -/
import Derived.Test.YtonlnkibohmalaaGreatDoorEv7
set_option linter.unusedVariables false
set_option linter.unusedSimpArgs false
/- A region whose order is drawn: every order does what the order of the text does. -/
namespace Go.Ev
variable {P : Program}

structure Conc (E : Env) (σ : Nat → Value) (prot : Nat → Prop) (w0 : World) (m0 : BM) (n base : Nat) (t0 : T AV) (ds : List AD) (rnd r : Option Nat) (is : List DI) (sts : List DSt)
    (L : Nat → Prop) (newer : List DSt) (s : DSt) (older : List DSt) (m : BM) (a : Act) (w : World) : Prop where
  st : sts = newer ++ s :: older
  cl : ∀ d ∈ is, L d.idx → ∀ x, d.mask.testBit x = true → L x
  nw : ∀ s' ∈ newer, ¬ L s'.h
  od : ∀ s' ∈ s :: older, ∀ x, s'.hm.testBit x = true → L x
  R : Rel σ prot w0 m (MJ base is s) s.next w
  U : ∀ d ∈ is, d.blk.isSome = true → s.hm.testBit d.idx = false → L d.idx → m (base + d.idx) = none ∨ ∃ rr c, m (base + d.idx) = some (rr, c) ∧ ∀ b c', m b = some (rr, c') → b = base + d.idx
  U2 : ∀ j, j < is.length → ¬ L j → m (base + j) = none
  G : GOk E.G m
  tp : ∃ tL, TRel σ m n tL a.tmps ∧ (∀ x, (∀ d ∈ is, L d.idx → d.o.dst ≠ some x) → tget tL x = tget t0 x) ∧ ∀ d ∈ is, L d.idx → ∀ x, d.o.dst = some x → tget tL x = d.val
  D : DsRel σ m ds a.defers
  ext : BM.ext prot base m0 m
  rnd : RndRel m rnd r
  bnd : base + is.length ≤ s.next

theorem RndRel.mono {m m' : BM} (hm : m.le m') {rnd r : Option Nat} (h : RndRel m rnd r) : RndRel m' rnd r := by
  cases rnd <;> cases r <;> simp only [RndRel] at * <;> first | exact h | (obtain ⟨c, hc⟩ := h; exact ⟨c, hm _ _ hc⟩)

section
variable {E : Env} {hv : HV} {n base : Nat} {ops : Array Oper} {t0 : T AV} {nx0 : DSt} {is : List DI} {mks : T Nat} {t : T AV} {sts : List DSt}
variable {σ : Nat → Value} {prot : Nat → Prop} {w0 : World} {m0 : BM} {ds : List AD} {rnd r : Option Nat} {L : Nat → Prop} {newer : List DSt} {s : DSt} {older : List DSt} {m : BM} {a : Act} {w : World}

theorem DInv.one_writer (h : DInv E hv n base ops t0 nx0 is mks t sts) {d d' : DI} (hd : d ∈ is) (hd' : d' ∈ is) {x : Nat} (hx : d.o.dst = some x) (hx' : d'.o.dst = some x) : d = d' := by
  rcases Nat.lt_trichotomy d.idx d'.idx with hl | he | hl
  · exact absurd hx ((h.pair d' hd' d hd hl).1 x hx')
  · exact h.uq d hd d' hd' he
  · exact absurd hx' ((h.pair d hd d' hd' hl).1 x hx)

/-- An operation sees, whenever it comes up, what it sees in the order of the text. -/
theorem Conc.sees (h : DInv E hv n base ops t0 nx0 is mks t sts) (c : Conc E σ prot w0 m0 n base t0 ds rnd r is sts L newer s older m a w) {d : DI} (hd : d ∈ is) (hn : ¬ L d.idx) (hmask : ∀ x, d.mask.testBit x = true → L x)
    {tL : T AV} (h1 : ∀ x, (∀ d ∈ is, L d.idx → d.o.dst ≠ some x) → tget tL x = tget t0 x) (h2 : ∀ d ∈ is, L d.idx → ∀ x, d.o.dst = some x → tget tL x = d.val) (x : Nat) (hx : x ∈ d.o.looksAt ops) : tget tL x = tget d.t x := by
  obtain ⟨o1, o2⟩ := h.ovd d hd
  by_cases hw : ∃ d' ∈ is, d'.o.dst = some x
  · obtain ⟨d', hd', hx'⟩ := hw
    rcases Nat.lt_trichotomy d'.idx d.idx with hl | he | hl
    · rw [h2 d' hd' (hmask _ ((h.pair d hd d' hd' hl).2.2 x hx' hx)) x hx', o2 d' hd' hl x hx']
    · have := h.uq d' hd' d hd he
      subst this
      rw [h1 x fun y hy hL e => hn ((h.one_writer hy hd e hx') ▸ hL), o1 x fun y hy hl e => by have := h.one_writer hy hd e hx'; subst this; omega]
    · have hnL : ¬ L d'.idx := fun hL => hn (c.cl d' hd' hL _ ((h.pair d' hd' d hd hl).2.1 x hx' hx))
      rw [h1 x fun y hy hL e => hnL ((h.one_writer hy hd' e hx') ▸ hL), o1 x fun y hy hl' e => by have := h.one_writer hy hd' e hx'; subst this; omega]
  · rw [h1 x fun y hy _ e => hw ⟨y, hy, e⟩, o1 x fun y hy _ e => hw ⟨y, hy, e⟩]

open Classical in
theorem Conc.rho (h : DInv E hv n base ops t0 nx0 is mks t sts) (c : Conc E σ prot w0 m0 n base t0 ds rnd r is sts L newer s older m a w) {d : DI} (hd : d ∈ is) (hn : ¬ L d.idx) (hmask : ∀ x, d.mask.testBit x = true → L x) :
    ∃ ρ : Operand → AV, (∀ x ∈ d.o.op.operands, aev E.G d.t x = ρ x) ∧ ∀ x, VRel σ m (ρ x) (a.eval x) := by
  obtain ⟨tL, hT, h1, h2⟩ := c.tp
  refine ⟨fun x => if x ∈ d.o.op.operands then aev E.G d.t x else .top, fun x hx => by simp [hx], fun x => ?_⟩
  by_cases hx : x ∈ d.o.op.operands
  · simp only [hx, if_true]
    have hv := aev_ok c.G hT x
    have : aev E.G d.t x = aev E.G tL x := by
      cases x with
      | tmp y => exact (c.sees h hd hn hmask h1 h2 y (List.mem_append_left _ (List.mem_filterMap.2 ⟨.tmp y, by simpa using hx, rfl⟩))).symm
      | _ => rfl
    rw [this]; exact hv
  · simp only [hx, if_false]; exact .top _

theorem Conc.wanted (h : DInv E hv n base ops t0 nx0 is mks t sts) (c : Conc E σ prot w0 m0 n base t0 ds rnd r is sts L newer s older m a w) {d : DI} (hd : d ∈ is) (hn : ¬ L d.idx) (hmask : ∀ x, d.mask.testBit x = true → L x)
    {b : Bool} (hg : ∀ k : Bool → Bool, k b = true → guardA ops.toList d.t d.o.guard k = true) : Region.wanted d.o (yielded ops a.tmps) = b := by
  obtain ⟨tL, hT, h1, h2⟩ := c.tp
  have hg' := hg (fun x => decide (x = b)) (by simp)
  rw [guardA_congr (t' := tL)] at hg'
  · have := guardA_ok hT hg'
    exact of_decide_eq_true this
  · intro j want o y e1 e2 e3
    refine (c.sees h hd hn hmask h1 h2 y (List.mem_append_right _ ?_)).symm
    rw [e1]
    simp only [Array.getElem?_toList] at e2
    simp [e2, e3]

/-- The temporaries, one operation more. -/
theorem Conc.temps (h : DInv E hv n base ops t0 nx0 is mks t sts) (c : Conc E σ prot w0 m0 n base t0 ds rnd r is sts L newer s older m a w) {d : DI} (hd : d ∈ is) {m' : BM} (hle : m.le m') {v : Value} (hv' : VRel σ m' d.val v) :
    ∃ tL, TRel σ m' n tL (a.put d.o.dst v).tmps ∧ (∀ x, (∀ y ∈ is, (L y.idx ∨ y.idx = d.idx) → y.o.dst ≠ some x) → tget tL x = tget t0 x) ∧ ∀ y ∈ is, (L y.idx ∨ y.idx = d.idx) → ∀ x, y.o.dst = some x → tget tL x = y.val := by
  obtain ⟨tL, hT, h1, h2⟩ := c.tp
  have hT' := hT.mono hle
  cases hdst : d.o.dst with
  | none =>
    refine ⟨tL, hT', fun x hx => h1 x fun y hy hL => hx y hy (.inl hL), fun y hy hL x hx => ?_⟩
    rcases hL with hL | hL
    · exact h2 y hy hL x hx
    · have := h.uq y hy d hd hL; subst this; rw [hdst] at hx; cases hx
  | some z =>
    refine ⟨tL.upd z d.val, hT'.set (h.dst d hd z hdst) hv', fun x hx => ?_, fun y hy hL x hx => ?_⟩
    · rw [tget_upd, if_neg]
      · exact h1 x fun y hy hL => hx y hy (.inl hL)
      · intro e; subst e; exact hx d hd (.inr rfl) hdst
    · by_cases e : x = z
      · subst e
        rw [tget_upd, if_pos rfl, h.one_writer hy hd hx hdst]
      · rw [tget_upd, if_neg e]
        rcases hL with hL | hL
        · exact h2 y hy hL x hx
        · have := h.uq y hy d hd hL; subst this; rw [hdst] at hx; cases hx; exact absurd rfl e

theorem Act.put_defers' (a : Act) (dst : Option Tmp) (v : Value) : (a.put dst v).defers = a.defers := by cases dst <;> rfl

/-- An operation that leaves the memory as it was. -/
theorem Conc.still (h : DInv E hv n base ops t0 nx0 is mks t sts) (c : Conc E σ prot w0 m0 n base t0 ds rnd r is sts L newer s older m a w) {d : DI} (hd : d ∈ is) (hmask : ∀ x, d.mask.testBit x = true → L x)
    (hk : ∀ s' ∈ sts, s'.h = d.idx → s' ∉ newer) {v : Value} (hv' : VRel σ m d.val v) (hb : d.blk.isSome = true → m (base + d.idx) = none) :
    Conc E σ prot w0 m0 n base t0 ds rnd r is sts (fun x => L x ∨ x = d.idx) newer s older m (a.put d.o.dst v) w := by
  refine ⟨c.st, ?_, ?_, fun s' hs' x hx => .inl (c.od s' hs' x hx), c.R, ?_, fun j hj hn => c.U2 j hj fun hL => hn (.inl hL), c.G, c.temps h hd (BM.le_refl _) hv', by rw [Act.put_defers']; exact c.D, c.ext, c.rnd, c.bnd⟩
  · intro y hy hL x hx
    rcases hL with hL | hL
    · exact .inl (c.cl y hy hL x hx)
    · have := h.uq y hy d hd hL; subst this; exact .inl (hmask x hx)
  · intro s' hs' hL
    rcases hL with hL | hL
    · exact c.nw s' hs' hL
    · exact hk s' (by rw [c.st]; exact List.mem_append_left _ hs') hL hs'
  · intro y hy hyb hbit hL
    rcases hL with hL | hL
    · exact c.U y hy hyb hbit hL
    · have := h.uq y hy d hd hL; subst this; exact .inl (hb hyb)

theorem Conc.not_stage (h : DInv E hv n base ops t0 nx0 is mks t sts) (c : Conc E σ prot w0 m0 n base t0 ds rnd r is sts L newer s older m a w) {d : DI} (hd : d ∈ is) (hk : ∀ a, d.kd ≠ .heavy a) : ∀ s' ∈ sts, s'.h = d.idx → s' ∉ newer := by
  intro s' _ e hs'
  obtain ⟨x, y, rfl⟩ := List.append_of_mem hs'
  have := c.st
  rw [List.append_assoc, List.cons_append] at this
  obtain ⟨d', hd', e1, _, a, e2⟩ := h.hvy x s' (y ++ s :: older) this (by simp)
  have := h.uq d' hd' d hd (by omega)
  subst this
  exact hk a e2

/-- A light operation. -/
theorem Conc.light (h : DInv E hv n base ops t0 nx0 is mks t sts) (c : Conc E σ prot w0 m0 n base t0 ds rnd r is sts L newer s older m a w) {d : DI} (hd : d ∈ is) (hn : ¬ L d.idx) (hmask : ∀ x, d.mask.testBit x = true → L x)
    {av : AV} {b : Option AB} (hkd : d.kd = .val av b) {m' : BM} {mem' : T AB} {w' : World} {v : Value} (hle : m.le m') (hoth : ∀ x, x ≠ base + d.idx → m' x = m x)
    (hnew : m' = m ∨ ∃ rr c, m' (base + d.idx) = some (rr, c) ∧ w.heap.size ≤ rr ∧ rr < w'.heap.size) (hR : Rel σ (fun x => x < w.heap.size) w m' mem' s.next w') (hmem : mem'.get (base + d.idx) = b) (hv' : VRel σ m' av v) :
    Conc E σ prot w0 m0 n base t0 ds rnd r is sts (fun x => L x ∨ x = d.idx) newer s older m' (a.put d.o.dst v) w' := by
  have hR0 := c.R
  have hjlt := h.lt d hd
  have hmj : m (base + d.idx) = none := c.U2 _ hjlt hn
  have hbit : s.hm.testBit d.idx = false := by
    cases hb : s.hm.testBit d.idx with
    | false => rfl
    | true => exact absurd (c.od s (List.mem_cons_self ..) _ hb) hn
  have hs : s ∈ sts := by rw [c.st]; simp
  have hold : ∀ x rr cc, x ≠ base + d.idx → m' x = some (rr, cc) → rr < w.heap.size := fun x rr cc hx he => hR0.lt x rr cc (by rw [← hoth x hx]; exact he)
  have hfrs : ∀ rr cc, m' (base + d.idx) = some (rr, cc) → w.heap.size ≤ rr := by
    intro rr cc he
    rcases hnew with e | ⟨r1, c1, e1, e2, _⟩
    · rw [e, hmj] at he; cases he
    · rw [e1] at he; cases he; exact e2
  have hget : (MJ base is s).get (base + d.idx) = b := by
    cases hb : b with
    | none =>
      rw [MJ, mj_other]
      · exact h.free s hs d hd ⟨av, b, hkd⟩ hbit
      · intro y hy _ hyb e
        have := h.uq y hy d hd (by omega)
        subst this
        simp [DI.blk, hkd, hb] at hyb
    | some B => exact mj_light _ _ _ h.uq _ d hd (by simp [pj, tb_eq, hbit]) B (by simp [DI.blk, hkd, hb])
  have hR' : Rel σ prot w0 m' (MJ base is s) s.next w' := by
    refine ⟨hR.os.trans hR0.os, hR.tape.trans hR0.tape, hR.output.trans hR0.output, Nat.le_trans hR0.size hR.size, hR0.plt, ?_, ?_, ?_, hR.lt, hR.fresh, ?_⟩
    · intro k hk
      have h1 := hR0.plt k hk
      have h2 := hR0.size
      rw [hR.keep k (by omega)]; exact hR0.keep k hk
    · intro x X rr cc hX hm
      by_cases e : x = base + d.idx
      · subst e
        rw [hget] at hX
        exact hR.blk _ X rr cc (by rw [hmem]; exact hX) hm
      · have hlt := hold x rr cc e hm
        rw [hR.keep rr hlt]
        rw [hoth x e] at hm
        exact (hR0.blk x X rr cc hX hm).mono hle
    · intro x x' X X' rr c1 c2 hX lX hX' lX' h1 h2
      by_cases e : x = base + d.idx
      · by_cases e' : x' = base + d.idx
        · rw [e, e']
        · have := hold x' rr c2 e' h2
          subst e
          have := hfrs rr c1 h1
          omega
      · by_cases e' : x' = base + d.idx
        · have := hold x rr c1 e h1
          subst e'
          have := hfrs rr c2 h2
          omega
        · rw [hoth x e] at h1; rw [hoth x' e'] at h2
          exact hR0.inj x x' X X' rr c1 c2 hX lX hX' lX' h1 h2
    · intro x X rr cc hX hw hm hp
      by_cases e : x = base + d.idx
      · subst e
        have := hfrs rr cc hm
        have h1 := hR0.plt rr hp
        have h2 := hR0.size
        omega
      · rw [hoth x e] at hm
        exact hR0.wr x X rr cc hX hw hm hp
  have hdval : d.val = av := by simp [DI.val, hkd]
  refine ⟨c.st, ?_, ?_, fun s' hs' x hx => .inl (c.od s' hs' x hx), hR', ?_, ?_, c.G.mono hle, c.temps h hd hle (by rw [hdval]; exact hv'), by rw [Act.put_defers']; exact c.D.mono hle, ?_, c.rnd.mono hle, c.bnd⟩
  · intro y hy hL x hx
    rcases hL with hL | hL
    · exact .inl (c.cl y hy hL x hx)
    · have := h.uq y hy d hd hL; subst this; exact .inl (hmask x hx)
  · intro s' hs' hL
    rcases hL with hL | hL
    · exact c.nw s' hs' hL
    · exact c.not_stage h hd (by rw [hkd]; simp) s' (by rw [c.st]; exact List.mem_append_left _ hs') hL hs'
  · intro y hy hyb hbit hL
    by_cases e : y.idx = d.idx
    · rw [e]
      cases hmd : m' (base + d.idx) with
      | none => exact .inl rfl
      | some rc =>
        obtain ⟨rr, cc⟩ := rc
        refine .inr ⟨rr, cc, rfl, fun x c' hx => ?_⟩
        by_cases e' : x = base + d.idx
        · exact e'
        · have h1 := hold x rr c' e' hx
          have h2 := hfrs rr cc hmd
          omega
    · have hL : L y.idx := hL.resolve_right e
      have hne : base + y.idx ≠ base + d.idx := by omega
      rw [hoth _ hne]
      rcases c.U y hy hyb hbit hL with hU | ⟨rr, cc, hU, hu⟩
      · exact .inl hU
      · refine .inr ⟨rr, cc, hU, fun x c' hx => ?_⟩
        by_cases e' : x = base + d.idx
        · subst e'
          have h1 := hfrs rr c' hx
          have h2 := hR0.lt _ rr cc hU
          omega
        · rw [hoth x e'] at hx; exact hu x c' hx
  · intro j hj hn'
    have : base + j ≠ base + d.idx := fun e => hn' (.inr (by omega))
    rw [hoth _ this]
    exact c.U2 j hj fun hL => hn' (.inl hL)
  · refine ⟨fun x y hx => hle _ _ (c.ext.1 x y hx), fun x hx => ?_, fun x rr cc h1 h2 => ?_⟩
    · rw [hoth x (by omega)]; exact c.ext.2.1 x hx
    · by_cases e : x = base + d.idx
      · subst e
        intro hp
        have := hfrs rr cc h1
        have h3 := hR0.plt rr hp
        have h4 := hR0.size
        omega
      · rw [hoth x e] at h1; exact c.ext.2.2 x rr cc h1 h2

theorem app_cases {α : Type} {A B N O : List α} {x y z : α} (e : A ++ x :: y :: B = N ++ z :: O) :
    (N = A ++ [x] ∧ z = y ∧ O = B) ∨ x ∈ z :: O ∨ (∃ N', N = A ++ x :: y :: N' ∧ B = N' ++ z :: O) := by
  rcases List.append_eq_append_iff.1 e with ⟨c, h1, h2⟩ | ⟨c, h1, h2⟩
  · cases c with
    | nil =>
      simp only [List.nil_append, List.cons.injEq] at h2
      exact .inr (.inl (by rw [h2.1]; simp))
    | cons u c =>
      simp only [List.cons_append, List.cons.injEq] at h2
      obtain ⟨rfl, h2⟩ := h2
      cases c with
      | nil =>
        simp only [List.nil_append, List.cons.injEq] at h2
        obtain ⟨rfl, rfl⟩ := h2
        exact .inl ⟨h1, rfl, rfl⟩
      | cons v c =>
        simp only [List.cons_append, List.cons.injEq] at h2
        obtain ⟨rfl, h2⟩ := h2
        exact .inr (.inr ⟨c, h1, h2⟩)
  · exact .inr (.inl (by rw [h2]; simp))

/-- A heavy operation. -/
theorem Conc.heavy (h : DInv E hv n base ops t0 nx0 is mks t sts) (c : Conc E σ prot w0 m0 n base t0 ds rnd r is sts L newer s older m a w) {d : DI} (hd : d ∈ is) (hn : ¬ L d.idx) (hmask : ∀ x, d.mask.testBit x = true → L x)
    {av : AV} (hkd : d.kd = .heavy av) :
    ∃ (s' : DSt) (newer0 : List DSt) (M : T AB) (prot' : Nat → Prop), (∀ k : HX → T AB → Nat → Bool, k (.val av) s'.mem s'.next = true → hv (aev E.G d.t) d.o M s.next k = true) ∧
      Rel σ prot' w m M s.next w ∧ ∀ (m' : BM) (w' : World) (v : Value), s.next ≤ s'.next → BM.ext prot' s.next m m' → Rel σ prot' w m' s'.mem s'.next w' → VRel σ m' av v →
        Conc E σ prot w0 m0 n base t0 ds rnd r is sts (fun x => L x ∨ x = d.idx) newer0 s' (s :: older) m' (a.put d.o.dst v) w' := by
  have hkf := h.kf d hd
  unfold KFact at hkf
  rw [hkd] at hkf
  obtain ⟨_, A, s', sp, B, e, k1, k2, k3, M, k4, k5, k6⟩ := hkf
  have hbitd : s'.hm.testBit d.idx = true := by rw [k2, testBit_or_pow]; exact .inr rfl
  have hne : newer = A ++ [s'] ∧ s = sp ∧ older = B := by
    rcases app_cases (e.symm.trans c.st) with h1 | h1 | ⟨N', h1, h2⟩
    · exact h1
    · exact absurd (c.od s' h1 _ hbitd) hn
    · exfalso
      have hsp : sp ∈ newer := by rw [h1]; simp
      obtain ⟨d', hd', e1, e2, _⟩ := h.hvy (A ++ [s']) sp B (by rw [e]; simp) (by rw [h2]; simp)
      have : sp.hm.testBit sp.h = true := by rw [e2, testBit_or_pow]; exact .inr e1.symm
      exact c.nw sp hsp (hmask _ (k3 _ this))
  obtain ⟨hnew, rfl, rfl⟩ := hne
  have hR0 := c.R
  have hRM := hR0.sub k4
  have hs : s ∈ sts := by rw [c.st]; simp
  -- what is protected besides
  let pd : Nat → Prop := fun rr => ∃ y ∈ is, y.blk.isSome = true ∧ d.mask.testBit y.idx = false ∧ L y.idx ∧ ∃ cc, m (base + y.idx) = some (rr, cc)
  have hsbit : ∀ y : DI, d.mask.testBit y.idx = false → s.hm.testBit y.idx = false := by
    intro y hy
    cases hb : s.hm.testBit y.idx with
    | false => rfl
    | true => have := k3 _ hb; rw [this] at hy; cases hy
  have hpd : ∀ rr, pd rr → rr < w.heap.size := by
    rintro rr ⟨y, _, _, _, _, cc, hm⟩
    exact hR0.lt _ rr cc hm
  have hpu : ∀ rr, pd rr → ∃ y ∈ is, y.blk.isSome = true ∧ d.mask.testBit y.idx = false ∧ L y.idx ∧ (∃ cc, m (base + y.idx) = some (rr, cc)) ∧ ∀ b c', m b = some (rr, c') → b = base + y.idx := by
    rintro rr ⟨y, hy, hyb, hym, hyL, cc, hm⟩
    refine ⟨y, hy, hyb, hym, hyL, ⟨cc, hm⟩, ?_⟩
    rcases c.U y hy hyb (hsbit y hym) hyL with hU | ⟨r1, c1, hU, hu⟩
    · rw [hm] at hU; cases hU
    · rw [hm] at hU; cases hU; exact hu
  have hlow : ∀ y ∈ is, base + y.idx < s.next := fun y hy => by have := h.lt y hy; have := c.bnd; omega
  refine ⟨s', A, M, fun rr => prot rr ∨ pd rr, k6, ?_, ?_⟩
  · refine ⟨rfl, rfl, rfl, Nat.le_refl _, ?_, fun _ _ => rfl, hRM.blk, hRM.inj, hRM.lt, hRM.fresh, ?_⟩
    · rintro rr (hp | hp)
      · have := hR0.plt rr hp; have := hR0.size; omega
      · exact hpd rr hp
    · rintro x X rr cc hX hw hm (hp | hp)
      · exact hRM.wr x X rr cc hX hw hm hp
      · obtain ⟨y, hy, hyb, hym, _, _, hu⟩ := hpu rr hp
        have := hu x cc hm
        subst this
        rw [k5 y hy hyb hym] at hX; cases hX
  · intro m' w' v hnx hext hR hv'
    have hle := hext.le
    have hbit' : ∀ y ∈ is, y.blk.isSome = true → (s'.hm.testBit y.idx = false ↔ d.mask.testBit y.idx = false) := by
      intro y hy hyb
      rw [k2]
      have hne : y.idx ≠ d.idx := by
        intro e
        have := h.uq y hy d hd e
        subst this
        simp [DI.blk, hkd] at hyb
      have hiff := testBit_or_pow d.mask d.idx y.idx
      constructor
      · intro h1
        cases hb : d.mask.testBit y.idx with
        | false => rfl
        | true => have := hiff.2 (.inl hb); rw [this] at h1; cases h1
      · intro h1
        cases hb : (d.mask ||| 2 ^ d.idx).testBit y.idx with
        | false => rfl
        | true => rcases hiff.1 hb with h2 | h2
                  · rw [h2] at h1; cases h1
                  · exact absurd h2 hne
    have hkeep : ∀ rr, pd rr → w'.heap[rr]? = w.heap[rr]? := fun rr hp => hR.keep rr (.inr hp)
    -- where a number of the new memory comes from
    have hcase : ∀ b B, (MJ base is s').get b = some B → (∃ y ∈ is, y.blk = some B ∧ d.mask.testBit y.idx = false ∧ b = base + y.idx) ∨ s'.mem.get b = some B := by
      intro b B hb
      by_cases hq : ∃ y ∈ is, pj s'.hm y = true ∧ y.blk.isSome = true ∧ b = base + y.idx
      · obtain ⟨y, hy, hyp, hyb, rfl⟩ := hq
        obtain ⟨Y, hY⟩ := Option.isSome_iff_exists.1 hyb
        rw [MJ, mj_light _ _ _ h.uq _ y hy hyp Y hY] at hb
        cases hb
        refine .inl ⟨y, hy, hY, (hbit' y hy hyb).1 (by simpa [pj, tb_eq] using hyp), rfl⟩
      · rw [MJ, mj_other _ _ _ _ _ (fun y hy hp hyb e => hq ⟨y, hy, hp, hyb, e⟩)] at hb
        exact .inr hb
    -- a light block that waits
    have hwait : ∀ y ∈ is, ∀ B, y.blk = some B → d.mask.testBit y.idx = false → ∀ rr cc, m' (base + y.idx) = some (rr, cc) → m (base + y.idx) = some (rr, cc) ∧ pd rr ∧ ∀ b c', m' b = some (rr, c') → b = base + y.idx := by
      intro y hy B hB hym rr cc hm
      rw [hext.2.1 _ (hlow y hy)] at hm
      have hyb : y.blk.isSome = true := by rw [hB]; rfl
      have hL : L y.idx := by
        by_cases hL : L y.idx
        · exact hL
        · rw [c.U2 _ (h.lt y hy) hL] at hm; cases hm
      have hp : pd rr := ⟨y, hy, hyb, hym, hL, cc, hm⟩
      refine ⟨hm, hp, fun b c' hb => ?_⟩
      cases hmb : m b with
      | none => exact absurd (Or.inr hp) (hext.2.2 b rr c' hb hmb)
      | some q =>
        have h1 := hle _ _ hmb
        rw [hb] at h1; cases h1
        rcases c.U y hy hyb (hsbit y hym) hL with hU | ⟨r1, c1, hU, hu⟩
        · rw [hm] at hU; cases hU
        · rw [hm] at hU; cases hU; exact hu b c' hmb
    have hR' : Rel σ prot w0 m' (MJ base is s') s'.next w' := by
      refine ⟨hR.os.trans hR0.os, hR.tape.trans hR0.tape, hR.output.trans hR0.output, Nat.le_trans hR0.size hR.size, hR0.plt, fun k hk => (hR.keep k (.inl hk)).trans (hR0.keep k hk), ?_, ?_, hR.lt, hR.fresh, ?_⟩
      · intro b B rr cc hb hm
        rcases hcase b B hb with ⟨y, hy, hB, hym, rfl⟩ | hb
        · obtain ⟨h1, h2, _⟩ := hwait y hy B hB hym rr cc hm
          rw [hkeep rr h2]
          exact (hR0.blk _ B rr cc (mj_light _ _ _ h.uq _ y hy (by simp [pj, tb_eq, hsbit y hym]) B hB) h1).mono hle
        · exact hR.blk b B rr cc hb hm
      · intro b b' B B' rr c1 c2 hb lb hb' lb' h1 h2
        rcases hcase b B hb with ⟨y, hy, hB, hym, rfl⟩ | hb
        · exact ((hwait y hy B hB hym rr c1 h1).2.2 b' c2 h2).symm
        · rcases hcase b' B' hb' with ⟨y, hy, hB, hym, rfl⟩ | hb'
          · exact (hwait y hy B' hB hym rr c2 h2).2.2 b c1 h1
          · exact hR.inj b b' B B' rr c1 c2 hb lb hb' lb' h1 h2
      · intro b B rr cc hb hw hm hp
        rcases hcase b B hb with ⟨y, hy, hB, hym, rfl⟩ | hb
        · obtain ⟨h1, _, _⟩ := hwait y hy B hB hym rr cc hm
          exact hR0.wr _ B rr cc (mj_light _ _ _ h.uq _ y hy (by simp [pj, tb_eq, hsbit y hym]) B hB) hw h1 hp
        · exact hR.wr b B rr cc hb hw hm (.inl hp)
    have hdval : d.val = av := by simp [DI.val, hkd]
    refine ⟨by rw [c.st, hnew]; simp, ?_, ?_, ?_, hR', ?_, ?_, c.G.mono hle, c.temps h hd hle (by rw [hdval]; exact hv'), by rw [Act.put_defers']; exact c.D.mono hle, ?_, c.rnd.mono hle, Nat.le_trans c.bnd hnx⟩
    · intro y hy hL x hx
      rcases hL with hL | hL
      · exact .inl (c.cl y hy hL x hx)
      · have := h.uq y hy d hd hL; subst this; exact .inl (hmask x hx)
    · intro s2 hs2 hL
      rcases hL with hL | hL
      · exact c.nw s2 (by rw [hnew]; simp [hs2]) hL
      · -- two stages of one operation
        have hnd := h.nd
        rw [e, List.map_append, List.nodup_append] at hnd
        exact hnd.2.2 s2.h (List.mem_map.2 ⟨s2, hs2, rfl⟩) s'.h (by simp) (by omega)
    · intro s2 hs2 x hx
      cases hs2 with
      | head =>
        rw [k2, testBit_or_pow] at hx
        rcases hx with hx | hx
        · exact .inl (hmask x hx)
        · exact .inr hx
      | tail _ hs2 => exact .inl (c.od s2 hs2 x hx)
    · intro y hy hyb hbit hL
      have hL : L y.idx := by
        rcases hL with hL | hL
        · exact hL
        · have := h.uq y hy d hd hL; subst this; simp [DI.blk, hkd] at hyb
      obtain ⟨B, hB⟩ := Option.isSome_iff_exists.1 hyb
      cases hm : m' (base + y.idx) with
      | none => exact .inl rfl
      | some rc =>
        obtain ⟨rr, cc⟩ := rc
        exact .inr ⟨rr, cc, rfl, (hwait y hy B hB ((hbit' y hy hyb).1 hbit) rr cc hm).2.2⟩
    · intro j hj hn'
      rw [hext.2.1 _ (by have := c.bnd; omega)]
      exact c.U2 j hj fun hL => hn' (.inl hL)
    · have : BM.ext prot s.next m m' := ⟨hext.1, hext.2.1, fun b rr cc h1 h2 hp => hext.2.2 b rr cc h1 h2 (.inl hp)⟩
      exact BM.ext_trans c.ext this (by have := c.bnd; omega)
end

/-- How many are still to come. -/
def cnt (listed : Array Bool) : Nat → Nat
  | 0 => 0
  | j + 1 => cnt listed j + (if listed.getD j true then 0 else 1)
theorem cnt_zero {listed : Array Bool} {N : Nat} (h : cnt listed N = 0) : ∀ j, j < N → listed.getD j true = true := by
  induction N with
  | zero => intro j hj; omega
  | succ N ih =>
    intro j hj
    simp only [cnt] at h
    by_cases e : j = N
    · subst e
      cases hb : listed.getD j true with
      | true => rfl
      | false => rw [hb] at h; simp at h
    · exact ih (by omega) j (by omega)
theorem cnt_keep {listed : Array Bool} {i : Nat} : ∀ {N : Nat}, N ≤ i → cnt (listed.setIfInBounds i true) N = cnt listed N := by
  intro N
  induction N with
  | zero => intro _; rfl
  | succ N ih =>
    intro h
    simp only [cnt]
    rw [ih (by omega), getD_set_ne true (by omega)]
theorem cnt_set {listed : Array Bool} {i : Nat} (hu : listed.getD i true = false) : ∀ {N : Nat}, i < N → cnt (listed.setIfInBounds i true) N + 1 = cnt listed N := by
  intro N
  induction N with
  | zero => intro h; omega
  | succ N ih =>
    intro h
    simp only [cnt]
    by_cases e : i = N
    · subst e
      have hlt : i < listed.size := by
        rcases Nat.lt_or_ge i listed.size with h' | h'
        · exact h'
        · simp [Array.getD, Nat.not_lt.2 h'] at hu
      rw [cnt_keep (Nat.le_refl _), hu]
      simp [Array.getD, hlt]
    · have := ih (by omega)
      rw [getD_set_ne true e]
      omega
theorem cnt_replicate : ∀ (N M : Nat), M ≤ N → cnt (Array.replicate N false) M = M := by
  intro N M
  induction M with
  | zero => intro _; rfl
  | succ M ih =>
    intro h
    simp only [cnt]
    rw [ih (by omega)]
    have : M < N := by omega
    simp [Array.getD, this]
theorem getD_tf {listed : Array Bool} {j : Nat} (h : j < listed.size) : (listed.getD j true = false) ↔ ¬ listed.getD j false = true := by
  simp [Array.getD, h]
end Go.Ev

/- A region whose order is drawn: the theorem. -/
namespace Go.Ev
variable {P : Program}

theorem lightA_noDefer {E : Env} {ρ : Operand → AV} {o : Oper} {mem : T AB} {id : Nat} {k : AV → T AB → Nat → Bool} (h : lightA E ρ o mem id k = true) : ∀ c, o.op ≠ .defer c := by
  intro c e
  unfold lightA at h
  rw [e] at h
  cases h
theorem readA_noDefer {E : Env} {ρ : Operand → AV} {o : Oper} {mem : T AB} {k : AV → Bool} (h : readA E ρ o mem k = true) : ∀ c, o.op ≠ .defer c := by
  intro c e
  unfold readA at h
  rw [e] at h
  cases h

section
variable {E : Env} {hv : HV} {n base : Nat} {ops : Array Oper} {t0 : T AV} {nx0 : DSt} {is : List DI} {mks : T Nat} {t : T AV} {sts : List DSt}
variable {σ : Nat → Value} {prot : Nat → Prop} {w0 : World} {m0 : BM} {ds : List AD} {rnd r : Option Nat}

open Classical in
theorem draw_any (hE : EnvOk P E) (H : HOk P E rnd hv) (h : DInv E hv n base ops t0 nx0 is mks t sts) (hlen : is.length = ops.size) {Q : Exit → Act → World → Prop}
    (hQ : ∀ L older s m a w, (∀ j, j < ops.size → L j) → Conc E σ prot w0 m0 n base t0 ds rnd r is sts L [] s older m a w → Q .normal a w) :
    ∀ (fuel : Nat) (listed : Array Bool) (newer : List DSt) (s : DSt) (older : List DSt) (m : BM) (a : Act) (w : World), listed.size = ops.size → cnt listed ops.size = fuel →
      Conc E σ prot w0 m0 n base t0 ds rnd r is sts (fun j => listed.getD j false = true) newer s older m a w → wpAnyIn (Fr r) 0 P .any ops Q fuel listed a w := by
  intro fuel
  induction fuel with
  | zero =>
    intro listed newer s older m a w hsz hc c
    have hall : ∀ j, j < ops.size → listed.getD j false = true := by
      intro j hj
      have := cnt_zero hc j hj
      have hlt : j < listed.size := by omega
      simp only [Array.getD, hlt, dif_pos] at this ⊢
      exact this
    have hnew : newer = [] := by
      cases newer with
      | nil => rfl
      | cons x newer =>
        exfalso
        obtain ⟨d, hd, e, _⟩ := h.hvy [] x (newer ++ s :: older) (by rw [c.st]; simp) (by simp)
        exact c.nw x (by simp) (hall _ (by rw [← e, ← hlen]; exact h.lt d hd))
    subst hnew
    refine ⟨?_, hQ _ _ _ _ _ _ hall c⟩
    apply List.eq_nil_iff_forall_not_mem.2
    intro j hj
    obtain ⟨h1, o, ho, _⟩ := mem_ready.1 hj
    have hlt : j < ops.size := (Array.getElem?_eq_some_iff.1 ho).1
    rw [getD_tf (by omega)] at h1
    exact h1 (hall j hlt)
  | succ fuel ih =>
    intro listed newer s older m a w hsz hc c
    refine ⟨fun hnil => ?_, fun i hi => ?_⟩
    · -- something may always come up
      exfalso
      have hex : ∃ j, j < ops.size ∧ listed.getD j true = false := by
        apply Classical.byContradiction
        intro hno
        have : ∀ M, M ≤ ops.size → cnt listed M = 0 := by
          intro M
          induction M with
          | zero => intro _; rfl
          | succ M ihM =>
            intro hM
            simp only [cnt]
            rw [ihM (by omega)]
            cases hb : listed.getD M true with
            | true => rfl
            | false => exact absurd ⟨M, by omega, hb⟩ hno
        rw [this _ (Nat.le_refl _)] at hc
        cases hc
      -- the first of them
      have hmin : ∀ k, ∀ j, j ≤ k → j < ops.size → listed.getD j true = false → False := by
        intro k
        induction k with
        | zero =>
          intro j hj hlt hu
          obtain ⟨d, hd, e⟩ := h.ex j (by omega)
          have hop := h.op d hd
          have : j ∈ Region.ready .any ops listed := mem_ready.2 ⟨hu, d.o, by rw [← e]; exact hop, fun e' he' hb => by have := h.before d hd e' he' hb; omega⟩
          rw [hnil] at this; cases this
        | succ k ihk =>
          intro j hj hlt hu
          obtain ⟨d, hd, e⟩ := h.ex j (by omega)
          have hop := h.op d hd
          have : j ∈ Region.ready .any ops listed := mem_ready.2 ⟨hu, d.o, by rw [← e]; exact hop, fun e' he' hb => by
            have hlt' := h.before d hd e' he' hb
            cases hb' : listed.getD e'.on false with
            | true => rfl
            | false => exact (ihk e'.on (by omega) (by omega) ((getD_tf (by omega)).2 (by rw [hb']; simp))).elim⟩
          rw [hnil] at this; cases this
      obtain ⟨j, hj, hu⟩ := hex
      exact hmin j j (Nat.le_refl _) hj hu
    · obtain ⟨hu, o, ho, hall⟩ := mem_ready.1 hi
      have hlt : i < ops.size := (Array.getElem?_eq_some_iff.1 ho).1
      obtain ⟨d, hd, hidx⟩ := h.ex i (by omega)
      have hop := h.op d hd
      rw [hidx, ho] at hop
      cases hop
      have hn : ¬ listed.getD d.idx false = true := by rw [hidx]; exact (getD_tf (by omega)).1 hu
      have hmask : ∀ x, d.mask.testBit x = true → listed.getD x false = true := by
        intro x hx
        obtain ⟨e, he, hb, hx⟩ := (h.mask d hd x).1 hx
        rcases hx with rfl | ⟨d', hd', e1, hx⟩
        · exact hall e he hb
        · exact c.cl d' hd' (by rw [e1]; exact hall e he hb) x hx
      obtain ⟨ρ, hρ1, hρ2⟩ := c.rho h hd hn hmask
      -- the set, one more
      have hL : (fun x => listed.getD x false = true ∨ x = d.idx) = fun x => (listed.setIfInBounds i true).getD x false = true := by
        funext x
        apply propext
        by_cases e : x = i
        · subst e
          have : x < listed.size := by omega
          simp [Array.getD, this, hidx]
        · rw [getD_set_ne false (fun h => e h.symm)]
          constructor
          · rintro (h | h)
            · exact h
            · exact absurd (h.trans hidx) e
          · exact .inl
      have hcnt : cnt (listed.setIfInBounds i true) ops.size = fuel := by
        have := cnt_set hu hlt
        omega
      have next : ∀ {newer' s' older' m' a' w'}, Conc E σ prot w0 m0 n base t0 ds rnd r is sts (fun x => listed.getD x false = true ∨ x = d.idx) newer' s' older' m' a' w' → wpAnyIn (Fr r) 0 P .any ops Q fuel (listed.setIfInBounds i true) a' w' := by
        intro newer' s' older' m' a' w' c'
        rw [hL] at c'
        exact ih _ _ _ _ _ _ _ (by simpa using hsz) hcnt c'
      have hkf := h.kf d hd
      unfold KFact at hkf
      unfold wpOpIn
      rw [ho]
      simp only
      cases hk : d.kd with
      | skip =>
        rw [hk] at hkf
        rw [c.wanted h hd hn hmask hkf]
        simp only [Bool.false_eq_true, if_false]
        refine ⟨fun _ _ => trivial, next (c.still h hd hmask (c.not_stage h hd (by rw [hk]; simp)) ?_ ?_)⟩
        · simp only [DI.val, hk]; exact .tup [] [] .nil
        · intro hb; simp [DI.blk, hk] at hb
      | read av =>
        rw [hk] at hkf
        obtain ⟨hg, hst⟩ := hkf
        rw [c.wanted h hd hn hmask hg]
        simp only [if_true]
        have hrd : ∃ M, SubM M (MJ base is s) ∧ ∀ k : AV → Bool, k av = true → readA E (aev E.G d.t) d.o M k = true := by
          rcases hst newer s older c.st with ⟨s', hs', hb⟩ | hb | hM
          · exfalso
            obtain ⟨x, y, rfl⟩ := List.append_of_mem hs'
            obtain ⟨d', hd', e1, e2, _⟩ := h.hvy x s' (y ++ s :: older) (by rw [c.st]; simp) (by simp)
            have : s'.hm.testBit s'.h = true := by rw [e2, testBit_or_pow]; exact .inr e1.symm
            exact c.nw s' hs' (hmask _ (hb _ this))
          · exact absurd (c.od s (List.mem_cons_self ..) _ hb) hn
          · exact hM
        obtain ⟨M, hM, hrd⟩ := hrd
        have hr := hrd (fun x => decide (x = av)) (by simp)
        rw [readA_congr hρ1] at hr
        obtain ⟨a', v, e1, hv', hrun⟩ := readA_ok hE (c.R.sub hM) hρ2 hr
        have e1 := of_decide_eq_true e1
        subst e1
        refine ⟨fun _ _ => trivial, ?_⟩
        rw [Oper.semAt_eq _ _ _ (readA_noDefer hr), hrun]
        refine next (c.still h hd hmask (c.not_stage h hd (by rw [hk]; simp)) (by simp only [DI.val, hk]; exact hv') (fun hb => by simp [DI.blk, hk] at hb))
      | val av b =>
        rw [hk] at hkf
        obtain ⟨hg, mem', nx, hmem, hla⟩ := hkf
        rw [c.wanted h hd hn hmask hg]
        simp only [if_true]
        have hl := hla (fun x y z => decide (x = av ∧ y = mem' ∧ z = nx)) (by simp)
        rw [lightA_congr hρ1] at hl
        have hRe : Rel σ (fun x => x < w.heap.size) w m .e s.next w := by
          refine ⟨rfl, rfl, rfl, Nat.le_refl _, fun _ h => h, fun _ _ => rfl, ?_, ?_, c.R.lt, c.R.fresh, ?_⟩
          · intro b B rr cc hb; cases hb
          · intro b b' B B' rr c1 c2 hb; cases hb
          · intro b B rr cc hb; cases hb
        have hjlt := h.lt d hd
        obtain ⟨a', mem2, nx2, m', w', v, e1, hle, hoth, hnew, hR', hv', hrun⟩ := lightA_ok hE hRe (c.U2 _ hjlt hn) (by have := c.bnd; omega) hρ2 hl
        obtain ⟨rfl, rfl, rfl⟩ := of_decide_eq_true e1
        refine ⟨fun _ _ => trivial, ?_⟩
        rw [Oper.semAt_eq _ _ _ (lightA_noDefer hl), hrun]
        exact next (c.light h hd hn hmask hk hle hoth hnew hR' hmem hv')
      | heavy av =>
        rw [hk] at hkf
        rw [c.wanted h hd hn hmask hkf.1]
        simp only [if_true]
        obtain ⟨s', newer0, M, prot', hf, hRM, hfin⟩ := c.heavy h hd hn hmask hk
        have hh := hf (fun x y z => decide (x = .val av ∧ y = s'.mem ∧ z = s'.next)) (by simp)
        rw [H.congr _ _ _ _ _ _ hρ1] at hh
        refine H.ok σ prot' w m M s.next w ρ a d.o r _ _ _ hh hRM c.G c.rnd hρ2 ?_
        intro hx mem2 next2 m' w' e1 hnx hext hR'
        obtain ⟨rfl, rfl, rfl⟩ := of_decide_eq_true e1
        intro v hv'
        exact next (hfin m' w' v hnx hext hR' hv')
end

theorem drawX_ok {E : Env} (hE : EnvOk P E) (hmix : P.follows .mixedOrders = true) {rnd r : Option Nat} {hv : HV} (H : HOk P E rnd hv) {n : Nat} {ops : Array Oper} {id : Nat} {t : T AV} {mem : T AB} {next : Nat} {k : T AV → T AB → Nat → Bool}
    {σ : Nat → Value} {prot : Nat → Prop} {w0 : World} {m : BM} {ds : List AD} {a : Act} {w : World} {Q : Exit → Act → World → Prop}
    (hk : drawX E hv n ops t mem next k = true) (hR : Rel σ prot w0 m mem next w) (hG : GOk E.G m) (hrnd : RndRel m rnd r) (hT : TRel σ m n t a.tmps) (hD : DsRel σ m ds a.defers)
    (hQ : ∀ t' mem' next' m' a' w', k t' mem' next' = true → next ≤ next' → BM.ext prot next m m' → Rel σ prot w0 m' mem' next' w' → TRel σ m' n t' a'.tmps → DsRel σ m' ds a'.defers → Q .normal a' w') :
    (Code.region id ops true).wpIn (Fr r) 0 P Q a w := by
  refine wpIn_region_any hmix ?_
  unfold drawX at hk
  rw [natK_eq] at hk
  have h0 : DInv E hv n next ops t ⟨ops.size, 0, mem, next + ops.toList.length⟩ [] .e t [⟨ops.size, 0, mem, next + ops.toList.length⟩] := by
    refine ⟨by simp, by simp, by simp, by simp, ?_, by simp, by simp, by simp, by simp, by simp, ⟨fun _ _ => rfl, by simp⟩, by simp, fun h => h, by simp, ?_, ?_, by simp, by simp, by simp⟩
    · intro j c hc; cases hc
    · intro newer s older e ho
      cases newer with
      | nil =>
        simp only [List.nil_append, List.cons.injEq] at e
        exact absurd e.2.symm ho
      | cons x newer =>
        simp only [List.cons_append, List.cons.injEq] at e
        have := e.2
        simp at this
    · intro newer s e
      cases newer with
      | nil =>
        simp only [List.nil_append, List.cons.injEq] at e
        exact ⟨e.1.symm, by rw [← e.1]⟩
      | cons x newer =>
        simp only [List.cons_append, List.cons.injEq] at e
        have := e.2
        simp at this
  obtain ⟨is, mks, t', sts, h, hlen, hk⟩ := drawL_ok H.shot _ _ _ _ _ _ _ h0 rfl (by simp) hk
  -- the first stage
  obtain ⟨newer, s0, hst⟩ : ∃ newer s0, sts = newer ++ [s0] := ⟨sts.dropLast, sts.getLast h.ne, (List.dropLast_concat_getLast h.ne).symm⟩
  obtain ⟨hs0, _⟩ := h.first newer s0 hst
  have hlow : ∀ b x, m b = some x → b < next := by
    intro b x hx
    rcases Nat.lt_or_ge b next with hl | hl
    · exact hl
    · rw [hR.fresh b hl] at hx; cases hx
  have hget : ∀ b, b < next → (MJ next is s0).get b = mem.get b := by
    intro b hb
    rw [MJ, mj_other _ _ _ _ _ (fun y hy _ _ e => by omega), hs0]
  have hR0 : Rel σ prot w0 m (MJ next is s0) s0.next w.drew := by
    have hd := hR.drew
    refine ⟨hd.os, hd.tape, hd.output, hd.size, hd.plt, hd.keep, ?_, ?_, hd.lt, ?_, ?_⟩
    · intro b B rr cc hb hm
      rw [hget b (hlow b _ hm)] at hb
      exact hd.blk b B rr cc hb hm
    · intro b b' B B' rr c1 c2 hb lb hb' lb' h1 h2
      rw [hget b (hlow b _ h1)] at hb
      rw [hget b' (hlow b' _ h2)] at hb'
      exact hd.inj b b' B B' rr c1 c2 hb lb hb' lb' h1 h2
    · intro b hb
      refine hd.fresh b ?_
      rw [hs0] at hb
      simp only at hb
      omega
    · intro b B rr cc hb hw hm
      rw [hget b (hlow b _ hm)] at hb
      exact hd.wr b B rr cc hb hw hm
  have hno : ∀ j, ¬ (Array.replicate ops.size false).getD j false = true := by
    intro j
    by_cases hj : j < ops.size <;> simp [Array.getD, hj]
  have c0 : Conc E σ prot w0 m n next t ds rnd r is sts (fun j => (Array.replicate ops.size false).getD j false = true) newer s0 [] m a w.drew := by
    refine ⟨hst, fun d _ hL => absurd hL (hno _), fun s' _ => hno _, ?_, hR0, fun d _ _ _ hL => absurd hL (hno _), fun j _ _ => hR.fresh _ (by omega), hG, ⟨t, hT, fun _ _ => rfl, fun d _ hL => absurd hL (hno _)⟩, hD, BM.ext_refl _ _ _, hrnd, ?_⟩
    · intro s' hs' x hx
      simp only [List.mem_singleton] at hs'
      subst hs'
      rw [hs0] at hx
      simp at hx
    · rw [hs0, hlen]
      show next + ops.size ≤ next + ops.toList.length
      simp
  refine draw_any hE H h hlen ?_ ops.size _ newer s0 [] m a w.drew (by simp) (cnt_replicate _ _ (Nat.le_refl _)) c0
  intro L older s m' a' w' hall c
  have hst' := c.st
  simp only [List.nil_append] at hst'
  rw [hst'] at hk
  simp only at hk
  rw [addL_eq] at hk
  refine hQ t' _ _ m' a' w' hk (by have := c.bnd; omega) c.ext c.R ?_ c.D
  -- the temporaries
  obtain ⟨tL, hTL, h1, h2⟩ := c.tp
  have heq : ∀ x, tget t' x = tget tL x := by
    intro x
    obtain ⟨o1, o2⟩ := h.ov
    by_cases hw : ∃ d ∈ is, d.o.dst = some x
    · obtain ⟨d, hd, hx⟩ := hw
      rw [o2 d hd (h.lt d hd) x hx, h2 d hd (hall _ (by rw [← hlen]; exact h.lt d hd)) x hx]
    · rw [o1 x fun d hd _ e => hw ⟨d, hd, e⟩, h1 x fun d hd _ e => hw ⟨d, hd, e⟩]
  exact ⟨hTL.1, fun i hi => by rw [heq]; exact hTL.2.1 i hi, h.nn hT.2.2⟩
end Go.Ev

/- The evaluator of code: soundness. -/
namespace Go.Ev
variable {P : Program}

def XRel (σ : Nat → Value) (m : BM) : AX → Exit → Prop
  | .nrm, e => e = .normal
  | .exit i, e => e = .exit i
  | .goto i, e => e = .goto i
  | .ret, e => e = .ret
  | .pnc c, e => ∃ ch, e = .panic ch ∧ ChRel σ m c ch
def ERel (σ : Nat → Value) (m : BM) : AE → Ending → Prop
  | .ret a, e => ∃ v, e = .returned v ∧ VRel σ m a v
  | .pnc c, e => ∃ ch, e = .panicked ch ∧ ChRel σ m c ch

theorem ChRel.mono {σ : Nat → Value} {m m' : BM} (hm : m.le m') : ∀ {c : List PE} {ch : List PanicEntry}, ChRel σ m c ch → ChRel σ m' c ch := by
  intro c
  induction c with
  | nil => intro ch h; exact h
  | cons a c ih =>
    intro ch h
    obtain ⟨v, ch', h1, h2, h3⟩ := h
    exact ⟨v, ch', h1, h2.mono hm, ih h3⟩

def MDRel (σ : Nat → Value) (m : BM) : MD → FrameMode → Prop
  | .run, _ => False
  | .ret, u => u = .returning
  | .pan c, u => ∃ ch, u = .panicking ch ∧ ChRel σ m c ch
theorem MDRel.mono {σ : Nat → Value} {m m' : BM} (hm : m.le m') {md : MD} {u : FrameMode} (h : MDRel σ m md u) : MDRel σ m' md u := by
  cases md with
  | run => exact h
  | ret => exact h
  | pan c => obtain ⟨ch, h1, h2⟩ := h; exact ⟨ch, h1, h2.mono hm⟩

structure MOk (P : Program) (E : Env) (M : M) : Prop where
  exec : ∀ (σ : Nat → Value) (prot : Nat → Prop) (w0 : World) (m : BM) (mem : T AB) (next : Nat) (w : World) (n : Nat) (rnd r : Option Nat) (c : Code) (t : T AV) (ds : List AD) (k : XK) (a : Act) (Q : Exit → Act → World → Prop),
    M.exec n rnd c t ds mem next k = true → Rel σ prot w0 m mem next w → GOk E.G m → RndRel m rnd r → TRel σ m n t a.tmps → DsRel σ m ds a.defers →
    (∀ x t' ds' mem' next' m' e a' w', k x t' ds' mem' next' = true → next ≤ next' → BM.ext prot next m m' → Rel σ prot w0 m' mem' next' w' → TRel σ m' n t' a'.tmps → DsRel σ m' ds' a'.defers → XRel σ m' x e → Q e a' w') →
    c.wpIn (Fr r) 0 P Q a w
  sexec : ∀ n rnd c t ds mem next, Shot1 fun (k : AX × T AV × List AD × T AB × Nat → Bool) => M.exec n rnd c t ds mem next fun x t ds mem next => k (x, t, ds, mem, next)
  call : ∀ (σ : Nat → Value) (prot : Nat → Prop) (w0 : World) (m : BM) (mem : T AB) (next : Nat) (w : World) (f : Nat) (args : List AV) (args' : List Value) (k : CK) (R : Ending → World → Prop),
    M.call f args mem next k = true → Rel σ prot w0 m mem next w → GOk E.G m → LRel σ m args args' →
    (∀ x mem' next' m' e w', k x mem' next' = true → next ≤ next' → BM.ext prot next m m' → Rel σ prot w0 m' mem' next' w' → ERel σ m' x e → R e w') →
    CallsIn Fence.wide 0 P f ⟨args'⟩ w R
  fcall : ∀ f args mem next k, M.call f args mem next k = true → ∃ fi, E.fns.get f = some fi
  scall : ∀ f args mem next, Shot fun (k : CK) => M.call f args mem next k
  round : ∀ (σ : Nat → Value) (prot : Nat → Prop) (w0 : World) (m : BM) (mem : T AB) (next : Nat) (w : World) (l n : Nat) (t : T AV) (assign body : Code) (k : CK) (rl cl fn : Nat) (tm : Array Value) (R : Ending → World → Prop),
    M.round l n t assign body mem next k = true → Rel σ prot w0 m mem next w → GOk E.G m → m l = some (rl, cl) → TRel σ m n t tm →
    (∀ x mem' next' m' e w', k x mem' next' = true → next ≤ next' → BM.ext prot next m m' → Rel σ prot w0 m' mem' next' w' → ERel σ m' x e → R e w') →
    RoundIn Fence.wide 0 P rl fn tm assign body w R
  sround : ∀ l n t assign body mem next, Shot fun (k : CK) => M.round l n t assign body mem next k
  leave : ∀ (σ : Nat → Value) (prot : Nat → Prop) (w0 : World) (m : BM) (mem : T AB) (next : Nat) (w : World) (n : Nat) (fn : Func) (t : T AV) (tm : Array Value) (ds : List AD) (dl : List Deferred) (md : MD) (u : FrameMode) (k : CK) (R : Ending → World → Prop),
    M.leave fn.results.toList t ds md mem next k = true → Rel σ prot w0 m mem next w → GOk E.G m → TRel σ m n t tm → DsRel σ m ds dl → MDRel σ m md u →
    (∀ x mem' next' m' e w', k x mem' next' = true → next ≤ next' → BM.ext prot next m m' → Rel σ prot w0 m' mem' next' w' → ERel σ m' x e → R e w') →
    LeavesInM Fence.wide 0 P fn tm R dl u w
  sleave : ∀ rs t ds md mem next, Shot fun (k : CK) => M.leave rs t ds md mem next k
  callD : ∀ (σ : Nat → Value) (prot : Nat → Prop) (w0 : World) (m : BM) (mem : T AB) (next : Nat) (w : World) (f : Nat) (args : List AV) (args' : List Value) (md : MD) (u : FrameMode) (k : AE → MD → T AB → Nat → Bool) (R : Ending → FrameMode → World → Prop),
    M.callD f args md mem next k = true → Rel σ prot w0 m mem next w → GOk E.G m → LRel σ m args args' → MDRel σ m md u →
    (∀ x md' mem' next' m' e u' w', k x md' mem' next' = true → next ≤ next' → BM.ext prot next m m' → Rel σ prot w0 m' mem' next' w' → ERel σ m' x e → MDRel σ m' md' u' → R e u' w') →
    CallsDIn Fence.wide 0 P f ⟨args'⟩ u w R
  fcallD : ∀ f args md mem next k, M.callD f args md mem next k = true → ∃ fi, E.fns.get f = some fi
  scallD : ∀ f args md mem next, Shot1 fun (k : AE × MD × T AB × Nat → Bool) => M.callD f args md mem next fun x md mem next => k (x, md, mem, next)
  execD : ∀ (σ : Nat → Value) (prot : Nat → Prop) (w0 : World) (m : BM) (mem : T AB) (next : Nat) (w : World) (n : Nat) (c : Code) (t : T AV) (md : MD) (u : FrameMode) (k : AX → T AV → MD → T AB → Nat → Bool) (a : Act) (c0 : Frame) (cs : List Frame) (Q : Exit → Act → List Frame → World → Prop),
    M.execD n c t md mem next k = true → Rel σ prot w0 m mem next w → GOk E.G m → TRel σ m n t a.tmps → a.defers = [] → c0.mode = u → MDRel σ m md u →
    (∀ x t' md' mem' next' m' e a' u' w', k x t' md' mem' next' = true → next ≤ next' → BM.ext prot next m m' → Rel σ prot w0 m' mem' next' w' → TRel σ m' n t' a'.tmps → a'.defers = [] → MDRel σ m' md' u' → XRel σ m' x e → Q e a' ({ c0 with mode := u' } :: cs) w') →
    c.wpSIn Fence.wide 0 P Q a (c0 :: cs) w
  sexecD : ∀ n c t md mem next, Shot1 fun (k : AX × T AV × MD × T AB × Nat → Bool) => M.execD n c t md mem next fun x t md mem next => k (x, t, md, mem, next)

theorem fr_depth {r : Option Nat} : (Fr r).depth.isSome = true → 1 ≤ 0 := by simp [Fr, Fence.wide]

theorem heavyX_hok {E : Env} (hE : EnvOk P E) (hS : EnvShot E) {ih : M} (hM : MOk P E ih) (rnd : Option Nat) : HOk P E rnd (heavyX E ih rnd) where
  congr ρ ρ' o mem next k h := opA_congr h _
  shot ρ o mem next := by
    refine Shot.bind3 (F := fun k => opA E ρ o mem next k) (G := fun (nx : ANx) mem next (k : HX → T AB → Nat → Bool) => match nx with
      | .val a => k (HX.val a) mem next
      | .skip => k (HX.val (.tup [])) mem next
      | .enter f args => ih.call f args mem next fun e mem next => (match e with
        | .ret a => k (HX.val a) mem next
        | .pnc c => k (HX.pnc c) mem next)
      | .round l _ n t assign body => ih.round l n t assign body mem next fun e mem next => (match e with
        | .ret a => k (HX.val a) mem next
        | .pnc c => k (HX.pnc c) mem next)
      | .dfr d => (match rnd with
        | none => k (HX.dfr d) mem next
        | some _ => false)
      | .recov => false
      | .pnc a => k (HX.pnc [⟨a, false⟩]) mem next) (tOp hS ρ o mem next) fun nx mem next => ?_
    cases nx with
    | val a => exact Shot.ret _ _ _
    | skip => exact Shot.ret _ _ _
    | enter f args =>
      refine Shot.bind3 (F := fun k => ih.call f args mem next k) (G := fun (e : AE) mem next (k : HX → T AB → Nat → Bool) => match e with
        | .ret a => k (HX.val a) mem next
        | .pnc c => k (.pnc c) mem next) (hM.scall f args mem next) fun e mem next => ?_
      cases e <;> exact Shot.ret _ _ _
    | round l f n t assign body =>
      refine Shot.bind3 (F := fun k => ih.round l n t assign body mem next k) (G := fun (e : AE) mem next (k : HX → T AB → Nat → Bool) => match e with
        | .ret a => k (HX.val a) mem next
        | .pnc c => k (.pnc c) mem next) (hM.sround l n t assign body mem next) fun e mem next => ?_
      cases e <;> exact Shot.ret _ _ _
    | dfr d => cases rnd with
      | none => exact Shot.ret _ _ _
      | some _ => exact Shot.no
    | recov => exact Shot.no
    | pnc a => exact Shot.ret _ _ _
  ok := by
    intro σ prot w0 m mem next w ρ a o r k NX Q hk hR hG hrnd hρ hfin
    refine ⟨fun _ _ => trivial, ?_⟩
    unfold heavyX at hk
    have hsem : o.semAt (Fr r).round a.eval = execOp a.eval o := by
      show o.semAt r a.eval = _
      cases r with
      | none => rfl
      | some rr =>
        refine Oper.semAt_eq _ _ _ fun c hc => ?_
        cases rnd with
        | none => exact hrnd.elim
        | some l =>
          unfold opA at hk
          rw [hc] at hk
          simp only at hk
          obtain ⟨d, d', h1, _⟩ := deferOp_ok (P := P) (w := w) hρ o.type hk
          cases h1
    rw [hsem]
    obtain ⟨nx, mem1, next1, m1, w1, h1, h2, h3, h4, h5⟩ := opA_ok hE hR hρ hk
    have hext : ∀ {next2 : Nat} {m2 : BM}, next1 ≤ next2 → BM.ext prot next1 m1 m2 → BM.ext prot next m m2 := fun _ h => BM.ext_trans h3 h h2
    cases nx with
    | val av =>
      obtain ⟨v, hv, e⟩ := h5
      rw [e]
      exact hfin (.val av) mem1 next1 m1 w1 h1 h2 h3 h4 v hv
    | skip =>
      rw [show (execOp a.eval o).run P w = _ from h5]
      exact hfin (.val (.tup [])) mem1 next1 m1 w1 h1 h2 h3 h4 undef (.tup [] [] .nil)
    | enter f args =>
      obtain ⟨args', ha, e⟩ := h5
      rw [e]
      refine ⟨fr_depth, ?_⟩
      refine CallsIn.mono (hM.call σ prot w0 m1 mem1 next1 w1 f args args' _ (fun e w' => match e with
        | .returned v => NX (a.put o.dst v) w'
        | .panicked chain => Q (.panic chain) a w'
        | .outgrown => False) h1 h4 (hG.mono h3.le) ha ?_) ?_
      · intro x mem2 next2 m2 e w2 hk2 hn2 he2 hR2 hx
        cases x with
        | ret av =>
          obtain ⟨v, rfl, hv⟩ := hx
          exact hfin (.val av) mem2 next2 m2 w2 hk2 (Nat.le_trans h2 hn2) (hext hn2 he2) hR2 v hv
        | pnc c =>
          obtain ⟨ch, rfl, hc⟩ := hx
          exact hfin (.pnc c) mem2 next2 m2 w2 hk2 (Nat.le_trans h2 hn2) (hext hn2 he2) hR2 ch hc
      · intro e w' he
        cases e with
        | outgrown => exact he.elim
        | _ => exact he
    | round l f n t assign body =>
      obtain ⟨rl, rf, cl, tm, hl, ht, e⟩ := h5
      rw [e]
      refine ⟨fr_depth, ?_⟩
      refine RoundIn.mono (hM.round σ prot w0 m1 mem1 next1 w1 l n t assign body _ rl cl rf tm (fun e w' => match e with
        | .returned v => NX (a.put o.dst v) w'
        | .panicked chain => Q (.panic chain) a w'
        | .outgrown => False) h1 h4 (hG.mono h3.le) hl ht ?_) ?_
      · intro x mem2 next2 m2 e w2 hk2 hn2 he2 hR2 hx
        cases x with
        | ret av =>
          obtain ⟨v, rfl, hv⟩ := hx
          exact hfin (.val av) mem2 next2 m2 w2 hk2 (Nat.le_trans h2 hn2) (hext hn2 he2) hR2 v hv
        | pnc c =>
          obtain ⟨ch, rfl, hc⟩ := hx
          exact hfin (.pnc c) mem2 next2 m2 w2 hk2 (Nat.le_trans h2 hn2) (hext hn2 he2) hR2 ch hc
      · intro e w' he
        cases e with
        | outgrown => exact he.elim
        | _ => exact he
    | dfr d =>
      obtain ⟨d', hd, e⟩ := h5
      rw [e]
      cases rnd with
      | some _ => cases h1
      | none => exact hfin (.dfr d) mem1 next1 m1 w1 h1 h2 h3 h4 d' hd
    | recov => cases h1
    | pnc av =>
      obtain ⟨v, hv, e⟩ := h5
      rw [e]
      exact hfin (.pnc [⟨av, false⟩]) mem1 next1 m1 w1 h1 h2 h3 h4 _ ⟨v, [], rfl, hv, rfl⟩
end Go.Ev

/- The evaluator of code: regions in the order of the text. -/
namespace Go.Ev
variable {P : Program}

section
variable {E : Env} {hv : HV} {n : Nat} {ops : Array Oper} {σ : Nat → Value} {prot : Nat → Prop} {w0 : World} {rnd r : Option Nat} {k : XK} {Q : Exit → Act → World → Prop}

theorem opsX_ok (H : HOk P E rnd hv) (m0 : BM) (next0 : Nat)
    (hQ : ∀ x t' ds' mem' next' m' e a' w', k x t' ds' mem' next' = true → next0 ≤ next' → BM.ext prot next0 m0 m' → Rel σ prot w0 m' mem' next' w' → TRel σ m' n t' a'.tmps → DsRel σ m' ds' a'.defers → XRel σ m' x e → Q e a' w') :
    ∀ (l : List Oper) (i : Nat) (t : T AV) (ds : List AD) (mem : T AB) (next : Nat) (m : BM) (a : Act) (w : World), ops.toList.drop i = l →
      opsX E hv n ops.toList l t ds mem next k = true → next0 ≤ next → BM.ext prot next0 m0 m → Rel σ prot w0 m mem next w → GOk E.G m → RndRel m rnd r → TRel σ m n t a.tmps → DsRel σ m ds a.defers →
      wpOpsIn (Fr r) 0 P ops Q (List.range' i l.length) a w := by
  intro l
  induction l with
  | nil =>
    intro i t ds mem next m a w _ hk hn he hR hG hrnd hT hD
    exact hQ .nrm t ds mem next m .normal a w hk hn he hR hT hD rfl
  | cons o l ih =>
    intro i t ds mem next m a w hl hk hn he hR hG hrnd hT hD
    have hop : ops[i]? = some o := by
      have : (ops.toList.drop i)[0]? = some o := by rw [hl]; rfl
      rw [List.getElem?_drop] at this
      simpa using this
    have hl' : ops.toList.drop (i+1) = l := by
      have : (ops.toList.drop i).drop 1 = l := by rw [hl]; rfl
      rw [List.drop_drop] at this
      rw [← this]
    change (guardA ops.toList t o.guard fun wanted =>
      bif wanted then hv (aev E.G t) o mem next fun h mem next => (match h with
        | .val a => putT n t o.dst a fun t => opsX E hv n ops.toList l t ds mem next k
        | .pnc c => k (.pnc c) t ds mem next
        | .dfr d => putT n t o.dst (.tup []) fun t => opsX E hv n ops.toList l t (d :: ds) mem next k)
      else putT n t o.dst (.tup []) fun t => opsX E hv n ops.toList l t ds mem next k) = true at hk
    have hk := guardA_ok hT hk
    rw [List.length_cons, List.range'_succ]
    simp only [wpOpsIn, hop]
    cases hw : Region.wanted o (yielded ops a.tmps) with
    | false =>
      rw [hw, cond_false] at hk
      simp only [Bool.false_eq_true, if_false]
      obtain ⟨t', hk, hp⟩ := putT_ok hk
      exact ⟨fun _ _ => trivial, ih (i+1) t' ds mem next m _ w hl' hk hn he hR hG hrnd (hT.put hp (.tup [] [] .nil)) (by rw [Act.put_defers']; exact hD)⟩
    | true =>
      rw [hw, cond_true] at hk
      simp only [if_true]
      refine H.ok σ prot w0 m mem next w _ a o r _ _ _ hk hR hG hrnd (aev_ok hG hT) ?_
      intro hx mem' next' m' w' hk hn' hext hR'
      have hn2 := Nat.le_trans hn hn'
      have he2 := BM.ext_trans he hext hn
      cases hx with
      | val av =>
        intro v hv'
        obtain ⟨t', hk, hp⟩ := putT_ok hk
        exact ih (i+1) t' ds mem' next' m' _ w' hl' hk hn2 he2 hR' (hG.mono hext.le) (hrnd.mono hext.le) ((hT.mono hext.le).put hp hv') (by rw [Act.put_defers']; exact hD.mono hext.le)
      | pnc c =>
        intro ch hc
        exact hQ (.pnc c) t ds mem' next' m' (.panic ch) a w' hk hn2 he2 hR' (hT.mono hext.le) (hD.mono hext.le) ⟨ch, rfl, hc⟩
      | dfr d =>
        intro d' hd
        obtain ⟨t', hk, hp⟩ := putT_ok hk
        refine ih (i+1) t' (d :: ds) mem' next' m' _ w' hl' hk hn2 he2 hR' (hG.mono hext.le) (hrnd.mono hext.le) (TRel.put (a := { a with defers := d' :: a.defers }) (hT.mono hext.le) hp (.tup [] [] .nil)) ?_
        rw [Act.put_defers']
        exact ⟨d', a.defers, rfl, hd, hD.mono hext.le⟩
end
end Go.Ev

/- The evaluator of code: the records of range-over-function loops, results. -/
namespace Go.Ev
variable {P : Program} {σ : Nat → Value} {prot : Nat → Prop} {w0 : World} {m : BM} {mem : T AB} {next : Nat} {w : World}

/-- The record of a loop. -/
theorem loopRec (h : Rel σ prot w0 m mem next w) (P : Program) {l r c : Nat} {st : LoopState} {pend : Option Code} {fn n : Nat} {t : T AV} {ps : Array Nat} {as bd : Code} {df : Nat}
    (hb : mem.get l = some (.loop st pend fn n t ps as bd df)) (hm : m l = some (r, c)) :
    ∃ fn' tm rd cd, w.heap[r]? = some (.loop { state := st, pending := pend, fn := fn', tmps := tm, params := ps, assign := as, body := bd, defers := rd }) ∧
      (Instr.getLoop r).run P w = .ok { state := st, pending := pend, fn := fn', tmps := tm, params := ps, assign := as, body := bd, defers := rd } w ∧ m df = some (rd, cd) ∧
      ∀ st' pend', (setObj r (.loop { state := st', pending := pend', fn := fn', tmps := tm, params := ps, assign := as, body := bd, defers := rd })).run P w = .ok () (putO w r (.loop { state := st', pending := pend', fn := fn', tmps := tm, params := ps, assign := as, body := bd, defers := rd })) ∧
        Rel σ prot w0 m (mem.upd l (.loop st' pend' fn n t ps as bd df)) next (putO w r (.loop { state := st', pending := pend', fn := fn', tmps := tm, params := ps, assign := as, body := bd, defers := rd })) := by
  obtain ⟨fn', tm, rd, cd, q1, q2, q3⟩ := h.blk l _ r c hb hm
  have hg : (Instr.getLoop r).run P w = .ok { state := st, pending := pend, fn := fn', tmps := tm, params := ps, assign := as, body := bd, defers := rd } w := by
    have : (getObj r).run P w = .ok (.loop { state := st, pending := pend, fn := fn', tmps := tm, params := ps, assign := as, body := bd, defers := rd }) w := by simp [getObj, Sem.run, q1]
    simp only [Instr.getLoop, Sem.run_bind, this, Result.andThen_ok, Sem.run_pure]
  refine ⟨fn', tm, rd, cd, q1, hg, q3, fun st' pend' => ⟨run_setObj q1 (by intro c e f h; cases h), ?_⟩⟩
  exact h.setObj l _ (.loop st' pend' fn n t ps as bd df) r c hb rfl hm _ ⟨fn', tm, rd, cd, rfl, q2, q3⟩

theorem endRoundA_ok (h : Rel σ prot w0 m mem next w) (P : Program) {l r c : Nat} (hm : m l = some (r, c)) {jump : Option Code} {k : T AB → Bool} (hk : endRoundA l jump mem k = true) :
    ∃ mem' w', k mem' = true ∧ (Instr.endRound r jump).run P w = .ok (.bool jump.isNone) w' ∧ Rel σ prot w0 m mem' next w' := by
  unfold endRoundA at hk
  split at hk
  · rename_i st pend fn n t ps as bd df hb
    rw [T.set_eq] at hk
    obtain ⟨fn', tm, rd, cd, q1, hg, q3, hs⟩ := loopRec h P hb hm
    cases jump with
    | none =>
      refine ⟨_, _, hk, ?_, (hs .ready none).2⟩
      simp only [Instr.endRound, Sem.run_bind, hg, Result.andThen_ok, Option.isNone_none, if_true, (hs .ready none).1]
      rfl
    | some j =>
      refine ⟨_, _, hk, ?_, (hs .done (some j)).2⟩
      simp only [Instr.endRound, Sem.run_bind, hg, Result.andThen_ok, Option.isNone_some, Bool.false_eq_true, if_false, (hs .done (some j)).1]
      rfl
  · cases hk

theorem beginRound_ok (h : Rel σ prot w0 m mem next w) (P : Program) {l r c : Nat} {pend : Option Code} {fn n : Nat} {t : T AV} {ps : Array Nat} {as bd : Code} {df : Nat}
    (hb : mem.get l = some (.loop .ready pend fn n t ps as bd df)) (hm : m l = some (r, c)) :
    ∃ w', (Instr.beginRound r).run P w = .ok () w' ∧ Rel σ prot w0 m (mem.upd l (.loop .busy pend fn n t ps as bd df)) next w' := by
  obtain ⟨fn', tm, rd, cd, q1, hg, q3, hs⟩ := loopRec h P hb hm
  refine ⟨_, ?_, (hs .busy pend).2⟩
  simp only [Instr.beginRound, Sem.run_bind, hg, Result.andThen_ok, (hs .busy pend).1]
  rfl

theorem endLoop_ok (h : Rel σ prot w0 m mem next w) (P : Program) {l r c : Nat} {st : LoopState} {pend : Option Code} {fn n : Nat} {t : T AV} {ps : Array Nat} {as bd : Code} {df : Nat} (hst : st ≠ .busy)
    (hb : mem.get l = some (.loop st pend fn n t ps as bd df)) (hm : m l = some (r, c)) :
    ∃ w', (Instr.endLoop r).run P w = .ok pend w' ∧ Rel σ prot w0 m (mem.upd l (.loop .exhausted pend fn n t ps as bd df)) next w' := by
  obtain ⟨fn', tm, rd, cd, q1, hg, q3, hs⟩ := loopRec h P hb hm
  refine ⟨_, ?_, (hs .exhausted pend).2⟩
  have : (st == LoopState.busy) = false := by cases st <;> first | rfl | exact absurd rfl hst
  simp only [Instr.endLoop, Sem.run_bind, hg, Result.andThen_ok, this, Bool.false_eq_true, if_false, Sem.run_pure, (hs .exhausted pend).1]
end Go.Ev

/- The evaluator of code: an activation's first temporaries, its results, entering a loop. -/
namespace Go.Ev
variable {P : Program} {σ : Nat → Value} {prot : Nat → Prop} {w0 : World} {m : BM} {mem : T AB} {next : Nat} {w : World}

theorem mkTK_ok {n : Nat} : ∀ {l : List AV} {i : Nat} {t : T AV} {k : T AV → Bool}, mkTK n l i t k = true → (∀ j, i ≤ j → t.get j = none) →
    ∃ t', k t' = true ∧ i + l.length ≤ max n i ∧ (∀ j, j < l.length → t'.get (i + j) = l[j]?) ∧ (∀ j, j < i → t'.get j = t.get j) ∧ ∀ j, i + l.length ≤ j → t'.get j = none := by
  intro l
  induction l with
  | nil => intro i t k hk h0; exact ⟨t, hk, by simp; omega, by simp, fun _ _ => rfl, fun j hj => h0 j (by simpa using hj)⟩
  | cons a l ih =>
    intro i t k hk h0
    change (bif Nat.blt i n then t.set i a fun t => natK (Nat.succ i) fun i => mkTK n l i t k else false) = true at hk
    obtain ⟨hb, hk⟩ := bifT hk
    rw [Nat.blt_eq] at hb
    rw [T.set_eq, natK_eq] at hk
    obtain ⟨t', h1, h2, h3, h4, h5⟩ := ih hk (fun j hj => by rw [T.get_upd, if_neg (by omega)]; exact h0 j (by omega))
    refine ⟨t', h1, by simp; omega, ?_, ?_, ?_⟩
    · intro j hj
      cases j with
      | zero =>
        have := h4 i (by omega)
        rw [T.get_upd, if_pos rfl] at this
        simpa using this
      | succ j =>
        have := h3 j (by simp at hj; omega)
        rw [show i + (j+1) = i + 1 + j by omega]
        simpa using this
    · intro j hj
      rw [h4 j (by omega), T.get_upd, if_neg (by omega)]
    · intro j hj
      exact h5 j (by simp at hj; omega)

theorem mkT_rel {n : Nat} {args : List AV} {args' : List Value} (ha : LRel σ m args args') {t : T AV} (h1 : args.length ≤ n) (h2 : ∀ j, j < args.length → t.get j = args[j]?) (h3 : ∀ j, args.length ≤ j → t.get j = none) :
    TRel σ m n t ((⟨args'⟩ : Array Value) ++ Array.replicate (n - (⟨args'⟩ : Array Value).size) undef) := by
  have hl := ha.length
  refine ⟨by simp; omega, ?_, fun i hi => h3 i (by omega)⟩
  intro i hi
  by_cases h : i < args.length
  · obtain ⟨v, hv, hr⟩ := ha.get i (args[i]) (by simp [h])
    refine ⟨v, ?_, ?_⟩
    · have : i < args'.length := by omega
      rw [Array.getElem?_append_left (by simpa using this)]
      simpa using hv
    · unfold tget
      rw [h2 i h]
      simpa [h] using hr
  · refine ⟨undef, ?_, ?_⟩
    · rw [Array.getElem?_append_right (by simp; omega), Array.getElem?_replicate, if_pos]
      simp
      omega
    · unfold tget
      rw [h3 i (by omega)]
      exact .tup [] [] .nil

def resF (tmps : Array Value) : ResultVar → Sem Value
  | .tmp t => pure (tmps.getD t undef)
  | .cell a t => do loadVar t (← asAddr (tmps.getD a undef))

theorem resK_ok {E : Env} (hE : EnvOk P E) (h : Rel σ prot w0 m mem next w) {n : Nat} {t : T AV} {tm : Array Value} (hT : TRel σ m n t tm) : ∀ {l : List ResultVar} {k : List AV → Bool}, resK E t mem l k = true →
    ∃ as vs, k as = true ∧ LRel σ m as vs ∧ (l.mapM (resF tm)).run P w = .ok vs w := by
  intro l
  induction l with
  | nil => intro k hk; exact ⟨[], [], hk, .nil, rfl⟩
  | cons x l ih =>
    intro k hk
    cases x with
    | tmp y =>
      change (avK (tget t y) fun a => resK E t mem l fun l => k (a :: l)) = true at hk
      rw [avK_eq] at hk
      obtain ⟨as, vs, h1, h2, h3⟩ := ih hk
      refine ⟨_, _, h1, .cons _ _ _ _ (hT.get y) h2, ?_⟩
      simp [List.mapM_cons, resF, h3]
    | cell y ty =>
      change (loadP E.ti ty (tget t y) mem fun a => resK E t mem l fun l => k (a :: l)) = true at hk
      obtain ⟨a, v, h0, hv, hr⟩ := loadP_ok (P := P) hE.ti h (hT.get y) hk
      obtain ⟨as, vs, h1, h2, h3⟩ := ih h0
      refine ⟨_, _, h1, .cons _ _ _ _ hv h2, ?_⟩
      have hx : (do loadVar ty (← asAddr (tm.getD y undef)) : Sem Value).run P w = .ok v w := by
        generalize tm.getD y undef = u at hr
        cases u with
        | pointer a =>
          cases a with
          | some a => simpa [Instr.loadAt, Instr.sureAddr, asAddr] using hr
          | none => simp [Instr.loadAt, Instr.sureAddr] at hr
        | _ => simp [Instr.loadAt, Instr.sureAddr] at hr
      simp only [List.mapM_cons, resF, Sem.run_bind]
      simp only [Sem.run_bind] at hx
      rw [hx]
      simp [h3]

theorem resA_ok {E : Env} (hE : EnvOk P E) (h : Rel σ prot w0 m mem next w) {n : Nat} {t : T AV} {tm : Array Value} (hT : TRel σ m n t tm) {fn : Func} {k : AV → Bool} (hk : resA E t mem fn.results.toList k = true) :
    ∃ a v, k a = true ∧ VRel σ m a v ∧ (results fn tm).run P w = .ok v w := by
  unfold resA at hk
  obtain ⟨as, vs, h1, h2, h3⟩ := resK_ok hE h hT hk
  have hm : (fn.results.mapM (resF tm)).run P w = .ok ⟨vs⟩ w := by
    rw [Array.mapM_eq_mapM_toList]
    simp [h3]
  have hres : (results fn tm).run P w = .ok (if h : (⟨vs⟩ : Array Value).size = 1 then (⟨vs⟩ : Array Value)[0] else .tuple ⟨vs⟩) w := by
    show Sem.run P (do let vs ← fn.results.mapM (resF tm); pure (if h : vs.size = 1 then vs[0] else .tuple vs)) w = _
    simp only [Sem.run_bind, hm, Result.andThen_ok, Sem.run_pure]
  split at h1
  · rename_i a
    obtain ⟨v, rfl, hv⟩ := LRel1 h2
    exact ⟨a, v, h1, hv, hres⟩
  · rename_i hne
    refine ⟨_, _, h1, ?_, hres⟩
    have : ¬ (⟨vs⟩ : Array Value).size = 1 := by
      intro e
      have hl := h2.length
      have : as.length = 1 := by rw [hl]; exact e
      obtain ⟨a, rfl⟩ := List.length_eq_one_iff.1 this
      exact hne a rfl
    rw [dif_neg this]
    exact .tup _ _ h2
end Go.Ev

