/- A part of the evaluator that the proof of InitialNone leans on: definitions and their soundness over the kit's laws; no condition. -/
import Derived.Test.YtonlnkibohmalaaGreatDoorEv4
set_option linter.unusedVariables false
set_option linter.unusedSimpArgs false
/- copy, len, cap, min, max, maps, type assertions. -/
namespace Go.Ev
variable {P : Program} {σ : Nat → Value} {prot : Nat → Prop} {w0 : World} {m : BM} {mem : T AB} {next : Nat} {w : World}

noncomputable def opCopy (ti : T TI) (dt : Nat) (d s : AV) (mem : T AB) (next : Nat) (k : AV → T AB → Nat → Bool) : Bool :=
  match ti.get dt, lenA d, lenA s with
  | some ⟨.slice e, _, _, _⟩, some dn, some sn => (match ti.get e with
    | some xe => natK (bif Nat.ble sn dn then sn else dn) fun n => firstA xe.size n s mem fun l =>
      (match d with
      | .nils => k (.int .i64 (Int.ofNat n)) mem next
      | .slice b off _ _ => (match mem.get b with
        | some (.row be nn cells dz g ro) => bif allCell l && Nat.ble (off + l.length) nn && Nat.ble ro off then stK l cells off fun c => mem.set b (.row be nn c dz g ro) fun mem => k (.int .i64 (Int.ofNat n)) mem next else false
        | _ => false)
      | .sliceU b off _ _ => (match mem.get b with
        | some (.row be nn cells dz g ro) => bif allCell l && Nat.ble (off + l.length) nn && Nat.ble ro off then stK l cells off fun c => mem.set b (.row be nn c dz g ro) fun mem => k (.int .i64 (Int.ofNat n)) mem next else false
        | _ => false)
      | _ => false)
    | none => false)
  | _, _, _ => false

theorem min_bif (a b : Nat) : (bif Nat.ble a b then a else b) = Nat.min a b := by
  show _ = min a b
  cases h : Nat.ble a b with
  | true => have := Nat.le_of_ble_eq_true h; simp [Nat.min_eq_left this]
  | false =>
    have : ¬ a ≤ b := fun e => by rw [Nat.ble_eq_true_of_le e] at h; cases h
    simp; omega

theorem opCopy_ok {ti : T TI} (hti : TIOk P ti) (h : Rel σ prot w0 m mem next w) {dt xt : Nat} {d s : AV} {d' s' : Value} (hd : VRel σ m d d') (hs : VRel σ m s s') {k : AV → T AB → Nat → Bool} (ty : TypeId) (hk : opCopy ti dt d s mem next k = true) :
    Out P σ prot w0 m next w (Builtin.copy_ #[dt, xt] ty #[d', s']) k := by
  unfold opCopy at hk
  split at hk
  · rename_i e _ _ _ dn sn hdt hdn hsn
    obtain ⟨i1, dd, z1, hz1⟩ := hti dt _ hdt
    have hdd := hz1.ud; simp only [UDRel] at hdd; subst hdd
    split at hk
    · rename_i xe hxe
      obtain ⟨ie, de, ze, hze⟩ := hti e _ hxe
      rw [natK_eq, min_bif] at hk
      have hl := lenA_ok (P := P) (w := w) hsn hs
      obtain ⟨l, vs, f1, f1', f2, f3⟩ := firstA_both (P := P) h hs hk
      have hrun : ∀ {base : Option Addr} {dl dc : Nat}, d' = .slice base dl dc → dl = dn →
          (Builtin.copy_ #[dt, xt] ty #[d', s']).run P w = (match base with | some a => ((storeCells a vs).run P w).andThen fun _ w => .ok (goInt (Nat.min sn dn)) w | none => .ok (goInt (Nat.min sn dn)) w) := by
        intro base dl dc e1 e2
        subst e1 e2
        cases base <;> simp only [Builtin.copy_, List.getElem?_toArray, List.getElem?_cons_zero, List.getElem?_cons_succ, Sem.run_bind, Sem.run_pure, run_und hz1.und, Result.andThen_ok, hl, run_size hze.info, hze.size, f1]
      split at f3
      · cases hd
        have : dn = 0 := by simpa [lenA] using hdn.symm
        subst this
        exact Out.pure h f3 (.int _ _) (by rw [hrun rfl rfl]; rfl)
      · rename_i b off dl dc
        have : dn = dl := by simpa [lenA] using hdn.symm
        subst this
        cases hd with
        | slice _ _ _ _ r c hm =>
        split at f3
        · rename_i be nn cells dz g ro hb
          cases hcc : (allCell l && Nat.ble (off + l.length) nn && Nat.ble ro off) with
          | false => rw [hcc, cond_false] at f3; cases f3
          | true =>
            rw [hcc, cond_true, stK_eq, T.set_eq] at f3
            simp only [Bool.and_eq_true] at hcc
            obtain ⟨⟨d1, d2⟩, d3⟩ := hcc
            have d2 := Nat.le_of_ble_eq_true d2
            have d3 := Nat.le_of_ble_eq_true d3
            obtain ⟨w', g1, g2⟩ := Rel.storeCells_ok (P := P) hm off d3 l vs 0 cells mem w h hb f2 d1 (by omega)
            exact ⟨_, _, _, m, w', _, f3, Nat.le_refl _, BM.ext_refl _ _ _, g2, .int _ _, by rw [hrun rfl rfl]; simp only [g1]; rfl⟩
        · cases f3
      · rename_i b off koff dl
        have : dn = dl := by simpa [lenA] using hdn.symm
        subst this
        cases hd with
        | sliceU _ _ _ _ r c hm =>
        split at f3
        · rename_i be nn cells dz g ro hb
          cases hcc : (allCell l && Nat.ble (off + l.length) nn && Nat.ble ro off) with
          | false => rw [hcc, cond_false] at f3; cases f3
          | true =>
            rw [hcc, cond_true, stK_eq, T.set_eq] at f3
            simp only [Bool.and_eq_true] at hcc
            obtain ⟨⟨d1, d2⟩, d3⟩ := hcc
            have d2 := Nat.le_of_ble_eq_true d2
            have d3 := Nat.le_of_ble_eq_true d3
            obtain ⟨w', g1, g2⟩ := Rel.storeCells_ok (P := P) hm off d3 l vs 0 cells mem w h hb f2 d1 (by omega)
            exact ⟨_, _, _, m, w', _, f3, Nat.le_refl _, BM.ext_refl _ _ _, g2, .int _ _, by rw [hrun rfl rfl]; simp only [g1]; rfl⟩
        · cases f3
      · cases f3
    · cases hk
  · cases hk

/-! ### len, cap -/
noncomputable def opLen (ti : T TI) (t : Nat) (a : AV) (mem : T AB) (k : AV → Bool) : Bool :=
  match ti.get t with
  | some ⟨.str, _, _, _⟩ => (match a with | .str l => natK l.length fun n => k (.int .i64 (Int.ofNat n)) | .lenv false lo hi => k (.intB .i64 (Int.ofNat lo) (Int.ofNat hi)) | _ => false)
  | some ⟨.arr n _, _, _, _⟩ => k (.int .i64 (Int.ofNat n))
  | some ⟨.slice _, _, _, _⟩ => (match a with
    | .slice _ _ n _ => k (.int .i64 (Int.ofNat n))
    | .sliceU _ _ _ n => k (.int .i64 (Int.ofNat n))
    | .nils => k (.int .i64 0)
    | .emp => k (.int .i64 0)
    | .lenv true lo hi => k (.intB .i64 (Int.ofNat lo) (Int.ofNat hi))
    | _ => false)
  | some ⟨.map _ _, _, _, _⟩ => (match a with
    | .nilm => k (.int .i64 0)
    | .map b => (match mem.get b with
      | some (.map es _) => natK es.length fun n => k (.int .i64 (Int.ofNat n))
      | _ => false)
    | _ => false)
  | some ⟨.ptr e, _, _, _⟩ => (match ti.get e with
    | some ⟨.arr n _, _, _, _⟩ => k (.int .i64 (Int.ofNat n))
    | _ => false)
  | _ => false

theorem MRel.length {l : List ME} {es : List MapEntry} (h : MRel σ m l es) : l.length = es.length := by
  induction l generalizing es with
  | nil => simp only [MRel] at h; subst h; rfl
  | cons a l ih => obtain ⟨k, v, es', rfl, _, _, h⟩ := h; simp [ih h]

theorem getObj_map (h : Rel σ prot w0 m mem next w) {b r c clock : Nat} {es : List ME} (hb : mem.get b = some (.map es clock)) (hm : m b = some (r, c)) : ∃ es', MRel σ m es es' ∧ (getObj r).run P w = .ok (.map ⟨es'⟩ clock) w := by
  obtain ⟨es', h1, h2⟩ := h.blk b _ r c hb hm
  exact ⟨es', h2, by simp [getObj, Sem.run, h1]⟩

theorem opLen_ok {ti : T TI} (hti : TIOk P ti) (h : Rel σ prot w0 m mem next w) {t : Nat} {a : AV} {v : Value} (hv : VRel σ m a v) {k : AV → Bool} (ty : TypeId) (hk : opLen ti t a mem k = true) :
    OutP P σ m w (Builtin.len_ #[t] ty #[v]) k := by
  unfold opLen at hk
  have go : ∀ {s : Sem Value} {n : Nat}, s.run P w = .ok (.int .i64 (n : Int)) w → k (.int .i64 (Int.ofNat n)) = true → OutP P σ m w s k := fun h1 h2 => ⟨_, _, h2, .int _ _, h1⟩
  split at hk
  · rename_i _ _ _ ht
    obtain ⟨_, d, z, hz⟩ := hti t _ ht
    have hd := hz.ud; simp only [UDRel] at hd; subst hd
    split at hk
    · cases hv with
      | str l s hs =>
        rw [natK_eq] at hk
        refine go ?_ hk
        simp only [Builtin.len_, List.getElem?_toArray, List.getElem?_cons_zero, Sem.run_bind, run_und hz.und, Result.andThen_ok, Sem.run_pure, goInt]
        rw [← hs]; simp
    · cases hv with
      | lenS lo hi s h1 h2 =>
        refine ⟨_, _, hk, .intB _ _ _ (s.size : Int) (by simpa using h1) (by simpa using h2), ?_⟩
        simp only [Builtin.len_, List.getElem?_toArray, List.getElem?_cons_zero, Sem.run_bind, run_und hz.und, Result.andThen_ok, Sem.run_pure, goInt]
    · cases hk
  · rename_i n e _ _ _ ht
    obtain ⟨_, d, z, hz⟩ := hti t _ ht
    have hd := hz.ud; simp only [UDRel] at hd; subst hd
    refine go ?_ hk
    simp only [Builtin.len_, List.getElem?_toArray, List.getElem?_cons_zero, Sem.run_bind, run_und hz.und, Result.andThen_ok, Sem.run_pure, goInt]
  · rename_i e _ _ _ ht
    obtain ⟨_, d, z, hz⟩ := hti t _ ht
    have hd := hz.ud; simp only [UDRel] at hd; subst hd
    split at hk <;> first
      | (cases hk; done)
      | (cases hv
         rename_i n c h1 h2
         refine ⟨_, _, hk, .intB _ _ _ (n : Int) (by simpa using h1) (by simpa using h2), ?_⟩
         simp only [Builtin.len_, List.getElem?_toArray, List.getElem?_cons_zero, Sem.run_bind, run_und hz.und, Result.andThen_ok, Sem.run_pure, goInt]
         done)
      | (cases hv
         refine go ?_ hk
         simp only [Builtin.len_, List.getElem?_toArray, List.getElem?_cons_zero, Sem.run_bind, run_und hz.und, Result.andThen_ok, Sem.run_pure, goInt])
      | (cases hv
         refine ⟨_, _, hk, .int _ _, ?_⟩
         simp only [Builtin.len_, List.getElem?_toArray, List.getElem?_cons_zero, Sem.run_bind, run_und hz.und, Result.andThen_ok, Sem.run_pure, goInt]; rfl)
  · rename_i kt e _ _ _ ht
    obtain ⟨_, d, z, hz⟩ := hti t _ ht
    have hd := hz.ud; simp only [UDRel] at hd; subst hd
    split at hk
    · cases hv
      refine ⟨_, _, hk, .int _ _, ?_⟩
      simp only [Builtin.len_, List.getElem?_toArray, List.getElem?_cons_zero, Sem.run_bind, run_und hz.und, Result.andThen_ok, Sem.run_pure, goInt]
    · cases hv with
      | map b r c hm =>
        split at hk
        · rename_i es clock hb
          rw [natK_eq] at hk
          obtain ⟨es', g1, g2⟩ := getObj_map (P := P) h hb hm
          refine go ?_ hk
          simp only [Builtin.len_, List.getElem?_toArray, List.getElem?_cons_zero, Sem.run_bind, run_und hz.und, Result.andThen_ok, g2, Sem.run_pure, goInt]
          rw [g1.length]; rfl
        · cases hk
    · cases hk
  · rename_i e _ _ _ ht
    obtain ⟨_, d, z, hz⟩ := hti t _ ht
    have hd := hz.ud; simp only [UDRel] at hd; subst hd
    split at hk
    · rename_i n e2 _ _ _ hte
      obtain ⟨_, d2, z2, hz2⟩ := hti e _ hte
      have hd := hz2.ud; simp only [UDRel] at hd; subst hd
      refine go ?_ hk
      cases v <;> simp only [Builtin.len_, List.getElem?_toArray, List.getElem?_cons_zero, Sem.run_bind, run_und hz.und, run_und hz2.und, Result.andThen_ok, Sem.run_pure, goInt]
    · cases hk
  · cases hk

/-! ### min, max -/
noncomputable def mm2 (isMax : Bool) (a b : AV) (k : AV → Bool) : Bool :=
  match a, b with
  | .int kk x, .int _ y => boolK (bif isMax then ltI x y else ltI y x) fun c => k (bif c then .int kk y else .int kk x)
  | .int kk x, .intB k2 lo hi => bif kEq kk k2 then (bif isMax then (bif ltI x lo then k b else bif ltI x hi then false else k a) else (bif ltI hi x then k b else bif ltI lo x then false else k a)) else false
  | .intB kk lo hi, .int k2 y => bif kEq kk k2 then (bif isMax then (bif ltI hi y then k b else bif ltI lo y then false else k a) else (bif ltI y lo then k b else bif ltI y hi then false else k a)) else false
  | _, _ => false

def mmRun (isMax : Bool) (a b : Value) : Sem Value := if isMax then Builtin.max2 a b else Builtin.min2 a b

theorem ltI_f {x y : Int} (h : ltI x y = false) : y ≤ x := by rw [ltI_eq] at h; simpa using h
theorem ltI_t {x y : Int} (h : ltI x y = true) : x < y := by rw [ltI_eq] at h; simpa using h

theorem mm2_ok {isMax : Bool} {a b : AV} {v u : Value} (hv : VRel σ m a v) (hu : VRel σ m b u) {k : AV → Bool} (h : mm2 isMax a b k = true) : OutP P σ m w (mmRun isMax v u) k := by
  unfold mm2 at h
  split at h
  · cases hv; cases hu
    rename_i kk x _ y
    rw [boolK_eq] at h
    refine ⟨_, .int kk (if (bif isMax then ltI x y else ltI y x) then y else x), h, ?_, ?_⟩
    · cases (bif isMax then ltI x y else ltI y x) <;> exact .int _ _
    · cases isMax
      · simp only [mmRun, cond_false, Bool.false_eq_true, if_false, Builtin.min2, ltI_eq, Sem.run_pure]; simp
      · simp only [mmRun, cond_true, if_true, Builtin.max2, ltI_eq, Sem.run_pure]; simp
  · rename_i kk x k2 lo hi
    cases hv
    cases hu with
    | intB _ _ _ n h1 h2 =>
      cases hk : kEq kk k2 with
      | false => rw [hk, cond_false] at h; cases h
      | true =>
        rw [hk, cond_true] at h
        have := kEq_eq hk
        subst this
        cases isMax with
        | true =>
          simp only [cond_true] at h
          cases c1 : ltI x lo with
          | true =>
            rw [c1, cond_true] at h
            have := ltI_t c1
            exact ⟨_, .int kk n, h, .intB _ _ _ _ h1 h2, by simp only [mmRun, if_true, Builtin.max2, Sem.run_pure]; rw [if_pos (by omega)]⟩
          | false =>
            rw [c1, cond_false] at h
            cases c2 : ltI x hi with
            | true => rw [c2, cond_true] at h; cases h
            | false =>
              rw [c2, cond_false] at h
              have := ltI_f c2
              exact ⟨_, .int kk x, h, .int _ _, by simp only [mmRun, if_true, Builtin.max2, Sem.run_pure]; rw [if_neg (by omega)]⟩
        | false =>
          simp only [cond_false] at h
          cases c1 : ltI hi x with
          | true =>
            rw [c1, cond_true] at h
            have := ltI_t c1
            exact ⟨_, .int kk n, h, .intB _ _ _ _ h1 h2, by simp only [mmRun, Bool.false_eq_true, if_false, Builtin.min2, Sem.run_pure]; rw [if_pos (by omega)]⟩
          | false =>
            rw [c1, cond_false] at h
            cases c2 : ltI lo x with
            | true => rw [c2, cond_true] at h; cases h
            | false =>
              rw [c2, cond_false] at h
              have := ltI_f c2
              exact ⟨_, .int kk x, h, .int _ _, by simp only [mmRun, Bool.false_eq_true, if_false, Builtin.min2, Sem.run_pure]; rw [if_neg (by omega)]⟩
  · rename_i kk lo hi k2 y
    cases hu
    cases hv with
    | intB _ _ _ n h1 h2 =>
      cases hk : kEq kk k2 with
      | false => rw [hk, cond_false] at h; cases h
      | true =>
        rw [hk, cond_true] at h
        have := kEq_eq hk
        subst this
        cases isMax with
        | true =>
          simp only [cond_true] at h
          cases c1 : ltI hi y with
          | true =>
            rw [c1, cond_true] at h
            have := ltI_t c1
            exact ⟨_, .int kk y, h, .int _ _, by simp only [mmRun, if_true, Builtin.max2, Sem.run_pure]; rw [if_pos (by omega)]⟩
          | false =>
            rw [c1, cond_false] at h
            cases c2 : ltI lo y with
            | true => rw [c2, cond_true] at h; cases h
            | false =>
              rw [c2, cond_false] at h
              have := ltI_f c2
              exact ⟨_, .int kk n, h, .intB _ _ _ _ h1 h2, by simp only [mmRun, if_true, Builtin.max2, Sem.run_pure]; rw [if_neg (by omega)]⟩
        | false =>
          simp only [cond_false] at h
          cases c1 : ltI y lo with
          | true =>
            rw [c1, cond_true] at h
            have := ltI_t c1
            exact ⟨_, .int kk y, h, .int _ _, by simp only [mmRun, Bool.false_eq_true, if_false, Builtin.min2, Sem.run_pure]; rw [if_pos (by omega)]⟩
          | false =>
            rw [c1, cond_false] at h
            cases c2 : ltI y hi with
            | true => rw [c2, cond_true] at h; cases h
            | false =>
              rw [c2, cond_false] at h
              have := ltI_f c2
              exact ⟨_, .int kk n, h, .intB _ _ _ _ h1 h2, by simp only [mmRun, Bool.false_eq_true, if_false, Builtin.min2, Sem.run_pure]; rw [if_neg (by omega)]⟩
  · cases h

noncomputable def mmFold (isMax : Bool) (l : List AV) : AV → (AV → Bool) → Bool :=
  List.rec (motive := fun _ => AV → (AV → Bool) → Bool) (fun a k => k a) (fun b _ ih a k => mm2 isMax a b fun c => ih c k) l
noncomputable def opMM (isMax : Bool) (l : List AV) (k : AV → Bool) : Bool :=
  match l with
  | [] => false
  | a :: l => mmFold isMax l a k

theorem mmFold_ok {isMax : Bool} : ∀ {l : List AV} {vs : List Value} {a : AV} {v : Value} {k : AV → Bool}, LRel σ m l vs → VRel σ m a v → mmFold isMax l a k = true → OutP P σ m w (vs.foldlM (mmRun isMax) v) k := by
  intro l
  induction l with
  | nil => intro vs a v k hl hv h; cases hl; exact ⟨a, v, h, hv, rfl⟩
  | cons b l ih =>
    intro vs a v k hl hv h
    cases hl with
    | cons _ u _ vs hu ht =>
      change mm2 isMax a b (fun c => mmFold isMax l c k) = true at h
      obtain ⟨c, x, h1, h2, h3⟩ := mm2_ok (P := P) (w := w) hv hu h
      obtain ⟨d, y, g1, g2, g3⟩ := ih ht h2 h1
      exact ⟨d, y, g1, g2, by simp only [List.foldlM_cons, Sem.run_bind, h3, Result.andThen_ok, g3]⟩

theorem opMax_ok {l : List AV} {vs : List Value} (hl : LRel σ m l vs) {k : AV → Bool} (ts : Array TypeId) (ty : TypeId) (h : opMM true l k = true) : OutP P σ m w (Builtin.max_ ts ty ⟨vs⟩) k := by
  unfold opMM at h
  split at h
  · cases h
  · cases hl with
    | cons a v l vs hv ht =>
      have := mmFold_ok (P := P) (w := w) ht hv h
      have e : mmRun true = Builtin.max2 := by funext a b; simp [mmRun]
      rw [e] at this
      simpa [Builtin.max_] using this
theorem opMin_ok {l : List AV} {vs : List Value} (hl : LRel σ m l vs) {k : AV → Bool} (ts : Array TypeId) (ty : TypeId) (h : opMM false l k = true) : OutP P σ m w (Builtin.min_ ts ty ⟨vs⟩) k := by
  unfold opMM at h
  split at h
  · cases h
  · cases hl with
    | cons a v l vs hv ht =>
      have := mmFold_ok (P := P) (w := w) ht hv h
      have e : mmRun false = Builtin.min2 := by funext a b; simp [mmRun]
      rw [e] at this
      simpa [Builtin.min_] using this

/-! ### maps -/
noncomputable def opMakeMap (mem : T AB) (next : Nat) (k : AV → T AB → Nat → Bool) : Bool := mem.set next (.map [] 0) fun mem => k (.map next) mem (Nat.succ next)
theorem opMakeMap_ok (h : Rel σ prot w0 m mem next w) {t : Nat} {k : AV → T AB → Nat → Bool} (hk : opMakeMap mem next k = true) : Out P σ prot w0 m next w (Instr.makeMap t none) k := by
  unfold opMakeMap at hk
  rw [T.set_eq] at hk
  refine Out.new h _ 0 (.map #[] 0) _ (.map (some w.heap.size)) ?_ hk ?_ ?_
  · intro m' _ _; exact ⟨[], rfl, rfl⟩
  · intro m' _ hm; exact .map _ _ _ hm
  · simp [Instr.makeMap]

def keyEq (u : UD) (a b : AV) : Option Bool :=
  match u, a, b with
  | .int _, .int k x, .int k' y => bif kEq k k' then some (eqI x y) else none
  | .str, .str x, .str y => some (lEq x y)
  | .bool, .bool x, .bool y => some (bEq x y)
  | _, _, _ => none

theorem keyEq_ok {u : UD} {d : TypeDesc} (hd : UDRel P u d) {a b : AV} {v x : Value} (hv : VRel σ m a v) (hx : VRel σ m b x) {r : Bool} (h : keyEq u a b = some r) :
    Instr.sameNow d v x = some r ∧ (r = true → Instr.sameBits 10000 x v = true) := by
  unfold keyEq at h
  split at h
  · rename_i kd k x' k' y
    simp only [UDRel] at hd; subst hd
    cases hv; cases hx
    cases hk : kEq k k' with
    | false => rw [hk, cond_false] at h; cases h
    | true =>
      rw [hk, cond_true] at h
      injection h with h
      have := kEq_eq hk
      subst this
      rw [eqI_eq] at h
      refine ⟨by simp [Instr.sameNow, h], ?_⟩
      intro hr; subst hr
      have : x' = y := by simpa using h
      subst this
      simp [Instr.sameBits]
  · simp only [UDRel] at hd; subst hd
    cases hv with
    | str l s hs => cases hx with
      | str l2 s2 hs2 =>
        injection h with h
        have hb : (s == s2) = (s.data == s2.data) := by cases s; cases s2; rfl
        have key : (s == s2) = r := by
          rw [hb, ← h, lEq_eq, ← hs, ← hs2, Bool.eq_iff_iff]
          simp only [beq_iff_eq, decide_eq_true_eq]
          constructor
          · intro e; rw [e]
          · intro e
            have := (List.map_inj_right (fun x y hxy => UInt8.toNat_inj.1 hxy)).1 e
            exact Array.toList_inj.1 this
        refine ⟨by simp only [Instr.sameNow]; rw [key], ?_⟩
        intro hr; rw [hr, hb, beq_iff_eq] at key
        have hb2 : (s2 == s) = (s2.data == s.data) := by cases s; cases s2; rfl
        have : (s2 == s) = true := by rw [hb2, beq_iff_eq]; exact key.symm
        simp only [Instr.sameBits]; exact this
  · simp only [UDRel] at hd; subst hd
    cases hv; cases hx
    injection h with h
    rename_i p q
    refine ⟨?_, ?_⟩
    · simp only [Instr.sameNow]; cases p <;> cases q <;> simp [bEq] at h <;> simp [← h]
    · intro hr; subst hr; cases p <;> cases q <;> simp [bEq] at h <;> simp [Instr.sameBits]
  · cases h

noncomputable def findA (u : UD) (k : AV) (es : List ME) : Nat → (Option (Nat × AV) → Bool) → Bool :=
  List.rec (motive := fun _ => Nat → (Option (Nat × AV) → Bool) → Bool) (fun _ f => f none) (fun e _ ih i f => match keyEq u k e.key with
    | some true => f (some (i, e.val))
    | some false => ih (Nat.succ i) f
    | none => false) es

theorem findA_ok {u : UD} {d : TypeDesc} (hd : UDRel P u d) {k : AV} {v : Value} (hv : VRel σ m k v) : ∀ {es : List ME} {es' : List MapEntry} {i : Nat} {f : Option (Nat × AV) → Bool}, MRel σ m es es' → findA u k es i f = true →
    (f none = true ∧ Instr.findNow d v es' i = some none) ∨ (∃ j a x e, f (some (i + j, a)) = true ∧ VRel σ m a x ∧ Instr.findNow d v es' i = some (some (i + j, x)) ∧ es'[j]? = some e ∧ Instr.sameBits 10000 e.key v = true ∧ j < es.length) := by
  intro es
  induction es with
  | nil => intro es' i f hm h; simp only [MRel] at hm; subst hm; exact .inl ⟨h, rfl⟩
  | cons e es ih =>
    intro es' i f hm h
    obtain ⟨kk, x, es2, rfl, h1, h2, h3⟩ := hm
    change (match keyEq u k e.key with
    | some true => f (some (i, e.val))
    | some false => findA u k es (i+1) f
    | none => false) = true at h
    split at h
    · rename_i hq
      obtain ⟨g1, g2⟩ := keyEq_ok hd hv h1 hq
      exact .inr ⟨0, e.val, x, _, h, h2, by simp [Instr.findNow, g1], rfl, g2 rfl, by simp⟩
    · rename_i hq
      obtain ⟨g1, g2⟩ := keyEq_ok hd hv h1 hq
      rcases ih h3 h with ⟨a1, a2⟩ | ⟨j, a, y, e2, a1, a2, a3, a4, a5, a6⟩
      · exact .inl ⟨a1, by simp [Instr.findNow, g1, a2]⟩
      · refine .inr ⟨j+1, a, y, e2, ?_, a2, ?_, by simpa using a4, a5, by simp; exact a6⟩
        · rw [show i + (j+1) = i + 1 + j by omega]; exact a1
        · rw [show i + (j+1) = i + 1 + j by omega]; simp [Instr.findNow, g1, a3]
    · cases h

def UD.key : UD → Bool
  | .int _ | .str | .bool => true
  | _ => false
theorem run_checkKey {u : UD} {d : TypeDesc} (hd : UDRel P u d) (hk : u.key = true) {t : Nat} (hu : P.underlying t = some d) (empty : Bool) (v : Value) : (Instr.checkKey empty 10000 t v).run P w = .ok () w := by
  have : Instr.checkKey empty 10000 t v = Instr.checkKey empty (9999+1) t v := rfl
  rw [this, Instr.checkKey]
  simp only [Sem.run_bind, run_und hu, Result.andThen_ok]
  cases u <;> simp [UD.key] at hk <;> simp only [UDRel] at hd <;> subst hd <;> rfl

noncomputable def zeroAV (x : TI) : AV := bif x.ud.agg then .agg (cellsAt .e x.zero x.size 0) else cellOf .e x.zero 0
theorem zeroAV_ok {t : Nat} {x : TI} {i : TypeInfo} {d : TypeDesc} {z : Value} (h : TIRel P t x i d z) (σ : Nat → Value) (m : BM) : VRel σ m (zeroAV x) z := by
  unfold zeroAV
  cases ha : x.ud.agg with
  | true =>
    obtain ⟨cs, rfl⟩ := h.zagg ha
    rw [cond_true]
    have := h.zlist σ m
    exact .agg _ cs.toList this
  | false => rw [cond_false]; exact (h.zcell ha).2 σ m

noncomputable def opLookup (ti : T TI) (t : Nat) (a ix : AV) (ok : Bool) (mem : T AB) (k : AV → Bool) : Bool :=
  match ti.get t with
  | some ⟨.map kt e, _, _, _⟩ => (match ti.get kt, ti.get e with
    | some kx, some ex => bif kx.ud.key then
      (match a with
      | .nilm => avK (zeroAV ex) fun z => k (bif ok then .tup [z, .bool false] else z)
      | .map b => (match mem.get b with
        | some (.map es _) => findA kx.ud ix es 0 fun r => (match r with
          | some (_, v) => k (bif ok then .tup [v, .bool true] else v)
          | none => avK (zeroAV ex) fun z => k (bif ok then .tup [z, .bool false] else z))
        | _ => false)
      | _ => false) else false
    | _, _ => false)
  | _ => false

theorem okV {a : AV} {v : Value} (h : VRel σ m a v) (ok b : Bool) : VRel σ m (bif ok then .tup [a, .bool b] else a) (if ok then .tuple #[v, .bool b] else v) := by
  cases ok
  · exact h
  · exact .tup _ [v, .bool b] (.cons _ _ _ _ h (.cons _ _ _ _ (.bool b) .nil))

theorem opLookup_ok {ti : T TI} (hti : TIOk P ti) (h : Rel σ prot w0 m mem next w) {t : Nat} {a ix : AV} {v u : Value} (hv : VRel σ m a v) (hu : VRel σ m ix u) {ok : Bool} {k : AV → Bool} (hk : opLookup ti t a ix ok mem k = true) :
    OutP P σ m w (Instr.lookup t v u ok) k := by
  unfold opLookup at hk
  split at hk
  · rename_i kt e _ _ _ ht
    obtain ⟨_, d, z, hz⟩ := hti t _ ht
    have hd := hz.ud; simp only [UDRel] at hd; subst hd
    split at hk
    · rename_i kx ex hkx hex
      obtain ⟨_, dk, zk, hzk⟩ := hti kt _ hkx
      obtain ⟨ie, de, ze, hze⟩ := hti e _ hex
      cases hkey : kx.ud.key with
      | false => rw [hkey, cond_false] at hk; cases hk
      | true =>
      rw [hkey, cond_true] at hk
      have hck : ∀ b, (Instr.checkKey b 10000 kt u).run P w = .ok () w := fun b => run_checkKey hzk.ud hkey hzk.und b u
      split at hk
      · cases hv
        rw [avK_eq] at hk
        refine ⟨_, _, hk, okV (zeroAV_ok hze σ m) ok false, ?_⟩
        simp only [Instr.lookup, Sem.run_bind, run_und hz.und, Result.andThen_ok, Sem.run_pure, hck, Instr.findKey, run_und hzk.und, Instr.findNow, run_zero hze.info hze.zero]
      · cases hv with
        | map b r c hm =>
          split at hk
          · rename_i es clock hb
            obtain ⟨es', g1, g2⟩ := getObj_map (P := P) h hb hm
            rcases findA_ok hzk.ud hu g1 hk with ⟨f1, f2⟩ | ⟨j, a, x, e2, f1, f2, f3, _⟩
            · simp only [avK_eq] at f1
              refine ⟨_, _, f1, okV (zeroAV_ok hze σ m) ok false, ?_⟩
              simp only [Instr.lookup, Sem.run_bind, run_und hz.und, Result.andThen_ok, g2, Sem.run_pure, hck, Instr.findKey, run_und hzk.und, f2, run_zero hze.info hze.zero]
            · simp only [Nat.zero_add] at f1 f3
              refine ⟨_, _, f1, okV f2 ok true, ?_⟩
              simp only [Instr.lookup, Sem.run_bind, run_und hz.und, Result.andThen_ok, g2, Sem.run_pure, hck, Instr.findKey, run_und hzk.und, f3]
          · cases hk
      · cases hk
    · cases hk
  · cases hk
end Go.Ev

/- Map updates, type assertions, calls: what one operation leaves. -/
namespace Go.Ev
variable {P : Program} {σ : Nat → Value} {prot : Nat → Prop} {w0 : World} {m : BM} {mem : T AB} {next : Nat} {w : World}

noncomputable def updA (es : List ME) (i : Nat) (k v : AV) : List ME := es.modify i fun e => { key := k, val := v, born := e.born }

theorem MRel.modify {es : List ME} {es' : List MapEntry} (h : MRel σ m es es') (i : Nat) {k v : AV} {k' v' : Value} (hk : VRel σ m k k') (hv : VRel σ m v v') :
    MRel σ m (updA es i k v) (es'.modify i fun e => { e with key := k', val := v' }) := by
  induction es generalizing es' i with
  | nil => simp only [MRel] at h; subst h; simp [updA, MRel]
  | cons e es ih =>
    obtain ⟨a, b, es2, rfl, h1, h2, h3⟩ := h
    cases i with
    | zero => exact ⟨k', v', es2, rfl, hk, hv, h3⟩
    | succ i =>
      have := ih h3 i
      refine ⟨a, b, _, ?_, h1, h2, this⟩
      simp
theorem MRel.push {es : List ME} {es' : List MapEntry} (h : MRel σ m es es') {k v : AV} {k' v' : Value} (hk : VRel σ m k k') (hv : VRel σ m v v') (born : Nat) :
    MRel σ m (es ++ [{ key := k, val := v, born }]) (es' ++ [{ key := k', val := v', born }]) := by
  induction es generalizing es' with
  | nil => simp only [MRel] at h; subst h; exact ⟨k', v', [], rfl, hk, hv, rfl⟩
  | cons e es ih => obtain ⟨a, b, es2, rfl, h1, h2, h3⟩ := h; exact ⟨a, b, _, rfl, h1, h2, ih h3⟩

theorem run_setObj {r : Nat} {o o' : Obj} (h : w.heap[r]? = some o') (hc : ∀ c e f, o' ≠ .cells c e f) : (setObj r o).run P w = .ok () (putO w r o) := by
  simp only [setObj, Sem.run, h]
  cases o' <;> first | rfl | exact absurd rfl (hc _ _ _)

noncomputable def opMapUpdate (ti : T TI) (t : Nat) (a kx v : AV) (mem : T AB) (k : T AB → Bool) : Bool :=
  match ti.get t with
  | some ⟨.map kt _, _, _, _⟩ => (match ti.get kt with
    | some kxi => bif kxi.ud.key then
      (match a with
      | .map b => (match mem.get b with
        | some (.map es clock) => findA kxi.ud kx es 0 fun r => (match r with
          | some (i, _) => mem.set b (.map (updA es i kx v) clock) fun mem => k mem
          | none => natK (Nat.succ clock) fun c => mem.set b (.map (es ++ [{ key := kx, val := v, born := clock }]) c) fun mem => k mem)
        | _ => false)
      | _ => false) else false
    | none => false)
  | _ => false

theorem opMapUpdate_ok {ti : T TI} (hti : TIOk P ti) (h : Rel σ prot w0 m mem next w) {t : Nat} {a kx v : AV} {a' k' v' : Value} (ha : VRel σ m a a') (hkx : VRel σ m kx k') (hv : VRel σ m v v') {k : T AB → Bool} (hk : opMapUpdate ti t a kx v mem k = true) :
    OutS P σ prot w0 m next w (Instr.mapUpdate t a' k' v') k := by
  unfold opMapUpdate at hk
  split at hk
  · rename_i kt e _ _ _ ht
    obtain ⟨_, d, z, hz⟩ := hti t _ ht
    have hd := hz.ud; simp only [UDRel] at hd; subst hd
    split at hk
    · rename_i kxi hkxi
      obtain ⟨_, dk, zk, hzk⟩ := hti kt _ hkxi
      cases hkey : kxi.ud.key with
      | false => rw [hkey, cond_false] at hk; cases hk
      | true =>
      rw [hkey, cond_true] at hk
      have hck : ∀ b, (Instr.checkKey b 10000 kt k').run P w = .ok () w := fun b => run_checkKey hzk.ud hkey hzk.und b k'
      split at hk
      · rename_i b
        cases ha with
        | map _ r c hm =>
          split at hk
          · rename_i es clock hb
            obtain ⟨es', g1, g2⟩ := getObj_map (P := P) h hb hm
            obtain ⟨es2, q1, q2⟩ := h.blk b _ r c hb hm
            have hne : ∀ c e f, (Obj.map ⟨es2⟩ clock) ≠ .cells c e f := by intro c e f e2; cases e2
            rcases findA_ok hzk.ud hkx g1 hk with ⟨f1, f2⟩ | ⟨j, x, y, e2, f1, f2, f3, f4, f5, f6⟩
            · simp only [natK_eq, T.set_eq] at f1
              have hR := h.setObj b (.map es clock) (.map (es ++ [{ key := kx, val := v, born := clock }]) (clock+1)) r c hb rfl hm (.map ⟨es' ++ [{ key := k', val := v', born := clock }]⟩ (clock+1)) ⟨_, rfl, g1.push hkx hv clock⟩
              refine ⟨_, _, f1, hR, ?_⟩
              simp only [Instr.mapUpdate, Sem.run_bind, run_und hz.und, Result.andThen_ok, g2, hck, Instr.findKey, run_und hzk.und, f2, Sem.run_pure]
              rw [run_setObj q1 hne]
              simp
            · simp only [Nat.zero_add, T.set_eq] at f1 f3
              have hR := h.setObj b (.map es clock) (.map (updA es j kx v) clock) r c hb rfl hm (.map ⟨es'.modify j fun e => { e with key := k', val := v' }⟩ clock) ⟨_, rfl, g1.modify j hkx hv⟩
              refine ⟨_, _, f1, hR, ?_⟩
              have hky : (((⟨es'⟩ : Array MapEntry)[j]?).map (·.key)).getD k' = e2.key := by simp [f4]
              simp only [Instr.mapUpdate, Sem.run_bind, run_und hz.und, Result.andThen_ok, g2, hck, Instr.findKey, run_und hzk.und, f3, Sem.run_pure, hky, Instr.keyThatStays, f5, if_true]
              rw [run_setObj q1 hne]
              simp
          · cases hk
      · cases hk
    · cases hk
  · cases hk

/-! ### type assertions to a plain type -/
noncomputable def opAssert (ti : T TI) (a : AV) (asserted : Nat) (ok : Bool) (k : AV → Bool) : Bool :=
  match ti.get asserted with
  | some x => (match x.ud, a with
    | .iface, _ => false
    | _, .iface t v => bif Nat.beq t asserted then avK v fun v => k (bif ok then .tup [v, .bool true] else v) else (bif ok then avK (zeroAV x) fun z => k (.tup [z, .bool false]) else false)
    | _, .nili => (bif ok then avK (zeroAV x) fun z => k (.tup [z, .bool false]) else false)
    | _, _ => false)
  | none => false
theorem opAssert_ok {ti : T TI} (hti : TIOk P ti) {a : AV} {v : Value} (hv : VRel σ m a v) {xt asserted : Nat} {ok : Bool} {k : AV → Bool} (h : opAssert ti a asserted ok k = true) : OutP P σ m w (Instr.typeAssert v xt asserted ok) k := by
  unfold opAssert at h
  split at h
  · rename_i x hx
    obtain ⟨i, d, z, hz⟩ := hti _ _ hx
    have hd := hz.ud
    have hni : x.ud ≠ .iface → ∀ ms, d ≠ .interface ms := by
      intro hne ms e; subst e
      cases hu : x.ud <;> rw [hu] at hd hne <;> simp only [UDRel] at hd
      case strct => obtain ⟨_, h, _⟩ := hd; cases h
      case func => obtain ⟨_, _, _, h⟩ := hd; cases h
      case iface => exact hne rfl
      all_goals cases hd
    split at h
    · cases h
    · rename_i t v' hne
      have hni := hni (by intro e; exact hne e)
      cases hv with
      | iface _ _ u hu =>
        rw [nbeq] at h
        by_cases he : t = asserted
        · simp only [he, decide_true, cond_true, avK_eq] at h
          refine ⟨_, _, h, okV hu ok true, ?_⟩
          subst he
          cases d <;> first
            | exact absurd rfl (hni _)
            | simp only [Instr.typeAssert, Sem.run_bind, run_und hz.und, Result.andThen_ok, Sem.run_ite, if_true, Sem.run_pure]
        · simp only [he, decide_false, cond_false] at h
          cases ok with
          | false => cases h
          | true =>
            rw [cond_true, avK_eq] at h
            refine ⟨_, .tuple #[z, .bool false], h, .tup _ [z, .bool false] (.cons _ _ _ _ (zeroAV_ok hz σ m) (.cons _ _ _ _ (.bool false) .nil)), ?_⟩
            cases d <;> first
              | exact absurd rfl (hni _)
              | simp only [Instr.typeAssert, Sem.run_bind, run_und hz.und, Result.andThen_ok, Sem.run_ite, he, if_false, if_true, Sem.run_pure, run_zero hz.info hz.zero]
    · rename_i hne
      have hni := hni (by intro e; exact hne e)
      cases hv
      cases ok with
      | false => cases h
      | true =>
        rw [cond_true, avK_eq] at h
        refine ⟨_, .tuple #[z, .bool false], h, .tup _ [z, .bool false] (.cons _ _ _ _ (zeroAV_ok hz σ m) (.cons _ _ _ _ (.bool false) .nil)), ?_⟩
        cases d <;> first
          | exact absurd rfl (hni _)
          | simp only [Instr.typeAssert, Sem.run_bind, run_und hz.und, Result.andThen_ok, Sem.run_ite, if_true, Sem.run_pure, run_zero hz.info hz.zero]
    · cases h
  · cases h

/-! ### ranging over a map, over a string -/
noncomputable def opRange (ti : T TI) (t : Nat) (a : AV) (mem : T AB) (next : Nat) (k : AV → T AB → Nat → Bool) : Bool :=
  match ti.get t with
  | some ⟨.map _ _, _, _, _⟩ => (match a with
    | .nilm => mem.set next (.miter none 0 [] 0) fun mem => k (.ptr next 0) mem (Nat.succ next)
    | .map b => (match mem.get b with
      | some (.map _ clock) => mem.set next (.miter (some b) clock [] clock) fun mem => k (.ptr next 0) mem (Nat.succ next)
      | _ => false)
    | _ => false)
  | _ => false
theorem opRange_ok {ti : T TI} (hti : TIOk P ti) (h : Rel σ prot w0 m mem next w) {t : Nat} {a : AV} {v : Value} (hv : VRel σ m a v) {k : AV → T AB → Nat → Bool} (hk : opRange ti t a mem next k = true) : Out P σ prot w0 m next w (Instr.range t v) k := by
  unfold opRange at hk
  split at hk
  · rename_i kt e _ _ _ ht
    obtain ⟨_, d, z, hz⟩ := hti t _ ht
    have hd := hz.ud; simp only [UDRel] at hd; subst hd
    split at hk
    · cases hv
      rw [T.set_eq] at hk
      refine Out.new h _ 0 (.mapIter none 0 #[] 0) _ (.pointer (some ⟨w.heap.size, 0, none⟩)) ?_ hk ?_ ?_
      · intro m' _ _; exact ⟨none, rfl, rfl⟩
      · intro m' _ hm; exact .ptr _ _ _ _ hm
      · simp only [Instr.range, Sem.run_bind, run_und hz.und, Result.andThen_ok, Sem.run_pure, run_newObj, World.alloc_eq]
    · rename_i b
      cases hv with
      | map _ r c hm =>
      split at hk
      · rename_i es clock hb
        rw [T.set_eq] at hk
        obtain ⟨es', g1, g2⟩ := getObj_map (P := P) h hb hm
        refine Out.new h _ 0 (.mapIter (some r) clock #[] clock) _ (.pointer (some ⟨w.heap.size, 0, none⟩)) ?_ hk ?_ ?_
        · intro m' hle _; exact ⟨some r, rfl, r, c, rfl, hle _ _ hm⟩
        · intro m' _ hm; exact .ptr _ _ _ _ hm
        · simp only [Instr.range, Sem.run_bind, run_und hz.und, Result.andThen_ok, g2, Sem.run_pure, run_newObj, World.alloc_eq]
      · cases hk
    · cases hk
  · cases hk

/-- The next step over a map that is nil or without entries. -/
noncomputable def opNext (a : AV) (isString : Bool) (mem : T AB) (k : AV → Bool) : Bool :=
  match a, isString with
  | .ptr b 0, false => (match mem.get b with
    | some (.miter none _ _ _) => k (.tup [.bool false])
    | some (.miter (some mb) _ _ _) => (match mem.get mb with
      | some (.map [] _) => k (.tup [.bool false])
      | _ => false)
    | _ => false)
  | _, _ => false
theorem opNext_ok (h : Rel σ prot w0 m mem next w) {a : AV} {v : Value} (hv : VRel σ m a v) {s : Bool} {t : Nat} {k : AV → Bool} (hk : opNext a s mem k = true) : OutP P σ m w (Instr.next v s t) k := by
  unfold opNext at hk
  have hover : VRel σ m (.tup [.bool false]) (.tuple #[.bool false]) := .tup _ [.bool false] (.cons _ _ _ _ (.bool false) .nil)
  split at hk
  · rename_i b
    cases hv with
    | ptr _ _ r c hm =>
      split at hk
      · rename_i since seen stepped hb
        obtain ⟨mp', q1, q2⟩ := h.blk b _ r c hb hm
        subst q2
        refine ⟨_, _, hk, hover, ?_⟩
        have hg : (getObj r).run P w = .ok (.mapIter none since ⟨seen⟩ stepped) w := by simp [getObj, Sem.run, q1]
        simp only [Instr.next, Sem.run_bind, hg, Result.andThen_ok, Sem.run_pure]
      · rename_i mb since seen stepped hb
        obtain ⟨mp', q1, r2, c2, q2, q3⟩ := h.blk b _ r c hb hm
        subst q2
        split at hk
        · rename_i clock hmb
          obtain ⟨es', g1, g2⟩ := getObj_map (P := P) h hmb q3
          simp only [MRel] at g1; subst g1
          have g2 : (getObj r2).run P w = .ok (.map #[] clock) w := g2
          refine ⟨_, _, hk, hover, ?_⟩
          have hg : (getObj r).run P w = .ok (.mapIter (some r2) since ⟨seen⟩ stepped) w := by simp [getObj, Sem.run, q1]
          have hf : ∀ p : MapEntry → Bool, (#[] : Array MapEntry).filter p = #[] := fun p => rfl
          simp only [Instr.next, Sem.run_bind, hg, Result.andThen_ok, g2, hf]
          simp [Question.forced]
        · cases hk
      · cases hk
  · cases hk
end Go.Ev

/- One operation, whatever it is. -/
namespace Go.Ev

structure FI where
  ntm : Nat
  body : Code
  results : List ResultVar

abbrev Ext := List AV → T AB → Nat → (AV → T AB → Nat → Bool) → Bool

structure Env where
  ti : T TI
  fns : T FI
  G : Nat
  ext : T Ext
  con : T Ext

/-- What a body-less function's stand-in leaves. -/
def ExtOk (P : Program) (f : Nat) (x : Ext) : Prop :=
  ∀ (σ : Nat → Value) (prot : Nat → Prop) (w0 : World) (m : BM) (mem : T AB) (next : Nat) (w : World) (args : List AV) (args' : List Value) (k : AV → T AB → Nat → Bool),
    Rel σ prot w0 m mem next w → LRel σ m args args' → x args mem next k = true →
    ∃ a mem' next' m' w' v, k a mem' next' = true ∧ next ≤ next' ∧ BM.ext prot next m m' ∧ Rel σ prot w0 m' mem' next' w' ∧ VRel σ m' a v ∧ (callFunc f ⟨args'⟩).run P w = .ok (.value v) w'

structure FIOk (P : Program) (f : Nat) (x : FI) : Prop where
  ex : ∃ fn, P.funcs[f]? = some fn ∧ fn.body = some x.body ∧ fn.ntmps = x.ntm ∧ fn.results.toList = x.results ∧ (fn.name == "runtime.NumGoroutine") = false

structure EnvOk (P : Program) (E : Env) : Prop where
  ti : TIOk P E.ti
  fns : ∀ f x, E.fns.get f = some x → FIOk P f x
  ext : ∀ f x, E.ext.get f = some x → ExtOk P f x

inductive ANx where
  | val (a : AV)
  | skip
  | enter (f : Nat) (args : List AV)
  | round (l f n : Nat) (t : T AV) (assign body : Code)
  | dfr (d : AD)
  | recov
  | pnc (a : AV)

def NRes (σ : Nat → Value) (m : BM) : ANx → Result Next → World → Prop
  | .val a, r, w' => ∃ v, VRel σ m a v ∧ r = .ok (.value v) w'
  | .skip, r, w' => r = .ok .skip w'
  | .enter f args, r, w' => ∃ args', LRel σ m args args' ∧ r = .ok (.enter f ⟨args'⟩) w'
  | .round l _ n t assign body, r, w' => ∃ rl rf c tm, m l = some (rl, c) ∧ TRel σ m n t tm ∧ r = .ok (.round rl rf tm assign body) w'
  | .dfr d, r, w' => ∃ d', DRel σ m d d' ∧ r = .ok (.defer d') w'
  | .recov, r, w' => r = .ok .recover w'
  | .pnc a, r, w' => ∃ v, VRel σ m a v ∧ r = .halt (.panic v) w'

def OutX (P : Program) (σ : Nat → Value) (prot : Nat → Prop) (w0 : World) (m : BM) (next : Nat) (w : World) (s : Sem Next) (k : ANx → T AB → Nat → Bool) : Prop :=
  ∃ nx mem' next' m' w', k nx mem' next' = true ∧ next ≤ next' ∧ BM.ext prot next m m' ∧ Rel σ prot w0 m' mem' next' w' ∧ NRes σ m' nx (s.run P w) w'

variable {P : Program} {σ : Nat → Value} {prot : Nat → Prop} {w0 : World} {m : BM} {mem : T AB} {next : Nat} {w : World}

theorem Out.x {s : Sem Value} {k : ANx → T AB → Nat → Bool} (h : Out P σ prot w0 m next w s fun a => k (.val a)) : OutX P σ prot w0 m next w (do Pure.pure (Next.value (← s))) k := by
  obtain ⟨a, mem', next', m', w', v, h1, h2, h3, h4, h5, h6⟩ := h
  exact ⟨.val a, mem', next', m', w', h1, h2, h3, h4, v, h5, by simp [h6]⟩
theorem OutP.x (hR : Rel σ prot w0 m mem next w) {s : Sem Value} {k : ANx → T AB → Nat → Bool} (h : OutP P σ m w s fun a => k (.val a) mem next) : OutX P σ prot w0 m next w (do Pure.pure (Next.value (← s))) k := by
  obtain ⟨a, v, h1, h2, h3⟩ := h
  exact ⟨.val a, mem, next, m, w, h1, Nat.le_refl _, BM.ext_refl _ _ _, hR, v, h2, by simp [h3]⟩
theorem OutS.x {s : Sem Unit} {k : ANx → T AB → Nat → Bool} (h : OutS P σ prot w0 m next w s fun mem => k .skip mem next) : OutX P σ prot w0 m next w (do s; Pure.pure Next.skip) k := by
  obtain ⟨mem', w', h1, h2, h3⟩ := h
  exact ⟨.skip, mem', next, m, w', h1, Nat.le_refl _, BM.ext_refl _ _ _, h2, by simp [NRes, h3]⟩

/-! ### operands -/
def ofC : Value → AV
  | .int k n => .int k n
  | .bool b => .bool b
  | .string s => .str (s.data.toList.map UInt8.toNat)
  | .pointer none => .nilp
  | .slice none 0 0 => .nils
  | .map none => .nilm
  | .nilFunc => .nilf
  | .nilIface => .nili
  | .agg _ => .top
  | .tuple _ => .top
  | _ => .unk
theorem ofC_ok (v : Value) : VRel σ m (ofC v) v := by
  unfold ofC
  split <;> first
    | exact .int _ _
    | exact .bool _
    | exact .str _ _ rfl
    | exact .nilp
    | exact .nils
    | exact .nilm
    | exact .nilf
    | exact .nili
    | exact .top _
    | (refine .unk _ ?_; cases v <;> first | rfl | (rename_i h; exact (h _ rfl).elim) | (rename_i h _; exact (h _ rfl).elim))
def ofV : Value → AV
  | .agg cs => .agg (cs.toList.map ofC)
  | .tuple cs => .tup (cs.toList.map ofC)
  | .func (.func f) ⟨[]⟩ ⟨[]⟩ => .fn (.func f) [] []
  | v => ofC v
theorem ofL_ok (l : List Value) : LRel σ m (l.map ofC) l := by
  induction l with
  | nil => exact .nil
  | cons v l ih => exact .cons _ _ _ _ (ofC_ok v) ih
theorem ofV_ok (v : Value) : VRel σ m (ofV v) v := by
  unfold ofV
  split
  · exact .agg _ _ (ofL_ok _)
  · exact .tup _ _ (ofL_ok _)
  · exact .fn _ _ _ _ _ .nil .nil
  · exact ofC_ok v

noncomputable def aev (G : Nat) (t : T AV) : Operand → AV
  | .tmp i => tget t i
  | .const v => ofV v
  | .global g => bif Nat.blt g G then .ptr g 0 else .top
  | .func f => .fn (.func f) [] []

/-- The package-level variables are where they are. -/
def GOk (G : Nat) (m : BM) : Prop := ∀ g, g < G → ∃ c, m g = some (g, c)
theorem GOk.mono {G : Nat} {m m' : BM} (h : GOk G m) (hm : m.le m') : GOk G m' := fun g hg => let ⟨c, hc⟩ := h g hg; ⟨c, hm _ _ hc⟩

theorem TRel.get {n : Nat} {t : T AV} {tm : Array Value} (h : TRel σ m n t tm) (i : Nat) : VRel σ m (tget t i) (tm.getD i undef) := by
  by_cases hi : i < n
  · obtain ⟨v, hv, hr⟩ := h.2.1 i hi
    have : tm.getD i undef = v := by
      obtain ⟨h1, h2⟩ := Array.getElem?_eq_some_iff.1 hv
      simp [Array.getD, h1, h2]
    rw [this]; exact hr
  · have h1 : tm.getD i undef = undef := by
      have : ¬ i < tm.size := by rw [h.1]; exact hi
      simp [Array.getD, this]
    rw [h1]
    unfold tget
    rw [h.2.2 i (by omega)]
    exact .tup [] [] .nil

theorem aev_ok {G : Nat} (hG : GOk G m) {n : Nat} {t : T AV} {a : Act} (h : TRel σ m n t a.tmps) (x : Operand) : VRel σ m (aev G t x) (a.eval x) := by
  cases x with
  | tmp i => exact h.get i
  | const v => exact ofV_ok v
  | global g =>
    simp only [aev, Act.eval]
    cases hb : Nat.blt g G with
    | true =>
      rw [Nat.blt_eq] at hb
      obtain ⟨c, hc⟩ := hG g hb
      exact .ptr _ _ _ _ hc
    | false => exact .top _
  | func f => exact .fn _ _ _ _ _ .nil .nil

theorem TRel.set {n : Nat} {t : T AV} {tm : Array Value} (h : TRel σ m n t tm) {d : Nat} (hd : d < n) {a : AV} {v : Value} (hv : VRel σ m a v) : TRel σ m n (t.upd d a) (tm.setIfInBounds d v) := by
  refine ⟨by simpa using h.1, ?_, ?_⟩
  · intro i hi
    rw [tget_upd, Array.getElem?_setIfInBounds]
    by_cases e : i = d
    · subst e; rw [if_pos rfl, if_pos (by rw [h.1]; exact hi), if_pos rfl]; exact ⟨v, rfl, hv⟩
    · rw [if_neg e, if_neg (Ne.symm e)]; exact h.2.1 i hi
  · intro i hi
    rw [T.get_upd, if_neg (by omega)]; exact h.2.2 i hi

noncomputable def evArgs (ρ : Operand → AV) (l : List Operand) : (List AV → Bool) → Bool :=
  List.rec (motive := fun _ => (List AV → Bool) → Bool) (fun k => k []) (fun x _ ih k => avK (ρ x) fun a => ih fun l => k (a :: l)) l
theorem evArgs_eq (ρ : Operand → AV) (l : List Operand) : ∀ k, evArgs ρ l k = k (l.map ρ) := by
  induction l with
  | nil => intro k; rfl
  | cons x l ih => intro k; show avK (ρ x) (fun a => evArgs ρ l fun l => k (a :: l)) = _; rw [avK_eq, ih]; rfl
theorem args_rel {ρ : Operand → AV} {ρ' : Operand → Value} (h : ∀ x, VRel σ m (ρ x) (ρ' x)) (l : List Operand) : LRel σ m (l.map ρ) (l.map ρ') := by
  induction l with
  | nil => exact .nil
  | cons x l ih => exact .cons _ _ _ _ (h x) ih

noncomputable def evParts (ρ : Operand → AV) (l : List (Nat × Operand)) : (List (Nat × AV) → Bool) → Bool :=
  List.rec (motive := fun _ => (List (Nat × AV) → Bool) → Bool) (fun k => k []) (fun x _ ih k => avK (ρ x.2) fun a => ih fun l => k ((x.1, a) :: l)) l
theorem evParts_eq (ρ : Operand → AV) (l : List (Nat × Operand)) : ∀ k, evParts ρ l k = k (l.map fun x => (x.1, ρ x.2)) := by
  induction l with
  | nil => intro k; rfl
  | cons x l ih => intro k; show avK (ρ x.2) (fun a => evParts ρ l fun l => k ((x.1, a) :: l)) = _; rw [avK_eq, ih]; rfl
theorem parts_rel {ρ : Operand → AV} {ρ' : Operand → Value} (h : ∀ x, VRel σ m (ρ x) (ρ' x)) (l : List (Nat × Operand)) : PRel σ m (l.map fun x => (x.1, ρ x.2)) (l.map fun x => (x.1, ρ' x.2)) := by
  induction l with
  | nil => rfl
  | cons x l ih => exact ⟨_, _, rfl, h x.2, ih⟩

/-! ### a function is called -/
noncomputable def callA (E : Env) (f : Nat) (args : List AV) (mem : T AB) (next : Nat) (k : ANx → T AB → Nat → Bool) : Bool :=
  match E.ext.get f with
  | some x => x args mem next fun a => k (.val a)
  | none => (match E.fns.get f with
    | some _ => k (.enter f args) mem next
    | none => false)

theorem callA_ok {E : Env} (hE : EnvOk P E) (h : Rel σ prot w0 m mem next w) {f : Nat} {args : List AV} {args' : List Value} (ha : LRel σ m args args') {k : ANx → T AB → Nat → Bool} (hk : callA E f args mem next k = true) :
    OutX P σ prot w0 m next w (callFunc f ⟨args'⟩) k := by
  unfold callA at hk
  split at hk
  · rename_i x hx
    obtain ⟨a, mem', next', m', w', v, h1, h2, h3, h4, h5, h6⟩ := hE.ext f x hx σ prot w0 m mem next w args args' _ h ha hk
    exact ⟨.val a, mem', next', m', w', h1, h2, h3, h4, v, h5, h6⟩
  · split at hk
    · rename_i x hx
      obtain ⟨fn, f1, f2, f3, f4, f5⟩ := (hE.fns f x hx).ex
      refine ⟨.enter f args, mem, next, m, w, hk, Nat.le_refl _, BM.ext_refl _ _ _, h, args', ha, ?_⟩
      have f5' : ¬ fn.name = "runtime.NumGoroutine" := by simpa using f5
      simp [callFunc, f1, f2, f5']
    · cases hk

/-- The temporaries of a round: the parameters set. -/
noncomputable def setParams (n : Nat) (ps : List Nat) : List AV → T AV → (T AV → Bool) → Bool :=
  List.rec (motive := fun _ => List AV → T AV → (T AV → Bool) → Bool) (fun l t k => match l with | [] => k t | _ => false)
    (fun p _ ih l t k => match l with | a :: l => bif Nat.blt p n then t.set p a fun t => ih l t k else false | [] => false) ps
theorem setParams_ok {n : Nat} : ∀ {ps : List Nat} {l : List AV} {vs : List Value} {t : T AV} {tm : Array Value} {k : T AV → Bool}, TRel σ m n t tm → LRel σ m l vs → setParams n ps l t k = true →
    ps.length = vs.length ∧ ∃ t', k t' = true ∧ TRel σ m n t' ((ps.zip vs).foldl (fun tm (x : Nat × Value) => tm.setIfInBounds x.1 x.2) tm) := by
  intro ps
  induction ps with
  | nil =>
    intro l vs t tm k ht hl hk
    cases hl with
    | nil => exact ⟨rfl, t, hk, ht⟩
    | cons => exact absurd (show false = true from hk) (by decide)
  | cons p ps ih =>
    intro l vs t tm k ht hl hk
    cases hl with
    | nil => exact absurd (show false = true from hk) (by decide)
    | cons a v l vs hv hl =>
      change (bif Nat.blt p n then t.set p a fun t => setParams n ps l t k else false) = true at hk
      cases hb : Nat.blt p n with
      | false => rw [hb, cond_false] at hk; cases hk
      | true =>
        rw [hb, cond_true, T.set_eq] at hk
        rw [Nat.blt_eq] at hb
        obtain ⟨h1, t', h2, h3⟩ := ih (ht.set hb hv) hl hk
        exact ⟨by simp [h1], t', h2, by simpa using h3⟩

noncomputable def yieldA (l : Nat) (args : List AV) (mem : T AB) (next : Nat) (k : ANx → T AB → Nat → Bool) : Bool :=
  match mem.get l with
  | some (.loop _ _ fn n tmps params assign body _) => setParams n params.toList args tmps fun t => k (.round l fn n t assign body) mem next
  | _ => false
theorem yieldA_ok (h : Rel σ prot w0 m mem next w) {l r c : Nat} (hm : m l = some (r, c)) {args : List AV} {args' : List Value} (ha : LRel σ m args args') {k : ANx → T AB → Nat → Bool} (hk : yieldA l args mem next k = true) :
    OutX P σ prot w0 m next w (Instr.yield r ⟨args'⟩) k := by
  unfold yieldA at hk
  split at hk
  · rename_i st pend fn n tmps params assign body defers hb
    obtain ⟨fn', tm, rd, cd, q1, q2, q3⟩ := h.blk l _ r c hb hm
    obtain ⟨h1, t', h2, h3⟩ := setParams_ok q2 ha hk
    have hg : (Instr.getLoop r).run P w = .ok { state := st, pending := pend, fn := fn', tmps := tm, params := params, assign := assign, body := body, defers := rd } w := by
      have : (getObj r).run P w = .ok (.loop { state := st, pending := pend, fn := fn', tmps := tm, params := params, assign := assign, body := body, defers := rd }) w := by simp [getObj, Sem.run, q1]
      simp only [Instr.getLoop, Sem.run_bind, this, Result.andThen_ok, Sem.run_pure]
    have hsz : (⟨args'⟩ : Array Value).size = params.size := by
      have : args'.length = params.toList.length := h1.symm
      simpa using this
    have hz : (params.zip ⟨args'⟩).foldl (fun tmps (x : Nat × Value) => tmps.setIfInBounds x.1 x.2) tm = (params.toList.zip args').foldl (fun tm (x : Nat × Value) => tm.setIfInBounds x.1 x.2) tm := by
      rw [← Array.foldl_toList]; simp
    refine ⟨.round l fn n t' assign body, mem, next, m, w, h2, Nat.le_refl _, BM.ext_refl _ _ _, h, r, fn', c, _, hm, h3, ?_⟩
    simp only [Instr.yield, Sem.run_bind, hg, Result.andThen_ok, hsz, ne_eq, not_true_eq_false, if_false, Sem.run_pure]
    rw [← hz]
  · cases hk
end Go.Ev

/- One operation, whatever it is: the dispatcher. -/
namespace Go.Ev
variable {P : Program} {σ : Nat → Value} {prot : Nat → Prop} {w0 : World} {m : BM} {mem : T AB} {next : Nat} {w : World}

noncomputable def builtinA (E : Env) (b : Builtin) (ts : List Nat) (args : List AV) (mem : T AB) (next : Nat) (k : ANx → T AB → Nat → Bool) : Bool :=
  match b with
  | .len => (match ts, args with | [t], [a] => opLen E.ti t a mem fun v => k (.val v) mem next | _, _ => false)
  | .append => (match ts, args with | [st, xt], [s, x] => opAppend E.ti st xt s x mem next fun v => k (.val v) | _, _ => false)
  | .copy => (match ts, args with | [dt, _], [d, s] => opCopy E.ti dt d s mem next fun v => k (.val v) | _, _ => false)
  | .max => opMM true args fun v => k (.val v) mem next
  | .min => opMM false args fun v => k (.val v) mem next
  | .recover => k .recov mem next
  | _ => false

theorem LRel1 {a : AV} {vs : List Value} (h : LRel σ m [a] vs) : ∃ v, vs = [v] ∧ VRel σ m a v := by
  cases h with | cons _ v _ _ h t => cases t; exact ⟨v, rfl, h⟩
theorem LRel2 {a b : AV} {vs : List Value} (h : LRel σ m [a, b] vs) : ∃ v u, vs = [v, u] ∧ VRel σ m a v ∧ VRel σ m b u := by
  cases h with | cons _ v _ _ h t => obtain ⟨u, rfl, h2⟩ := LRel1 t; exact ⟨v, u, rfl, h, h2⟩

theorem builtinA_ok {E : Env} (hE : EnvOk P E) (h : Rel σ prot w0 m mem next w) {b : Builtin} {ts : List Nat} {args : List AV} {args' : List Value} (ha : LRel σ m args args') (ty : TypeId) (cs : Array Bool) {k : ANx → T AB → Nat → Bool} (hk : builtinA E b ts args mem next k = true) :
    OutX P σ prot w0 m next w (builtin b ⟨ts⟩ ty cs ⟨args'⟩) k := by
  unfold builtinA at hk
  cases b <;> simp only at hk
  case len =>
    split at hk
    · rename_i t a
      obtain ⟨v, rfl, hv⟩ := LRel1 ha
      exact OutP.x h (opLen_ok hE.ti h hv ty hk)
    · cases hk
  case append =>
    split at hk
    · rename_i st xt s x
      obtain ⟨v, u, rfl, hv, hu⟩ := LRel2 ha
      exact Out.x (opAppend_ok hE.ti h hv hu ty hk)
    · cases hk
  case copy =>
    split at hk
    · rename_i dt xt d s
      obtain ⟨v, u, rfl, hv, hu⟩ := LRel2 ha
      exact Out.x (opCopy_ok hE.ti h hv hu ty hk)
    · cases hk
  case max => exact OutP.x h (opMax_ok ha _ ty hk)
  case min => exact OutP.x h (opMin_ok ha _ ty hk)
  case recover => exact ⟨.recov, mem, next, m, w, hk, Nat.le_refl _, BM.ext_refl _ _ _, h, rfl⟩
  all_goals (cases hk)

noncomputable def callOp (E : Env) (ρ : Operand → AV) (c : Call) (mem : T AB) (next : Nat) (k : ANx → T AB → Nat → Bool) : Bool :=
  match c.callee with
  | .builtin b => evArgs ρ c.args.toList fun args => builtinA E b c.argTypes.toList args mem next k
  | .value f => (match ρ f with
    | .fn (.func g) first cap => evArgs ρ c.args.toList fun args => callA E g (first ++ args ++ cap) mem next k
    | .yld l => evArgs ρ c.args.toList fun args => yieldA l args mem next k
    | _ => false)
  | .invoke _ _ => false

theorem callOp_ok {E : Env} (hE : EnvOk P E) (h : Rel σ prot w0 m mem next w) {ρ : Operand → AV} {ρ' : Operand → Value} (hρ : ∀ x, VRel σ m (ρ x) (ρ' x)) {c : Call} (ty : TypeId) {k : ANx → T AB → Nat → Bool} (hk : callOp E ρ c mem next k = true) :
    OutX P σ prot w0 m next w (do let d ← resolve ρ' c ty; invoke d.target d.args) k := by
  have hargs : LRel σ m (c.args.toList.map ρ) (c.args.map ρ').toList := by rw [Array.toList_map]; exact args_rel hρ _
  unfold callOp at hk
  split at hk
  · rename_i b hb
    rw [evArgs_eq] at hk
    simp only [resolve, hb, pure_bind, invoke]
    exact builtinA_ok (args' := (c.args.map ρ').toList) hE h hargs ty _ hk
  · rename_i f hf
    have hfv := hρ f
    split at hk
    · rename_i g first cap hfe
      rw [evArgs_eq] at hk
      rw [hfe] at hfv
      generalize hfv' : ρ' f = fv at hfv
      cases hfv with
      | fn _ _ _ first' cap' h1 h2 =>
        have := callA_ok hE h ((h1.append hargs).append h2) hk
        have e : (do let d ← resolve ρ' c ty; invoke d.target d.args : Sem Next) = callFunc g ⟨first' ++ (c.args.map ρ').toList ++ cap'⟩ := by
          simp only [resolve, hf, Deferred.ofValue, hfv', pure_bind, invoke]
          congr 1
          apply Array.ext'; simp
        rw [e]; exact this
    · rename_i l hfe
      rw [evArgs_eq] at hk
      rw [hfe] at hfv
      generalize hfv' : ρ' f = fv at hfv
      cases hfv with
      | yld _ r c' hm =>
        have := yieldA_ok (P := P) h hm hargs hk
        have e : (do let d ← resolve ρ' c ty; invoke d.target d.args : Sem Next) = Instr.yield r ⟨(c.args.map ρ').toList⟩ := by
          simp only [resolve, hf, Deferred.ofValue, hfv', pure_bind, invoke]
          congr 1
          apply Array.ext'; simp
        rw [e]; exact this
    · cases hk
  · cases hk

noncomputable def deferOp (ρ : Operand → AV) (c : Call) (k : AD → Bool) : Bool :=
  match c.callee with
  | .value f => (match ρ f with
    | .fn (.func g) first cap => evArgs ρ c.args.toList fun args => k (.fnc (.func g) cap (first ++ args))
    | _ => false)
  | _ => false
theorem deferOp_ok {ρ : Operand → AV} {ρ' : Operand → Value} (hρ : ∀ x, VRel σ m (ρ x) (ρ' x)) {c : Call} (ty : TypeId) {k : AD → Bool} (hk : deferOp ρ c k = true) :
    ∃ d d', k d = true ∧ DRel σ m d d' ∧ (resolve ρ' c ty).run P w = .ok d' w := by
  have hargs : LRel σ m (c.args.toList.map ρ) (c.args.map ρ').toList := by rw [Array.toList_map]; exact args_rel hρ _
  unfold deferOp at hk
  split at hk
  · rename_i f hf
    have hfv := hρ f
    split at hk
    · rename_i g first cap hfe
      rw [evArgs_eq] at hk
      rw [hfe] at hfv
      generalize hfv' : ρ' f = fv at hfv
      cases hfv with
      | fn _ _ _ first' cap' h1 h2 =>
        refine ⟨_, { target := .fn (.func g) ⟨cap'⟩, args := ⟨first' ++ (c.args.map ρ').toList⟩ }, hk, ⟨cap', first' ++ (c.args.map ρ').toList, rfl, h2, h1.append hargs⟩, ?_⟩
        have e : (⟨first'⟩ ++ c.args.map ρ' : Array Value) = ⟨first' ++ (c.args.map ρ').toList⟩ := by apply Array.ext'; simp
        simp only [resolve, hf, Deferred.ofValue, hfv', Sem.run_pure, e]
    · cases hk
  · cases hk

noncomputable def oev (ρ : Operand → AV) (x : Option Operand) (k : Option AV → Bool) : Bool :=
  match x with
  | none => k none
  | some x => avK (ρ x) fun a => k (some a)
theorem oev_eq (ρ : Operand → AV) (x : Option Operand) (k : Option AV → Bool) : oev ρ x k = k (x.map ρ) := by cases x <;> simp [oev, avK_eq]
theorem orel {ρ : Operand → AV} {ρ' : Operand → Value} (h : ∀ x, VRel σ m (ρ x) (ρ' x)) (x : Option Operand) : ORel σ m (x.map ρ) (x.map ρ') := by
  cases x with | none => trivial | some x => exact h x

noncomputable def opA (E : Env) (ρ : Operand → AV) (o : Oper) (mem : T AB) (next : Nat) (k : ANx → T AB → Nat → Bool) : Bool :=
  match o.op with
  | .move x => avK (ρ x) fun a => k (.val a) mem next
  | .assign x => avK (ρ x) fun a => k (.val a) mem next
  | .pick c a b => (match ρ c with
    | .bool c => boolK c fun c => avK (bif c then ρ a else ρ b) fun a => k (.val a) mem next
    | _ => false)
  | .alloc e => opAlloc E.ti e mem next fun a => k (.val a)
  | .box e x => opBox e (ρ x) mem next fun a => k (.val a)
  | .build t ps => evParts ρ ps.toList fun ps => opBuild E.ti t ps fun a => k (.val a) mem next
  | .buildSlice t l ps => evParts ρ ps.toList fun ps => opBuildSlice E.ti t l ps mem next fun a => k (.val a)
  | .load t a => opLoad E.ti t (ρ a) mem next fun a => k (.val a)
  | .store t a x => opStore E.ti t (ρ a) (ρ x) mem fun mem => k .skip mem next
  | .nilCheck x => (match ρ x with
    | .ptr b off => k (.val (.ptr b off)) mem next
    | .fn (.func f) a b => k (.val (.fn (.func f) a b)) mem next
    | .yld l => k (.val (.yld l)) mem next
    | _ => false)
  | .binOp op t x y _ => opBin E.ti op t x y (ρ x) (ρ y) fun a => k (.val a) mem next
  | .unOp op _ x => opUn op (ρ x) fun a => k (.val a) mem next
  | .convert s d x => opConv E.ti s d (ρ x) mem next fun a => k (.val a)
  | .makeInterface t x => opIface E.ti t (ρ x) fun a => k (.val a) mem next
  | .makeFunc fn first cap => (match fn with
    | .func f => evArgs ρ first.toList fun first => evArgs ρ cap.toList fun cap => k (.val (.fn (.func f) first cap)) mem next
    | _ => false)
  | .makeMap _ none => opMakeMap mem next fun a => k (.val a)
  | .makeSlice t l c => opMakeSlice E.ti t (ρ l) (ρ c) mem next fun a => k (.val a)
  | .slice t x lo hi mx => oev ρ lo fun lo => oev ρ hi fun hi => oev ρ mx fun mx => opSlice E.ti t (ρ x) lo hi mx mem fun a => k (.val a) mem next
  | .fieldAddr t x f => opFieldAddr E.ti t (ρ x) f fun a => k (.val a) mem next
  | .field t x f => opField E.ti t (ρ x) f fun a => k (.val a) mem next
  | .indexAddr t x i => opIndexAddr E.ti t (ρ x) (ρ i) fun a => k (.val a) mem next
  | .index t x i => opIndex E.ti t (ρ x) (ρ i) fun a => k (.val a) mem next
  | .lookup t x i ok => opLookup E.ti t (ρ x) (ρ i) ok mem fun a => k (.val a) mem next
  | .mapUpdate t a b c => avK (ρ b) fun b => avK (ρ c) fun c => opMapUpdate E.ti t (ρ a) b c mem fun mem => k .skip mem next
  | .insert t a b c => avK (ρ b) fun b => avK (ρ c) fun c => opMapUpdate E.ti t (ρ a) b c mem fun mem => k .skip mem next
  | .range t x => opRange E.ti t (ρ x) mem next fun a => k (.val a)
  | .next it s => opNext (ρ it) s mem fun a => k (.val a) mem next
  | .typeAssert x _ t ok => opAssert E.ti (ρ x) t ok fun a => k (.val a) mem next
  | .extract t i => opExtract (ρ t) i fun a => k (.val a) mem next
  | .call c => callOp E ρ c mem next k
  | .defer c => deferOp ρ c fun d => k (.dfr d) mem next
  | .panic x => (match ρ x with
    | .iface t v => k (.pnc (.iface t v)) mem next
    | _ => false)
  | _ => false

theorem opA_ok {E : Env} (hE : EnvOk P E) (h : Rel σ prot w0 m mem next w) {ρ : Operand → AV} {ρ' : Operand → Value} (hρ : ∀ x, VRel σ m (ρ x) (ρ' x)) {o : Oper} {k : ANx → T AB → Nat → Bool} (hk : opA E ρ o mem next k = true) :
    OutX P σ prot w0 m next w (execOp ρ' o) k := by
  obtain ⟨dst, op, ty, pos, after, guard⟩ := o
  cases op <;> simp only [opA] at hk
  case move x =>
    rw [avK_eq] at hk
    exact ⟨.val _, mem, next, m, w, hk, Nat.le_refl _, BM.ext_refl _ _ _, h, _, hρ x, rfl⟩
  case assign x =>
    rw [avK_eq] at hk
    exact ⟨.val _, mem, next, m, w, hk, Nat.le_refl _, BM.ext_refl _ _ _, h, _, hρ x, rfl⟩
  case pick c a b =>
    have hc := hρ c
    split at hk
    · rename_i cb hce
      rw [hce] at hc
      rw [boolK_eq, avK_eq] at hk
      generalize hcv : ρ' c = cv at hc
      cases hc
      refine ⟨.val _, mem, next, m, w, hk, Nat.le_refl _, BM.ext_refl _ _ _, h, (if cb then ρ' a else ρ' b), ?_, ?_⟩
      · cases cb
        · exact hρ b
        · exact hρ a
      · simp [execOp, hcv, asBool]
    · cases hk
  case alloc e => exact Out.x (opAlloc_ok hE.ti h hk)
  case box e x => exact Out.x (opBox_ok h (hρ x) hk)
  case build t ps =>
    rw [evParts_eq] at hk
    have := opBuild_ok (w := w) hE.ti (parts_rel hρ ps.toList) hk
    have e : (⟨ps.toList.map fun x => (x.1, ρ' x.2)⟩ : Array (Nat × Value)) = ps.map fun (i, x) => (i, ρ' x) := by apply Array.ext'; simp
    rw [e] at this
    exact OutP.x h this
  case buildSlice t l ps =>
    rw [evParts_eq] at hk
    have := opBuildSlice_ok hE.ti h (parts_rel hρ ps.toList) hk
    have e : (⟨ps.toList.map fun x => (x.1, ρ' x.2)⟩ : Array (Nat × Value)) = ps.map fun (i, x) => (i, ρ' x) := by apply Array.ext'; simp
    rw [e] at this
    exact Out.x this
  case load t a => exact Out.x (opLoad_ok hE.ti h (hρ a) hk)
  case store t a x => exact OutS.x (opStore_ok hE.ti h (hρ a) (hρ x) hk)
  case nilCheck x =>
    have hx := hρ x
    split at hk
    · rename_i b off hxe
      rw [hxe] at hx
      generalize hxv : ρ' x = xv at hx
      cases hx with
      | ptr _ _ r c hm => exact ⟨.val _, mem, next, m, w, hk, Nat.le_refl _, BM.ext_refl _ _ _, h, _, .ptr _ _ _ _ hm, by simp [execOp, hxv]⟩
    · rename_i f a b hxe
      rw [hxe] at hx
      generalize hxv : ρ' x = xv at hx
      cases hx with
      | fn _ _ _ a' b' h1 h2 => exact ⟨.val _, mem, next, m, w, hk, Nat.le_refl _, BM.ext_refl _ _ _, h, _, .fn _ _ _ _ _ h1 h2, by simp [execOp, hxv]⟩
    · rename_i l hxe
      rw [hxe] at hx
      generalize hxv : ρ' x = xv at hx
      cases hx with
      | yld _ r c hm => exact ⟨.val _, mem, next, m, w, hk, Nat.le_refl _, BM.ext_refl _ _ _, h, _, .yld _ _ _ hm, by simp [execOp, hxv]⟩
    · cases hk
  case binOp op t x y yt => exact OutP.x h (opBin_ok hE.ti (hρ x) (hρ y) hk)
  case unOp op t x => exact OutP.x h (opUn_ok (hρ x) hk)
  case convert s d x => exact Out.x (opConv_ok hE.ti h (hρ x) hk)
  case makeInterface t x => exact OutP.x h (opIface_ok hE.ti (hρ x) hk)
  case makeFunc fn first cap =>
    split at hk
    · rename_i f
      simp only [evArgs_eq] at hk
      refine ⟨.val _, mem, next, m, w, hk, Nat.le_refl _, BM.ext_refl _ _ _, h, _, .fn (.func f) _ _ _ _ (args_rel hρ first.toList) (args_rel hρ cap.toList), ?_⟩
      have e1 : (⟨first.toList.map ρ'⟩ : Array Value) = first.map ρ' := by apply Array.ext'; simp
      have e2 : (⟨cap.toList.map ρ'⟩ : Array Value) = cap.map ρ' := by apply Array.ext'; simp
      rw [e1, e2]
      rfl
    · cases hk
  case makeMap t r =>
    cases r with
    | none => exact Out.x (opMakeMap_ok h hk)
    | some r => cases hk
  case makeSlice t l c => exact Out.x (opMakeSlice_ok hE.ti h (hρ l) (hρ c) hk)
  case slice t x lo hi mx =>
    simp only [oev_eq] at hk
    exact OutP.x h (opSlice_ok hE.ti h (hρ x) (orel hρ lo) (orel hρ hi) (orel hρ mx) hk)
  case fieldAddr t x f => exact OutP.x h (opFieldAddr_ok hE.ti (hρ x) hk)
  case field t x f => exact OutP.x h (opField_ok hE.ti (hρ x) hk)
  case indexAddr t x i => exact OutP.x h (opIndexAddr_ok hE.ti (hρ x) (hρ i) hk)
  case index t x i => exact OutP.x h (opIndex_ok hE.ti (hρ x) (hρ i) hk)
  case lookup t x i ok => exact OutP.x h (opLookup_ok hE.ti h (hρ x) (hρ i) hk)
  case mapUpdate t a b c => simp only [avK_eq] at hk; exact OutS.x (opMapUpdate_ok hE.ti h (hρ a) (hρ b) (hρ c) hk)
  case insert t a b c => simp only [avK_eq] at hk; exact OutS.x (opMapUpdate_ok hE.ti h (hρ a) (hρ b) (hρ c) hk)
  case range t x => exact Out.x (opRange_ok hE.ti h (hρ x) hk)
  case next it s => exact OutP.x h (opNext_ok h (hρ it) hk)
  case typeAssert x xt t ok => exact OutP.x h (opAssert_ok hE.ti (hρ x) hk)
  case extract t i => exact OutP.x h (opExtract_ok (hρ t) hk)
  case call c => exact callOp_ok hE h hρ ty hk
  case defer c =>
    obtain ⟨d, d', h1, h2, h3⟩ := deferOp_ok (P := P) (w := w) hρ ty hk
    exact ⟨.dfr d, mem, next, m, w, h1, Nat.le_refl _, BM.ext_refl _ _ _, h, d', h2, by simp [execOp, h3]⟩
  case panic x =>
    have hx := hρ x
    split at hk
    · rename_i t v hxe
      rw [hxe] at hx
      generalize hxv : ρ' x = xv at hx
      cases hx with
      | iface _ _ v' hv => exact ⟨.pnc _, mem, next, m, w, hk, Nat.le_refl _, BM.ext_refl _ _ _, h, _, .iface _ _ _ hv, by simp [execOp, hxv, Instr.panic]⟩
    · cases hk
  all_goals (cases hk)
end Go.Ev

