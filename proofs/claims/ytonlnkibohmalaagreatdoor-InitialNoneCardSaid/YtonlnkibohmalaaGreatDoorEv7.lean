/- A part of the evaluator that the proof of InitialNone leans on: definitions and their soundness over the kit's laws; no condition. -/
import Derived.Test.YtonlnkibohmalaaGreatDoorEv6
set_option linter.unusedVariables false
set_option linter.unusedSimpArgs false
/- The evaluator of code: definitions. -/
namespace Go.Ev

/-! ### equality of abstract values (of the plain ones) -/
mutual
def avEq : AV → AV → Bool
  | .int k n, .int k' n' => decide (k = k') && decide (n = n')
  | .bool b, .bool b' => b == b'
  | .str l, .str l' => l == l'
  | .ptr b o, .ptr b' o' => Nat.beq b b' && Nat.beq o o'
  | .nilp, .nilp => true
  | .slice b o l c, .slice b' o' l' c' => Nat.beq b b' && Nat.beq o o' && Nat.beq l l' && Nat.beq c c'
  | .sliceU b o l c, .sliceU b' o' l' c' => Nat.beq b b' && Nat.beq o o' && Nat.beq l l' && Nat.beq c c'
  | .nils, .nils => true
  | .emp, .emp => true
  | .map b, .map b' => Nat.beq b b'
  | .nilm, .nilm => true
  | .nilf, .nilf => true
  | .nili, .nili => true
  | .unk, .unk => true
  | .top, .top => true
  | .yld l, .yld l' => Nat.beq l l'
  | .sym l, .sym l' => Nat.beq l l'
  | .fn (.func f) a c, .fn (.func f') a' c' => Nat.beq f f' && avEqL a a' && avEqL c c'
  | .iface t v, .iface t' v' => Nat.beq t t' && avEq v v'
  | .agg l, .agg l' => avEqL l l'
  | .tup l, .tup l' => avEqL l l'
  | .intB k a b, .intB k' a' b' => decide (k = k') && decide (a = a') && decide (b = b')
  | _, _ => false
def avEqL : List AV → List AV → Bool
  | [], [] => true
  | a :: l, a' :: l' => avEq a a' && avEqL l l'
  | _, _ => false
end

/-! ### a region whose order is drawn -/
inductive DK where
  | skip
  | val (a : AV) (b : Option AB)
  | read (a : AV)
  | heavy (a : AV)
structure DI where
  idx : Nat
  o : Oper
  rs : List Nat
  mask : Nat
  t : T AV
  kd : DK
structure DSt where
  h : Nat
  hm : Nat
  mem : T AB
  next : Nat

def isRead (ρ : Operand → AV) (o : Oper) : Bool :=
  match o.op with
  | .load _ _ => true
  | .lookup _ _ _ _ => true
  | .slice _ _ _ _ _ => true
  | .convert _ _ x => (match ρ x with
    | .slice _ _ _ _ => true
    | .sliceU _ _ _ _ => true
    | .nils => true
    | _ => false)
  | .call c => (match c.callee with | .builtin .len => true | _ => false)
  | _ => false
def isLight (o : Oper) : Bool :=
  match o.op with
  | .move _ | .assign _ | .pick _ _ _ | .alloc _ | .box _ _ | .build _ _ | .buildSlice _ _ _ | .nilCheck _ | .binOp _ _ _ _ _ | .unOp _ _ _ | .convert _ _ _
  | .makeInterface _ _ | .makeFunc _ _ _ | .makeMap _ _ | .makeSlice _ _ _ | .fieldAddr _ _ _ | .field _ _ _ | .indexAddr _ _ _ | .index _ _ _ | .typeAssert _ _ _ _ | .extract _ _ => true
  | .call c => (match c.callee with | .builtin .max => true | .builtin .min => true | _ => false)
  | _ => false

noncomputable def maskK (es : List Edge) (mks : T Nat) : Nat → (Nat → Bool) → Bool :=
  List.rec (motive := fun _ => Nat → (Nat → Bool) → Bool) (fun acc k => k acc)
    (fun e _ ih acc k => bif Region.binds .any e then (match mks.get e.on with
      | some c => natK (Nat.lor acc c) fun acc => ih acc k
      | none => false) else ih acc k) es

noncomputable def memR (x : Nat) (l : List Nat) : Bool := List.rec false (fun y _ ih => Bool.rec ih true (Nat.beq x y)) l
noncomputable def pairOk (dst : Option Nat) (rs : List Nat) (mask : Nat) (d : DI) : Bool :=
  (match dst with
   | none => true
   | some x => (match d.o.dst with
     | some y => bif Nat.beq x y then false else bif memR x d.rs then tb mask d.idx else true
     | none => bif memR x d.rs then tb mask d.idx else true)) &&
  (match d.o.dst with
   | none => true
   | some y => bif memR y rs then tb mask d.idx else true)

noncomputable def addL (p : DI → Bool) (base : Nat) (is : List DI) : T AB → (T AB → Bool) → Bool :=
  List.rec (motive := fun _ => T AB → (T AB → Bool) → Bool) (fun mem k => k mem)
    (fun d _ ih mem k => match d.kd with
      | .val _ (some B) => bif p d then natK (Nat.add base d.idx) fun i => mem.set i B fun mem => ih mem k else ih mem k
      | _ => ih mem k) is

noncomputable def rdS (E : Env) (ρ : Operand → AV) (o : Oper) (is : List DI) (base mask : Nat) (a : AV) (sts : List DSt) : Bool → Bool :=
  List.rec (motive := fun _ => Bool → Bool) (fun _ => false)
    (fun s _ ih k => addL (fun d => !tb s.hm d.idx) base is s.mem fun M => readA E ρ o M fun a' => bif avEq a' a then (bif sub s.hm mask then k else ih k) else false) sts

def openRead (mask : Nat) (d : DI) : Bool := match d.kd with | .read _ => !tb mask d.idx | _ => false
noncomputable def anyR {α : Type} (p : α → Bool) (l : List α) : Bool := List.rec false (fun x _ ih => Bool.rec ih true (p x)) l
noncomputable def reread (E : Env) (is : List DI) (base mask hm : Nat) (mem : T AB) (k : Bool) : Bool :=
  bif anyR (openRead mask) is then
    addL (fun d => !tb hm d.idx) base is mem fun M =>
      bif allR (fun d => match d.kd with
        | .read a => bif tb mask d.idx then true else readA E (aev E.G d.t) d.o M fun a' => avEq a' a
        | _ => true) is then k else false
  else k
def isFree (x : Option AB) : Bool := match x with | none => true | some _ => false
noncomputable def pendFree (base mask : Nat) (mem : T AB) (d : DI) : Bool :=
  match d.kd with
  | .val _ _ => tb mask d.idx || isFree (mem.get (Nat.add base d.idx))
  | _ => true

noncomputable def drawL (E : Env) (hv : HV) (n base : Nat) (ops : Array Oper) (l : List Oper) : Nat → List DI → T Nat → T AV → List DSt → (T AV → List DI → List DSt → Bool) → Bool :=
  List.rec (motive := fun _ => Nat → List DI → T Nat → T AV → List DSt → (T AV → List DI → List DSt → Bool) → Bool)
    (fun _ is _ t sts k => k t is sts)
    (fun o _ ih i is mks t sts k =>
      maskK o.after.toList mks 0 fun mask =>
      natK (Nat.add base i) fun id =>
      natK (Nat.succ i) fun i' =>
      (fun rs => bif allR (pairOk o.dst rs mask) is && (match o.guard with | none => true | some (j, _) => tb mask j) then
        natK (Nat.lor mask (Nat.pow 2 i)) fun cm => mks.set i cm fun mks =>
        guardA ops.toList t o.guard fun wanted =>
          bif wanted then
            (bif isRead (aev E.G t) o then
              (match sts with
               | s :: _ => addL (fun d => !tb s.hm d.idx) base is s.mem fun M => readA E (aev E.G t) o M fun a => rdS E (aev E.G t) o is base mask a sts (putT n t o.dst a fun t' => ih i' (⟨i, o, rs, mask, t, .read a⟩ :: is) mks t' sts k)
               | [] => false)
             else bif isLight o then
              lightA E (aev E.G t) o .e id fun a m' _ => bif allR (fun s => isFree (s.mem.get id)) sts then
                putT n t o.dst a fun t' => ih i' (⟨i, o, rs, mask, t, .val a (m'.get id)⟩ :: is) mks t' sts k else false
             else (match sts with
              | s :: _ => bif sub s.hm mask then
                  addL (fun d => tb mask d.idx && !tb s.hm d.idx) base is s.mem fun M =>
                  hv (aev E.G t) o M s.next fun hx m' nx => (match hx with
                    | .val a => bif allR (pendFree base mask m') is then
                        reread E is base mask cm m' (putT n t o.dst a fun t' => ih i' (⟨i, o, rs, mask, t, .heavy a⟩ :: is) mks t' (⟨i, cm, m', nx⟩ :: sts) k)
                        else false
                    | _ => false)
                 else false
              | [] => false))
          else putT n t o.dst (.tup []) fun t' => ih i' (⟨i, o, rs, mask, t, .skip⟩ :: is) mks t' sts k
       else false) (o.looksAt ops)) l

abbrev XK := AX → T AV → List AD → T AB → Nat → Bool
abbrev CK := AE → T AB → Nat → Bool

noncomputable def drawX (E : Env) (hv : HV) (n : Nat) (ops : Array Oper) (t : T AV) (mem : T AB) (next : Nat) (k : T AV → T AB → Nat → Bool) : Bool :=
  natK (Nat.add next ops.toList.length) fun nx =>
  drawL E hv n next ops ops.toList 0 [] .e t [⟨ops.size, 0, mem, nx⟩] fun t is sts => (match sts with
    | s :: _ => addL (fun d => !tb s.hm d.idx) next is s.mem fun M => k t M s.next
    | [] => false)

/-! The same, the static part (edges, destinations, what is looked at) apart: a closed term of the region alone, so the kernel does it once. -/
noncomputable def maskO (es : List Edge) (mks : T Nat) : Nat → Option Nat :=
  List.rec (motive := fun _ => Nat → Option Nat) (fun acc => some acc)
    (fun e _ ih acc => bif Region.binds .any e then (match mks.get e.on with
      | some c => natK (Nat.lor acc c) fun acc => ih acc
      | none => none) else ih acc) es
def gdOk (o : Oper) (mask : Nat) : Bool := match o.guard with | none => true | some (j, _) => tb mask j
noncomputable def statL (ops : Array Oper) (l : List Oper) : Nat → List DI → T Nat → Option (List Nat) :=
  List.rec (motive := fun _ => Nat → List DI → T Nat → Option (List Nat)) (fun _ _ _ => some [])
    (fun o _ ih i is mks => match maskO o.after.toList mks 0 with
      | none => none
      | some mask => (fun rs => bif allR (pairOk o.dst rs mask) is && gdOk o mask then
          natK (Nat.lor mask (Nat.pow 2 i)) fun cm => mks.set i cm fun mks => natK (Nat.succ i) fun i' =>
            (match ih i' (⟨i, o, rs, mask, .e, .skip⟩ :: is) mks with
              | some ms => some (mask :: ms)
              | none => none)
          else none) (o.looksAt ops)) l
noncomputable def statX (ops : Array Oper) : Option (List Nat) := statL ops ops.toList 0 [] .e

noncomputable def drawD (E : Env) (hv : HV) (n base : Nat) (ops : Array Oper) (l : List Oper) : Nat → List DI → T AV → List DSt → List Nat → (T AV → List DI → List DSt → Bool) → Bool :=
  List.rec (motive := fun _ => Nat → List DI → T AV → List DSt → List Nat → (T AV → List DI → List DSt → Bool) → Bool)
    (fun _ is t sts _ k => k t is sts)
    (fun o _ ih i is t sts ms k => match ms with
      | [] => false
      | mask :: ms =>
        natK (Nat.add base i) fun id =>
        natK (Nat.succ i) fun i' =>
        guardA ops.toList t o.guard fun wanted =>
          bif wanted then
            (bif isRead (aev E.G t) o then
              (match sts with
               | s :: _ => addL (fun d => !tb s.hm d.idx) base is s.mem fun M => readA E (aev E.G t) o M fun a => rdS E (aev E.G t) o is base mask a sts (putT n t o.dst a fun t' => ih i' (⟨i, o, o.looksAt ops, mask, t, .read a⟩ :: is) t' sts ms k)
               | [] => false)
             else bif isLight o then
              lightA E (aev E.G t) o .e id fun a m' _ => bif allR (fun s => isFree (s.mem.get id)) sts then
                putT n t o.dst a fun t' => ih i' (⟨i, o, o.looksAt ops, mask, t, .val a (m'.get id)⟩ :: is) t' sts ms k else false
             else (match sts with
              | s :: _ => bif sub s.hm mask then
                  addL (fun d => tb mask d.idx && !tb s.hm d.idx) base is s.mem fun M =>
                  natK (Nat.lor mask (Nat.pow 2 i)) fun cm =>
                  hv (aev E.G t) o M s.next fun hx m' nx => (match hx with
                    | .val a => bif allR (pendFree base mask m') is then
                        reread E is base mask cm m' (putT n t o.dst a fun t' => ih i' (⟨i, o, o.looksAt ops, mask, t, .heavy a⟩ :: is) t' (⟨i, cm, m', nx⟩ :: sts) ms k)
                        else false
                    | _ => false)
                 else false
              | [] => false))
          else putT n t o.dst (.tup []) fun t' => ih i' (⟨i, o, o.looksAt ops, mask, t, .skip⟩ :: is) t' sts ms k) l
noncomputable def drawF (E : Env) (hv : HV) (n : Nat) (ops : Array Oper) (t : T AV) (mem : T AB) (next : Nat) (k : T AV → T AB → Nat → Bool) : Bool :=
  match statX ops with
  | none => false
  | some ms => natK (Nat.add next ops.toList.length) fun nx =>
    drawD E hv n next ops ops.toList 0 [] t [⟨ops.size, 0, mem, nx⟩] ms fun t is sts => (match sts with
      | s :: _ => addL (fun d => !tb s.hm d.idx) next is s.mem fun M => k t M s.next
      | [] => false)

/-! ### code -/
inductive MD where
  | run
  | ret
  | pan (c : List PE)

structure M where
  exec : Nat → Option Nat → Code → T AV → List AD → T AB → Nat → XK → Bool
  call : Nat → List AV → T AB → Nat → CK → Bool
  round : Nat → Nat → T AV → Code → Code → T AB → Nat → CK → Bool
  leave : List ResultVar → T AV → List AD → MD → T AB → Nat → CK → Bool
  callD : Nat → List AV → MD → T AB → Nat → (AE → MD → T AB → Nat → Bool) → Bool
  execD : Nat → Code → T AV → MD → T AB → Nat → (AX → T AV → MD → T AB → Nat → Bool) → Bool

noncomputable def heavyX (E : Env) (ih : M) (rnd : Option Nat) : HV := fun ρ o mem next k =>
  opA E ρ o mem next fun nx mem next => match nx with
    | .val a => k (.val a) mem next
    | .skip => k (.val (.tup [])) mem next
    | .enter f args => ih.call f args mem next fun e mem next => (match e with
      | .ret a => k (.val a) mem next
      | .pnc c => k (.pnc c) mem next)
    | .round l _ n t assign body => ih.round l n t assign body mem next fun e mem next => (match e with
      | .ret a => k (.val a) mem next
      | .pnc c => k (.pnc c) mem next)
    | .dfr d => (match rnd with
      | none => k (.dfr d) mem next
      | some _ => false)
    | .recov => false
    | .pnc a => k (.pnc [⟨a, false⟩]) mem next

noncomputable def opsX (E : Env) (hv : HV) (n : Nat) (ops : List Oper) (l : List Oper) : T AV → List AD → T AB → Nat → XK → Bool :=
  List.rec (motive := fun _ => T AV → List AD → T AB → Nat → XK → Bool) (fun t ds mem next k => k .nrm t ds mem next)
    (fun o _ ih t ds mem next k => guardA ops t o.guard fun wanted =>
      bif wanted then hv (aev E.G t) o mem next fun h mem next => (match h with
        | .val a => putT n t o.dst a fun t => ih t ds mem next k
        | .pnc c => k (.pnc c) t ds mem next
        | .dfr d => putT n t o.dst (.tup []) fun t => ih t (d :: ds) mem next k)
      else putT n t o.dst (.tup []) fun t => ih t ds mem next k) l

def settleA : MD → MD
  | .pan (⟨_, true⟩ :: _) => .ret
  | m => m
def raisedA (m : MD) (c : List PE) : MD :=
  match m with
  | .pan old => .pan (c ++ old)
  | _ => .pan c

/-- An activation's first temporaries. -/
noncomputable def mkTK (n : Nat) (l : List AV) : Nat → T AV → (T AV → Bool) → Bool :=
  List.rec (motive := fun _ => Nat → T AV → (T AV → Bool) → Bool) (fun _ t k => k t)
    (fun a _ ih i t k => bif Nat.blt i n then t.set i a fun t => natK (Nat.succ i) fun i => ih i t k else false) l
/-- The cells past the arguments hold 'undef'. -/
noncomputable def resK (E : Env) (t : T AV) (mem : T AB) (l : List ResultVar) : (List AV → Bool) → Bool :=
  List.rec (motive := fun _ => (List AV → Bool) → Bool) (fun k => k [])
    (fun r _ ih k => match r with
      | .tmp x => avK (tget t x) fun a => ih fun l => k (a :: l)
      | .cell x ty => loadP E.ti ty (tget t x) mem fun a => ih fun l => k (a :: l)) l
noncomputable def resA (E : Env) (t : T AV) (mem : T AB) (l : List ResultVar) (k : AV → Bool) : Bool :=
  resK E t mem l fun l => match l with
    | [a] => k a
    | l => k (.tup l)

/-- The operations of a region that asks for the panic that the frame below is in. -/
noncomputable def opsD (E : Env) (n : Nat) (ops : List Oper) (l : List Oper) : T AV → MD → T AB → Nat → (AX → T AV → MD → T AB → Nat → Bool) → Bool :=
  List.rec (motive := fun _ => T AV → MD → T AB → Nat → (AX → T AV → MD → T AB → Nat → Bool) → Bool) (fun t md mem next k => k .nrm t md mem next)
    (fun o _ ih t md mem next k => guardA ops t o.guard fun wanted =>
      bif wanted then opA E (aev E.G t) o mem next fun nx mem next => (match nx with
        | .val a => putT n t o.dst a fun t => ih t md mem next k
        | .skip => putT n t o.dst (.tup []) fun t => ih t md mem next k
        | .recov => (match md with
          | .pan (⟨v, false⟩ :: older) => putT n t o.dst v fun t => ih t (.pan (⟨v, true⟩ :: older)) mem next k
          | _ => putT n t o.dst .nili fun t => ih t md mem next k)
        | _ => false)
      else putT n t o.dst (.tup []) fun t => ih t md mem next k) l
def asksRecover (o : Oper) : Bool :=
  match o.op with
  | .call c => (match c.callee with | .builtin .recover => true | _ => false)
  | _ => false

noncomputable def endRoundA (l : Nat) (jump : Option Code) (mem : T AB) (k : T AB → Bool) : Bool :=
  match mem.get l with
  | some (.loop _ _ fn n tmps params assign body defers) => mem.set l (.loop (match jump with | none => .ready | some _ => .done) jump fn n tmps params assign body defers) k
  | _ => false

noncomputable def stepM (E : Env) (ih : M) : M where
  exec n rnd c t ds mem next k :=
    match c with
    | .skip => k .nrm t ds mem next
    | .label _ => k .nrm t ds mem next
    | .seq a b => ih.exec n rnd a t ds mem next fun x t ds mem next => (match x with
      | .nrm => ih.exec n rnd b t ds mem next k
      | .exit i => k (.exit i) t ds mem next
      | .goto i => k (.goto i) t ds mem next
      | .ret => k .ret t ds mem next
      | .pnc c => k (.pnc c) t ds mem next)
    | .cond c a b => (match aev E.G t c with
      | .bool x => bif x then ih.exec n rnd a t ds mem next k else ih.exec n rnd b t ds mem next k
      | _ => false)
    | .block id b => ih.exec n rnd b t ds mem next fun x t ds mem next => (match x with
      | .exit i => bif Nat.beq i id then k .nrm t ds mem next else k (.exit i) t ds mem next
      | .nrm => k .nrm t ds mem next
      | .goto i => k (.goto i) t ds mem next
      | .ret => k .ret t ds mem next
      | .pnc c => k (.pnc c) t ds mem next)
    | .loop b => ih.exec n rnd b t ds mem next fun x t ds mem next => (match x with
      | .nrm => ih.exec n rnd (.loop b) t ds mem next k
      | .exit i => k (.exit i) t ds mem next
      | .goto i => k (.goto i) t ds mem next
      | .ret => k .ret t ds mem next
      | .pnc c => k (.pnc c) t ds mem next)
    | .scope b => ih.exec n rnd b t ds mem next fun x t ds mem next => (match x with
      | .goto _ => false
      | .exit i => k (.exit i) t ds mem next
      | .nrm => k .nrm t ds mem next
      | .ret => k .ret t ds mem next
      | .pnc c => k (.pnc c) t ds mem next)
    | .exit id => k (.exit id) t ds mem next
    | .goto l => k (.goto l) t ds mem next
    | .ret => k .ret t ds mem next
    | .refuse _ => false
    | .region _ ops draw => bif draw then drawF E (heavyX E ih rnd) n ops t mem next fun t mem next => k .nrm t ds mem next
        else opsX E (heavyX E ih rnd) n ops.toList ops.toList t ds mem next k
    | .rangeFunc g ps assign body =>
      (match aev E.G t g with
       | .fn (.func f) first cap =>
         (fun go => match rnd with
          | none => mem.set next (.dfr (some [])) fun mem => natK (Nat.succ next) fun l => go next l (AD.coll next :: ds) mem
          | some r => (match mem.get r with
            | some (.loop _ _ _ _ _ _ _ _ d) => go d next ds mem
            | _ => false))
         (fun d l ds mem => mem.set l (.loop .ready none 0 n t ps assign body d) fun mem => natK (Nat.succ l) fun next =>
          ih.call f (first ++ [.yld l] ++ cap) mem next fun e mem next => (match e with
            | .ret _ => (match mem.get l with
              | some (.loop st pend fn n' tmps params as bd df) => (match st with
                | .busy => false
                | _ => mem.set l (.loop .exhausted pend fn n' tmps params as bd df) fun mem => (match pend with
                  | none => k .nrm t ds mem next
                  | some c => ih.exec n rnd c t ds mem next k))
              | _ => false)
            | .pnc c => k (.pnc c) t ds mem next))
       | _ => false)
  call f args mem next k :=
    match E.con.get f with
    | some x => x args mem next fun a => k (.ret a)
    | none => (match E.fns.get f with
      | some fi => mkTK fi.ntm args 0 .e fun t => ih.exec fi.ntm none fi.body t [] mem next fun x t ds mem next => (match x with
        | .nrm => ih.leave fi.results t ds .ret mem next k
        | .ret => ih.leave fi.results t ds .ret mem next k
        | .pnc c => ih.leave fi.results t ds (.pan c) mem next k
        | _ => false)
      | none => false)
  round l n t assign body mem next k :=
    ih.exec n (some l) assign t [] mem next fun x t ds mem next => match x with
      | .nrm => (match mem.get l with
        | some (.loop .ready pend fn n' tmps params as bd df) => mem.set l (.loop .busy pend fn n' tmps params as bd df) fun mem =>
          ih.exec n (some l) body t ds mem next fun x _ _ mem next => (match x with
            | .nrm => endRoundA l none mem fun mem => k (.ret (.bool true)) mem next
            | .ret => endRoundA l (some .ret) mem fun mem => k (.ret (.bool false)) mem next
            | .exit i => endRoundA l (some (.exit i)) mem fun mem => k (.ret (.bool false)) mem next
            | .goto i => endRoundA l (some (.goto i)) mem fun mem => k (.ret (.bool false)) mem next
            | .pnc _ => false)
        | _ => false)
      | _ => false
  leave rs t ds md mem next k :=
    match ds with
    | [] => (match md with
      | .ret => resA E t mem rs fun a => k (.ret a) mem next
      | .pan c => k (.pnc c) mem next
      | .run => false)
    | .coll b :: ds => (match mem.get b with
      | some (.dfr (some [])) => mem.set b (.dfr none) fun mem => ih.leave rs t ds md mem next k
      | _ => false)
    | .fnc (.func g) cap args :: ds => ih.callD g (args ++ cap) md mem next fun e md mem next => (match e with
      | .ret _ => ih.leave rs t ds (settleA md) mem next k
      | .pnc c => ih.leave rs t ds (raisedA md c) mem next k)
    | _ => false
  callD f args md mem next k :=
    match E.fns.get f with
    | some fi => mkTK fi.ntm args 0 .e fun t => ih.execD fi.ntm fi.body t md mem next fun x t md mem next => (match x with
      | .nrm => resA E t mem fi.results fun a => k (.ret a) md mem next
      | .ret => resA E t mem fi.results fun a => k (.ret a) md mem next
      | .pnc c => k (.pnc c) md mem next
      | _ => false)
    | none => false
  execD n c t md mem next k :=
    match c with
    | .seq a b => ih.execD n a t md mem next fun x t md mem next => (match x with
      | .nrm => ih.execD n b t md mem next k
      | x => k x t md mem next)
    | .cond c a b => (match aev E.G t c with
      | .bool x => bif x then ih.execD n a t md mem next k else ih.execD n b t md mem next k
      | _ => false)
    | .region id ops draw => bif anyR asksRecover ops.toList then
        (bif draw then false else opsD E n ops.toList ops.toList t md mem next k)
      else ih.exec n none (.region id ops draw) t [] mem next fun x t ds mem next => (match ds with
        | [] => k x t md mem next
        | _ => false)
    | c => ih.exec n none c t [] mem next fun x t ds mem next => (match ds with
        | [] => k x t md mem next
        | _ => false)

noncomputable def M0 : M where
  exec _ _ _ _ _ _ _ _ := false
  call _ _ _ _ _ := false
  round _ _ _ _ _ _ _ _ := false
  leave _ _ _ _ _ _ _ := false
  callD _ _ _ _ _ _ := false
  execD _ _ _ _ _ _ _ := false
noncomputable def runM (E : Env) (n : Nat) : M := Nat.rec M0 (fun _ ih => stepM E ih) n

/-! ### functions without a Go body -/
noncomputable def idxK (c : Nat) (l : List Nat) : Nat → (Int → Bool) → Bool :=
  List.rec (motive := fun _ => Nat → (Int → Bool) → Bool) (fun _ k => k (-1))
    (fun b _ ih i k => bif Nat.beq b c then k (Int.ofNat i) else natK (Nat.succ i) fun i => ih i k) l
noncomputable def extIndexByte : Ext := fun args mem next k => match args with
  | [.str l, .int .u8 (.ofNat c)] => bif Nat.blt c 256 then idxK c l 0 fun i => k (.int .i64 i) mem next else false
  | _ => false
noncomputable def extClone : Ext := fun args mem next k => match args with
  | [.iface t (.map b)] => (match mem.get b with
    | some (.map es clock) => mem.set next (.map es clock) fun mem => k (.iface t (.map next)) mem (Nat.succ next)
    | _ => false)
  | _ => false
end Go.Ev

/- A region whose order is drawn: soundness. -/
namespace Go.Ev
variable {P : Program} {σ : Nat → Value} {prot : Nat → Prop} {w0 : World} {m : BM} {mem : T AB} {next : Nat} {w : World}

theorem nbq {a b : Nat} (h : Nat.beq a b = true) : a = b := Nat.eq_of_beq_eq_true h
mutual
theorem avEq_ok : ∀ (a b : AV), avEq a b = true → a = b
  | .int k n, b, h => by cases b <;> simp_all [avEq]
  | .bool x, b, h => by cases b <;> simp_all [avEq]
  | .str x, b, h => by cases b <;> simp_all [avEq]
  | .ptr x y, b, h => by cases b <;> simp_all [avEq]
  | .nilp, b, h => by cases b <;> simp_all [avEq]
  | .slice _ _ _ _, b, h => by cases b <;> simp_all [avEq]
  | .sliceU _ _ _ _, b, h => by cases b <;> simp_all [avEq]
  | .nils, b, h => by cases b <;> simp_all [avEq]
  | .emp, b, h => by cases b <;> simp_all [avEq]
  | .map _, b, h => by cases b <;> simp_all [avEq]
  | .nilm, b, h => by cases b <;> simp_all [avEq]
  | .fn f a c, b, h => by
    cases b with
    | fn f' a' c' =>
      cases f <;> cases f' <;> simp only [avEq, Bool.and_eq_true, Bool.false_eq_true] at h
      rw [nbq h.1.1, avEqL_ok a a' h.1.2, avEqL_ok c c' h.2]
    | _ => cases f <;> simp [avEq] at h
  | .yld _, b, h => by cases b <;> simp_all [avEq]
  | .nilf, b, h => by cases b <;> simp_all [avEq]
  | .iface t v, b, h => by
    cases b with
    | iface t' v' =>
      simp only [avEq, Bool.and_eq_true] at h
      rw [nbq h.1, avEq_ok v v' h.2]
    | _ => simp [avEq] at h
  | .nili, b, h => by cases b <;> simp_all [avEq]
  | .agg l, b, h => by
    cases b with
    | agg l' => simp only [avEq] at h; rw [avEqL_ok l l' h]
    | _ => simp [avEq] at h
  | .tup l, b, h => by
    cases b with
    | tup l' => simp only [avEq] at h; rw [avEqL_ok l l' h]
    | _ => simp [avEq] at h
  | .unk, b, h => by cases b <;> simp_all [avEq]
  | .sym _, b, h => by cases b <;> simp_all [avEq]
  | .intB _ _ _, b, h => by cases b <;> simp_all [avEq]
  | .top, b, h => by cases b <;> simp_all [avEq]
theorem avEqL_ok : ∀ (a b : List AV), avEqL a b = true → a = b
  | [], b, h => by cases b <;> simp_all [avEqL]
  | a :: l, b, h => by
    cases b with
    | nil => simp [avEqL] at h
    | cons a' l' =>
      simp only [avEqL, Bool.and_eq_true] at h
      rw [avEq_ok a a' h.1, avEqL_ok l l' h.2]
end

/-! ### the memory with the light operations' blocks -/
noncomputable def mj (p : DI → Bool) (base : Nat) (is : List DI) : T AB → T AB :=
  List.rec (motive := fun _ => T AB → T AB) (fun mem => mem)
    (fun d _ ih mem => match d.kd with
      | .val _ (some B) => bif p d then ih (mem.upd (base + d.idx) B) else ih mem
      | _ => ih mem) is
theorem addL_eq (p : DI → Bool) (base : Nat) (is : List DI) : ∀ (mem : T AB) (k : T AB → Bool), addL p base is mem k = k (mj p base is mem) := by
  induction is with
  | nil => intro mem k; rfl
  | cons d is ih =>
    intro mem k
    show (match d.kd with
      | .val _ (some B) => bif p d then natK (Nat.add base d.idx) fun i => mem.set i B fun mem => addL p base is mem k else addL p base is mem k
      | _ => addL p base is mem k) = k (match d.kd with
      | .val _ (some B) => bif p d then mj p base is (mem.upd (base + d.idx) B) else mj p base is mem
      | _ => mj p base is mem)
    split
    · cases p d with
      | true => simp only [cond_true, natK_eq, T.set_eq, ih]; rfl
      | false => simp only [cond_false, ih]
    · rw [ih]

/-- The light block of 'd'. -/
def DI.blk (d : DI) : Option AB := match d.kd with | .val _ b => b | _ => none
def DI.val (d : DI) : AV := match d.kd with | .skip => .tup [] | .val a _ => a | .read a => a | .heavy a => a

theorem mj_cons (p : DI → Bool) (base : Nat) (d : DI) (is : List DI) (mem : T AB) :
    mj p base (d :: is) mem = match d.blk with | some B => if p d = true then mj p base is (mem.upd (base + d.idx) B) else mj p base is mem | none => mj p base is mem := by
  show (match d.kd with
      | .val _ (some B) => bif p d then mj p base is (mem.upd (base + d.idx) B) else mj p base is mem
      | _ => mj p base is mem) = _
  unfold DI.blk
  cases d.kd with
  | val a b => cases b with
    | none => rfl
    | some B => cases p d <;> simp
  | _ => rfl

theorem mj_other (p : DI → Bool) (base : Nat) (is : List DI) : ∀ (mem : T AB) (b : Nat), (∀ d ∈ is, p d = true → d.blk.isSome = true → b ≠ base + d.idx) → (mj p base is mem).get b = mem.get b := by
  induction is with
  | nil => intro mem b _; rfl
  | cons d is ih =>
    intro mem b h
    rw [mj_cons]
    have h' : ∀ d ∈ is, p d = true → d.blk.isSome = true → b ≠ base + d.idx := fun x hx => h x (List.mem_cons_of_mem _ hx)
    cases hb : d.blk with
    | none => exact ih mem b h'
    | some B =>
      simp only
      split
      · rename_i hp
        rw [ih _ b h', T.get_upd, if_neg (h d (List.mem_cons_self ..) hp (by rw [hb]; rfl))]
      · exact ih mem b h'

theorem mj_light (p : DI → Bool) (base : Nat) (is : List DI) (hu : ∀ d ∈ is, ∀ d' ∈ is, d.idx = d'.idx → d = d') : ∀ (mem : T AB) (d : DI), d ∈ is → p d = true → ∀ B, d.blk = some B → (mj p base is mem).get (base + d.idx) = some B := by
  induction is with
  | nil => intro mem d h; cases h
  | cons x is ih =>
    intro mem d hd hp B hB
    have hu' : ∀ d ∈ is, ∀ d' ∈ is, d.idx = d'.idx → d = d' := fun a ha b hb => hu a (List.mem_cons_of_mem _ ha) b (List.mem_cons_of_mem _ hb)
    rw [mj_cons]
    by_cases hin : d ∈ is
    · cases hx : x.blk with
      | none => exact ih hu' mem d hin hp B hB
      | some X =>
        simp only
        split
        · exact ih hu' _ d hin hp B hB
        · exact ih hu' mem d hin hp B hB
    · have he : d = x := by cases hd with | head => rfl | tail _ h => exact absurd h hin
      subst he
      rw [hB]
      simp only [hp, if_true]
      rw [mj_other]
      · rw [T.get_upd, if_pos rfl]
      · intro d' hd' _ _ e
        have : d = d' := hu d (List.mem_cons_self ..) d' (List.mem_cons_of_mem _ hd') (by omega)
        exact hin (this ▸ hd')

/-- Every block of M is one of M'. -/
def SubM (M M' : T AB) : Prop := ∀ b B, M.get b = some B → M'.get b = some B
theorem Rel.sub {M M' : T AB} (h : Rel σ prot w0 m M' next w) (hs : SubM M M') : Rel σ prot w0 m M next w :=
  ⟨h.os, h.tape, h.output, h.size, h.plt, h.keep, fun b B r c hb => h.blk b B r c (hs b B hb),
    fun b b' B B' r c c' hb l hb' l' => h.inj b b' B B' r c c' (hs b B hb) l (hs b' B' hb') l', h.lt, h.fresh, fun b B r c hb => h.wr b B r c (hs b B hb)⟩

/-! ### what the run in the order of the text has found -/
abbrev pj (hm : Nat) : DI → Bool := fun d => !tb hm d.idx
noncomputable abbrev MJ (base : Nat) (is : List DI) (s : DSt) : T AB := mj (pj s.hm) base is s.mem
def Bits (a b : Nat) : Prop := ∀ x, a.testBit x = true → b.testBit x = true

/-- The temporaries: those that an operation before b has written, over the first ones. -/
def OV (is : List DI) (b : Nat) (t0 t : T AV) : Prop :=
  (∀ x, (∀ d ∈ is, d.idx < b → d.o.dst ≠ some x) → tget t x = tget t0 x) ∧ ∀ d ∈ is, d.idx < b → ∀ x, d.o.dst = some x → tget t x = d.val

def KFact (E : Env) (hv : HV) (base : Nat) (ops : Array Oper) (is : List DI) (sts : List DSt) (d : DI) : Prop :=
  match d.kd with
  | .skip => ∀ k : Bool → Bool, k false = true → guardA ops.toList d.t d.o.guard k = true
  | .val a b => (∀ k : Bool → Bool, k true = true → guardA ops.toList d.t d.o.guard k = true) ∧
      ∃ mem' nx, mem'.get (base + d.idx) = b ∧ ∀ k : AV → T AB → Nat → Bool, k a mem' nx = true → lightA E (aev E.G d.t) d.o .e (base + d.idx) k = true
  | .read a => (∀ k : Bool → Bool, k true = true → guardA ops.toList d.t d.o.guard k = true) ∧
      ∀ newer s older, sts = newer ++ s :: older → (∃ s' ∈ newer, Bits s'.hm d.mask) ∨ s.hm.testBit d.idx = true ∨
        ∃ M, SubM M (MJ base is s) ∧ ∀ k : AV → Bool, k a = true → readA E (aev E.G d.t) d.o M k = true
  | .heavy a => (∀ k : Bool → Bool, k true = true → guardA ops.toList d.t d.o.guard k = true) ∧
      ∃ newer s' s older, sts = newer ++ s' :: s :: older ∧ s'.h = d.idx ∧ s'.hm = d.mask ||| 2 ^ d.idx ∧ Bits s.hm d.mask ∧
        ∃ M, SubM M (MJ base is s) ∧ (∀ d' ∈ is, d'.blk.isSome = true → d.mask.testBit d'.idx = false → M.get (base + d'.idx) = none) ∧
          ∀ k : HX → T AB → Nat → Bool, k (.val a) s'.mem s'.next = true → hv (aev E.G d.t) d.o M s.next k = true

structure DInv (E : Env) (hv : HV) (n base : Nat) (ops : Array Oper) (t0 : T AV) (nx0 : DSt) (is : List DI) (mks : T Nat) (t : T AV) (sts : List DSt) : Prop where
  lt : ∀ d ∈ is, d.idx < is.length
  ex : ∀ j, j < is.length → ∃ d ∈ is, d.idx = j
  uq : ∀ d ∈ is, ∀ d' ∈ is, d.idx = d'.idx → d = d'
  op : ∀ d ∈ is, ops[d.idx]? = some d.o
  mkb : ∀ j c, mks.get j = some c → ∃ d ∈ is, d.idx = j ∧ c = d.mask ||| 2 ^ j
  before : ∀ d ∈ is, ∀ e ∈ d.o.after, Region.binds .any e = true → e.on < d.idx
  mask : ∀ d ∈ is, ∀ x, d.mask.testBit x = true ↔ ∃ e ∈ d.o.after, Region.binds .any e = true ∧ (x = e.on ∨ ∃ d' ∈ is, d'.idx = e.on ∧ d'.mask.testBit x = true)
  pair : ∀ d ∈ is, ∀ d' ∈ is, d'.idx < d.idx → (∀ x, d.o.dst = some x → d'.o.dst ≠ some x) ∧
    (∀ x, d.o.dst = some x → x ∈ d'.o.looksAt ops → d.mask.testBit d'.idx = true) ∧ (∀ x, d'.o.dst = some x → x ∈ d.o.looksAt ops → d.mask.testBit d'.idx = true)
  rs : ∀ d ∈ is, d.rs = d.o.looksAt ops
  dst : ∀ d ∈ is, ∀ x, d.o.dst = some x → x < n
  ov : OV is is.length t0 t
  ovd : ∀ d ∈ is, OV is d.idx t0 d.t
  nn : (∀ i, n ≤ i → t0.get i = none) → ∀ i, n ≤ i → t.get i = none
  kf : ∀ d ∈ is, KFact E hv base ops is sts d
  hvy : ∀ newer s older, sts = newer ++ s :: older → older ≠ [] → ∃ d ∈ is, d.idx = s.h ∧ s.hm = d.mask ||| 2 ^ d.idx ∧ ∃ a, d.kd = .heavy a
  first : ∀ newer s, sts = newer ++ [s] → s = nx0 ∧ s.h = ops.size
  nd : (sts.map (·.h)).Nodup
  ne : sts ≠ []
  free : ∀ s ∈ sts, ∀ d ∈ is, (∃ a b, d.kd = .val a b) → s.hm.testBit d.idx = false → s.mem.get (base + d.idx) = none

theorem maskK_ok {es : List Edge} {mks : T Nat} : ∀ {acc : Nat} {k : Nat → Bool}, maskK es mks acc k = true →
    ∃ mask, k mask = true ∧ (∀ e ∈ es, Region.binds .any e = true → ∃ c, mks.get e.on = some c) ∧
      ∀ x, mask.testBit x = true ↔ acc.testBit x = true ∨ ∃ e ∈ es, Region.binds .any e = true ∧ ∃ c, mks.get e.on = some c ∧ c.testBit x = true := by
  induction es with
  | nil => intro acc k h; exact ⟨acc, h, by simp, by simp⟩
  | cons e es ih =>
    intro acc k h
    change (bif Region.binds .any e then (match mks.get e.on with
      | some c => natK (Nat.lor acc c) fun acc => maskK es mks acc k
      | none => false) else maskK es mks acc k) = true at h
    cases hb : Region.binds .any e with
    | false =>
      rw [hb, cond_false] at h
      obtain ⟨mask, h1, h2, h3⟩ := ih h
      refine ⟨mask, h1, ?_, ?_⟩
      · intro e' he' hb'
        cases he' with
        | head => rw [hb] at hb'; cases hb'
        | tail _ hm => exact h2 e' hm hb'
      · intro x
        rw [h3 x]
        constructor
        · rintro (h | ⟨e', he', r⟩)
          · exact .inl h
          · exact .inr ⟨e', List.mem_cons_of_mem _ he', r⟩
        · rintro (h | ⟨e', he', hb', r⟩)
          · exact .inl h
          · cases he' with
            | head => rw [hb] at hb'; cases hb'
            | tail _ hm => exact .inr ⟨e', hm, hb', r⟩
    | true =>
      rw [hb, cond_true] at h
      split at h
      · rename_i c hc
        rw [natK_eq] at h
        obtain ⟨mask, h1, h2, h3⟩ := ih h
        refine ⟨mask, h1, ?_, ?_⟩
        · intro e' he' hb'
          cases he' with
          | head => exact ⟨c, hc⟩
          | tail _ hm => exact h2 e' hm hb'
        · intro x
          rw [h3 x]
          have : (Nat.lor acc c).testBit x = (acc.testBit x || c.testBit x) := Nat.testBit_or ..
          rw [this, Bool.or_eq_true]
          constructor
          · rintro ((h | h) | ⟨e', he', r⟩)
            · exact .inl h
            · exact .inr ⟨e, List.mem_cons_self .., hb, c, hc, h⟩
            · exact .inr ⟨e', List.mem_cons_of_mem _ he', r⟩
          · rintro (h | ⟨e', he', hb', c', hc', r⟩)
            · exact .inl (.inl h)
            · cases he' with
              | head => rw [hc] at hc'; cases hc'; exact .inl (.inr r)
              | tail _ hm => exact .inr ⟨e', hm, hb', c', hc', r⟩
      · cases h

theorem memR_iff {x : Nat} {l : List Nat} : memR x l = true ↔ x ∈ l := by
  induction l with
  | nil => simp [memR]
  | cons y l ih =>
    show (Bool.rec (memR x l) true (Nat.beq x y) : Bool) = true ↔ _
    cases h : Nat.beq x y with
    | true => simp [nbq h]
    | false =>
      have : x ≠ y := fun e => by subst e; simp at h
      simp [ih, this]

theorem pairOk_ok {dst : Option Nat} {rs : List Nat} {mask : Nat} {d : DI} (h : pairOk dst rs mask d = true) :
    (∀ x, dst = some x → d.o.dst ≠ some x) ∧ (∀ x, dst = some x → x ∈ d.rs → mask.testBit d.idx = true) ∧ (∀ x, d.o.dst = some x → x ∈ rs → mask.testBit d.idx = true) := by
  simp only [pairOk, Bool.and_eq_true] at h
  obtain ⟨h1, h2⟩ := h
  refine ⟨?_, ?_, ?_⟩
  · intro x hx
    subst hx
    simp only at h1
    cases hd : d.o.dst with
    | none => simp
    | some y =>
      rw [hd] at h1
      simp only at h1
      intro e
      cases e
      simp at h1
  · intro x hx hm
    subst hx
    rw [← memR_iff] at hm
    simp only at h1
    cases hd : d.o.dst with
    | none => rw [hd] at h1; simp only [hm, cond_true, tb_eq] at h1; exact h1
    | some y =>
      rw [hd] at h1
      simp only [hm, cond_true, tb_eq] at h1
      cases hxy : Nat.beq x y with
      | true => rw [hxy] at h1; cases h1
      | false => rw [hxy] at h1; exact h1
  · intro x hx hm
    rw [← memR_iff] at hm
    rw [hx] at h2
    simp only [hm, cond_true, tb_eq] at h2
    exact h2

theorem MJ_grow {base : Nat} {is : List DI} {s : DSt} {d : DI} (hne : ∀ d' ∈ is, d'.idx ≠ d.idx) (hf : d.blk.isSome = true → s.hm.testBit d.idx = false → s.mem.get (base + d.idx) = none) :
    SubM (MJ base is s) (MJ base (d :: is) s) := by
  intro b B hb
  rw [MJ, mj_cons]
  cases hd : d.blk with
  | none => exact hb
  | some X =>
    simp only
    split
    · rename_i hp
      simp only [pj, tb_eq, Bool.not_eq_true'] at hp
      -- the same, but for one number
      by_cases e : b = base + d.idx
      · subst e
        rw [MJ, mj_other] at hb
        · rw [hf (by rw [hd]; rfl) hp] at hb; cases hb
        · intro d' hd' _ _ e; exact hne d' hd' (by omega)
      · have key : ∀ (is : List DI) (mem : T AB), (∀ d' ∈ is, d'.idx ≠ d.idx) → (mj (pj s.hm) base is (mem.upd (base + d.idx) X)).get b = (mj (pj s.hm) base is mem).get b := by
          intro is
          induction is with
          | nil => intro mem _; show (mem.upd _ X).get b = mem.get b; rw [T.get_upd, if_neg e]
          | cons y is ih =>
            intro mem hy
            rw [mj_cons, mj_cons]
            have hy' : ∀ d' ∈ is, d'.idx ≠ d.idx := fun d' hd' => hy d' (List.mem_cons_of_mem _ hd')
            cases y.blk with
            | none => exact ih mem hy'
            | some Y =>
              simp only
              split
              · -- two writes at different numbers
                have hc : ∀ z, ((mem.upd (base + d.idx) X).upd (base + y.idx) Y).get z = ((mem.upd (base + y.idx) Y).upd (base + d.idx) X).get z := by
                  intro z
                  simp only [T.get_upd]
                  have := hy y (List.mem_cons_self ..)
                  by_cases h1 : z = base + y.idx
                  · have h2 : ¬ z = base + d.idx := by omega
                    simp [h1]; omega
                  · simp [h1]
                have ext : ∀ (is : List DI) (M M' : T AB), (∀ z, M.get z = M'.get z) → ∀ z, (mj (pj s.hm) base is M).get z = (mj (pj s.hm) base is M').get z := by
                  intro is
                  induction is with
                  | nil => intro M M' h z; exact h z
                  | cons u is ihu =>
                    intro M M' h z
                    rw [mj_cons, mj_cons]
                    cases u.blk with
                    | none => exact ihu M M' h z
                    | some U =>
                      simp only
                      split
                      · exact ihu _ _ (fun z => by simp only [T.get_upd, h]) z
                      · exact ihu M M' h z
                rw [ext is _ _ hc]
                exact ih _ hy'
              · exact ih mem hy'
        rw [key is s.mem hne]; exact hb
    · exact hb

theorem isFree_iff {x : Option AB} : isFree x = true ↔ x = none := by cases x <;> simp [isFree]
theorem testBit_or_pow (a i x : Nat) : (a ||| 2 ^ i).testBit x = true ↔ a.testBit x = true ∨ x = i := by
  rw [Nat.testBit_or, Nat.testBit_two_pow]
  simp only [Bool.or_eq_true, decide_eq_true_eq]
  constructor
  · rintro (h | h)
    · exact .inl h
    · exact .inr h.symm
  · rintro (h | h)
    · exact .inl h
    · exact .inr h.symm

theorem OV.push {is : List DI} {t0 t t' : T AV} {d : DI} {n : Nat} (h : OV is is.length t0 t) (hlt : ∀ d ∈ is, d.idx < is.length) (hidx : d.idx = is.length) (hne : ∀ d' ∈ is, ∀ x, d.o.dst = some x → d'.o.dst ≠ some x) (hp : PutRel n t t' d.val d.o.dst) :
    OV (d :: is) (is.length + 1) t0 t' := by
  constructor
  · intro x hx
    have h1 : d.o.dst ≠ some x := hx d (List.mem_cons_self ..) (by omega)
    have h2 : tget t' x = tget t x := by
      cases hd : d.o.dst with
      | none => rw [hd] at hp; cases hp; rfl
      | some y =>
        rw [hd] at hp
        obtain ⟨_, rfl⟩ := hp
        rw [tget_upd, if_neg]
        intro e; subst e; exact h1 hd
    rw [h2]
    exact h.1 x fun d' hd' hl => hx d' (List.mem_cons_of_mem _ hd') (by omega)
  · intro d' hd' hl x hx
    cases hd' with
    | head =>
      rw [hx] at hp
      obtain ⟨_, rfl⟩ := hp
      rw [tget_upd, if_pos rfl]
    | tail _ hm =>
      have h1 : tget t' x = tget t x := by
        cases hd : d.o.dst with
        | none => rw [hd] at hp; cases hp; rfl
        | some y =>
          rw [hd] at hp
          obtain ⟨_, rfl⟩ := hp
          rw [tget_upd, if_neg]
          intro e; subst e; exact hne d' hm x hd hx
      rw [h1]
      exact h.2 d' hm (hlt d' hm) x hx

theorem OV.keep {is : List DI} {b : Nat} {t0 t : T AV} {d : DI} (h : OV is b t0 t) (hb : b ≤ d.idx) : OV (d :: is) b t0 t := by
  constructor
  · intro x hx
    exact h.1 x fun d' hd' hl => hx d' (List.mem_cons_of_mem _ hd') hl
  · intro d' hd' hl x hx
    cases hd' with
    | head => omega
    | tail _ hm => exact h.2 d' hm hl x hx

section
variable {E : Env} {hv : HV} {n base : Nat} {ops : Array Oper} {t0 : T AV} {nx0 : DSt} {is : List DI} {mks : T Nat} {t : T AV} {sts : List DSt}

/-- What was known of an earlier operation, when one more has been taken in. -/
theorem KFact.grow {d d0 : DI} {sts' : List DSt} (hne : ∀ d' ∈ is, d'.idx ≠ d.idx)
    (hfr : ∀ s ∈ sts, d.blk.isSome = true → s.hm.testBit d.idx = false → s.mem.get (base + d.idx) = none)
    (hst : sts' = sts ∨ ∃ s', sts' = s' :: sts ∧ ∀ a, d0.kd = .read a → s'.hm.testBit d0.idx = true ∨ ∃ M, SubM M (MJ base (d :: is) s') ∧ ∀ k : AV → Bool, k a = true → readA E (aev E.G d0.t) d0.o M k = true)
    (h : KFact E hv base ops is sts d0) : KFact E hv base ops (d :: is) sts' d0 := by
  unfold KFact at *
  cases hk : d0.kd with
  | skip => rw [hk] at h; exact h
  | val a b => rw [hk] at h; exact h
  | read a =>
    rw [hk] at h
    obtain ⟨h1, h2⟩ := h
    refine ⟨h1, fun newer s older e => ?_⟩
    have old : ∀ newer, sts = newer ++ s :: older → (∃ s' ∈ newer, Bits s'.hm d0.mask) ∨ s.hm.testBit d0.idx = true ∨
        ∃ M, SubM M (MJ base (d :: is) s) ∧ ∀ k : AV → Bool, k a = true → readA E (aev E.G d0.t) d0.o M k = true := by
      intro newer e
      rcases h2 newer s older e with h | h | ⟨M, h3, h4⟩
      · exact .inl h
      · exact .inr (.inl h)
      · refine .inr (.inr ⟨M, ?_, h4⟩)
        have : s ∈ sts := by rw [e]; simp
        exact fun b B hb => MJ_grow hne (hfr s this) b B (h3 b B hb)
    rcases hst with rfl | ⟨s', rfl, hr⟩
    · exact old newer e
    · cases newer with
      | nil =>
        simp only [List.nil_append, List.cons.injEq] at e
        obtain ⟨rfl, rfl⟩ := e
        rcases hr a hk with h | h
        · exact .inr (.inl h)
        · exact .inr (.inr h)
      | cons x newer =>
        simp only [List.cons_append, List.cons.injEq] at e
        obtain ⟨rfl, e⟩ := e
        rcases old newer e with ⟨y, hy, hb⟩ | h
        · exact .inl ⟨y, List.mem_cons_of_mem _ hy, hb⟩
        · exact .inr h
  | heavy a =>
    rw [hk] at h
    obtain ⟨h1, newer, s', s, older, e, h2, h3, h4, M, h5, h6, h7⟩ := h
    have hs : s ∈ sts := by rw [e]; simp
    refine ⟨h1, ?_⟩
    have fin : SubM M (MJ base (d :: is) s) := fun b B hb => MJ_grow hne (hfr s hs) b B (h5 b B hb)
    have fin2 : ∀ d' ∈ d :: is, d'.blk.isSome = true → d0.mask.testBit d'.idx = false → M.get (base + d'.idx) = none := by
      intro d' hd' hb hm
      cases hd' with
      | tail _ hm' => exact h6 d' hm' hb hm
      | head =>
        cases hM : M.get (base + d.idx) with
        | none => rfl
        | some B =>
          have := h5 _ _ hM
          rw [MJ, mj_other _ _ _ _ _ (fun d' hd' _ _ e => hne d' hd' (by omega))] at this
          have hbit : s.hm.testBit d.idx = false := by
            cases hb : s.hm.testBit d.idx with
            | false => rfl
            | true => rw [h4 _ hb] at hm; cases hm
          rw [hfr s hs hb hbit] at this
          cases this
    rcases hst with rfl | ⟨s'', rfl, _⟩
    · exact ⟨newer, s', s, older, e, h2, h3, h4, M, fin, fin2, h7⟩
    · exact ⟨s'' :: newer, s', s, older, by rw [e]; rfl, h2, h3, h4, M, fin, fin2, h7⟩

theorem DInv.push (h : DInv E hv n base ops t0 nx0 is mks t sts) {d : DI} (hidx : d.idx = is.length) (hop : ops[d.idx]? = some d.o)
    (hm : ∃ k, maskK d.o.after.toList mks 0 k = true ∧ ∀ x, k x = true → x = d.mask) (hp : ∀ d' ∈ is, pairOk d.o.dst d.rs d.mask d' = true) (hrs : d.rs = d.o.looksAt ops) (ht : d.t = t)
    {t' : T AV} (hput : PutRel n t t' d.val d.o.dst) {sts' : List DSt} (hst : sts' = sts ∨ ∃ s', sts' = s' :: sts ∧ s'.h = d.idx ∧ s'.hm = d.mask ||| 2 ^ d.idx ∧ ∃ a, d.kd = .heavy a)
    (kf : KFact E hv base ops (d :: is) sts' d) (kfo : ∀ d0 ∈ is, KFact E hv base ops (d :: is) sts' d0)
    (hfree : ∀ s ∈ sts', ∀ x ∈ d :: is, (∃ a b, x.kd = .val a b) → s.hm.testBit x.idx = false → s.mem.get (base + x.idx) = none) :
    DInv E hv n base ops t0 nx0 (d :: is) (mks.upd d.idx (d.mask ||| 2 ^ d.idx)) t' sts' := by
  obtain ⟨k, hk, hkm⟩ := hm
  obtain ⟨mask, hm1, hm2, hm3⟩ := maskK_ok hk
  obtain rfl : mask = d.mask := hkm mask hm1
  have hbef : ∀ e ∈ d.o.after, Region.binds .any e = true → e.on < d.idx := by
    intro e he hb
    obtain ⟨c, hc⟩ := hm2 e (by simpa using he) hb
    obtain ⟨d', hd', e1, _⟩ := h.mkb _ _ hc
    rw [← e1, hidx]; exact h.lt d' hd'
  have hlt' : ∀ x ∈ d :: is, x.idx < (d :: is).length := by
    intro x hx
    cases hx with
    | head => simp [hidx]
    | tail _ hx => have := h.lt x hx; simp; omega
  have hne : ∀ d' ∈ is, d'.idx ≠ d.idx := fun d' hd' => by have := h.lt d' hd'; omega
  refine ⟨hlt', ?_, ?_, ?_, ?_, ?_, ?_, ?_, ?_, ?_, ?_, ?_, ?_, ?_, ?_, ?_, ?_, ?_, hfree⟩
  · intro j hj
    by_cases e : j = is.length
    · exact ⟨d, List.mem_cons_self .., by omega⟩
    · obtain ⟨x, hx, hj'⟩ := h.ex j (by simp at hj; omega)
      exact ⟨x, List.mem_cons_of_mem _ hx, hj'⟩
  · intro a ha b hb e
    cases ha with
    | head => cases hb with
      | head => rfl
      | tail _ hb => exact absurd e.symm (hne b hb)
    | tail _ ha => cases hb with
      | head => exact absurd e (hne a ha)
      | tail _ hb => exact h.uq a ha b hb e
  · intro x hx
    cases hx with
    | head => exact hop
    | tail _ hx => exact h.op x hx
  · intro j c hc
    rw [T.get_upd] at hc
    by_cases e : j = d.idx
    · rw [if_pos e] at hc; cases hc; exact ⟨d, List.mem_cons_self .., e.symm, by rw [e]⟩
    · rw [if_neg e] at hc
      obtain ⟨x, hx, r⟩ := h.mkb j c hc
      exact ⟨x, List.mem_cons_of_mem _ hx, r⟩
  · intro x hx
    cases hx with
    | head => exact hbef
    | tail _ hx => exact h.before x hx
  · intro x hx y
    cases hx with
    | head =>
      rw [hm3 y]
      simp only [Nat.zero_testBit, Bool.false_eq_true, false_or]
      constructor
      · rintro ⟨e, he, hb, c, hc, hy⟩
        obtain ⟨d', hd', e1, rfl⟩ := h.mkb _ _ hc
        rw [testBit_or_pow] at hy
        refine ⟨e, by simpa using he, hb, ?_⟩
        rcases hy with hy | hy
        · exact .inr ⟨d', List.mem_cons_of_mem _ hd', e1, hy⟩
        · exact .inl hy
      · rintro ⟨e, he, hb, hy⟩
        have he' : e ∈ d.o.after.toList := by simpa using he
        obtain ⟨c, hc⟩ := hm2 e he' hb
        obtain ⟨d', hd', e1, hc'⟩ := h.mkb _ _ hc
        refine ⟨e, he', hb, c, hc, ?_⟩
        rw [hc', testBit_or_pow]
        rcases hy with hy | ⟨d'', hd'', e2, hy⟩
        · exact .inr hy
        · cases hd'' with
          | head => have := hbef e he hb; omega
          | tail _ hd'' =>
            have := h.uq d'' hd'' d' hd' (by omega)
            subst this
            exact .inl hy
    | tail _ hx =>
      rw [h.mask x hx y]
      constructor
      · rintro ⟨e, he, hb, hy⟩
        refine ⟨e, he, hb, hy.imp id ?_⟩
        rintro ⟨d', hd', r⟩
        exact ⟨d', List.mem_cons_of_mem _ hd', r⟩
      · rintro ⟨e, he, hb, hy⟩
        refine ⟨e, he, hb, hy.imp id ?_⟩
        rintro ⟨d', hd', e1, r⟩
        cases hd' with
        | head => have := h.before x hx e he hb; have := h.lt x hx; omega
        | tail _ hd' => exact ⟨d', hd', e1, r⟩
  · intro x hx y hy hlt
    cases hx with
    | head => cases hy with
      | head => omega
      | tail _ hy =>
        obtain ⟨p1, p2, p3⟩ := pairOk_ok (hp y hy)
        refine ⟨p1, fun z hz hl => p2 z hz (by rw [h.rs y hy]; exact hl), fun z hz hl => p3 z hz (by rw [hrs]; exact hl)⟩
    | tail _ hx => cases hy with
      | head => have := h.lt x hx; omega
      | tail _ hy => exact h.pair x hx y hy hlt
  · intro x hx
    cases hx with
    | head => exact hrs
    | tail _ hx => exact h.rs x hx
  · intro x hx y hy
    cases hx with
    | head => rw [hy] at hput; exact hput.1
    | tail _ hx => exact h.dst x hx y hy
  · exact OV.push h.ov h.lt hidx (fun d' hd' => (pairOk_ok (hp d' hd')).1) hput
  · intro x hx
    cases hx with
    | head => rw [ht, hidx]; exact h.ov.keep (by omega)
    | tail _ hx => exact (h.ovd x hx).keep (by have := h.lt x hx; omega)
  · intro h0 i hi
    have := h.nn h0 i hi
    cases hd : d.o.dst with
    | none => rw [hd] at hput; cases hput; exact this
    | some y =>
      rw [hd] at hput
      obtain ⟨h1, rfl⟩ := hput
      rw [T.get_upd, if_neg (by omega)]; exact this
  · intro x hx
    cases hx with
    | head => exact kf
    | tail _ hx => exact kfo x hx
  · intro newer s older e ho
    rcases hst with rfl | ⟨s', rfl, e1, e2, e3⟩
    · obtain ⟨x, hx, r⟩ := h.hvy newer s older e ho
      exact ⟨x, List.mem_cons_of_mem _ hx, r⟩
    · cases newer with
      | nil =>
        simp only [List.nil_append, List.cons.injEq] at e
        obtain ⟨rfl, rfl⟩ := e
        exact ⟨d, List.mem_cons_self .., e1.symm, e2, e3⟩
      | cons z newer =>
        simp only [List.cons_append, List.cons.injEq] at e
        obtain ⟨x, hx, r⟩ := h.hvy newer s older e.2 ho
        exact ⟨x, List.mem_cons_of_mem _ hx, r⟩
  · intro newer s e
    rcases hst with rfl | ⟨s', rfl, e1, e2, e3⟩
    · exact h.first newer s e
    · cases newer with
      | nil =>
        simp only [List.nil_append, List.cons.injEq] at e
        exact absurd e.2 h.ne
      | cons z newer =>
        simp only [List.cons_append, List.cons.injEq] at e
        exact h.first newer s e.2
  · rcases hst with rfl | ⟨s', rfl, e1, _⟩
    · exact h.nd
    · rw [List.map_cons, List.nodup_cons]
      refine ⟨?_, h.nd⟩
      intro hin
      obtain ⟨s2, hs2, e⟩ := List.mem_map.1 hin
      obtain ⟨A, B, hAB⟩ := List.append_of_mem hs2
      cases B with
      | nil =>
        have := (h.first A s2 hAB).2
        have hlt : d.idx < ops.size := (Array.getElem?_eq_some_iff.1 hop).1
        omega
      | cons z B =>
        obtain ⟨x, hx, ex, _⟩ := h.hvy A s2 (z :: B) hAB (by simp)
        have := h.lt x hx
        omega
  · rcases hst with rfl | ⟨s', rfl, _⟩
    · exact h.ne
    · simp
end

theorem rdS_ok {E : Env} {ρ : Operand → AV} {o : Oper} {is : List DI} {base mask : Nat} {a : AV} : ∀ {sts : List DSt} {k : Bool}, rdS E ρ o is base mask a sts k = true →
    k = true ∧ ∀ newer s older, sts = newer ++ s :: older → (∃ s' ∈ newer, Bits s'.hm mask) ∨ ∀ k' : AV → Bool, k' a = true → readA E ρ o (MJ base is s) k' = true := by
  intro sts
  induction sts with
  | nil => intro k h; exact absurd (show false = true from h) (by decide)
  | cons s sts ih =>
    intro k h
    change addL (fun d => !tb s.hm d.idx) base is s.mem (fun M => readA E ρ o M fun a' => bif avEq a' a then (bif sub s.hm mask then k else rdS E ρ o is base mask a sts k) else false) = true at h
    rw [addL_eq] at h
    obtain ⟨a', h1, h2⟩ := sRead E ρ o _ _ h
    cases he : avEq a' a with
    | false => rw [he] at h1; cases h1
    | true =>
      rw [he, cond_true] at h1
      have := avEq_ok _ _ he
      subst this
      cases hs : sub s.hm mask with
      | true =>
        rw [hs, cond_true] at h1
        refine ⟨h1, fun newer s' older e => ?_⟩
        cases newer with
        | nil =>
          simp only [List.nil_append, List.cons.injEq] at e
          obtain ⟨rfl, rfl⟩ := e
          exact .inr h2
        | cons z newer =>
          simp only [List.cons_append, List.cons.injEq] at e
          obtain ⟨rfl, e⟩ := e
          exact .inl ⟨s, List.mem_cons_self .., sub_spec hs⟩
      | false =>
        rw [hs, cond_false] at h1
        obtain ⟨h3, h4⟩ := ih h1
        refine ⟨h3, fun newer s' older e => ?_⟩
        cases newer with
        | nil =>
          simp only [List.nil_append, List.cons.injEq] at e
          obtain ⟨rfl, rfl⟩ := e
          exact .inr h2
        | cons z newer =>
          simp only [List.cons_append, List.cons.injEq] at e
          obtain ⟨rfl, e⟩ := e
          rcases h4 newer s' older e with ⟨y, hy, hb⟩ | h
          · exact .inl ⟨y, List.mem_cons_of_mem _ hy, hb⟩
          · exact .inr h

theorem anyR_false {α : Type} {p : α → Bool} {l : List α} (h : anyR p l = false) : ∀ x ∈ l, p x = false := by
  induction l with
  | nil => intro x hx; cases hx
  | cons y l ih =>
    change (Bool.rec (anyR p l) true (p y) : Bool) = false at h
    cases hp : p y with
    | true => rw [hp] at h; cases h
    | false =>
      rw [hp] at h
      intro x hx
      cases hx with
      | head => exact hp
      | tail _ hx => exact ih h x hx

theorem bifT {c k : Bool} (h : (bif c then k else false) = true) : c = true ∧ k = true := by cases c <;> simp_all
theorem reread_ok {E : Env} {is : List DI} {base mask hm : Nat} {mem : T AB} {k : Bool} (h : reread E is base mask hm mem k = true) :
    k = true ∧ ∀ d ∈ is, ∀ a, d.kd = .read a → mask.testBit d.idx = true ∨ ∀ k' : AV → Bool, k' a = true → readA E (aev E.G d.t) d.o (mj (pj hm) base is mem) k' = true := by
  unfold reread at h
  cases ha : anyR (openRead mask) is with
  | false =>
    rw [ha, cond_false] at h
    refine ⟨h, fun d hd a hk => .inl ?_⟩
    have := anyR_false ha d hd
    simp only [openRead, hk, tb_eq, Bool.not_eq_false'] at this
    exact this
  | true =>
    rw [ha, cond_true, addL_eq] at h
    obtain ⟨hb, h⟩ := bifT h
    refine ⟨h, fun d hd a hk => ?_⟩
    have := allR_iff.1 hb d hd
    simp only [hk] at this
    cases ht : tb mask d.idx with
    | true => rw [tb_eq] at ht; exact .inl ht
    | false =>
      rw [ht, cond_false] at this
      obtain ⟨a', h1, h2⟩ := sRead _ _ _ _ _ this
      rw [avEq_ok _ _ h1] at h2
      exact .inr h2

theorem sMask (mks : T Nat) : ∀ (es : List Edge) (acc : Nat), Shot1 fun k => maskK es mks acc k := by
  intro es
  induction es with
  | nil => intro acc; exact Shot1.ret _
  | cons e es ihe =>
    intro acc
    show Shot1 fun k => bif Region.binds .any e then (match mks.get e.on with
      | some c => natK (Nat.lor acc c) fun acc => maskK es mks acc k
      | none => false) else maskK es mks acc k
    refine Shot1.bif ?_ (ihe _)
    split
    · exact Shot1.bind (sNat _) fun _ => ihe _
    · exact Shot1.no

theorem drawL_cons {E : Env} {hv : HV} {n base : Nat} {ops : Array Oper} (o : Oper) (l : List Oper) (i : Nat) (is : List DI) (mks : T Nat) (t : T AV) (sts : List DSt) (k : T AV → List DI → List DSt → Bool) :
    drawL E hv n base ops (o :: l) i is mks t sts k = (maskK o.after.toList mks 0 fun mask =>
      natK (Nat.add base i) fun id =>
      natK (Nat.succ i) fun i' =>
      (fun rs => bif allR (pairOk o.dst rs mask) is && (match o.guard with | none => true | some (j, _) => tb mask j) then
        natK (Nat.lor mask (Nat.pow 2 i)) fun cm => mks.set i cm fun mks =>
        guardA ops.toList t o.guard fun wanted =>
          bif wanted then
            (bif isRead (aev E.G t) o then
              (match sts with
               | s :: _ => addL (fun d => !tb s.hm d.idx) base is s.mem fun M => readA E (aev E.G t) o M fun a => rdS E (aev E.G t) o is base mask a sts (putT n t o.dst a fun t' => drawL E hv n base ops l i' (⟨i, o, rs, mask, t, .read a⟩ :: is) mks t' sts k)
               | [] => false)
             else bif isLight o then
              lightA E (aev E.G t) o .e id fun a m' _ => bif allR (fun s => isFree (s.mem.get id)) sts then
                putT n t o.dst a fun t' => drawL E hv n base ops l i' (⟨i, o, rs, mask, t, .val a (m'.get id)⟩ :: is) mks t' sts k else false
             else (match sts with
              | s :: _ => bif sub s.hm mask then
                  addL (fun d => tb mask d.idx && !tb s.hm d.idx) base is s.mem fun M =>
                  hv (aev E.G t) o M s.next fun hx m' nx => (match hx with
                    | .val a => bif allR (pendFree base mask m') is then
                        reread E is base mask cm m' (putT n t o.dst a fun t' => drawL E hv n base ops l i' (⟨i, o, rs, mask, t, .heavy a⟩ :: is) mks t' (⟨i, cm, m', nx⟩ :: sts) k)
                        else false
                    | _ => false)
                 else false
              | [] => false))
          else putT n t o.dst (.tup []) fun t' => drawL E hv n base ops l i' (⟨i, o, rs, mask, t, .skip⟩ :: is) mks t' sts k
       else false) (o.looksAt ops)) := rfl

theorem drawL_ok {E : Env} {hv : HV} {n base : Nat} {ops : Array Oper} {t0 : T AV} {nx0 : DSt} (hshot : ∀ ρ o mem next, Shot fun k => hv ρ o mem next k) :
    ∀ (l : List Oper) (i : Nat) (is : List DI) (mks : T Nat) (t : T AV) (sts : List DSt) (k : T AV → List DI → List DSt → Bool),
      DInv E hv n base ops t0 nx0 is mks t sts → i = is.length → ops.toList.drop i = l → drawL E hv n base ops l i is mks t sts k = true →
      ∃ is' mks' t' sts', DInv E hv n base ops t0 nx0 is' mks' t' sts' ∧ is'.length = ops.size ∧ k t' is' sts' = true := by
  intro l
  induction l with
  | nil =>
    intro i is mks t sts k h hi hl hk
    refine ⟨is, mks, t, sts, h, ?_, hk⟩
    have h1 : ops.size ≤ i := by
      have : ops.toList.length ≤ i := List.drop_eq_nil_iff.1 hl
      simpa using this
    have h2 : is.length ≤ ops.size := by
      rcases Nat.lt_or_ge ops.size is.length with hlt | hge
      · obtain ⟨d, hd, e⟩ := h.ex ops.size hlt
        have := h.op d hd
        rw [e] at this
        simp at this
      · exact hge
    omega
  | cons o l ih =>
    intro i is mks t sts k h hi hl hk
    have hop : ops[i]? = some o := by
      have : (ops.toList.drop i)[0]? = some o := by rw [hl]; rfl
      rw [List.getElem?_drop] at this
      simpa using this
    have hl' : ops.toList.drop (i+1) = l := by
      have : (ops.toList.drop i).drop 1 = l := by rw [hl]; rfl
      rw [List.drop_drop] at this
      rw [← this]
    rw [drawL_cons] at hk
    obtain ⟨mask, hk, hmask⟩ := sMask _ _ _ _ hk
    have hmask : ∃ k, maskK o.after.toList mks 0 k = true ∧ ∀ x, k x = true → x = mask := ⟨fun x => decide (x = mask), hmask _ (decide_eq_true rfl), fun x hx => of_decide_eq_true hx⟩
    rw [natK_eq, natK_eq] at hk
    obtain ⟨hpg, hk⟩ := bifT hk
    simp only [Bool.and_eq_true] at hpg
    have hpair := allR_iff.1 hpg.1
    rw [natK_eq, T.set_eq] at hk
    obtain ⟨wd, hk, hg⟩ := sGuard _ _ _ _ hk
    have hne : ∀ d' ∈ is, d'.idx ≠ i := fun d' hd' => by have := h.lt d' hd'; omega
    have hi' : Nat.succ i = is.length + 1 := by omega
    -- taking one in
    have step : ∀ (kd : DK) (t' : T AV) (sts' : List DSt) (k' : Bool), PutRel n t t' (DI.val ⟨i, o, o.looksAt ops, mask, t, kd⟩) o.dst →
        (sts' = sts ∨ ∃ s', sts' = s' :: sts ∧ s'.h = i ∧ s'.hm = mask ||| 2 ^ i ∧ ∃ a, kd = .heavy a) → KFact E hv base ops (⟨i, o, o.looksAt ops, mask, t, kd⟩ :: is) sts' ⟨i, o, o.looksAt ops, mask, t, kd⟩ →
        (∀ d0 ∈ is, KFact E hv base ops (⟨i, o, o.looksAt ops, mask, t, kd⟩ :: is) sts' d0) →
        (∀ s ∈ sts', ∀ x ∈ (⟨i, o, o.looksAt ops, mask, t, kd⟩ : DI) :: is, (∃ a b, x.kd = .val a b) → s.hm.testBit x.idx = false → s.mem.get (base + x.idx) = none) →
        drawL E hv n base ops l (Nat.succ i) (⟨i, o, o.looksAt ops, mask, t, kd⟩ :: is) (mks.upd i (mask ||| 2 ^ i)) t' sts' k = true →
        ∃ is' mks' t' sts', DInv E hv n base ops t0 nx0 is' mks' t' sts' ∧ is'.length = ops.size ∧ k t' is' sts' = true := by
      intro kd t' sts' k' hput hst kf kfo hfree hk
      refine ih (Nat.succ i) _ _ _ _ k (h.push (d := ⟨i, o, o.looksAt ops, mask, t, kd⟩) hi hop hmask hpair rfl rfl hput hst kf kfo hfree) (by simp; omega) hl' hk
    have oldfree : ∀ (kd : DK), (∀ a b, kd ≠ .val a b) → ∀ s ∈ sts, ∀ x ∈ (⟨i, o, o.looksAt ops, mask, t, kd⟩ : DI) :: is, (∃ a b, x.kd = .val a b) → s.hm.testBit x.idx = false → s.mem.get (base + x.idx) = none := by
      intro kd hkd s hs x hx hv' hb
      cases hx with
      | head => obtain ⟨a, b, e⟩ := hv'; exact absurd e (hkd a b)
      | tail _ hx => exact h.free s hs x hx hv' hb
    have noblk : ∀ (kd : DK), (∀ a b, kd ≠ .val a b) → (DI.blk ⟨i, o, o.looksAt ops, mask, t, kd⟩) = none := by
      intro kd hkd
      cases kd with
      | val a b => exact absurd rfl (hkd a b)
      | _ => rfl
    have grow : ∀ (kd : DK), (∀ a b, kd ≠ .val a b) → ∀ d0 ∈ is, KFact E hv base ops (⟨i, o, o.looksAt ops, mask, t, kd⟩ :: is) sts d0 := fun kd hkd d0 hd0 =>
      (h.kf d0 hd0).grow hne (fun s _ hb => by rw [noblk kd hkd] at hb; cases hb) (.inl rfl)
    cases wd with
    | false =>
      rw [cond_false] at hk
      obtain ⟨t', hk, hput⟩ := putT_ok hk
      exact step .skip t' sts true hput (.inl rfl) hg (grow _ (by simp)) (oldfree _ (by simp)) hk
    | true =>
      rw [cond_true] at hk
      cases hrd : isRead (aev E.G t) o with
      | true =>
        rw [hrd, cond_true] at hk
        cases hsts : sts with
        | nil => exact absurd hsts h.ne
        | cons s older0 =>
          rw [hsts] at hk
          simp only at hk
          rw [addL_eq] at hk
          obtain ⟨a, hk, _⟩ := sRead _ _ _ _ _ hk
          obtain ⟨hk, hst⟩ := rdS_ok hk
          obtain ⟨t', hk, hput⟩ := putT_ok hk
          rw [← hsts] at hk hst
          refine step (.read a) t' sts true hput (.inl rfl) ⟨hg, ?_⟩ (grow _ (by simp)) (oldfree _ (by simp)) hk
          intro newer s' older e
          rcases hst newer s' older e with h1 | h1
          · exact .inl h1
          · refine .inr (.inr ⟨_, MJ_grow hne (fun hb => by rw [noblk _ (by simp)] at hb; cases hb), h1⟩)
      | false =>
        rw [hrd, cond_false] at hk
        cases hlt : isLight o with
        | true =>
          rw [hlt, cond_true] at hk
          obtain ⟨a, m', nx, hk, hla⟩ := sLight _ _ _ _ _ _ hk
          obtain ⟨hfr, hk⟩ := bifT hk
          have hfr := allR_iff.1 hfr
          obtain ⟨t', hk, hput⟩ := putT_ok hk
          have hfr' : ∀ s ∈ sts, s.mem.get (base + i) = none := fun s hs => isFree_iff.1 (hfr s hs)
          refine step (.val a (m'.get (base + i))) t' sts true hput (.inl rfl) ⟨hg, m', nx, rfl, hla⟩ ?_ ?_ hk
          · intro d0 hd0
            exact (h.kf d0 hd0).grow hne (fun s hs _ _ => hfr' s hs) (.inl rfl)
          · intro s hs x hx hv' hb
            cases hx with
            | head => exact hfr' s hs
            | tail _ hx => exact h.free s hs x hx hv' hb
        | false =>
          rw [hlt, cond_false] at hk
          cases hsts : sts with
          | nil => exact absurd hsts h.ne
          | cons s older0 =>
            rw [hsts] at hk
            simp only at hk
            obtain ⟨hsub, hk⟩ := bifT hk
            have hsub := sub_spec hsub
            rw [addL_eq] at hk
            obtain ⟨hx, m', nx, hk, hsh⟩ := hshot _ _ _ _ _ hk
            cases hx with
            | pnc c => cases hk
            | dfr d => cases hk
            | val a =>
              simp only at hk
              obtain ⟨hpf, hk⟩ := bifT hk
              have hpf := allR_iff.1 hpf
              obtain ⟨hk, hrr⟩ := reread_ok hk
              obtain ⟨t', hk, hput⟩ := putT_ok hk
              rw [← hsts] at hk
              have hs : s ∈ sts := by rw [hsts]; simp
              have hnew : ∀ (x : DI), x ∈ is → (∃ a b, x.kd = .val a b) → mask.testBit x.idx = false → m'.get (base + x.idx) = none := by
                intro x hx ⟨a, b, e⟩ hb
                have := hpf x hx
                simp only [pendFree, e, tb_eq, hb, Bool.false_or] at this
                exact isFree_iff.1 this
              have blkval : ∀ x : DI, x.blk.isSome = true → ∃ a b, x.kd = .val a b := by
                intro x hx
                unfold DI.blk at hx
                cases hk : x.kd with
                | val a b => exact ⟨a, b, rfl⟩
                | _ => rw [hk] at hx; cases hx
              refine step (.heavy a) t' (⟨i, mask ||| 2 ^ i, m', nx⟩ :: sts) true hput (.inr ⟨_, rfl, rfl, rfl, a, rfl⟩) ⟨hg, ?_⟩ ?_ ?_ hk
              · refine ⟨[], _, s, older0, by rw [hsts]; rfl, rfl, rfl, hsub, mj (fun d => tb mask d.idx && !tb s.hm d.idx) base is s.mem, ?_, ?_, hsh⟩
                · -- its blocks are among those of the stage
                  have h1 : SubM (mj (fun d => tb mask d.idx && !tb s.hm d.idx) base is s.mem) (MJ base is s) := by
                    intro b B hb
                    by_cases hq : ∃ x ∈ is, x.blk.isSome = true ∧ (pj s.hm x) = true ∧ b = base + x.idx
                    · obtain ⟨x, hx, hxb, hxp, rfl⟩ := hq
                      obtain ⟨X, hX⟩ := Option.isSome_iff_exists.1 hxb
                      rw [MJ, mj_light _ _ _ h.uq _ x hx hxp X hX]
                      by_cases hm : mask.testBit x.idx = true
                      · rw [mj_light _ _ _ h.uq _ x hx (by simp only [tb_eq, hm, Bool.true_and]; simpa [pj, tb_eq] using hxp) X hX] at hb
                        exact hb
                      · rw [mj_other] at hb
                        · have := h.free s hs x hx (blkval x hxb) (by simpa [pj, tb_eq] using hxp)
                          rw [this] at hb; cases hb
                        · intro y hy hp _ e
                          have : y = x := h.uq y hy x hx (by omega)
                          subst this
                          simp only [tb_eq, Bool.and_eq_true] at hp
                          exact hm hp.1
                    · have hno : ∀ x ∈ is, pj s.hm x = true → x.blk.isSome = true → b ≠ base + x.idx := fun x hx hp hb' e => hq ⟨x, hx, hb', hp, e⟩
                      rw [MJ, mj_other _ _ _ _ _ hno]
                      rw [mj_other _ _ _ _ _ (fun x hx hp hb' e => hno x hx (by simp only [Bool.and_eq_true] at hp; exact hp.2) hb' e)] at hb
                      exact hb
                  exact fun b B hb => MJ_grow hne (fun hb => by rw [noblk _ (by simp)] at hb; cases hb) b B (h1 b B hb)
                · intro x hx hxb hm
                  cases hx with
                  | head => cases hxb
                  | tail _ hx =>
                    have hbit : s.hm.testBit x.idx = false := by
                      cases hb : s.hm.testBit x.idx with
                      | false => rfl
                      | true => have := hsub _ hb; rw [this] at hm; cases hm
                    rw [mj_other]
                    · exact h.free s hs x hx (blkval x hxb) hbit
                    · intro y hy hp _ e
                      have : y = x := h.uq y hy x hx (by omega)
                      subst this
                      simp only [tb_eq, Bool.and_eq_true] at hp
                      rw [hp.1] at hm; cases hm
              · intro d0 hd0
                refine (h.kf d0 hd0).grow hne (fun s _ hb => by rw [noblk _ (by simp)] at hb; cases hb) (.inr ⟨_, rfl, fun a' ha' => ?_⟩)
                rcases hrr d0 hd0 a' ha' with h1 | h1
                · exact .inl ((testBit_or_pow _ _ _).2 (.inl h1))
                · exact .inr ⟨_, MJ_grow hne (fun hb => by rw [noblk _ (by simp)] at hb; cases hb), h1⟩
              · intro s' hs' x hx hv' hb
                cases hs' with
                | tail _ hs' => exact oldfree (.heavy a) (by simp) s' hs' x hx hv' hb
                | head =>
                  cases hx with
                  | head => obtain ⟨a, b, e⟩ := hv'; cases e
                  | tail _ hx =>
                    refine hnew x hx hv' ?_
                    cases hm : mask.testBit x.idx with
                    | false => rfl
                    | true => have := (testBit_or_pow mask i x.idx).2 (.inl hm); rw [this] at hb; cases hb
end Go.Ev

