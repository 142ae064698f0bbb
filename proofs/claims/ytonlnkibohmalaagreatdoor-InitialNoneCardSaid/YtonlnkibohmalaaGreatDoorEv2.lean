/- A part of the evaluator that the proof of InitialNone leans on: definitions and their soundness over the kit's laws; no condition. -/
import Derived.Test.YtonlnkibohmalaaGreatDoorEv1
import Derived.Laws.Strings
import Derived.Laws.BytesString
set_option linter.unusedVariables false
set_option linter.unusedSimpArgs false
/- Arithmetic and comparisons. -/
namespace Go.Ev

def kn : IntKind → Nat
  | .i8 => 0 | .i16 => 1 | .i32 => 2 | .i64 => 3 | .u8 => 4 | .u16 => 5 | .u32 => 6 | .u64 => 7
def kEq (a b : IntKind) : Bool := Nat.beq (kn a) (kn b)
theorem kEq_eq {a b : IntKind} (h : kEq a b = true) : a = b := by cases a <;> cases b <;> first | rfl | (simp [kEq, kn] at h)

noncomputable def modK (c : Nat) (n : Int) (f : Nat → Bool) : Bool :=
  Int.rec (fun a => natK (Nat.mod a c) f) (fun a => natK (Nat.sub c (Nat.succ (Nat.mod a c))) f) n
theorem modK_eq (c : Nat) (hc : 0 < c) (n : Int) (f : Nat → Bool) : modK c n f = f (n % (c : Int)).toNat := by
  cases n with
  | ofNat a =>
    show natK (a % c) f = _
    rw [natK_eq]; congr 1
  | negSucc a =>
    show natK (c - (a % c + 1)) f = _
    rw [natK_eq]; congr 1
    have : (Int.negSucc a) % (c : Int) = Int.subNatNat c (a % c + 1) := by
      show Int.emod (Int.negSucc a) (c : Int) = _
      rfl
    rw [this, Int.subNatNat_eq_coe]
    have := Nat.mod_lt a hc
    omega

noncomputable def wrapK (k : IntKind) (n : Int) (f : Int → Bool) : Bool :=
  match k with
  | .u8 => modK 256 n fun a => f (Int.ofNat a)
  | .u16 => modK 65536 n fun a => f (Int.ofNat a)
  | .u32 => modK 4294967296 n fun a => f (Int.ofNat a)
  | .u64 => modK 18446744073709551616 n fun a => f (Int.ofNat a)
  | .i8 => modK 256 n fun a => bif Nat.blt a 128 then f (Int.ofNat a) else natK (Nat.sub 255 a) fun b => f (Int.negSucc b)
  | .i16 => modK 65536 n fun a => bif Nat.blt a 32768 then f (Int.ofNat a) else natK (Nat.sub 65535 a) fun b => f (Int.negSucc b)
  | .i32 => modK 4294967296 n fun a => bif Nat.blt a 2147483648 then f (Int.ofNat a) else natK (Nat.sub 4294967295 a) fun b => f (Int.negSucc b)
  | .i64 => modK 18446744073709551616 n fun a => bif Nat.blt a 9223372036854775808 then f (Int.ofNat a) else natK (Nat.sub 18446744073709551615 a) fun b => f (Int.negSucc b)

theorem wrap_s {c h : Nat} (hc : 0 < c) (n : Int) (f : Int → Bool) :
    (modK c n fun a => bif Nat.blt a h then f (Int.ofNat a) else natK (Nat.sub (c - 1) a) fun b => f (Int.negSucc b)) = f (if n % (c : Int) ≥ (h : Int) then n % (c : Int) - (c : Int) else n % (c : Int)) := by
  rw [modK_eq c hc]
  have h0 : 0 ≤ n % (c : Int) := Int.emod_nonneg _ (by omega)
  have h1 : n % (c : Int) < c := Int.emod_lt_of_pos _ (by omega)
  generalize n % (c : Int) = z at *
  obtain ⟨a, rfl⟩ : ∃ a : Nat, z = a := ⟨z.toNat, by omega⟩
  simp only [Int.toNat_natCast]
  cases hb : Nat.blt a h with
  | true =>
    rw [Nat.blt_eq] at hb
    rw [if_neg (by omega)]; rfl
  | false =>
    have hb' : ¬ a < h := by intro hlt; rw [← Nat.blt_eq] at hlt; rw [hlt] at hb; cases hb
    rw [if_pos (by omega)]
    simp only [cond_false]
    rw [natK_eq]; congr 1
    rw [Int.negSucc_eq]
    have : (Nat.sub (c-1) a) = c - 1 - a := rfl
    rw [this]; omega

theorem wrap_u {c : Nat} (hc : 0 < c) (n : Int) (f : Int → Bool) : (modK c n fun a => f (Int.ofNat a)) = f (n % (c : Int)) := by
  rw [modK_eq c hc]; congr 1
  have h0 : 0 ≤ n % (c : Int) := Int.emod_nonneg _ (by omega)
  simp; omega

theorem wrapK_eq (k : IntKind) (n : Int) (f : Int → Bool) : wrapK k n f = f (k.wrap n) := by
  cases k
  case u8 => exact wrap_u (c := 256) (by decide) n f
  case u16 => exact wrap_u (c := 65536) (by decide) n f
  case u32 => exact wrap_u (c := 4294967296) (by decide) n f
  case u64 => exact wrap_u (c := 18446744073709551616) (by decide) n f
  case i8 =>
    rw [show wrapK .i8 n f = _ from wrap_s (c := 256) (h := 128) (by decide) n f]
    congr 1
    simp [IntKind.wrap, IntKind.bits, IntKind.signed]
  case i16 =>
    rw [show wrapK .i16 n f = _ from wrap_s (c := 65536) (h := 32768) (by decide) n f]
    congr 1
    simp [IntKind.wrap, IntKind.bits, IntKind.signed]
  case i32 =>
    rw [show wrapK .i32 n f = _ from wrap_s (c := 4294967296) (h := 2147483648) (by decide) n f]
    congr 1
    simp [IntKind.wrap, IntKind.bits, IntKind.signed]
  case i64 =>
    rw [show wrapK .i64 n f = _ from wrap_s (c := 18446744073709551616) (h := 9223372036854775808) (by decide) n f]
    congr 1
    simp [IntKind.wrap, IntKind.bits, IntKind.signed]

/-- Two to the bits of a kind. -/
def kPow : IntKind → Nat
  | .i8 | .u8 => 256 | .i16 | .u16 => 65536 | .i32 | .u32 => 4294967296 | .i64 | .u64 => 18446744073709551616
theorem kPow_eq (k : IntKind) : kPow k = 2 ^ k.bits := by cases k <;> rfl
theorem kPow_pos (k : IntKind) : 0 < kPow k := by cases k <;> decide

noncomputable def bits2K (k : IntKind) (x y : Int) (g : Nat → Nat → Nat) (f : Int → Bool) : Bool :=
  modK (kPow k) x fun a => modK (kPow k) y fun b => natK (g a b) fun c => wrapK k (Int.ofNat c) f
theorem bits2K_eq (k : IntKind) (x y : Int) (g : Nat → Nat → Nat) (f : Int → Bool) : bits2K k x y g f = f (k.wrap (Int.ofNat (g (BitVec.ofInt k.bits x).toNat (BitVec.ofInt k.bits y).toNat))) := by
  unfold bits2K
  rw [modK_eq _ (kPow_pos k), modK_eq _ (kPow_pos k), natK_eq, wrapK_eq, BitVec.toNat_ofInt, BitVec.toNat_ofInt, kPow_eq]

def eqI : Int → Int → Bool
  | .ofNat a, .ofNat b => Nat.beq a b
  | .negSucc a, .negSucc b => Nat.beq a b
  | _, _ => false
def ltI : Int → Int → Bool
  | .ofNat a, .ofNat b => Nat.blt a b
  | .negSucc a, .negSucc b => Nat.blt b a
  | .negSucc _, .ofNat _ => true
  | .ofNat _, .negSucc _ => false
theorem nbeq (a b : Nat) : Nat.beq a b = decide (a = b) := by
  cases h : Nat.beq a b with
  | true => rw [Nat.eq_of_beq_eq_true h]; simp
  | false => simp [Nat.ne_of_beq_eq_false h]
theorem nblt (a b : Nat) : Nat.blt a b = decide (a < b) := by
  rw [Bool.eq_iff_iff, Nat.blt_eq]; simp
theorem eqI_eq (x y : Int) : eqI x y = (x == y) := by
  rw [Bool.eq_iff_iff]
  cases x <;> cases y <;> simp [eqI, nbeq] <;> omega
theorem ltI_eq (x y : Int) : ltI x y = decide (x < y) := by
  rw [Bool.eq_iff_iff]
  cases x <;> cases y <;> simp only [ltI, nblt, decide_eq_true_eq, Int.negSucc_eq, Int.ofNat_eq_natCast] <;> simp <;> omega

def lEq : List Nat → List Nat → Bool
  | [], [] => true
  | a :: l, b :: r => bif Nat.beq a b then lEq l r else false
  | _, _ => false
theorem lEq_eq : ∀ (a b : List Nat), lEq a b = decide (a = b)
  | [], [] => rfl
  | [], _ :: _ => rfl
  | _ :: _, [] => rfl
  | a :: l, b :: r => by
    simp only [lEq, nbeq, lEq_eq l r]
    by_cases h : a = b <;> simp [h]
def lLt : List Nat → List Nat → Bool
  | _, [] => false
  | [], _ :: _ => true
  | a :: l, b :: r => bif Nat.blt a b then true else bif Nat.beq a b then lLt l r else false

theorem bytes_eq {s t : ByteArray} : (s.toList == t.toList) = lEq (s.data.toList.map UInt8.toNat) (t.data.toList.map UInt8.toNat) := by
  rw [ByteArray.toList_eq, ByteArray.toList_eq, lEq_eq]
  generalize s.data.toList = a
  generalize t.data.toList = b
  rw [Bool.eq_iff_iff]
  simp only [beq_iff_eq, decide_eq_true_eq]
  constructor
  · intro h; rw [h]
  · intro h
    exact (List.map_inj_right (fun x y hxy => UInt8.toNat_inj.1 hxy)).1 h
theorem bytes_lt : ∀ (a b : List UInt8), Op.bytesLess a b = lLt (a.map UInt8.toNat) (b.map UInt8.toNat)
  | [], [] => rfl
  | _ :: _, [] => rfl
  | [], _ :: _ => rfl
  | x :: a, y :: b => by
    simp only [Op.bytesLess, List.map_cons, lLt, nblt, nbeq, bytes_lt a b]
    by_cases h1 : x < y
    · have : x.toNat < y.toNat := UInt8.lt_iff_toNat_lt.1 h1
      simp [h1, this]
    · have h1' : ¬ x.toNat < y.toNat := fun h => h1 (UInt8.lt_iff_toNat_lt.2 h)
      by_cases h2 : x = y
      · subst h2; simp [h1]
      · have : ¬ x.toNat = y.toNat := fun h => h2 (UInt8.toNat_inj.1 h)
        simp [h1, h1', h2, this]
end Go.Ev

/- Operations on values. -/
namespace Go.Ev
variable {P : Program} {σ : Nat → Value} {prot : Nat → Prop} {w0 : World} {m : BM} {mem : T AB} {next : Nat} {w : World}

/-- A pure operation: a value, the memory as it is. -/
def OutP (P : Program) (σ : Nat → Value) (m : BM) (w : World) (s : Sem Value) (k : AV → Bool) : Prop :=
  ∃ a v, k a = true ∧ VRel σ m a v ∧ s.run P w = .ok v w

theorem OutP.mk {s : Sem Value} {k : AV → Bool} {a : AV} {v : Value} (hk : k a = true) (hv : VRel σ m a v) (hs : s.run P w = .ok v w) : OutP P σ m w s k := ⟨a, v, hk, hv, hs⟩

noncomputable def intBin (op : BinOp) (k : IntKind) (x y : Int) (f : AV → Bool) : Bool :=
  match op with
  | .add => wrapK k (Int.add x y) fun n => f (.int k n)
  | .sub => wrapK k (Int.sub x y) fun n => f (.int k n)
  | .mul => wrapK k (Int.mul x y) fun n => f (.int k n)
  | .quo => bif eqI y 0 then false else wrapK k (Int.tdiv x y) fun n => f (.int k n)
  | .rem => bif eqI y 0 then false else intK (Int.tmod x y) fun n => f (.int k n)
  | .and => bits2K k x y Nat.land fun n => f (.int k n)
  | .or => bits2K k x y Nat.lor fun n => f (.int k n)
  | .xor => bits2K k x y Nat.xor fun n => f (.int k n)
  | .andNot => bits2K k x y (fun a b => Nat.land a (Nat.sub (Nat.pred (kPow k)) b)) fun n => f (.int k n)
  | .eql => boolK (eqI x y) fun b => f (.bool b)
  | .neq => boolK (eqI x y) fun b => f (.bool (!b))
  | .lss => boolK (ltI x y) fun b => f (.bool b)
  | .gtr => boolK (ltI y x) fun b => f (.bool b)
  | .leq => boolK (ltI y x) fun b => f (.bool (!b))
  | .geq => boolK (ltI x y) fun b => f (.bool (!b))
  | _ => false

theorem not_lt_dec (x y : Int) : (!decide (y < x)) = decide (x ≤ y) := by
  rw [Bool.eq_iff_iff]; simp

theorem run_binOp_int (op : BinOp) (t : Nat) (k : IntKind) (x y : Int) (hs : op ≠ .shl) (hs' : op ≠ .shr) : binOp op t (.int k x) (.int k y) =
    (match op with
    | .add | .sub | .mul => Op.intArith op k x y
    | .quo | .rem => Op.intDiv op k x y
    | .and | .or | .xor | .andNot => Op.intBits op k x y
    | _ => Op.intCmp op x y) := by
  unfold binOp
  cases op <;> first | (exact absurd rfl hs) | (exact absurd rfl hs') | simp

theorem intBin_ok {op : BinOp} {k : IntKind} {x y : Int} {t : Nat} {f : AV → Bool} (h : intBin op k x y f = true) : OutP P σ m w (binOp op t (.int k x) (.int k y)) f := by
  have hbits : ∀ (r : BitVec k.bits) (g : Nat → Nat → Nat), g (BitVec.ofInt k.bits x).toNat (BitVec.ofInt k.bits y).toNat = r.toNat →
      bits2K k x y g (fun n => f (.int k n)) = f (.int k (k.wrap r.toNat)) := by
    intro r g hg; rw [bits2K_eq, hg]; rfl
  cases op
  case add => simp only [intBin, wrapK_eq] at h; exact ⟨_, _, h, .int _ _, by rw [run_binOp_int _ _ _ _ _ (by simp) (by simp)]; simp [Op.intArith] <;> rfl⟩
  case sub => simp only [intBin, wrapK_eq] at h; exact ⟨_, _, h, .int _ _, by rw [run_binOp_int _ _ _ _ _ (by simp) (by simp)]; simp [Op.intArith] <;> rfl⟩
  case mul => simp only [intBin, wrapK_eq] at h; exact ⟨_, _, h, .int _ _, by rw [run_binOp_int _ _ _ _ _ (by simp) (by simp)]; simp [Op.intArith] <;> rfl⟩
  case quo =>
    simp only [intBin, eqI_eq] at h
    by_cases hy : y = 0
    · simp [hy] at h
    · simp only [beq_eq_false_iff_ne.2 hy, cond_false, wrapK_eq] at h
      exact ⟨_, _, h, .int _ _, by rw [run_binOp_int _ _ _ _ _ (by simp) (by simp)]; simp [Op.intDiv, hy]⟩
  case rem =>
    simp only [intBin, eqI_eq] at h
    by_cases hy : y = 0
    · simp [hy] at h
    · simp only [beq_eq_false_iff_ne.2 hy, cond_false, intK_eq] at h
      exact ⟨_, _, h, .int _ _, by rw [run_binOp_int _ _ _ _ _ (by simp) (by simp)]; simp [Op.intDiv, hy]⟩
  case and =>
    simp only [intBin] at h
    rw [hbits (BitVec.ofInt k.bits x &&& BitVec.ofInt k.bits y) Nat.land (by rw [BitVec.toNat_and]; rfl)] at h
    exact ⟨_, _, h, .int _ _, by rw [run_binOp_int _ _ _ _ _ (by simp) (by simp)]; simp only [Op.intBits, Sem.run_pure]⟩
  case or =>
    simp only [intBin] at h
    rw [hbits (BitVec.ofInt k.bits x ||| BitVec.ofInt k.bits y) Nat.lor (by rw [BitVec.toNat_or]; rfl)] at h
    exact ⟨_, _, h, .int _ _, by rw [run_binOp_int _ _ _ _ _ (by simp) (by simp)]; simp only [Op.intBits, Sem.run_pure]⟩
  case xor =>
    simp only [intBin] at h
    rw [hbits (BitVec.ofInt k.bits x ^^^ BitVec.ofInt k.bits y) Nat.xor (by rw [BitVec.toNat_xor]; rfl)] at h
    exact ⟨_, _, h, .int _ _, by rw [run_binOp_int _ _ _ _ _ (by simp) (by simp)]; simp only [Op.intBits, Sem.run_pure]⟩
  case andNot =>
    simp only [intBin] at h
    rw [hbits (BitVec.ofInt k.bits x &&& ~~~ BitVec.ofInt k.bits y) (fun a b => Nat.land a (Nat.sub (Nat.pred (kPow k)) b)) (by rw [BitVec.toNat_and, BitVec.toNat_not, kPow_eq]; rfl)] at h
    exact ⟨_, _, h, .int _ _, by rw [run_binOp_int _ _ _ _ _ (by simp) (by simp)]; simp only [Op.intBits, Sem.run_pure]⟩
  case eql => simp only [intBin, boolK_eq, eqI_eq] at h; exact ⟨_, _, h, .bool _, by rw [run_binOp_int _ _ _ _ _ (by simp) (by simp)]; simp [Op.intCmp]⟩
  case neq => simp only [intBin, boolK_eq, eqI_eq] at h; exact ⟨_, _, h, .bool _, by rw [run_binOp_int _ _ _ _ _ (by simp) (by simp)]; simp [Op.intCmp] <;> rfl⟩
  case lss => simp only [intBin, boolK_eq, ltI_eq] at h; exact ⟨_, _, h, .bool _, by rw [run_binOp_int _ _ _ _ _ (by simp) (by simp)]; simp [Op.intCmp]⟩
  case gtr => simp only [intBin, boolK_eq, ltI_eq] at h; exact ⟨_, _, h, .bool _, by rw [run_binOp_int _ _ _ _ _ (by simp) (by simp)]; simp [Op.intCmp]⟩
  case leq => simp only [intBin, boolK_eq, ltI_eq, not_lt_dec] at h; exact ⟨_, _, h, .bool _, by rw [run_binOp_int _ _ _ _ _ (by simp) (by simp)]; simp [Op.intCmp]⟩
  case geq => simp only [intBin, boolK_eq, ltI_eq, not_lt_dec] at h; exact ⟨_, _, h, .bool _, by rw [run_binOp_int _ _ _ _ _ (by simp) (by simp)]; simp [Op.intCmp]⟩
  all_goals (simp [intBin] at h)

/-- Shifts. -/
noncomputable def shiftOp (op : BinOp) (k : IntKind) (x : Int) (y : Int) (f : AV → Bool) : Bool :=
  match y with
  | .ofNat s => natK (bif Nat.ble s k.bits then s else k.bits) fun s =>
    match op with
    | .shl => wrapK k (Int.mul x (Int.ofNat (Nat.pow 2 s))) fun n => f (.int k n)
    | .shr => intK (Int.fdiv x (Int.ofNat (Nat.pow 2 s))) fun n => f (.int k n)
    | _ => false
  | .negSucc _ => false
theorem shiftOp_ok {op : BinOp} {k yk : IntKind} {x y : Int} {t : Nat} {f : AV → Bool} (h : shiftOp op k x y f = true) : OutP P σ m w (binOp op t (.int k x) (.int yk y)) f := by
  unfold shiftOp at h
  split at h
  · rename_i s
    rw [natK_eq] at h
    have hmin : (bif Nat.ble s k.bits then s else k.bits) = min s k.bits := by
      cases hb : Nat.ble s k.bits with
      | true => have := Nat.le_of_ble_eq_true hb; simp [Nat.min_eq_left this]
      | false => have : ¬ s ≤ k.bits := fun hle => by rw [Nat.ble_eq_true_of_le hle] at hb; cases hb
                 simp; omega
    have h0 : ¬ (Int.ofNat s < 0) := by simp
    have hpow : (Int.ofNat (Nat.pow 2 (min s k.bits))) = (2 : Int) ^ (min s k.bits) := by
      show ((2 ^ (min s k.bits) : Nat) : Int) = _
      simp
    rw [hmin] at h
    split at h
    · rw [wrapK_eq, hpow] at h
      refine ⟨_, _, h, .int _ _, ?_⟩
      simp only [binOp, Op.shift, h0, if_false]
      rfl
    · rw [intK_eq, hpow] at h
      refine ⟨_, _, h, .int _ _, ?_⟩
      simp only [binOp, Op.shift, h0, if_false]
      rfl
    · cases h
  · cases h

/-- Strings. -/
noncomputable def strBin (op : BinOp) (x y : List Nat) (f : AV → Bool) : Bool :=
  match op with
  | .add => bif Nat.blt (x.length + y.length) 4294967296 then f (.str (x ++ y)) else false
  | .eql => boolK (lEq x y) fun b => f (.bool b)
  | .neq => boolK (lEq x y) fun b => f (.bool (!b))
  | .lss => boolK (lLt x y) fun b => f (.bool b)
  | .leq => boolK (lLt x y || lEq x y) fun b => f (.bool b)
  | .gtr => boolK (lLt x y || lEq x y) fun b => f (.bool (!b))
  | .geq => boolK (lLt x y) fun b => f (.bool (!b))
  | _ => false
theorem strBin_ok {op : BinOp} {s u : ByteArray} {x y : List Nat} (hx : s.data.toList.map UInt8.toNat = x) (hy : u.data.toList.map UInt8.toNat = y) {t : Nat} {f : AV → Bool} (h : strBin op x y f = true) :
    OutP P σ m w (binOp op t (.string s) (.string u)) f := by
  have he : (s.toList == u.toList) = lEq x y := by rw [bytes_eq, hx, hy]
  have hl : Op.bytesLess s.toList u.toList = lLt x y := by rw [ByteArray.toList_eq, ByteArray.toList_eq, bytes_lt, hx, hy]
  have hb : ∀ op, op ≠ .shl → op ≠ .shr → binOp op t (.string s) (.string u) = Op.stringOp op s u := by
    intro op h1 h2; unfold binOp; cases op <;> first | rfl | exact absurd rfl h1 | exact absurd rfl h2
  cases op
  case add =>
    simp only [strBin] at h
    cases hlt : Nat.blt (x.length + y.length) 4294967296 with
    | false => simp [hlt] at h
    | true =>
      simp only [hlt, cond_true] at h
      refine ⟨_, .string (s ++ u), h, .str _ _ (by simp [hx, hy]), ?_⟩
      rw [hb _ (by simp) (by simp)]
      have h1 : s.size + u.size < 4294967296 := by
        rw [Nat.blt_eq] at hlt; rw [← hx, ← hy] at hlt; simpa using hlt
      have h2 : ¬ (((s.size + u.size : Nat) : Int) > IntKind.i64.max) := by
        have : IntKind.i64.max = 9223372036854775807 := by decide
        rw [this]; omega
      simp only [Op.stringOp, h2, if_false]; rfl
  case eql => simp only [strBin, boolK_eq] at h; exact ⟨_, _, h, .bool _, by rw [hb _ (by simp) (by simp)]; simp [Op.stringOp, he]⟩
  case neq => simp only [strBin, boolK_eq] at h; exact ⟨_, _, h, .bool _, by rw [hb _ (by simp) (by simp)]; simp [Op.stringOp, he]⟩
  case lss => simp only [strBin, boolK_eq] at h; exact ⟨_, _, h, .bool _, by rw [hb _ (by simp) (by simp)]; simp [Op.stringOp, hl]⟩
  case leq => simp only [strBin, boolK_eq] at h; exact ⟨_, _, h, .bool _, by rw [hb _ (by simp) (by simp)]; simp [Op.stringOp, hl, he]⟩
  case gtr => simp only [strBin, boolK_eq] at h; exact ⟨_, _, h, .bool _, by rw [hb _ (by simp) (by simp)]; simp [Op.stringOp, hl, he]⟩
  case geq => simp only [strBin, boolK_eq] at h; exact ⟨_, _, h, .bool _, by rw [hb _ (by simp) (by simp)]; simp [Op.stringOp, hl]⟩
  all_goals (simp [strBin] at h)
end Go.Ev

/- Comparisons of references; conversions; parts of values. -/
namespace Go.Ev
variable {P : Program} {σ : Nat → Value} {prot : Nat → Prop} {w0 : World} {m : BM} {mem : T AB} {next : Nat} {w : World}

def bEq : Bool → Bool → Bool
  | true, true => true
  | false, false => true
  | _, _ => false

def refEq : UD → AV → AV → Option Bool
  | .bool, .bool a, .bool b => some (bEq a b)
  | .ptr _, .nilp, .nilp => some true
  | .ptr _, .nilp, .ptr _ _ => some false
  | .ptr _, .ptr _ _, .nilp => some false
  | .slice _, .nils, .nils => some true
  | .slice _, .nils, .slice .. => some false
  | .slice _, .nils, .sliceU .. => some false
  | .slice _, .nils, .emp => some false
  | .slice _, .slice .., .nils => some false
  | .slice _, .sliceU .., .nils => some false
  | .slice _, .emp, .nils => some false
  | .map .., .nilm, .nilm => some true
  | .map .., .nilm, .map _ => some false
  | .map .., .map _, .nilm => some false
  | .func, .nilf, .nilf => some true
  | .func, .nilf, .fn .. => some false
  | .func, .nilf, .yld _ => some false
  | .func, .fn .., .nilf => some false
  | .func, .yld _, .nilf => some false
  | .iface, .nili, .iface .. => some false
  | .iface, .iface .., .nili => some false
  | _, _, _ => none

theorem refEq_ok {x : UD} {d : TypeDesc} (hd : UDRel P x d) {t : Nat} (hu : P.underlying t = some d) {a b : AV} {v u : Value} (hv : VRel σ m a v) (hb : VRel σ m b u) {r : Bool} (h : refEq x a b = some r) :
    (Op.equal t v u).run P w = .ok r w ∧ (∀ op xo yo, (eqGuard op t xo yo v u).run P w = .ok () w) ∧ (binOp .eql t v u = (do pure (.bool (← Op.equal t v u)))) ∧ (binOp .neq t v u = (do pure (.bool (!(← Op.equal t v u))))) := by
  unfold refEq at h
  have key : ∀ d, P.underlying t = some d → (Op.equal t v u) = (Op.equalIn (9999+1) t v u) := fun _ _ => rfl
  split at h <;> first
    | (cases h; done)
    | (injection h with h; subst h
       simp only [UDRel] at hd
       try (subst hd)
       try (obtain ⟨_, _, _, rfl⟩ := hd)
       try (obtain ⟨_, rfl⟩ := hd)
       cases hv; cases hb
       refine ⟨?_, ?_, ?_, ?_⟩
       · rw [key _ hu, Op.equalIn]; simp only [Sem.run_bind, run_und hu, Result.andThen_ok]; first | rfl | (simp [bEq]; done) | (rename_i p q; cases p <;> cases q <;> rfl)
       · intro op xo yo; unfold eqGuard; cases op <;> first | rfl | (simp; done)
       · simp only [binOp]
       · simp only [binOp])

/-- Comparisons with a number of which only bounds are known. -/
def cmpB (op : BinOp) (lo hi lo' hi' : Int) : Option Bool :=
  match op with
  | .lss => bif ltI hi lo' then some true else bif ltI lo hi' then none else some false
  | .geq => bif ltI hi lo' then some false else bif ltI lo hi' then none else some true
  | .gtr => bif ltI hi' lo then some true else bif ltI lo' hi then none else some false
  | .leq => bif ltI hi' lo then some false else bif ltI lo' hi then none else some true
  | .eql => bif ltI hi lo' then some false else bif ltI hi' lo then some false else none
  | .neq => bif ltI hi lo' then some true else bif ltI hi' lo then some true else none
  | _ => none
theorem cmpB_ok {op : BinOp} {lo hi lo' hi' x y : Int} {r : Bool} (h : cmpB op lo hi lo' hi' = some r) (h1 : lo ≤ x) (h2 : x ≤ hi) (h3 : lo' ≤ y) (h4 : y ≤ hi') (k : IntKind) (t : Nat) :
    (binOp op t (.int k x) (.int k y)).run P w = .ok (.bool r) w := by
  unfold cmpB at h
  simp only [ltI_eq] at h
  rw [run_binOp_int]
  · split at h <;> simp only [Op.intCmp, Sem.run_pure] <;> first
      | (cases hc : decide (hi < lo') <;> simp only [hc, cond_true, cond_false] at h <;> (first | (injection h with h; subst h; simp at hc; congr 2; simp; omega; done) | (cases hc2 : decide (lo < hi') <;> simp only [hc2, cond_true, cond_false] at h <;> first | (cases h; done) | (injection h with h; subst h; simp at hc hc2; congr 2; simp; omega; done)) | (cases hc2 : decide (hi' < lo) <;> simp only [hc2, cond_true, cond_false] at h <;> first | (cases h; done) | (injection h with h; subst h; simp at hc hc2; congr 2; simp; omega; done))))
      | (cases hc : decide (hi' < lo) <;> simp only [hc, cond_true, cond_false] at h <;> (first | (injection h with h; subst h; simp at hc; congr 2; simp; omega; done) | (cases hc2 : decide (lo' < hi) <;> simp only [hc2, cond_true, cond_false] at h <;> first | (cases h; done) | (injection h with h; subst h; simp at hc hc2; congr 2; simp; omega; done))))
      | (cases h; done)
  · rintro rfl; simp at h
  · rintro rfl; simp at h
end Go.Ev

/- The operations that leave memory alone, put together. -/
namespace Go.Ev
variable {P : Program} {σ : Nat → Value} {prot : Nat → Prop} {w0 : World} {m : BM} {mem : T AB} {next : Nat} {w : World}

def isConstO : Operand → Bool
  | .const _ => true
  | _ => false

noncomputable def opBin (ti : T TI) (op : BinOp) (t : Nat) (xo yo : Operand) (a b : AV) (f : AV → Bool) : Bool :=
  match a, b with
  | .int k x, .int k' y => match op with
    | .shl => shiftOp .shl k x y f
    | .shr => shiftOp .shr k x y f
    | op => bif kEq k k' then intBin op k x y f else false
  | .str x, .str y => strBin op x y f
  | .int k x, .intB k' lo hi => bif kEq k k' then (match cmpB op x x lo hi with | some r => f (.bool r) | none => false) else false
  | .intB k lo hi, .int k' y => bif kEq k k' then (match cmpB op lo hi y y with | some r => f (.bool r) | none => false) else false
  | .nili, .nili => bif isConstO xo || isConstO yo then (match op, ti.get t with
      | .eql, some ⟨.iface, _, _, _⟩ => f (.bool true)
      | .neq, some ⟨.iface, _, _, _⟩ => f (.bool false)
      | _, _ => false) else false
  | a, b => match op, ti.get t with
    | .eql, some x => (match refEq x.ud a b with | some r => f (.bool r) | none => false)
    | .neq, some x => (match refEq x.ud a b with | some r => f (.bool (!r)) | none => false)
    | _, _ => false

theorem eqGuard_int (op : BinOp) (t : Nat) (xo yo : Operand) (k k' : IntKind) (x y : Int) : (eqGuard op t xo yo (.int k x) (.int k' y)).run P w = .ok () w := by
  unfold eqGuard; cases op <;> rfl
theorem eqGuard_str (op : BinOp) (t : Nat) (xo yo : Operand) (x y : ByteArray) : (eqGuard op t xo yo (.string x) (.string y)).run P w = .ok () w := by
  unfold eqGuard; cases op <;> rfl

theorem opBin_ref {ti : T TI} (hti : TIOk P ti) {op : BinOp} {t : Nat} {xo yo : Operand} {a b : AV} {v u : Value} (hv : VRel σ m a v) (hu : VRel σ m b u) {f : AV → Bool}
    (h : (match op, ti.get t with
    | .eql, some x => (match refEq x.ud a b with | some r => f (.bool r) | none => false)
    | .neq, some x => (match refEq x.ud a b with | some r => f (.bool (!r)) | none => false)
    | _, _ => false) = true) :
    OutP P σ m w (do eqGuard op t xo yo v u; binOp op t v u) f := by
  split at h
  · rename_i x hx
    obtain ⟨i, d, z, hz⟩ := hti t x hx
    split at h
    · rename_i r hr
      obtain ⟨h1, h2, h3, h4⟩ := refEq_ok (w := w) hz.ud hz.und hv hu hr
      exact ⟨_, _, h, .bool _, by simp [h1, h2, h3]⟩
    · cases h
  · rename_i x hx
    obtain ⟨i, d, z, hz⟩ := hti t x hx
    split at h
    · rename_i r hr
      obtain ⟨h1, h2, h3, h4⟩ := refEq_ok (w := w) hz.ud hz.und hv hu hr
      exact ⟨_, _, h, .bool _, by simp [h1, h2, h4]⟩
    · cases h
  · cases h

theorem opBin_ok {ti : T TI} (hti : TIOk P ti) {op : BinOp} {t : Nat} {xo yo : Operand} {a b : AV} {v u : Value} (hv : VRel σ m a v) (hu : VRel σ m b u) {f : AV → Bool} (h : opBin ti op t xo yo a b f = true) :
    OutP P σ m w (do eqGuard op t xo yo v u; binOp op t v u) f := by
  have guard : ∀ {f : AV → Bool}, (eqGuard op t xo yo v u).run P w = .ok () w → OutP P σ m w (binOp op t v u) f → OutP P σ m w (do eqGuard op t xo yo v u; binOp op t v u) f := by
    intro f hg ⟨a, v', h1, h2, h3⟩
    exact ⟨a, v', h1, h2, by simp [hg, h3]⟩
  unfold opBin at h
  split at h
  · rename_i k x k' y
    cases hv; cases hu
    refine guard (eqGuard_int ..) ?_
    split at h
    · exact shiftOp_ok h
    · exact shiftOp_ok h
    · cases hk : kEq k k' with
      | false => simp [hk] at h
      | true =>
        rw [hk, cond_true] at h
        rw [← kEq_eq hk]
        exact intBin_ok h
  · cases hv with | str _ s hs => cases hu with | str _ s' hs' => exact guard (eqGuard_str ..) (strBin_ok hs hs' h)
  · rename_i k x k' lo hi
    cases hv; cases hu with
    | intB _ _ _ n h1 h2 =>
      cases hk : kEq k k' with
      | false => simp [hk] at h
      | true =>
        rw [hk, cond_true] at h
        split at h
        · rename_i r hr
          refine guard (eqGuard_int ..) ⟨_, _, h, .bool _, ?_⟩
          rw [← kEq_eq hk]
          exact cmpB_ok hr (Int.le_refl _) (Int.le_refl _) h1 h2 k t
        · cases h
  · rename_i k lo hi k' y
    cases hu; cases hv with
    | intB _ _ _ n h1 h2 =>
      cases hk : kEq k k' with
      | false => simp [hk] at h
      | true =>
        rw [hk, cond_true] at h
        split at h
        · rename_i r hr
          refine guard (eqGuard_int ..) ⟨_, _, h, .bool _, ?_⟩
          rw [← kEq_eq hk]
          exact cmpB_ok hr h1 h2 (Int.le_refl _) (Int.le_refl _) k t
        · cases h
  · cases hv; cases hu
    cases hc : (isConstO xo || isConstO yo) with
    | false => simp [hc] at h
    | true =>
      simp only [hc, cond_true] at h
      have hg : (eqGuard op t xo yo .nilIface .nilIface).run P w = .ok () w := by
        unfold eqGuard
        cases op <;> first | rfl | (cases xo <;> cases yo <;> first | rfl | (simp [isConstO] at hc; done))
      split at h
      · rename_i x hx
        obtain ⟨i, d, z, hz⟩ := hti t _ hx
        obtain ⟨ms, hms⟩ : ∃ ms, d = .interface ms := hz.ud
        subst hms
        refine guard hg ⟨_, _, h, .bool _, ?_⟩
        simp only [binOp]
        have hq : (Op.equal t .nilIface .nilIface).run P w = .ok true w := by
          rw [show Op.equal t .nilIface .nilIface = Op.equalIn (9999+1) t .nilIface .nilIface from rfl, Op.equalIn]
          simp only [Sem.run_bind, run_und hz.und, Result.andThen_ok]; rfl
        simp [hq]
      · rename_i x hx
        obtain ⟨i, d, z, hz⟩ := hti t _ hx
        obtain ⟨ms, hms⟩ : ∃ ms, d = .interface ms := hz.ud
        subst hms
        refine guard hg ⟨_, _, h, .bool _, ?_⟩
        simp only [binOp]
        have hq : (Op.equal t .nilIface .nilIface).run P w = .ok true w := by
          rw [show Op.equal t .nilIface .nilIface = Op.equalIn (9999+1) t .nilIface .nilIface from rfl, Op.equalIn]
          simp only [Sem.run_bind, run_und hz.und, Result.andThen_ok]; rfl
        simp [hq]
      · cases h
  · exact opBin_ref hti hv hu h

/-! ### unary -/
noncomputable def opUn (op : UnOp) (a : AV) (f : AV → Bool) : Bool :=
  match op, a with
  | .neg, .int k n => wrapK k (Int.sub 0 n) fun n => f (.int k n)
  | .xor, .int k n => bits2K k (bif k.signed then -1 else k.max) n Nat.xor fun n => f (.int k n)
  | .not, .bool b => boolK b fun b => f (.bool (!b))
  | _, _ => false
theorem opUn_ok {op : UnOp} {a : AV} {v : Value} (hv : VRel σ m a v) {f : AV → Bool} (h : opUn op a f = true) : OutP P σ m w (Op.unary op v) f := by
  unfold opUn at h
  split at h
  · cases hv
    rw [wrapK_eq] at h
    exact ⟨_, _, h, .int _ _, by simp only [Op.unary, Op.intArith]; rfl⟩
  · cases hv
    rename_i k n
    rw [bits2K_eq] at h
    refine ⟨_, _, h, .int _ _, ?_⟩
    have e : (bif k.signed then (-1 : Int) else k.max) = (if k.signed then -1 else k.max) := by cases k.signed <;> rfl
    simp only [Op.unary, Op.intBits, Sem.run_pure, e]
    congr 3
  · cases hv
    rw [boolK_eq] at h
    exact ⟨_, _, h, .bool _, by simp [Op.unary]⟩
  · cases h

/-! ### conversions -/
noncomputable def byte1 (a : AV) (k : Nat → Bool) : Bool :=
  match a with
  | .int .u8 (.ofNat n) => natK (Nat.mod n 256) k
  | _ => false
noncomputable def bytesL (l : List AV) : (List Nat → Bool) → Bool :=
  List.rec (motive := fun _ => (List Nat → Bool) → Bool) (fun k => k []) (fun a _ ih k => byte1 a fun n => ih fun l => k (n :: l)) l
theorem bytesL_ok {l : List AV} {vs : List Value} (h : LRel σ m l vs) : ∀ {k : List Nat → Bool}, bytesL l k = true → ∃ ns : List Int, vs = ns.map (Value.int .u8) ∧ k (ns.map fun n => n.toNat % 256) = true := by
  induction l generalizing vs with
  | nil => intro k hk; cases h; exact ⟨[], rfl, hk⟩
  | cons a l ih =>
    intro k hk
    cases h with
    | cons _ v _ vs hv ht =>
      change byte1 a (fun n => bytesL l fun l => k (n :: l)) = true at hk
      unfold byte1 at hk
      split at hk
      · rename_i n
        rw [natK_eq] at hk
        obtain ⟨ns, h1, h2⟩ := ih ht hk
        cases hv
        exact ⟨(n : Int) :: ns, by simp [h1], h2⟩
      · cases hk

theorem push_data (ns : List Int) (s : ByteArray) : (ns.foldl (fun r n => r.push (UInt8.ofNat n.toNat)) s).data.toList.map UInt8.toNat = s.data.toList.map UInt8.toNat ++ ns.map fun n => n.toNat % 256 := by
  induction ns generalizing s with
  | nil => simp
  | cons n ns ih => simp [List.foldl_cons, ih]

noncomputable def opConv (ti : T TI) (src dst : Nat) (a : AV) (mem : T AB) (next : Nat) (k : AV → T AB → Nat → Bool) : Bool :=
  match ti.get src, ti.get dst with
  | some xs, some xd => match a, xd.ud with
    | .int _ n, .int kd => wrapK kd n fun n => k (.int kd n) mem next
    | .str l, .str => k (.str l) mem next
    | .str l, .slice e => (match ti.get e with
      | some ⟨.int .u8, _, _, _⟩ => natK l.length fun n => stK (l.map fun b => .int .u8 (Int.ofNat b)) .e 0 fun c => mem.set next (.row e n c [] 1 0) fun mem => k (.sliceU next 0 0 n) mem (Nat.succ next)
      | _ => false)
    | .slice b off len cap, .slice e => (match ti.get e with
      | some ⟨.int .u8, _, _, _⟩ => bif Nat.beq src dst && markOk (mem.get b) then k (.slice b off len cap) mem next else false
      | _ => false)
    | .sliceU b off koff len, .slice e => (match ti.get e with
      | some ⟨.int .u8, _, _, _⟩ => bif Nat.beq src dst && markOk (mem.get b) then k (.sliceU b off koff len) mem next else false
      | _ => false)
    | a, .str => (match xs.ud with
      | .slice e => (match ti.get e with
        | some ⟨.int .u8, _, _, _⟩ => (match a with
          | .nils => k (.str []) mem next
          | .slice b off len _ => (match mem.get b with
            | some (.row _ n cells dz _ _) => bif Nat.ble (off + len) n then ldK cells dz len off fun l => bytesL l fun l => k (.str l) mem next else false
            | _ => false)
          | .sliceU b off _ len => (match mem.get b with
            | some (.row _ n cells dz _ _) => bif Nat.ble (off + len) n then ldK cells dz len off fun l => bytesL l fun l => k (.str l) mem next else false
            | _ => false)
          | _ => false)
        | _ => false)
      | _ => false)
    | _, _ => false
  | _, _ => false

theorem convBytes (h : Rel σ prot w0 m mem next w) {src dst e : Nat} (hs : P.underlying src = some (.slice e)) (he : P.underlying e = some (.int .u8)) (hd : P.underlying dst = some .string)
    {b en n : Nat} {cells : T AV} {dz : List AV} {grow ro r c : Nat} (hb : mem.get b = some (.row en n cells dz grow ro)) (hm : m b = some (r, c)) {off len cap : Nat} {k : AV → T AB → Nat → Bool}
    (hk : (bif Nat.ble (off + len) n then ldK cells dz len off fun l => bytesL l fun l => k (.str l) mem next else false) = true) :
    Out P σ prot w0 m next w (convert src dst (.slice (some ⟨r, off, none⟩) len cap)) k := by
  cases hle : Nat.ble (off + len) n with
  | false => simp [hle] at hk
  | true =>
    simp only [hle, cond_true] at hk
    rw [ldK_eq] at hk
    obtain ⟨vs, h1, h2, h3⟩ := h.loadCells_ok (P := P) hb hm len off (Nat.le_of_ble_eq_true hle)
    obtain ⟨ns, rfl, h5⟩ := bytesL_ok h2 hk
    refine Out.pure (v := .string (ns.foldl (fun r n => r.push (UInt8.ofNat n.toNat)) ByteArray.empty)) h h5 (.str _ _ ?_) ?_
    · rw [push_data]; rfl
    · rw [run_convert_bytes_string w src dst e _ _ _ hs he hd]
      exact run_bytesToString w _ len cap ns (by rw [h3])

theorem bytesRel (s : List UInt8) : LRel σ m ((s.map UInt8.toNat).map fun b => AV.int .u8 (Int.ofNat b)) (s.map fun b => Value.int .u8 b.toNat) := by
  induction s with
  | nil => exact .nil
  | cons b s ih => exact .cons _ _ _ _ (.int _ _) ih

/-- A row with spare room behind what is known. -/
theorem rowRel_spare {l : List AV} {vs : List Value} (h : LRel σ m l vs) (dz : List AV) (g : Nat) (hg : g ≠ 0) (c : Nat) (rest : List Value) (hc : (vs ++ rest).length = c * g) (f : Nat × Nat) (hf : ∀ i, i < (vs ++ rest).length → (f.1 ≤ i && i < f.2) = false) (hf2 : f.1 ≤ f.2 := by simp) :
    RowRel σ m l.length (ofL l) dz g 0 c ⟨vs ++ rest⟩ f := by
  refine ⟨by simp [h.length], fun h0 => absurd h0 hg, fun _ => by simpa using hc, ?_, fun i _ hi => hf i (by simpa using hi), fun _ => hf2⟩
  intro i hi
  unfold ofL
  rw [cellOf_stT, dif_pos (by omega)]
  obtain ⟨v, hv, hr⟩ := h.get i (l[i - 0]'(by omega)) (by simp)
  refine ⟨v, ?_, hr⟩
  have hv' : i < vs.length := (List.getElem?_eq_some_iff.1 hv).1
  simp [List.getElem?_append_left hv', hv]

theorem shape_new (W : World) (C : Array Value) (e : Nat) : (W.alloc (.cells C e)).shape? W.heap.size = some (e, C.size) := by
  have h : (W.alloc (.cells C e)).heap[W.heap.size]? = some (.cells C e) := by show (W.heap.push _)[W.heap.size]? = _; simp
  unfold World.shape?; rw [h]

theorem convSame (h : Rel σ prot w0 m mem next w) {src dst e : Nat} (he : src = dst) (hd : P.underlying dst = some (.slice e)) (hu : P.underlying e = some (.int .u8)) {b r c : Nat} (hk : markOk (mem.get b) = true) (hm : m b = some (r, c)) {off len cap : Nat} {a : AV} {k : AV → T AB → Nat → Bool} (hk' : k a mem next = true) (ha : VRel σ m a (.slice (some ⟨r, off, none⟩) len cap)) :
    Out P σ prot w0 m next w (convert src dst (.slice (some ⟨r, off, none⟩) len cap)) k := by
  obtain ⟨w', h1, h2, _⟩ := h.mark P hk hm off
  refine ⟨a, mem, next, m, w', _, hk', Nat.le_refl _, BM.ext_refl _ _ _, h2, ha, ?_⟩
  subst he
  simp [convert, run_und hd, run_und hu, h1]

theorem opConv_ok {ti : T TI} (hti : TIOk P ti) (h : Rel σ prot w0 m mem next w) {src dst : Nat} {a : AV} {v : Value} (hv : VRel σ m a v) {k : AV → T AB → Nat → Bool} (hk : opConv ti src dst a mem next k = true) :
    Out P σ prot w0 m next w (convert src dst v) k := by
  unfold opConv at hk
  split at hk
  · rename_i xs xd hxs hxd
    obtain ⟨i1, d1, z1, hz1⟩ := hti src xs hxs
    obtain ⟨i2, d2, z2, hz2⟩ := hti dst xd hxd
    have u1 := hz1.und
    have u2 := hz2.und
    have r2 := hz2.ud
    have r1 := hz1.ud
    split at hk
    · rename_i kk n kd hud
      cases hv
      rw [wrapK_eq] at hk
      rw [hud] at r2; simp only [UDRel] at r2; subst r2
      exact Out.pure h hk (.int _ _) (by simp [convert, run_und u1, run_und u2, Conv.intToInt])
    · rename_i l hud
      cases hv with
      | str _ s hs =>
        rw [hud] at r2; simp only [UDRel] at r2; subst r2
        exact Out.pure h hk (.str _ _ hs) (by simp [convert, run_und u1, run_und u2])
    · rename_i l e hud
      cases hv with
      | str _ s hs =>
        rw [hud] at r2; simp only [UDRel] at r2; subst r2
        split at hk
        · rename_i sz by' zr hxe
          obtain ⟨i3, d3, z3, hz3⟩ := hti e _ hxe
          have u3 := hz3.und
          have r3 := hz3.ud; simp only [UDRel] at r3; subst r3
          rw [natK_eq, stK_eq, T.set_eq] at hk
          have hd := h.drew
          obtain ⟨cap, hcap⟩ : ∃ cap, cap = (Question.appendCap s.size 0 e).cut (w.tape w.drawn (Question.appendCap s.size 0 e)) := ⟨_, rfl⟩
          have hle : s.size ≤ cap := by rw [hcap]; simp [Question.cut]
          have hlen : l.length = s.size := by rw [← hs]; simp
          have hrest : (s.data.toList.map fun b => Value.int .u8 b.toNat).length + (cap - s.size) = cap := by simp; omega
          have hn : (fun x => if x = next then some (w.drew.heap.size, cap) else m x) next = some (w.drew.heap.size, cap) := by simp
          have hB : ∀ m' : BM, BRel σ m' (.row e l.length (stT .e 0 (l.map fun b => .int .u8 (Int.ofNat b))) [] 1 0) cap (some (.cells (⟨(s.data.toList.map fun b => Value.int .u8 b.toNat) ++ List.replicate (cap - s.size) (.int .u8 0)⟩ : Array Value) e (cap, cap + 1))) := by
            intro m'
            refine ⟨_, _, rfl, ?_⟩
            have := rowRel_spare (σ := σ) (m := m') (bytesRel s.data.toList) [] 1 (by decide) cap (List.replicate (cap - s.size) (.int .u8 0)) (by simp; omega) (cap, cap+1) (by
              intro i hi; simp at hi; simp; omega)
            rw [← hs]
            simpa [ofL] using this
          obtain ⟨hle', hR⟩ := hd.alloc _ cap _ (hB _)
          refine ⟨_, _, _, _, _, .slice (some ⟨w.heap.size, 0, none⟩) s.size cap, hk, Nat.le_succ _, ext_new hd cap, hR, ?_, ?_⟩
          · have := VRel.sliceU (σ := σ) (m := fun x => if x = next then some (w.drew.heap.size, cap) else m x) next 0 0 l.length w.drew.heap.size cap hn
            rw [hlen] at this ⊢; exact this
          · have hfz : ∀ (c : Array Value), (World.freeze (w.drew.alloc (.cells c e)) ⟨w.heap.size, c.size, none⟩ 1) = w.drew.alloc (.cells c e (c.size, c.size + 1)) := by
              intro c
              unfold World.freeze World.alloc
              simp only [World.drew, show ¬ (1 = 0) from by decide, if_false]
              congr 1
              apply Array.ext_getElem?
              intro i
              rw [Array.getElem?_modify]
              simp only [Array.getElem?_push]
              by_cases hi : i = w.heap.size
              · subst hi; simp
              · have : ¬ w.heap.size = i := fun e => hi e.symm
                simp [hi, this]
            have hq : (Question.appendCap s.size 0 e).forced = false := rfl
            simp only [convert, Sem.run_bind, run_und u1, run_und u2, run_und u3, Result.andThen_ok, Conv.stringToBytes, run_choose, hq, Bool.false_eq_true, if_false, World.drew_eq, ← hcap]
            have hsz : ((Array.map (fun b => Value.int .u8 (b.toNat : Int)) s.data) ++ Array.replicate (cap - s.size) (Value.int .u8 0)).size = cap := by simp; omega
            simp only [newRow, markStringish, Sem.run_bind, run_newObj, World.alloc_eq, Result.andThen_ok, Sem.run_pure, run_shape]
            have hsh : (w.drew.alloc (.cells ((Array.map (fun b => Value.int .u8 (b.toNat : Int)) s.data) ++ Array.replicate (cap - s.size) (Value.int .u8 0)) e)).shape? w.drew.heap.size = some (e, cap) := by
              rw [shape_new, hsz]
            simp only [hsh, run_freeze, Result.andThen_ok]
            have := hfz ((Array.map (fun b => Value.int .u8 (b.toNat : Int)) s.data) ++ Array.replicate (cap - s.size) (Value.int .u8 0))
            rw [hsz] at this
            simp only [World.size_drew] at *
            have harr : (⟨(s.data.toList.map fun b => Value.int .u8 b.toNat) ++ List.replicate (cap - s.size) (.int .u8 0)⟩ : Array Value) = (Array.map (fun b => Value.int .u8 (b.toNat : Int)) s.data) ++ Array.replicate (cap - s.size) (Value.int .u8 0) := by
              apply Array.ext'; simp
            rw [this, harr]
        · cases hk
    · rename_i b off len cap e hud
      cases hv with
      | slice _ _ _ _ r c hm =>
        rw [hud] at r2; simp only [UDRel] at r2; subst r2
        split at hk
        · rename_i sz by' zr hxe
          obtain ⟨i3, d3, z3, hz3⟩ := hti e _ hxe
          have r3 := hz3.ud; simp only [UDRel] at r3; subst r3
          cases hc : (Nat.beq src dst && markOk (mem.get b)) with
          | false => rw [hc] at hk; cases hk
          | true =>
            rw [hc, cond_true] at hk
            simp only [Bool.and_eq_true] at hc
            exact convSame h (Nat.eq_of_beq_eq_true hc.1) u2 hz3.und hc.2 hm hk (.slice _ _ _ _ _ _ hm)
        · cases hk
    · rename_i b off koff len e hud
      cases hv with
      | sliceU _ _ _ _ r c hm =>
        rw [hud] at r2; simp only [UDRel] at r2; subst r2
        split at hk
        · rename_i sz by' zr hxe
          obtain ⟨i3, d3, z3, hz3⟩ := hti e _ hxe
          have r3 := hz3.ud; simp only [UDRel] at r3; subst r3
          cases hc : (Nat.beq src dst && markOk (mem.get b)) with
          | false => rw [hc] at hk; cases hk
          | true =>
            rw [hc, cond_true] at hk
            simp only [Bool.and_eq_true] at hc
            exact convSame h (Nat.eq_of_beq_eq_true hc.1) u2 hz3.und hc.2 hm hk (.sliceU _ _ _ _ _ _ hm)
        · cases hk
    · rename_i hud
      rw [hud] at r2; simp only [UDRel] at r2; subst r2
      split at hk
      · rename_i e hxs'
        rw [hxs'] at r1; simp only [UDRel] at r1; subst r1
        split at hk
        · rename_i sz by' zr hxe
          obtain ⟨i3, d3, z3, hz3⟩ := hti e _ hxe
          have u3 := hz3.und
          have r3 := hz3.ud; simp only [UDRel] at r3; subst r3
          split at hk
          · cases hv
            refine Out.pure (v := .string .empty) h hk (.str _ _ rfl) ?_
            rw [run_convert_bytes_string w src dst e _ _ _ u1 u3 u2]
            simp [Conv.bytesToString]
          · rename_i b off len cap
            cases hv with
            | slice _ _ _ _ r c hm =>
              split at hk
              · rename_i hb; exact convBytes h u1 u3 u2 hb hm hk
              · cases hk
          · rename_i b off koff len
            cases hv with
            | sliceU _ _ _ _ r c hm =>
              split at hk
              · rename_i hb; exact convBytes h u1 u3 u2 hb hm hk
              · cases hk
          · cases hk
        · cases hk
      · cases hk
    · cases hk
  · cases hk
end Go.Ev

