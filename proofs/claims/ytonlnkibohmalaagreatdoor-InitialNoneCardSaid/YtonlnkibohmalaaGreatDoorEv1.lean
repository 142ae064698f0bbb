/- A part of the evaluator that the proof of InitialNone leans on: definitions and their soundness over the kit's laws; no condition. -/
import Derived.Calls
import Derived.Below
import Derived.Laws.World
import Derived.Laws.Sem
import Derived.Laws.Cells
set_option linter.unusedVariables false
set_option linter.unusedSimpArgs false
/- Abstract values, tries and the relation between an abstract memory and a world. -/
namespace Go.Ev

/-! ### tries -/
inductive T (α : Type) where
  | e : T α
  | n (l : T α) (v : Option α) (r : T α) : T α

noncomputable def T.get {α : Type} (t : T α) : Nat → Option α :=
  T.rec (motive := fun _ => Nat → Option α) (fun _ => none)
    (fun _ v _ gl gr i => Nat.rec v (fun i' _ => Bool.rec (gr (Nat.div i' 2)) (gl (Nat.div i' 2)) (Nat.beq (Nat.mod i' 2) 0)) i) t

noncomputable def T.putK {α β : Type} (f : Nat) : T α → Nat → α → (T α → β) → β :=
  Nat.rec (motive := fun _ => T α → Nat → α → (T α → β) → β) (fun t _ _ k => k t)
   (fun _ ih t i a k => T.rec (motive := fun _ => β)
      (Nat.rec (k (.n .e (some a) .e)) (fun i' _ => Bool.rec (ih .e (Nat.div i' 2) a fun r => k (.n .e none r)) (ih .e (Nat.div i' 2) a fun l => k (.n l none .e)) (Nat.beq (Nat.mod i' 2) 0)) i)
      (fun l v r _ _ => Nat.rec (k (.n l (some a) r)) (fun i' _ => Bool.rec (ih r (Nat.div i' 2) a fun r => k (.n l v r)) (ih l (Nat.div i' 2) a fun l => k (.n l v r)) (Nat.beq (Nat.mod i' 2) 0)) i) t) f

noncomputable def T.set {α β : Type} (t : T α) (i : Nat) (a : α) (k : T α → β) : β := T.putK (Nat.succ i) t i a k
noncomputable def T.upd {α : Type} (t : T α) (i : Nat) (a : α) : T α := T.set t i a id

theorem T.get_e {α : Type} (i : Nat) : (T.e : T α).get i = none := rfl
theorem T.get_n0 {α : Type} (l r : T α) (v : Option α) : (T.n l v r).get 0 = v := rfl
theorem T.get_ns {α : Type} (l r : T α) (v : Option α) (i : Nat) : (T.n l v r).get (i+1) = if i % 2 = 0 then l.get (i/2) else r.get (i/2) := by
  show (Bool.rec (r.get (i/2)) (l.get (i/2)) (Nat.beq (i % 2) 0) : Option α) = _
  by_cases h : i % 2 = 0
  · rw [if_pos h]
    have : Nat.beq (i % 2) 0 = true := by rw [h]; rfl
    rw [this]
  · rw [if_neg h]
    have : Nat.beq (i % 2) 0 = false := by
      cases hb : Nat.beq (i % 2) 0 with
      | false => rfl
      | true => exact absurd (Nat.eq_of_beq_eq_true hb) h
    rw [this]

theorem T.putK_succ {α β : Type} (f : Nat) (t : T α) (i : Nat) (a : α) (k : T α → β) : T.putK (f+1) t i a k =
    match t, i with
    | .e, 0 => k (.n .e (some a) .e)
    | .n l _ r, 0 => k (.n l (some a) r)
    | .e, i+1 => if i % 2 = 0 then T.putK f .e (i/2) a fun l => k (.n l none .e) else T.putK f .e (i/2) a fun r => k (.n .e none r)
    | .n l v r, i+1 => if i % 2 = 0 then T.putK f l (i/2) a fun l => k (.n l v r) else T.putK f r (i/2) a fun r => k (.n l v r) := by
  cases t with
  | e =>
    cases i with
    | zero => rfl
    | succ i =>
      show (Bool.rec (T.putK f .e (i/2) a fun r => k (.n .e none r)) (T.putK f .e (i/2) a fun l => k (.n l none .e)) (Nat.beq (i % 2) 0) : β) = _
      by_cases h : i % 2 = 0
      · have hb : Nat.beq (i % 2) 0 = true := by rw [h]; rfl
        rw [hb]; simp only [h, if_true]
      · have hb : Nat.beq (i % 2) 0 = false := by
          cases hb : Nat.beq (i % 2) 0 with
          | false => rfl
          | true => exact absurd (Nat.eq_of_beq_eq_true hb) h
        rw [hb]; simp only [h, if_false]
  | n l v r =>
    cases i with
    | zero => rfl
    | succ i =>
      show (Bool.rec (T.putK f r (i/2) a fun r => k (.n l v r)) (T.putK f l (i/2) a fun l => k (.n l v r)) (Nat.beq (i % 2) 0) : β) = _
      by_cases h : i % 2 = 0
      · have hb : Nat.beq (i % 2) 0 = true := by rw [h]; rfl
        rw [hb]; simp only [h, if_true]
      · have hb : Nat.beq (i % 2) 0 = false := by
          cases hb : Nat.beq (i % 2) 0 with
          | false => rfl
          | true => exact absurd (Nat.eq_of_beq_eq_true hb) h
        rw [hb]; simp only [h, if_false]

theorem T.putK_eq {α : Type} (f : Nat) : ∀ {β : Type} (t : T α) (i : Nat) (a : α) (k : T α → β), T.putK f t i a k = k (T.putK f t i a id) := by
  induction f with
  | zero => intro β t i a k; rfl
  | succ f ih =>
    intro β t i a k
    rw [T.putK_succ, T.putK_succ]
    cases t with
    | e =>
      cases i with
      | zero => rfl
      | succ i =>
        dsimp only
        by_cases h : i % 2 = 0
        · simp only [h, if_true]; rw [ih .e (i/2) a (fun l => k (T.n l none .e)), ih .e (i/2) a (fun l => id (T.n l none T.e))]; rfl
        · simp only [h, if_false]; rw [ih .e (i/2) a (fun l => k (T.n .e none l)), ih .e (i/2) a (fun l => id (T.n T.e none l))]; rfl
    | n l v r =>
      cases i with
      | zero => rfl
      | succ i =>
        dsimp only
        by_cases h : i % 2 = 0
        · simp only [h, if_true]; rw [ih l (i/2) a (fun l => k (T.n l v r)), ih l (i/2) a (fun l => id (T.n l v r))]; rfl
        · simp only [h, if_false]; rw [ih r (i/2) a (fun r => k (T.n l v r)), ih r (i/2) a (fun r => id (T.n l v r))]; rfl

theorem T.get_putK {α : Type} (f : Nat) : ∀ (t : T α) (i : Nat) (a : α) (j : Nat), i < f → (T.putK f t i a id).get j = if j = i then some a else t.get j := by
  induction f with
  | zero => intro t i a j h; omega
  | succ f ih =>
    intro t i a j h
    rw [T.putK_succ]
    cases t with
    | e =>
      cases i with
      | zero =>
        dsimp only [id]
        cases j with
        | zero => rfl
        | succ j => rw [T.get_ns]; simp [T.get_e]
      | succ i =>
        dsimp only
        have hi : i / 2 < f := by omega
        by_cases hm : i % 2 = 0
        · simp only [hm, if_true]; rw [T.putK_eq]
          cases j with
          | zero => simp [T.get_n0, T.get_e]
          | succ j =>
            simp only [id]
            rw [T.get_ns]
            by_cases hj : j % 2 = 0
            · simp only [hj, if_true]; rw [ih _ _ _ _ hi]
              by_cases hij : j / 2 = i / 2
              · have : j = i := by omega
                subst this; simp
              · have : ¬ j = i := fun h => hij (by rw [h])
                simp [hij, this, T.get_e]
            · simp only [hj, if_false]
              have : ¬ j = i := fun h => hj (by rw [h]; exact hm)
              simp [this, T.get_e]
        · simp only [hm, if_false]; rw [T.putK_eq]
          cases j with
          | zero => simp [T.get_n0, T.get_e]
          | succ j =>
            simp only [id]
            rw [T.get_ns]
            by_cases hj : j % 2 = 0
            · simp only [hj, if_true]
              have : ¬ j = i := fun h => hm (by rw [← h]; exact hj)
              simp [this, T.get_e]
            · simp only [hj, if_false]; rw [ih _ _ _ _ hi]
              by_cases hij : j / 2 = i / 2
              · have : j = i := by omega
                subst this; simp
              · have : ¬ j = i := fun h => hij (by rw [h])
                simp [hij, this, T.get_e]
    | n l v r =>
      cases i with
      | zero =>
        dsimp only [id]
        cases j with
        | zero => rfl
        | succ j => rw [T.get_ns, T.get_ns]; simp
      | succ i =>
        dsimp only
        have hi : i / 2 < f := by omega
        by_cases hm : i % 2 = 0
        · simp only [hm, if_true]; rw [T.putK_eq]
          cases j with
          | zero => simp [T.get_n0]
          | succ j =>
            simp only [id]
            rw [T.get_ns, T.get_ns]
            by_cases hj : j % 2 = 0
            · simp only [hj, if_true]; rw [ih _ _ _ _ hi]
              by_cases hij : j / 2 = i / 2
              · have : j = i := by omega
                subst this; simp
              · have : ¬ j = i := fun h => hij (by rw [h])
                simp [hij, this]
            · simp only [hj, if_false]
              have : ¬ j = i := fun h => hj (by rw [h]; exact hm)
              simp [this]
        · simp only [hm, if_false]; rw [T.putK_eq]
          cases j with
          | zero => simp [T.get_n0]
          | succ j =>
            simp only [id]
            rw [T.get_ns, T.get_ns]
            by_cases hj : j % 2 = 0
            · simp only [hj, if_true]
              have : ¬ j = i := fun h => hm (by rw [← h]; exact hj)
              simp [this]
            · simp only [hj, if_false]; rw [ih _ _ _ _ hi]
              by_cases hij : j / 2 = i / 2
              · have : j = i := by omega
                subst this; simp
              · have : ¬ j = i := fun h => hij (by rw [h])
                simp [hij, this]

theorem T.set_eq {α β : Type} (t : T α) (i : Nat) (a : α) (k : T α → β) : t.set i a k = k (t.upd i a) := T.putK_eq _ _ _ _ _
theorem T.get_upd {α : Type} (t : T α) (i : Nat) (a : α) (j : Nat) : (t.upd i a).get j = if j = i then some a else t.get j :=
  T.get_putK (i+1) t i a j (Nat.lt_succ_self i)

/-! ### forcing -/
noncomputable def natK {β : Type} (n : Nat) (k : Nat → β) : β := Nat.rec (k 0) (fun m _ => k (Nat.succ m)) n
theorem natK_eq {β : Type} (n : Nat) (k : Nat → β) : natK n k = k n := by cases n <;> rfl
noncomputable def intK {β : Type} (n : Int) (k : Int → β) : β := Int.rec (fun a => natK a fun a => k (Int.ofNat a)) (fun a => natK a fun a => k (Int.negSucc a)) n
theorem intK_eq {β : Type} (n : Int) (k : Int → β) : intK n k = k n := by
  cases n with
  | ofNat a => exact natK_eq a (fun a => k (Int.ofNat a))
  | negSucc a => exact natK_eq a (fun a => k (Int.negSucc a))
noncomputable def boolK {β : Type} (b : Bool) (k : Bool → β) : β := Bool.rec (k false) (k true) b
theorem boolK_eq {β : Type} (b : Bool) (k : Bool → β) : boolK b k = k b := by cases b <;> rfl

/-! ### abstract values -/
inductive AV where
  | int (k : IntKind) (n : Int)
  | bool (b : Bool)
  | str (l : List Nat)
  | ptr (b off : Nat)
  | nilp
  | slice (b off len cap : Nat)
  | sliceU (b off koff len : Nat)
  | nils
  | emp
  | map (b : Nat)
  | nilm
  | fn (f : Fn) (first cap : List AV)
  | yld (l : Nat)
  | nilf
  | iface (t : Nat) (v : AV)
  | nili
  | agg (l : List AV)
  | tup (l : List AV)
  | unk
  | sym (i : Nat)
  | intB (k : IntKind) (lo hi : Int)
  | lenv (sl : Bool) (lo hi : Nat)
  | top

instance : Inhabited AV := ⟨.unk⟩

/-- Abstract block numbers to actual ones, with the capacity in elements of a row whose size isn't known. -/
abbrev BM := Nat → Option (Nat × Nat)
/-- Numbers from n on may have been given, to blocks that aren't protected. -/
def BM.ext (p : Nat → Prop) (n : Nat) (m m' : BM) : Prop := (∀ b x, m b = some x → m' b = some x) ∧ (∀ b, b < n → m' b = m b) ∧ ∀ b r c, m' b = some (r, c) → m b = none → ¬ p r
def BM.le (m m' : BM) : Prop := ∀ b x, m b = some x → m' b = some x
theorem BM.le_refl (m : BM) : m.le m := fun _ _ h => h
theorem BM.ext.le {p : Nat → Prop} {n : Nat} {m m' : BM} (h : BM.ext p n m m') : m.le m' := h.1
theorem BM.ext_refl (p : Nat → Prop) (n : Nat) (m : BM) : BM.ext p n m m := ⟨fun _ _ h => h, fun _ _ => rfl, fun b r c h1 h2 => by rw [h2] at h1; cases h1⟩
theorem BM.ext_trans {p : Nat → Prop} {n n' : Nat} {a b c : BM} (h : BM.ext p n a b) (k : BM.ext p n' b c) (hn : n ≤ n') : BM.ext p n a c :=
  ⟨fun x y hx => k.1 x y (h.1 x y hx), fun x hx => (k.2.1 x (Nat.lt_of_lt_of_le hx hn)).trans (h.2.1 x hx), fun x r cc h1 h2 => by
    cases hb : b x with
    | none => exact k.2.2 x r cc h1 hb
    | some y =>
      have := k.1 x y hb
      rw [this] at h1; cases h1
      exact h.2.2 x r cc hb h2⟩
theorem BM.le_trans {a b c : BM} (h : a.le b) (k : b.le c) : a.le c := fun x y hx => k x y (h x y hx)

mutual
inductive VRel (σ : Nat → Value) (m : BM) : AV → Value → Prop where
  | int (k : IntKind) (n : Int) : VRel σ m (.int k n) (.int k n)
  | bool (b : Bool) : VRel σ m (.bool b) (.bool b)
  | str (l : List Nat) (s : ByteArray) (h : s.data.toList.map UInt8.toNat = l) : VRel σ m (.str l) (.string s)
  | ptr (b off r c : Nat) (h : m b = some (r, c)) : VRel σ m (.ptr b off) (.pointer (some ⟨r, off, none⟩))
  | nilp : VRel σ m .nilp (.pointer none)
  | slice (b off len cap r c : Nat) (h : m b = some (r, c)) : VRel σ m (.slice b off len cap) (.slice (some ⟨r, off, none⟩) len cap)
  | sliceU (b off koff len r c : Nat) (h : m b = some (r, c)) : VRel σ m (.sliceU b off koff len) (.slice (some ⟨r, off, none⟩) len (c - koff))
  | nils : VRel σ m .nils (.slice none 0 0)
  | emp (a : Addr) (c : Nat) : VRel σ m .emp (.slice (some a) 0 c)
  | map (b r c : Nat) (h : m b = some (r, c)) : VRel σ m (.map b) (.map (some r))
  | nilm : VRel σ m .nilm (.map none)
  | fn (f : Fn) (first cap : List AV) (first' cap' : List Value) (h1 : LRel σ m first first') (h2 : LRel σ m cap cap') : VRel σ m (.fn f first cap) (.func f ⟨first'⟩ ⟨cap'⟩)
  | yld (l r c : Nat) (h : m l = some (r, c)) : VRel σ m (.yld l) (.func (.yield r) #[] #[])
  | nilf : VRel σ m .nilf .nilFunc
  | iface (t : Nat) (v : AV) (v' : Value) (h : VRel σ m v v') : VRel σ m (.iface t v) (.iface t v')
  | nili : VRel σ m .nili .nilIface
  | agg (l : List AV) (l' : List Value) (h : LRel σ m l l') : VRel σ m (.agg l) (.agg ⟨l'⟩)
  | tup (l : List AV) (l' : List Value) (h : LRel σ m l l') : VRel σ m (.tup l) (.tuple ⟨l'⟩)
  | unk (v : Value) (h : v.oneCell' = true) : VRel σ m .unk v
  | sym (i : Nat) (h : (σ i).oneCell' = true) : VRel σ m (.sym i) (σ i)
  | intB (k : IntKind) (lo hi n : Int) (h1 : lo ≤ n) (h2 : n ≤ hi) : VRel σ m (.intB k lo hi) (.int k n)
  | lenS (lo hi : Nat) (s : ByteArray) (h1 : lo ≤ s.size) (h2 : s.size ≤ hi) : VRel σ m (.lenv false lo hi) (.string s)
  | lenL (lo hi : Nat) (A : Option Addr) (n c : Nat) (h1 : lo ≤ n) (h2 : n ≤ hi) : VRel σ m (.lenv true lo hi) (.slice A n c)
  | top (v : Value) : VRel σ m .top v
inductive LRel (σ : Nat → Value) (m : BM) : List AV → List Value → Prop where
  | nil : LRel σ m [] []
  | cons (a : AV) (v : Value) (l : List AV) (l' : List Value) (h : VRel σ m a v) (t : LRel σ m l l') : LRel σ m (a :: l) (v :: l')
end

theorem VRel.mono {σ : Nat → Value} {m m' : BM} (hm : m.le m') {a : AV} {v : Value} (h : VRel σ m a v) : VRel σ m' a v := by
  refine VRel.rec (motive_1 := fun a v _ => VRel σ m' a v) (motive_2 := fun l l' _ => LRel σ m' l l')
    ?_ ?_ ?_ ?_ ?_ ?_ ?_ ?_ ?_ ?_ ?_ ?_ ?_ ?_ ?_ ?_ ?_ ?_ ?_ ?_ ?_ ?_ ?_ ?_ ?_ ?_ h
  · exact fun k n => .int k n
  · exact fun b => .bool b
  · exact fun l s h => .str l s h
  · exact fun b off r c h => .ptr b off r c (hm _ _ h)
  · exact .nilp
  · exact fun b off len cap r c h => .slice b off len cap r c (hm _ _ h)
  · exact fun b off koff len r c h => .sliceU b off koff len r c (hm _ _ h)
  · exact .nils
  · exact fun a c => .emp a c
  · exact fun b r c h => .map b r c (hm _ _ h)
  · exact .nilm
  · exact fun f a b a' b' _ _ h1 h2 => .fn f a b a' b' h1 h2
  · exact fun l r c h => .yld l r c (hm _ _ h)
  · exact .nilf
  · exact fun t v v' _ h => .iface t v v' h
  · exact .nili
  · exact fun l l' _ h => .agg l l' h
  · exact fun l l' _ h => .tup l l' h
  · exact fun v h => .unk v h
  · exact fun i h => .sym i h
  · exact fun k lo hi n h1 h2 => .intB k lo hi n h1 h2
  · exact fun lo hi s h1 h2 => .lenS lo hi s h1 h2
  · exact fun lo hi A n c h1 h2 => .lenL lo hi A n c h1 h2
  · exact fun v => .top v
  · exact .nil
  · exact fun a v l l' _ _ h t => .cons a v l l' h t

def AV.isCell : AV → Bool
  | .agg _ | .tup _ | .top => false
  | _ => true
def AV.noTop : AV → Bool
  | .top => false
  | _ => true
theorem VRel.oneCell {σ : Nat → Value} {m : BM} {a : AV} {v : Value} (h : VRel σ m a v) (ha : a.isCell = true) : v.oneCell' = true := by
  cases h <;> first | rfl | assumption | (simp [AV.isCell] at ha)
def AV.cells : AV → List AV
  | .agg l => l
  | v => [v]

theorem LRel.mono {σ : Nat → Value} {m m' : BM} (hm : m.le m') {l : List AV} {l' : List Value} (h : LRel σ m l l') : LRel σ m' l l' := by
  induction l generalizing l' with
  | nil => cases h; exact .nil
  | cons a l ih => cases h with | cons _ v _ l' h t => exact .cons _ _ _ _ (h.mono hm) (ih t)

theorem LRel.length {σ : Nat → Value} {m : BM} {l : List AV} {l' : List Value} (h : LRel σ m l l') : l.length = l'.length := by
  induction l generalizing l' with
  | nil => cases h; rfl
  | cons a l ih => cases h with | cons _ v _ l' h t => simp [ih t]

theorem LRel.append {σ : Nat → Value} {m : BM} {a b : List AV} {a' b' : List Value} (h : LRel σ m a a') (k : LRel σ m b b') : LRel σ m (a ++ b) (a' ++ b') := by
  induction a generalizing a' with
  | nil => cases h; exact k
  | cons x a ih => cases h with | cons _ v _ l' h t => exact .cons _ _ _ _ h (ih t)

theorem LRel.get {σ : Nat → Value} {m : BM} {l : List AV} {l' : List Value} (h : LRel σ m l l') (i : Nat) (a : AV) (ha : l[i]? = some a) : ∃ v, l'[i]? = some v ∧ VRel σ m a v := by
  induction l generalizing l' i with
  | nil => simp at ha
  | cons x l ih =>
    cases h with
    | cons _ v _ l' h t =>
      cases i with
      | zero => simp at ha; subst ha; exact ⟨v, rfl, h⟩
      | succ i => simp at ha; simpa using ih t i ha

theorem LRel.of_get {σ : Nat → Value} {m : BM} {l : List AV} {l' : List Value} (hl : l.length = l'.length) (h : ∀ (i : Nat) (a : AV) (v : Value), l[i]? = some a → l'[i]? = some v → VRel σ m a v) : LRel σ m l l' := by
  induction l generalizing l' with
  | nil => cases l' with | nil => exact .nil | cons _ _ => simp at hl
  | cons x l ih =>
    cases l' with
    | nil => simp at hl
    | cons y l' =>
      refine .cons _ _ _ _ (h 0 x y rfl rfl) (ih (by simpa using hl) fun i a v (ha : l[i]? = some a) (hv : l'[i]? = some v) => h (i+1) a v (by simpa using ha) (by simpa using hv))

theorem LRel.set {σ : Nat → Value} {m : BM} {l : List AV} {l' : List Value} (h : LRel σ m l l') (i : Nat) {a : AV} {v : Value} (hv : VRel σ m a v) : LRel σ m (l.set i a) (l'.set i v) := by
  induction l generalizing l' i with
  | nil => cases h; exact .nil
  | cons x l ih =>
    cases h with
    | cons _ w _ l' h t =>
      cases i with
      | zero => exact .cons _ _ _ _ hv t
      | succ i => exact .cons _ _ _ _ h (ih t i)

theorem LRel.drop {σ : Nat → Value} {m : BM} {l : List AV} {l' : List Value} (h : LRel σ m l l') (i : Nat) : LRel σ m (l.drop i) (l'.drop i) := by
  induction l generalizing l' i with
  | nil => cases h; simp; exact .nil
  | cons x l ih =>
    cases h with
    | cons _ w _ l' h t =>
      cases i with
      | zero => exact .cons _ _ _ _ h t
      | succ i => simpa using ih t i

theorem LRel.take {σ : Nat → Value} {m : BM} {l : List AV} {l' : List Value} (h : LRel σ m l l') (i : Nat) : LRel σ m (l.take i) (l'.take i) := by
  induction l generalizing l' i with
  | nil => cases h; simp; exact .nil
  | cons x l ih =>
    cases h with
    | cons _ w _ l' h t =>
      cases i with
      | zero => exact .nil
      | succ i => exact .cons _ _ _ _ h (ih t i)

theorem VRel.cells {σ : Nat → Value} {m : BM} {a : AV} {v : Value} (h : VRel σ m a v) (ht : a.noTop = true) : LRel σ m a.cells v.cells.toList := by
  cases h <;> first
    | (simp [AV.noTop] at ht; done)
    | (simp only [AV.cells, Value.cells]; assumption)
    | (refine LRel.cons _ _ _ _ ?_ .nil; constructor <;> assumption)
    | (simp only [AV.cells]; rename_i hv; cases v <;> first | (simp [Value.oneCell'] at hv; done) | exact LRel.cons _ _ _ _ (.unk _ rfl) .nil)
    | (simp only [AV.cells]; rename_i i hv; have e : (σ i).cells = #[σ i] := (by cases hh : σ i <;> first | rfl | (rw [hh] at hv; simp [Value.oneCell'] at hv)); rw [e]; exact LRel.cons _ _ _ _ (.sym _ hv) .nil)

end Go.Ev

/- The abstract memory, and the relation between it and a world. -/
namespace Go.Ev

def putO (w : World) (r : Nat) (o : Obj) : World := { w with heap := w.heap.setIfInBounds r o }

structure ME where
  key : AV
  val : AV
  born : Nat

inductive AD where
  | fnc (f : Fn) (cap args : List AV)
  | nil (args : List AV)
  | coll (b : Nat)

inductive AB where
  | dead
  | row (elem n : Nat) (cells : T AV) (dz : List AV) (grow : Nat) (ro : Nat)
  | map (es : List ME) (clock : Nat)
  | siter (l : List Nat) (pos : Nat)
  | miter (map : Option Nat) (since : Nat) (seen : List Nat) (stepped : Nat)
  | loop (st : LoopState) (pend : Option Code) (fn : Nat) (n : Nat) (tmps : T AV) (params : Array Nat) (assign body : Code) (defers : Nat)
  | dfr (ds : Option (List AD))

/-- May a run write to it? -/
def AB.wr : AB → Bool
  | .dead => false
  | .row _ n _ _ g ro => Nat.blt ro n || Nat.blt 0 g
  | _ => true
def AB.live : AB → Bool
  | .dead => false
  | _ => true

noncomputable def tget (t : T AV) (i : Nat) : AV := Option.rec (.tup []) (fun v => v) (t.get i)
noncomputable def cellOf (t : T AV) (dz : List AV) (i : Nat) : AV := Option.rec (List.getD dz (Nat.mod i dz.length) .unk) (fun v => v) (t.get i)

theorem tget_upd (t : T AV) (i : Nat) (a : AV) (j : Nat) : tget (t.upd i a) j = if j = i then a else tget t j := by
  unfold tget; rw [T.get_upd]; split <;> rfl
theorem cellOf_upd (t : T AV) (dz : List AV) (i : Nat) (a : AV) (j : Nat) : cellOf (t.upd i a) dz j = if j = i then a else cellOf t dz j := by
  unfold cellOf; rw [T.get_upd]; split <;> rfl

section
variable (σ : Nat → Value) (m : BM)

def TRel (n : Nat) (t : T AV) (tm : Array Value) : Prop := tm.size = n ∧ (∀ i, i < n → ∃ v, tm[i]? = some v ∧ VRel σ m (tget t i) v) ∧ ∀ i, n ≤ i → t.get i = none

def DRel : AD → Deferred → Prop
  | .fnc f cap args, d => ∃ cap' args', d = { target := .fn f ⟨cap'⟩, args := ⟨args'⟩ } ∧ LRel σ m cap cap' ∧ LRel σ m args args'
  | .nil args, d => ∃ args', d = { target := .nil, args := ⟨args'⟩ } ∧ LRel σ m args args'
  | .coll b, d => ∃ r c, d = { target := .collected r, args := #[] } ∧ m b = some (r, c)

def DsRel : List AD → List Deferred → Prop
  | [], ds => ds = []
  | a :: l, ds => ∃ d ds', ds = d :: ds' ∧ DRel σ m a d ∧ DsRel l ds'

def MRel : List ME → List MapEntry → Prop
  | [], es => es = []
  | a :: l, es => ∃ k v es', es = { key := k, val := v, born := a.born } :: es' ∧ VRel σ m a.key k ∧ VRel σ m a.val v ∧ MRel l es'

def RowRel (n : Nat) (cells : T AV) (dz : List AV) (grow ro c : Nat) (cs : Array Value) (fr : Nat × Nat) : Prop :=
  n ≤ cs.size ∧ (grow = 0 → cs.size = n) ∧ (grow ≠ 0 → cs.size = c * grow) ∧
  (∀ i, i < n → ∃ v, cs[i]? = some v ∧ VRel σ m (cellOf cells dz i) v) ∧
  ((∀ i, ro ≤ i → i < cs.size → (fr.1 ≤ i && i < fr.2) = false) ∧ (ro < n ∨ grow ≠ 0 → fr.1 ≤ fr.2))

def BRel : AB → Nat → Option Obj → Prop
  | .dead, _, _ => True
  | .row e n cells dz grow ro, c, o => ∃ cs fr, o = some (.cells cs e fr) ∧ RowRel σ m n cells dz grow ro c cs fr
  | .map es clock, _, o => ∃ es', o = some (.map ⟨es'⟩ clock) ∧ MRel σ m es es'
  | .siter l pos, _, o => ∃ s, o = some (.stringIter s pos) ∧ s.data.toList.map UInt8.toNat = l
  | .miter mp since seen stepped, _, o => ∃ mp', o = some (.mapIter mp' since ⟨seen⟩ stepped) ∧ (match mp with | none => mp' = none | some b => ∃ r c, mp' = some r ∧ m b = some (r, c))
  | .loop st pend fn n tmps params assign body defers, _, o => ∃ fn' tm r c, o = some (.loop { state := st, pending := pend, fn := fn', tmps := tm, params := params, assign := assign, body := body, defers := r }) ∧ TRel σ m n tmps tm ∧ m defers = some (r, c)
  | .dfr none, _, o => o = some (.deferred none)
  | .dfr (some ds), _, o => ∃ ds', o = some (.deferred (some ds')) ∧ DsRel σ m ds ds'
end

section mono
variable {σ : Nat → Value} {m m' : BM} (hm : m.le m')
include hm
theorem TRel.mono {n : Nat} {t : T AV} {tm : Array Value} (h : TRel σ m n t tm) : TRel σ m' n t tm :=
  ⟨h.1, fun i hi => let ⟨v, hv, hr⟩ := h.2.1 i hi; ⟨v, hv, hr.mono hm⟩, h.2.2⟩
theorem DRel.mono {a : AD} {d : Deferred} (h : DRel σ m a d) : DRel σ m' a d := by
  cases a with
  | fnc f cap args => obtain ⟨c, x, h1, h2, h3⟩ := h; exact ⟨c, x, h1, h2.mono hm, h3.mono hm⟩
  | nil args => obtain ⟨x, h1, h2⟩ := h; exact ⟨x, h1, h2.mono hm⟩
  | coll b => obtain ⟨r, c, h1, h2⟩ := h; exact ⟨r, c, h1, hm _ _ h2⟩
theorem DsRel.mono {l : List AD} {ds : List Deferred} (h : DsRel σ m l ds) : DsRel σ m' l ds := by
  induction l generalizing ds with
  | nil => exact h
  | cons a l ih => obtain ⟨d, ds', h1, h2, h3⟩ := h; exact ⟨d, ds', h1, h2.mono hm, ih h3⟩
theorem MRel.mono {l : List ME} {es : List MapEntry} (h : MRel σ m l es) : MRel σ m' l es := by
  induction l generalizing es with
  | nil => exact h
  | cons a l ih => obtain ⟨k, v, es', h1, h2, h3, h4⟩ := h; exact ⟨k, v, es', h1, h2.mono hm, h3.mono hm, ih h4⟩
theorem RowRel.mono {n : Nat} {cells : T AV} {dz : List AV} {grow ro c : Nat} {cs : Array Value} {fr : Nat × Nat} (h : RowRel σ m n cells dz grow ro c cs fr) : RowRel σ m' n cells dz grow ro c cs fr :=
  ⟨h.1, h.2.1, h.2.2.1, fun i hi => let ⟨v, hv, hr⟩ := h.2.2.2.1 i hi; ⟨v, hv, hr.mono hm⟩, h.2.2.2.2⟩
theorem BRel.mono {B : AB} {c : Nat} {o : Option Obj} (h : BRel σ m B c o) : BRel σ m' B c o := by
  cases B with
  | dead => exact h
  | row e n cells dz grow ro => obtain ⟨cs, fr, h1, h2⟩ := h; exact ⟨cs, fr, h1, h2.mono hm⟩
  | map es clock => obtain ⟨es', h1, h2⟩ := h; exact ⟨es', h1, h2.mono hm⟩
  | siter l pos => exact h
  | miter mp since seen stepped =>
    obtain ⟨mp', h1, h2⟩ := h
    refine ⟨mp', h1, ?_⟩
    cases mp with
    | none => exact h2
    | some b => obtain ⟨r, c, h3, h4⟩ := h2; exact ⟨r, c, h3, hm _ _ h4⟩
  | loop st pend fn n tmps params assign body defers => obtain ⟨fn', tm, r, c, h1, h2, h3⟩ := h; exact ⟨fn', tm, r, c, h1, h2.mono hm, hm _ _ h3⟩
  | dfr ds =>
    cases ds with
    | none => exact h
    | some ds => obtain ⟨ds', h1, h2⟩ := h; exact ⟨ds', h1, h2.mono hm⟩
end mono

/-- The abstract memory stands for the world: 'prot' are the actual blocks that no run may write to. -/
structure Rel (σ : Nat → Value) (prot : Nat → Prop) (w0 : World) (m : BM) (mem : T AB) (next : Nat) (w : World) : Prop where
  os : w.os = w0.os
  tape : w.tape = w0.tape
  output : w.output = w0.output
  size : w0.heap.size ≤ w.heap.size
  plt : ∀ r, prot r → r < w0.heap.size
  keep : ∀ r, prot r → w.heap[r]? = w0.heap[r]?
  blk : ∀ b B r c, mem.get b = some B → m b = some (r, c) → BRel σ m B c w.heap[r]?
  inj : ∀ b b' B B' r c c', mem.get b = some B → B.live = true → mem.get b' = some B' → B'.live = true → m b = some (r, c) → m b' = some (r, c') → b = b'
  lt : ∀ b r c, m b = some (r, c) → r < w.heap.size
  fresh : ∀ b, next ≤ b → m b = none
  wr : ∀ b B r c, mem.get b = some B → B.wr = true → m b = some (r, c) → ¬ prot r

theorem AB.live_of_wr {B : AB} (h : B.wr = true) : B.live = true := by cases B <;> first | rfl | (simp [AB.wr] at h)

namespace Rel
variable {σ : Nat → Value} {prot : Nat → Prop} {w0 : World} {m : BM} {mem : T AB} {next : Nat} {w : World}

theorem drew (h : Rel σ prot w0 m mem next w) : Rel σ prot w0 m mem next w.drew :=
  ⟨h.os, h.tape, h.output, h.size, h.plt, h.keep, h.blk, h.inj, h.lt, h.fresh, h.wr⟩

/-- A new block, at the abstract number 'b' that has been set apart. -/
theorem allocAt (h : Rel σ prot w0 m mem next w) (b : Nat) (hb : m b = none) (hn : b < next) (B : AB) (c : Nat) (o : Obj)
    (hB : BRel σ (fun x => if x = b then some (w.heap.size, c) else m x) B c (some o)) :
    m.le (fun x => if x = b then some (w.heap.size, c) else m x) ∧
    Rel σ prot w0 (fun x => if x = b then some (w.heap.size, c) else m x) (mem.upd b B) next (w.alloc o) := by
  have hle : m.le (fun x => if x = b then some (w.heap.size, c) else m x) := by
    intro x y hx
    by_cases e : x = b
    · subst e; rw [hb] at hx; cases hx
    · simp [e, hx]
  refine ⟨hle, ⟨h.os, h.tape, h.output, ?_, h.plt, ?_, ?_, ?_, ?_, ?_, ?_⟩⟩
  · have := h.size; simp; omega
  · intro r hr
    have h1 := h.plt r hr
    have h2 := h.size
    rw [RowKit.Below.heap_alloc w o r (by omega)]; exact h.keep r hr
  · intro x X r c' hx hmx
    rw [T.get_upd] at hx
    by_cases e : x = b
    · subst e
      simp at hx hmx
      obtain ⟨rfl, rfl⟩ := hmx
      subst hx
      have : (w.alloc o).heap[w.heap.size]? = some o := by show (w.heap.push o)[w.heap.size]? = _; simp
      rw [this]; exact hB
    · simp [e] at hx hmx
      have hl := h.lt x r c' hmx
      rw [RowKit.Below.heap_alloc w o r hl]
      exact (h.blk x X r c' hx hmx).mono hle
  · intro x x' X X' r c1 c2 hx lx hx' lx' hm1 hm2
    rw [T.get_upd] at hx hx'
    by_cases e : x = b
    · by_cases e' : x' = b
      · rw [e, e']
      · simp [e] at hm1; simp [e'] at hm2
        have := h.lt x' r c2 hm2; omega
    · by_cases e' : x' = b
      · simp [e] at hm1; simp [e'] at hm2
        have := h.lt x r c1 hm1; omega
      · simp [e] at hm1 hx; simp [e'] at hm2 hx'
        exact h.inj x x' X X' r c1 c2 hx lx hx' lx' hm1 hm2
  · intro x r c' hx
    by_cases e : x = b
    · simp [e] at hx; simp; omega
    · simp [e] at hx; have := h.lt x r c' hx; simp; omega
  · intro x hx
    have : x ≠ b := by omega
    simp [this]; exact h.fresh x hx
  · intro x X r c' hx hw hmx hp
    rw [T.get_upd] at hx
    by_cases e : x = b
    · simp [e] at hmx
      have h1 := h.plt r hp
      have h2 := h.size
      omega
    · simp [e] at hx hmx
      exact h.wr x X r c' hx hw hmx hp

theorem bump (h : Rel σ prot w0 m mem next w) (n : Nat) (hn : next ≤ n) : Rel σ prot w0 m mem n w :=
  ⟨h.os, h.tape, h.output, h.size, h.plt, h.keep, h.blk, h.inj, h.lt, fun b hb => h.fresh b (Nat.le_trans hn hb), h.wr⟩

theorem alloc (h : Rel σ prot w0 m mem next w) (B : AB) (c : Nat) (o : Obj)
    (hB : BRel σ (fun x => if x = next then some (w.heap.size, c) else m x) B c (some o)) :
    m.le (fun x => if x = next then some (w.heap.size, c) else m x) ∧
    Rel σ prot w0 (fun x => if x = next then some (w.heap.size, c) else m x) (mem.upd next B) (next+1) (w.alloc o) :=
  (h.bump (next+1) (Nat.le_succ _)).allocAt next (h.fresh next (Nat.le_refl _)) (Nat.lt_succ_self _) B c o hB

/-- The object of a writable block changes. -/
theorem change (h : Rel σ prot w0 m mem next w) (b : Nat) (B B' : AB) (r c : Nat) (hb : mem.get b = some B) (hw : B.wr = true) (hm : m b = some (r, c)) (w' : World)
    (hos : w'.os = w.os) (htape : w'.tape = w.tape) (hout : w'.output = w.output) (hsz : w'.heap.size = w.heap.size) (hoth : ∀ k, k ≠ r → w'.heap[k]? = w.heap[k]?)
    (hB : BRel σ m B' c w'.heap[r]?) :
    Rel σ prot w0 m (mem.upd b B') next w' := by
  have hnp := h.wr b B r c hb hw hm
  refine ⟨hos.trans h.os, htape.trans h.tape, hout.trans h.output, hsz ▸ h.size, h.plt, ?_, ?_, ?_, ?_, h.fresh, ?_⟩
  · intro k hk
    have : k ≠ r := fun e => hnp (e ▸ hk)
    rw [hoth k this]; exact h.keep k hk
  · intro x X r' c' hx hmx
    rw [T.get_upd] at hx
    by_cases e : x = b
    · subst e
      simp at hx; subst hx
      rw [hm] at hmx; cases hmx
      exact hB
    · simp [e] at hx
      by_cases hl : X.live = true
      · have : r' ≠ r := by
          intro er; subst er
          exact e (h.inj x b X B r' c' c hx hl hb (AB.live_of_wr hw) hmx hm)
        rw [hoth r' this]; exact h.blk x X r' c' hx hmx
      · cases X <;> first | trivial | (simp [AB.live] at hl)
  · intro x x' X X' r' c1 c2 hx lx hx' lx' hm1 hm2
    rw [T.get_upd] at hx hx'
    by_cases e : x = b
    · by_cases e' : x' = b
      · rw [e, e']
      · simp [e'] at hx'
        subst e
        exact h.inj x x' B X' r' c1 c2 hb (AB.live_of_wr hw) hx' lx' hm1 hm2
    · by_cases e' : x' = b
      · simp [e] at hx
        subst e'
        exact h.inj x x' X B r' c1 c2 hx lx hb (AB.live_of_wr hw) hm1 hm2
      · simp [e] at hx; simp [e'] at hx'
        exact h.inj x x' X X' r' c1 c2 hx lx hx' lx' hm1 hm2
  · intro x r' c' hx; rw [hsz]; exact h.lt x r' c' hx
  · intro x X r' c' hx hw' hmx
    rw [T.get_upd] at hx
    by_cases e : x = b
    · subst e; rw [hm] at hmx; cases hmx; exact hnp
    · simp [e] at hx; exact h.wr x X r' c' hx hw' hmx

theorem setObj (h : Rel σ prot w0 m mem next w) (b : Nat) (B B' : AB) (r c : Nat) (hb : mem.get b = some B) (hw : B.wr = true) (hm : m b = some (r, c)) (o : Obj)
    (hB : BRel σ m B' c (some o)) : Rel σ prot w0 m (mem.upd b B') next (putO w r o) := by
  have hlt := h.lt b r c hm
  refine h.change b B B' r c hb hw hm (putO w r o) rfl rfl rfl (by simp [putO]) ?_ ?_
  · intro k hk; show (w.heap.setIfInBounds r o)[k]? = _; rw [Array.getElem?_setIfInBounds]; simp [Ne.symm hk]
  · show BRel σ m B' c (w.heap.setIfInBounds r o)[r]?
    rw [Array.getElem?_setIfInBounds]; simp [hlt]; exact hB

/-- What a row's cell holds. -/
theorem cell (h : Rel σ prot w0 m mem next w) {b e n : Nat} {cells : T AV} {dz : List AV} {grow ro r c : Nat} (hb : mem.get b = some (.row e n cells dz grow ro)) (hm : m b = some (r, c)) (i : Nat) (hi : i < n) :
    ∃ v, w.cell? ⟨r, i, none⟩ = some v ∧ VRel σ m (cellOf cells dz i) v := by
  obtain ⟨cs, fr, h1, h2⟩ := h.blk b _ r c hb hm
  obtain ⟨v, hv, hr⟩ := h2.2.2.2.1 i hi
  refine ⟨v, ?_, hr⟩
  simp [World.cell?, h1, hv]

theorem free (h : Rel σ prot w0 m mem next w) {b e n : Nat} {cells : T AV} {dz : List AV} {grow ro r c : Nat} (hb : mem.get b = some (.row e n cells dz grow ro)) (hm : m b = some (r, c)) (i : Nat) (hi : i < n) (hro : ro ≤ i) :
    w.frozen? ⟨r, i, none⟩ = false := by
  obtain ⟨cs, fr, h1, h2⟩ := h.blk b _ r c hb hm
  obtain ⟨f1, f2⟩ := fr
  have := h2.2.2.2.2.1 i hro (Nat.lt_of_lt_of_le hi h2.1)
  simpa [World.frozen?, h1] using this

theorem setCell (h : Rel σ prot w0 m mem next w) {b e n : Nat} {cells : T AV} {dz : List AV} {grow ro r c : Nat} (hb : mem.get b = some (.row e n cells dz grow ro)) (hm : m b = some (r, c)) (i : Nat) (hi : i < n) (hro : ro ≤ i)
    {a : AV} {v : Value} (hv : VRel σ m a v) :
    Rel σ prot w0 m (mem.upd b (.row e n (cells.upd i a) dz grow ro)) next (w.setCell ⟨r, i, none⟩ v) := by
  obtain ⟨cs, fr, h1, h2⟩ := h.blk b _ r c hb hm
  refine h.change b _ _ r c hb ?_ hm (w.setCell ⟨r, i, none⟩ v) rfl rfl rfl (by simp) ?_ ?_
  · have : ro < n := by omega
    have hb : Nat.blt ro n = true := by rw [Nat.blt_eq]; exact this
    simp [AB.wr, hb]
  · intro k hk; exact RowKit.Below.heap_setCell w _ v k hk
  · refine ⟨cs.setIfInBounds i v, fr, ?_, ?_⟩
    · simp [World.setCell, Array.getElem?_modify, h1]
    · refine ⟨by simpa using h2.1, by simpa using h2.2.1, by simpa using h2.2.2.1, ?_, by simpa using h2.2.2.2.2⟩
      intro j hj
      rw [cellOf_upd, Array.getElem?_setIfInBounds]
      by_cases e : j = i
      · subst e
        have : j < cs.size := Nat.lt_of_lt_of_le hj h2.1
        exact ⟨v, by simp [this], by simpa using hv⟩
      · obtain ⟨u, hu, hr⟩ := h2.2.2.2.1 j hj
        exact ⟨u, by simp [Ne.symm e, hu], by simpa [e] using hr⟩

theorem kill (h : Rel σ prot w0 m mem next w) (b : Nat) : Rel σ prot w0 m (mem.upd b .dead) next w := by
  refine ⟨h.os, h.tape, h.output, h.size, h.plt, h.keep, ?_, ?_, h.lt, h.fresh, ?_⟩
  · intro x X r c hx hm
    rw [T.get_upd] at hx
    by_cases e : x = b
    · simp [e] at hx; subst hx; trivial
    · simp [e] at hx; exact h.blk x X r c hx hm
  · intro x x' X X' r c1 c2 hx lx hx' lx' hm1 hm2
    rw [T.get_upd] at hx hx'
    by_cases e : x = b
    · simp [e] at hx; subst hx; simp [AB.live] at lx
    · by_cases e' : x' = b
      · simp [e'] at hx'; subst hx'; simp [AB.live] at lx'
      · simp [e] at hx; simp [e'] at hx'
        exact h.inj x x' X X' r c1 c2 hx lx hx' lx' hm1 hm2
  · intro x X r c hx hw hm
    rw [T.get_upd] at hx
    by_cases e : x = b
    · simp [e] at hx; subst hx; simp [AB.wr] at hw
    · simp [e] at hx; exact h.wr x X r c hx hw hm


theorem same (h : Rel σ prot w0 m mem next w) {mem' : T AB} (he : ∀ b, mem'.get b = mem.get b) : Rel σ prot w0 m mem' next w :=
  ⟨h.os, h.tape, h.output, h.size, h.plt, h.keep, fun b B r c hb => h.blk b B r c (by rw [← he]; exact hb),
    fun b b' B B' r c c' hb l hb' l' => h.inj b b' B B' r c c' (by rw [← he]; exact hb) l (by rw [← he]; exact hb') l', h.lt, h.fresh, fun b B r c hb => h.wr b B r c (by rw [← he]; exact hb)⟩

/-- May the row be marked as one that a string may share? -/
def _root_.Go.Ev.markOk : Option AB → Bool
  | some (.row _ n _ _ g ro) => Nat.beq ro 0 && (Nat.blt 0 n || Nat.blt 0 g)
  | _ => false
theorem mark (h : Rel σ prot w0 m mem next w) (P : Program) {b r c : Nat} (hk : markOk (mem.get b) = true) (hm : m b = some (r, c)) (off : Nat) :
    ∃ w', (markStringish ⟨r, off, none⟩).run P w = .ok () w' ∧ Rel σ prot w0 m mem next w' ∧ w'.heap.size = w.heap.size := by
  cases hb : mem.get b with
  | none => rw [hb] at hk; cases hk
  | some B =>
    rw [hb] at hk
    cases B <;> simp only [markOk] at hk <;> try (cases hk; done)
    rename_i e n cells dz g ro
    simp only [Bool.and_eq_true] at hk
    have hro : ro = 0 := Nat.eq_of_beq_eq_true hk.1
    subst hro
    obtain ⟨cs, ⟨lo, hi⟩, h1, h2⟩ := h.blk b _ r c hb hm
    have hlt := h.lt b r c hm
    refine ⟨w.freeze ⟨r, cs.size, none⟩ 1, ?_, ?_, ?_⟩
    · have hs : w.shape? r = some (e, cs.size) := by unfold World.shape?; rw [h1]
      simp [markStringish, hs]
    · have hw : (AB.row e n cells dz g 0).wr = true := by simp only [AB.wr]; exact hk.2
      have := h.change b _ (.row e n cells dz g 0) r c hb hw hm (w.freeze ⟨r, cs.size, none⟩ 1) rfl rfl rfl (by simp [World.freeze]) (by
        intro k hk; simp [World.freeze, Array.getElem?_modify, Ne.symm hk]) (by
        refine ⟨cs, (if lo == hi then (cs.size, cs.size + 1) else (min lo cs.size, max hi (cs.size + 1))), ?_, h2.1, h2.2.1, h2.2.2.1, h2.2.2.2.1, ?_⟩
        · simp only [World.freeze, show ¬ (1 = 0) from by decide, if_false]
          rw [Array.getElem?_modify, if_pos rfl, h1]
          rfl
        · obtain ⟨f1, f2⟩ := h2.2.2.2.2
          have f2 : lo ≤ hi := f2 (by have := hk.2; simp only [Bool.or_eq_true, Nat.blt_eq] at this; omega)
          by_cases hq : lo = hi
          · have : (lo == hi) = true := by simp [hq]
            rw [this, if_pos rfl]
            refine ⟨fun i _ hi' => ?_, by simp⟩
            have : ¬ cs.size ≤ i := by omega
            simp [this]
          · have : (lo == hi) = false := by simp [hq]
            rw [this]
            simp only [Bool.false_eq_true, if_false]
            have hlo : cs.size ≤ lo := by
              rcases Nat.lt_or_ge lo cs.size with hl | hl
              · have := f1 lo (Nat.zero_le _) hl
                simp at this; omega
              · exact hl
            refine ⟨fun i _ hi' => ?_, by omega⟩
            have : ¬ (min lo cs.size ≤ i) := by omega
            simp [this])
      exact this.same fun x => by
        rw [T.get_upd]; split
        · rename_i e; rw [e, hb]
        · rfl
    · simp [World.freeze]
end Rel
end Go.Ev

/- Types, loads, stores, and the plain operations. -/
namespace Go.Ev

inductive UD where
  | bool | int (k : IntKind) | str | ptr (e : Nat) | slice (e : Nat) | arr (n e : Nat) | map (k e : Nat) | strct (fs : List (Nat × Nat × Nat)) | func | iface

structure TI where
  ud : UD
  size : Nat
  bytes : Nat
  zero : List AV

def UDRel (P : Program) : UD → TypeDesc → Prop
  | .bool, d => d = .bool
  | .int k, d => d = .int k
  | .str, d => d = .string
  | .ptr e, d => d = .pointer e
  | .slice e, d => d = .slice e
  | .arr n e, d => d = .array n e
  | .map k e, d => d = .map k e
  | .strct fs, d => ∃ fs' : Array Field, d = .struct fs' ∧ fs'.toList.map (fun f => (f.offset, f.type, P.cellsOf f.type)) = fs
  | .func, d => ∃ a b c, d = .func a b c
  | .iface, d => ∃ ms, d = .interface ms

def UD.agg : UD → Bool
  | .arr .. | .strct _ => true
  | _ => false

structure TIRel (P : Program) (t : Nat) (x : TI) (i : TypeInfo) (d : TypeDesc) (z : Value) : Prop where
  info : P.info? t = some i
  und : P.underlying t = some d
  ud : UDRel P x.ud d
  size : i.size = x.size
  bytes : i.bytes = x.bytes
  zero : i.zero = some z
  zsz : z.cells.size = x.size
  zrel : ∀ σ m (j : Nat), j < x.size → ∃ v, z.cells[j]? = some v ∧ VRel σ m (cellOf .e x.zero j) v
  zagg : x.ud.agg = true → ∃ cs, z = .agg cs
  zcell : x.ud.agg = false → x.size = 1 ∧ ∀ σ m, VRel σ m (cellOf .e x.zero 0) z

def TIOk (P : Program) (ti : T TI) : Prop := ∀ t x, ti.get t = some x → ∃ i d z, TIRel P t x i d z

section
variable {P : Program} {w : World}

theorem run_und {t : Nat} {d : TypeDesc} (h : P.underlying t = some d) : (underlying t).run P w = .ok d w := by simp [underlying, h]
theorem run_info {t : Nat} {i : TypeInfo} (h : P.info? t = some i) : (typeInfo t).run P w = .ok i w := by
  unfold typeInfo; simp only [Sem.run_bind, run_program, Result.andThen_ok]; rw [show P.toTables.info? t = some i from h]; rfl
theorem run_size {t : Nat} {i : TypeInfo} (h : P.info? t = some i) : (sizeOf t).run P w = .ok i.size w := by simp [sizeOf, run_info h]
theorem run_zero {t : Nat} {i : TypeInfo} {z : Value} (h : P.info? t = some i) (hz : i.zero = some z) : (zeroValue t).run P w = .ok z w := by
  simp [zeroValue, run_info h, hz]
theorem UDRel.agg {x : UD} {d : TypeDesc} (h : UDRel P x d) {t : Nat} (hu : P.underlying t = some d) : (isAgg t).run P w = .ok x.agg w := by
  unfold isAgg
  simp only [Sem.run_bind, run_und hu, Result.andThen_ok]
  cases x <;> simp only [UDRel] at h
  case strct fs => obtain ⟨fs', rfl, _⟩ := h; rfl
  case func => obtain ⟨a, b, c, rfl⟩ := h; rfl
  case iface => obtain ⟨ms, rfl⟩ := h; rfl
  all_goals (subst h; rfl)

theorem addr_add (r off n : Nat) : (⟨r, off, none⟩ : Addr).add n = ⟨r, off + n, none⟩ := by
  unfold Addr.add; split
  · rename_i h; subst h; rfl
  · rfl
end

/-! ### the pieces of a row -/
noncomputable def cellsAt (cells : T AV) (dz : List AV) : (n off : Nat) → List AV
  | 0, _ => []
  | n+1, off => cellOf cells dz off :: cellsAt cells dz n (off+1)

noncomputable def avK {β : Type} (v : AV) (k : AV → β) : β :=
  AV.casesOn v (fun a b => k (.int a b)) (fun a => k (.bool a)) (fun a => k (.str a)) (fun a b => k (.ptr a b)) (k .nilp) (fun a b c d => k (.slice a b c d)) (fun a b c d => k (.sliceU a b c d)) (k .nils) (k .emp)
    (fun a => k (.map a)) (k .nilm) (fun a b c => k (.fn a b c)) (fun a => k (.yld a)) (k .nilf) (fun a b => k (.iface a b)) (k .nili) (fun a => k (.agg a)) (fun a => k (.tup a)) (k .unk) (fun a => k (.sym a)) (fun a b c => k (.intB a b c)) (fun a b c => k (.lenv a b c)) (k .top)
theorem avK_eq {β : Type} (v : AV) (k : AV → β) : avK v k = k v := by cases v <;> rfl

noncomputable def ldK (cells : T AV) (dz : List AV) (n : Nat) : Nat → (List AV → Bool) → Bool :=
  Nat.rec (motive := fun _ => Nat → (List AV → Bool) → Bool) (fun _ k => k []) (fun _ ih off k => avK (cellOf cells dz off) fun a => ih (Nat.succ off) fun l => k (a :: l)) n
theorem ldK_eq (cells : T AV) (dz : List AV) (n : Nat) : ∀ (off : Nat) (k : List AV → Bool), ldK cells dz n off k = k (cellsAt cells dz n off) := by
  induction n with
  | zero => intro off k; rfl
  | succ n ih => intro off k; show avK (cellOf cells dz off) (fun a => ldK cells dz n (off+1) fun l => k (a :: l)) = _; rw [avK_eq, ih]; rfl

theorem cellsAt_length (cells : T AV) (dz : List AV) (n off : Nat) : (cellsAt cells dz n off).length = n := by
  induction n generalizing off with
  | zero => rfl
  | succ n ih => simp [cellsAt, ih]

/-- Stores of cells. -/
noncomputable def stT (cells : T AV) (off : Nat) : List AV → T AV
  | [] => cells
  | a :: l => stT (cells.upd off a) (off+1) l
noncomputable def stK (l : List AV) : T AV → Nat → (T AV → Bool) → Bool :=
  List.rec (motive := fun _ => T AV → Nat → (T AV → Bool) → Bool) (fun c _ k => k c) (fun a _ ih c off k => avK a fun a => c.set off a fun c => ih c (Nat.succ off) k) l
theorem stK_eq (l : List AV) : ∀ (c : T AV) (off : Nat) (k : T AV → Bool), stK l c off k = k (stT c off l) := by
  induction l with
  | nil => intro c off k; rfl
  | cons a l ih => intro c off k; show avK a (fun a => c.set off a fun c => stK l c (off+1) k) = _; rw [avK_eq, T.set_eq, ih]; rfl

theorem cellOf_stT (dz : List AV) (l : List AV) : ∀ (cells : T AV) (off j : Nat), cellOf (stT cells off l) dz j = if h : off ≤ j ∧ j < off + l.length then l[j - off]'(by omega) else cellOf cells dz j := by
  induction l with
  | nil => intro cells off j; simp only [stT, List.length_nil]; rw [dif_neg (by omega)]
  | cons a l ih =>
    intro cells off j
    simp only [stT, ih, cellOf_upd, List.length_cons]
    by_cases h1 : j = off
    · subst h1
      rw [dif_neg (by omega), dif_pos (by omega)]; simp
    · by_cases h2 : off + 1 ≤ j ∧ j < off + 1 + l.length
      · rw [dif_pos h2, dif_pos (by omega)]
        obtain ⟨q, rfl⟩ : ∃ q, j = off + 1 + q := ⟨j - (off+1), by omega⟩
        simp [show off + 1 + q - off = q + 1 by omega, show off + 1 + q - (off+1) = q by omega]
      · rw [dif_neg h2, if_neg h1, dif_neg (by omega)]

noncomputable def allCell (l : List AV) : Bool := List.rec (motive := fun _ => Bool) true (fun a _ ih => a.isCell && ih) l
theorem allCell_mem {l : List AV} (h : allCell l = true) : ∀ a ∈ l, a.isCell = true := by
  induction l with
  | nil => intro a ha; cases ha
  | cons x l ih =>
    have h' : (x.isCell && allCell l) = true := h
    simp at h'
    intro a ha
    cases ha with
    | head => exact h'.1
    | tail _ hm => exact ih h'.2 a hm

theorem LRel.oneCells {σ : Nat → Value} {m : BM} {l : List AV} {l' : List Value} (h : LRel σ m l l') (ha : allCell l = true) : ∀ v ∈ l', v.oneCell' = true := by
  induction l generalizing l' with
  | nil => cases h; intro v hv; cases hv
  | cons x l ih =>
    have h' : (x.isCell && allCell l) = true := ha
    simp at h'
    cases h with
    | cons _ v _ l' h t =>
      intro u hu
      cases hu with
      | head => exact h.oneCell h'.1
      | tail _ hm => exact ih t h'.2 u hm

namespace Rel
variable {P : Program} {σ : Nat → Value} {prot : Nat → Prop} {w0 : World} {m : BM} {mem : T AB} {next : Nat} {w : World}

theorem congr (h : Rel σ prot w0 m mem next w) {mem' : T AB} (e : ∀ b, mem'.get b = mem.get b) : Rel σ prot w0 m mem' next w :=
  ⟨h.os, h.tape, h.output, h.size, h.plt, h.keep, fun b B r c hb => h.blk b B r c (e b ▸ hb), fun b b' B B' r c c' h1 h2 h3 => h.inj b b' B B' r c c' (e b ▸ h1) h2 (e b' ▸ h3), h.lt, h.fresh, fun b B r c hb => h.wr b B r c (e b ▸ hb)⟩

theorem cellsAt_rel (h : Rel σ prot w0 m mem next w) {b e n : Nat} {cells : T AV} {dz : List AV} {grow ro r c : Nat} (hb : mem.get b = some (.row e n cells dz grow ro)) (hm : m b = some (r, c)) :
    ∀ (k off : Nat), off + k ≤ n → ∃ vs : List Value, vs.length = k ∧ LRel σ m (cellsAt cells dz k off) vs ∧ ∀ (j : Nat) (v : Value), vs[j]? = some v → w.cell? ⟨r, off + j, none⟩ = some v := by
  intro k
  induction k with
  | zero => intro off hk; exact ⟨[], rfl, .nil, by intro j v hv; simp at hv⟩
  | succ k ih =>
    intro off hk
    obtain ⟨v, hv, hr⟩ := h.cell hb hm off (by omega)
    obtain ⟨vs, h1, h2, h3⟩ := ih (off+1) (by omega)
    refine ⟨v :: vs, by simp [h1], .cons _ _ _ _ hr h2, ?_⟩
    intro j u hu
    cases j with
    | zero => simp at hu; subst hu; exact hv
    | succ j => have := h3 j u (by simpa using hu); rw [show off + (j+1) = off + 1 + j by omega]; exact this

theorem loadCells_ok (h : Rel σ prot w0 m mem next w) {b e n : Nat} {cells : T AV} {dz : List AV} {grow ro r c : Nat} (hb : mem.get b = some (.row e n cells dz grow ro)) (hm : m b = some (r, c))
    (k off : Nat) (hk : off + k ≤ n) : ∃ vs : List Value, vs.length = k ∧ LRel σ m (cellsAt cells dz k off) vs ∧ (loadCells ⟨r, off, none⟩ k).run P w = .ok ⟨vs⟩ w := by
  obtain ⟨vs, h1, h2, h3⟩ := h.cellsAt_rel hb hm k off hk
  refine ⟨vs, h1, h2, ?_⟩
  have := run_loadCells_list (P := P) w ⟨r, off, none⟩ vs (fun j v hv => by rw [addr_add]; exact h3 j v hv)
  rw [h1] at this; exact this

theorem storeCells_ok {b e n : Nat} {dz : List AV} {grow ro r c : Nat} (hm : m b = some (r, c)) (off : Nat) (hro : ro ≤ off) :
    ∀ (l : List AV) (vs : List Value) (i : Nat) (cells : T AV) (mem : T AB) (w : World), Rel σ prot w0 m mem next w → mem.get b = some (.row e n cells dz grow ro) → LRel σ m l vs → allCell l = true → off + i + l.length ≤ n →
      ∃ w', (storeCells ⟨r, off, none⟩ vs i).run P w = .ok () w' ∧ Rel σ prot w0 m (mem.upd b (.row e n (stT cells (off+i) l) dz grow ro)) next w' := by
  intro l
  induction l with
  | nil =>
    intro vs i cells mem w h hb hl ha hn
    cases hl
    refine ⟨w, rfl, h.congr ?_⟩
    intro x; rw [T.get_upd]; split
    · rename_i e; subst e; exact hb.symm
    · rfl
  | cons a l ih =>
    intro vs i cells mem w h hb hl ha hn
    have h' : (a.isCell && allCell l) = true := ha
    simp at h'
    cases hl with
    | cons _ v _ vs hv ht =>
      simp only [List.length_cons] at hn
      obtain ⟨u, hu, _⟩ := h.cell hb hm (off+i) (by omega)
      have hf := h.free hb hm (off+i) (by omega) (by omega)
      have hR := h.setCell hb hm (off+i) (by omega) (by omega) hv
      obtain ⟨w', hrun, hR'⟩ := ih vs (i+1) (cells.upd (off+i) a) _ _ hR (by rw [T.get_upd]; simp) ht h'.2 (by omega)
      refine ⟨w', ?_, hR'.congr ?_⟩
      · rw [storeCells]
        simp only [Sem.run_bind, addr_add]
        rw [run_store P w _ v .plain (hv.oneCell h'.1)]
        simp only [hu, hf, Bool.false_eq_true, if_false, Result.andThen_ok]
        exact hrun
      · intro x; simp only [T.get_upd]; split
        · rfl
        · rfl
end Rel

/-- What an operation leaves. -/
def Out (P : Program) (σ : Nat → Value) (prot : Nat → Prop) (w0 : World) (m : BM) (next : Nat) (w : World) (s : Sem Value) (k : AV → T AB → Nat → Bool) : Prop :=
  ∃ a mem' next' m' w' v, k a mem' next' = true ∧ next ≤ next' ∧ BM.ext prot next m m' ∧ Rel σ prot w0 m' mem' next' w' ∧ VRel σ m' a v ∧ s.run P w = .ok v w'

section
variable {P : Program} {σ : Nat → Value} {prot : Nat → Prop} {w0 : World} {m : BM} {mem : T AB} {next : Nat} {w : World}

theorem Out.pure (h : Rel σ prot w0 m mem next w) {s : Sem Value} {k : AV → T AB → Nat → Bool} {a : AV} {v : Value} (hk : k a mem next = true) (hv : VRel σ m a v) (hs : s.run P w = .ok v w) : Out P σ prot w0 m next w s k :=
  ⟨a, mem, next, m, w, v, hk, Nat.le_refl _, BM.ext_refl _ _ _, h, hv, hs⟩

theorem ext_new (h : Rel σ prot w0 m mem next w) (c : Nat) : BM.ext prot next m (fun x => if x = next then some (w.heap.size, c) else m x) :=
  ⟨fun x y hx => by
    by_cases e : x = next
    · subst e; rw [h.fresh _ (Nat.le_refl _)] at hx; cases hx
    · simp [e, hx], fun x hx => by simp [Nat.ne_of_lt hx], fun x r cc h1 h2 hp => by
    by_cases e : x = next
    · simp [e] at h1
      have := h.plt r hp
      have := h.size
      omega
    · simp [e, h2] at h1⟩

/-- A new block and its pointer. -/
theorem Out.new (h : Rel σ prot w0 m mem next w) {s : Sem Value} {k : AV → T AB → Nat → Bool} (B : AB) (c : Nat) (o : Obj) (a : AV) (v : Value)
    (hB : ∀ m' : BM, m.le m' → m' next = some (w.heap.size, c) → BRel σ m' B c (some o))
    (hk : k a (mem.upd next B) (next+1) = true) (hv : ∀ m' : BM, m.le m' → m' next = some (w.heap.size, c) → VRel σ m' a v)
    (hs : s.run P w = .ok v (w.alloc o)) : Out P σ prot w0 m next w s k := by
  have hx := ext_new h c
  have hn : (fun x => if x = next then some (w.heap.size, c) else m x) next = some (w.heap.size, c) := by simp
  obtain ⟨_, hR⟩ := h.alloc B c o (hB _ hx.le hn)
  exact ⟨a, _, _, _, _, v, hk, Nat.le_succ _, hx, hR, hv _ hx.le hn, hs⟩
end
end Go.Ev

/- The operations, one by one. -/
namespace Go.Ev

theorem cellsAt_get (cells : T AV) (dz : List AV) : ∀ (n off i : Nat), i < n → (cellsAt cells dz n off)[i]? = some (cellOf cells dz (off+i)) := by
  intro n
  induction n with
  | zero => intro off i h; omega
  | succ n ih =>
    intro off i h
    cases i with
    | zero => rfl
    | succ i => simp only [cellsAt, List.getElem?_cons_succ]; rw [ih (off+1) i (by omega)]; congr 2; omega

theorem TIRel.zlist {P : Program} {t : Nat} {x : TI} {i : TypeInfo} {d : TypeDesc} {z : Value} (h : TIRel P t x i d z) (σ : Nat → Value) (m : BM) :
    LRel σ m (cellsAt .e x.zero x.size 0) z.cells.toList := by
  refine LRel.of_get ?_ ?_
  · rw [cellsAt_length]; simp [h.zsz]
  · intro j a v ha hv
    have hj : j < x.size := by
      have := (List.getElem?_eq_some_iff.1 hv).1; simpa [h.zsz] using this
    rw [cellsAt_get _ _ _ _ _ hj, Nat.zero_add] at ha
    obtain ⟨u, hu, hr⟩ := h.zrel σ m j hj
    rw [Array.getElem?_toList] at hv
    rw [hu] at hv; cases hv; cases ha; exact hr

/-- A list as the cells of a row. -/
noncomputable def ofL (l : List AV) : T AV := stT .e 0 l
theorem rowRel_ofL {σ : Nat → Value} {m : BM} {l : List AV} {vs : List Value} (h : LRel σ m l vs) (dz : List AV) (c : Nat) : RowRel σ m l.length (ofL l) dz 0 0 c ⟨vs⟩ (0, 0) := by
  refine ⟨by simp [h.length], by simp [h.length], by simp, ?_, by simp⟩
  intro i hi
  unfold ofL
  rw [cellOf_stT, dif_pos (by omega)]
  obtain ⟨v, hv, hr⟩ := h.get i (l[i - 0]'(by omega)) (by simp)
  exact ⟨v, by simpa using hv, hr⟩

theorem rowRel_zero {P : Program} {t : Nat} {x : TI} {i : TypeInfo} {d : TypeDesc} {z : Value} (h : TIRel P t x i d z) (σ : Nat → Value) (m : BM) (c : Nat) : RowRel σ m x.size .e x.zero 0 0 c z.cells (0, 0) :=
  ⟨by simp [h.zsz], fun _ => h.zsz, by simp, fun j hj => h.zrel σ m j hj, by simp⟩

variable {P : Program} {σ : Nat → Value} {prot : Nat → Prop} {w0 : World} {m : BM} {mem : T AB} {next : Nat} {w : World}

/-! ### alloc, box -/
noncomputable def opAlloc (ti : T TI) (e : Nat) (mem : T AB) (next : Nat) (k : AV → T AB → Nat → Bool) : Bool :=
  match ti.get e with
  | some x => mem.set next (.row e x.size .e x.zero 0 0) fun mem => k (.ptr next 0) mem (Nat.succ next)
  | none => false
theorem opAlloc_ok {ti : T TI} (hti : TIOk P ti) (h : Rel σ prot w0 m mem next w) {e : Nat} {k : AV → T AB → Nat → Bool} (hk : opAlloc ti e mem next k = true) :
    Out P σ prot w0 m next w (Instr.alloc e true (.tuple #[])) k := by
  unfold opAlloc at hk
  split at hk
  · rename_i x hx
    obtain ⟨i, d, z, hz⟩ := hti e x hx
    rw [T.set_eq] at hk
    refine Out.new h _ 0 (.cells z.cells e) _ (.pointer (some ⟨w.heap.size, 0, none⟩)) ?_ hk ?_ ?_
    · intro m' _ _; exact ⟨_, _, rfl, rowRel_zero hz σ m' 0⟩
    · intro m' _ hm; exact .ptr _ _ _ _ hm
    · simp [Instr.alloc, run_zero hz.info hz.zero, newVar, newRow]
  · cases hk

noncomputable def opBox (e : Nat) (v : AV) (mem : T AB) (next : Nat) (k : AV → T AB → Nat → Bool) : Bool :=
  bif v.noTop then stK v.cells .e 0 fun c => mem.set next (.row e v.cells.length c [] 0 0) fun mem => k (.ptr next 0) mem (Nat.succ next) else false
theorem opBox_ok (h : Rel σ prot w0 m mem next w) {e : Nat} {a : AV} {v : Value} (hv : VRel σ m a v) {k : AV → T AB → Nat → Bool} (hk : opBox e a mem next k = true) :
    Out P σ prot w0 m next w (Instr.box e v) k := by
  unfold opBox at hk
  cases hnt : a.noTop with
  | false => rw [hnt, cond_false] at hk; cases hk
  | true =>
  rw [hnt, cond_true, stK_eq, T.set_eq] at hk
  refine Out.new h _ 0 (.cells v.cells e) _ (.pointer (some ⟨w.heap.size, 0, none⟩)) ?_ hk ?_ ?_
  · intro m' hm _; exact ⟨_, _, rfl, rowRel_ofL ((hv.cells hnt).mono hm) [] 0⟩
  · intro m' _ hm; exact .ptr _ _ _ _ hm
  · simp [Instr.box, newVar, newRow]

/-! ### load, store -/
noncomputable def opLoad (ti : T TI) (t : Nat) (a : AV) (mem : T AB) (next : Nat) (k : AV → T AB → Nat → Bool) : Bool :=
  match a with
  | .ptr b off => match mem.get b with
    | some (.row _ n cells dz _ _) => match ti.get t with
      | some x => bif x.ud.agg then (bif Nat.ble (off + x.size) n then ldK cells dz x.size off fun l => k (.agg l) mem next else false)
          else (bif Nat.blt off n then avK (cellOf cells dz off) fun v => k v mem next else false)
      | none => false
    | _ => false
  | _ => false
theorem opLoad_ok {ti : T TI} (hti : TIOk P ti) (h : Rel σ prot w0 m mem next w) {t : Nat} {a : AV} {v : Value} (hv : VRel σ m a v) {k : AV → T AB → Nat → Bool} (hk : opLoad ti t a mem next k = true) :
    Out P σ prot w0 m next w (Instr.loadAt t v) k := by
  unfold opLoad at hk
  split at hk
  · rename_i b off
    split at hk
    · rename_i e n cells dz grow ro hb
      split at hk
      · rename_i x hx
        obtain ⟨i, d, z, hz⟩ := hti t x hx
        cases hv with
        | ptr b off r c hm =>
          have hag := UDRel.agg (w := w) hz.ud hz.und
          cases hag' : x.ud.agg with
          | true =>
            simp only [hag', cond_true] at hk
            cases hle : Nat.ble (off + x.size) n with
            | true =>
              simp only [hle, cond_true] at hk
              rw [ldK_eq] at hk
              obtain ⟨vs, h1, h2, h3⟩ := h.loadCells_ok (P := P) hb hm x.size off (Nat.le_of_ble_eq_true hle)
              refine Out.pure h hk (.agg _ _ h2) ?_
              simp [Instr.loadAt, Instr.sureAddr, loadVar, hag, hag', run_size hz.info, hz.size, h3]
            | false => simp [hle] at hk
          | false =>
            simp only [hag', cond_false] at hk
            cases hle : Nat.blt off n with
            | true =>
              simp only [hle, cond_true] at hk
              rw [avK_eq] at hk
              obtain ⟨u, hu, hr⟩ := h.cell hb hm off (by rw [Nat.blt_eq] at hle; exact hle)
              refine Out.pure h hk hr ?_
              simp [Instr.loadAt, Instr.sureAddr, loadVar, hag, hag', hu]
            | false => simp [hle] at hk
      · cases hk
    · cases hk
  · cases hk

/-- Store: memory changes only. -/
def OutS (P : Program) (σ : Nat → Value) (prot : Nat → Prop) (w0 : World) (m : BM) (next : Nat) (w : World) (s : Sem Unit) (k : T AB → Bool) : Prop :=
  ∃ mem' w', k mem' = true ∧ Rel σ prot w0 m mem' next w' ∧ s.run P w = .ok () w'

noncomputable def opStore (ti : T TI) (t : Nat) (a v : AV) (mem : T AB) (k : T AB → Bool) : Bool :=
  match a with
  | .ptr b off => match mem.get b with
    | some (.row e n cells dz grow ro) => match ti.get t with
      | some x => bif Nat.beq v.cells.length x.size && Nat.ble (off + x.size) n && Nat.ble ro off && allCell v.cells && v.noTop then stK v.cells cells off fun cells => mem.set b (.row e n cells dz grow ro) fun mem => k mem else false
      | none => false
    | _ => false
  | _ => false
theorem opStore_ok {ti : T TI} (hti : TIOk P ti) (h : Rel σ prot w0 m mem next w) {t : Nat} {a b : AV} {v u : Value} (hv : VRel σ m a v) (hu : VRel σ m b u) {k : T AB → Bool} (hk : opStore ti t a b mem k = true) :
    OutS P σ prot w0 m next w (Instr.storeAt t v u) k := by
  unfold opStore at hk
  split at hk
  · rename_i bl off
    split at hk
    · rename_i e n cells dz grow ro hb
      split at hk
      · rename_i x hx
        obtain ⟨i, d, z, hz⟩ := hti t x hx
        cases hv with
        | ptr _ _ r c hm =>
          cases hc : (Nat.beq b.cells.length x.size && Nat.ble (off + x.size) n && Nat.ble ro off && allCell b.cells && b.noTop) with
          | false => simp [hc] at hk
          | true =>
            simp only [hc, cond_true] at hk
            simp only [Bool.and_eq_true] at hc
            obtain ⟨⟨⟨⟨c1, c2⟩, c3⟩, c4⟩, c5⟩ := hc
            have c1 := Nat.eq_of_beq_eq_true c1
            have c2 := Nat.le_of_ble_eq_true c2
            have c3 := Nat.le_of_ble_eq_true c3
            rw [stK_eq, T.set_eq] at hk
            have hl := hu.cells c5
            obtain ⟨w', hrun, hR⟩ := Rel.storeCells_ok (P := P) hm off c3 b.cells u.cells.toList 0 cells mem w h hb hl c4 (by omega)
            refine ⟨_, w', hk, hR, ?_⟩
            have hsz : u.cells.size = i.size := by
              have := hl.length; simp at this; rw [← this, c1, hz.size]
            simp only [Instr.storeAt, Instr.sureAddr, storeVar, Sem.run_bind, Sem.run_pure, Result.andThen_ok, run_size hz.info, hsz]
            simpa using hrun
      · cases hk
    · cases hk
  · cases hk
end Go.Ev

