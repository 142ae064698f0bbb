/- A part of the evaluator that the proof of InitialNone leans on: definitions and their soundness over the kit's laws; no condition. -/
import Derived.Test.YtonlnkibohmalaaGreatDoorEv3
set_option linter.unusedVariables false
set_option linter.unusedSimpArgs false
/- append, copy, len, min, max. -/
namespace Go.Ev
variable {P : Program} {σ : Nat → Value} {prot : Nat → Prop} {w0 : World} {m : BM} {mem : T AB} {next : Nat} {w : World}

def lenA : AV → Option Nat
  | .str l => some l.length
  | .slice _ _ len _ => some len
  | .sliceU _ _ _ len => some len
  | .nils => some 0
  | .emp => some 0
  | _ => none

noncomputable def firstA (size n : Nat) (x : AV) (mem : T AB) (k : List AV → Bool) : Bool :=
  match x with
  | .str l => k ((l.take n).map fun b => .int .u8 (Int.ofNat b))
  | .slice b off _ _ => (match mem.get b with
    | some (.row _ nn cells dz _ _) => bif Nat.ble (off + n * size) nn then ldK cells dz (n * size) off k else false
    | _ => false)
  | .sliceU b off _ _ => (match mem.get b with
    | some (.row _ nn cells dz _ _) => bif Nat.ble (off + n * size) nn then ldK cells dz (n * size) off k else false
    | _ => false)
  | .nils => k []
  | .emp => bif Nat.beq n 0 then k [] else false
  | _ => false

theorem lenA_ok {x : AV} {n : Nat} (h : lenA x = some n) {v : Value} (hv : VRel σ m x v) : (Builtin.lenOf v).run P w = .ok n w := by
  unfold lenA at h
  split at h <;> first
    | (cases h; done)
    | (injection h with h; subst h; cases hv; first | rfl | (rename_i s hs; show Result.ok s.size w = _; rw [← hs]; simp))

theorem firstA_ok (hR : Rel σ prot w0 m mem next w) {size n : Nat} {x : AV} {v : Value} (hv : VRel σ m x v) {k : List AV → Bool} (h : firstA size n x mem k = true) :
    ∃ l vs, (Builtin.firstCells size n v).run P w = .ok (⟨vs⟩ : Array Value) w ∧ LRel σ m l vs ∧ k l = true := by
  unfold firstA at h
  split at h
  · cases hv with
    | str l s hs =>
      refine ⟨_, ((s.data.toList.take n).map fun b => Value.int .u8 (b.toNat : Int)), ?_, ?_, h⟩
      · simp only [Builtin.firstCells, Sem.run_pure]
        congr 1
        apply Array.ext'
        simp [ByteArray.data_extract]
      · rw [← hs, ← List.map_take]; exact bytesRel _
  · rename_i b off _ _
    cases hv with
    | slice _ _ _ _ r c hm =>
      split at h
      · rename_i e nn cells dz g ro hb
        cases hc : Nat.ble (off + n * size) nn with
        | false => rw [hc, cond_false] at h; cases h
        | true =>
          rw [hc, cond_true, ldK_eq] at h
          obtain ⟨vs, h1, h2, h3⟩ := hR.loadCells_ok (P := P) hb hm (n * size) off (Nat.le_of_ble_eq_true hc)
          exact ⟨_, vs, h3, h2, h⟩
      · cases h
  · rename_i b off _ _
    cases hv with
    | sliceU _ _ _ _ r c hm =>
      split at h
      · rename_i e nn cells dz g ro hb
        cases hc : Nat.ble (off + n * size) nn with
        | false => rw [hc, cond_false] at h; cases h
        | true =>
          rw [hc, cond_true, ldK_eq] at h
          obtain ⟨vs, h1, h2, h3⟩ := hR.loadCells_ok (P := P) hb hm (n * size) off (Nat.le_of_ble_eq_true hc)
          exact ⟨_, vs, h3, h2, h⟩
      · cases h
  · cases hv; exact ⟨[], [], rfl, .nil, h⟩
  · cases hc : Nat.beq n 0 with
    | false => rw [hc, cond_false] at h; cases h
    | true =>
      rw [hc, cond_true] at h
      have := Nat.eq_of_beq_eq_true hc
      subst this
      cases hv
      refine ⟨[], [], ?_, .nil, h⟩
      simp [Builtin.firstCells, loadCells, loadCellsFrom]
  · cases h

theorem growBy_le (need : Nat) : ∀ (r c : Nat), c ≤ need + (need + 768)/4 → Builtin.growBy need r c ≤ need + (need + 768)/4 := by
  intro r
  induction r with
  | zero => intro c h; simpa [Builtin.growBy] using h
  | succ r ih =>
    intro c h
    simp only [Builtin.growBy]
    split
    · exact h
    · exact ih _ (by omega)

theorem nextcap_le {need cap : Nat} (h : cap < need) : Builtin.nextslicecap need cap ≤ 2 * need + 200 := by
  unfold Builtin.nextslicecap
  split
  · omega
  · split
    · omega
    · have := growBy_le need 4 cap (by omega)
      omega

/-- The head of append. -/
theorem run_append_head {ti : T TI} (hti : TIOk P ti) {st xt e : Nat} {xs xx xe : TI} (h1 : ti.get st = some xs) (h2 : xs.ud = .slice e) (h3 : ti.get xt = some xx) (h4 : ∀ k, xx.ud ≠ .int k) (h5 : ti.get e = some xe)
    {base : Option Addr} {sLen sCap n : Nat} {x : Value} (hn : (Builtin.lenOf x).run P w = .ok n w) {old new : Array Value} (ty : TypeId)
    (hold : (Builtin.firstCells xe.size sLen (.slice base sLen sCap)).run P w.drew = .ok old w.drew) (hnew : (Builtin.firstCells xe.size n x).run P w = .ok new w) (hnew' : (Builtin.firstCells xe.size n x).run P w.drew = .ok new w.drew) :
    (sLen + n ≤ sCap → base = none → (Builtin.append_ #[st, xt] ty #[.slice base sLen sCap, x]).run P w = .ok (.slice none (sLen + n) sCap) w) ∧
    (sLen + n ≤ sCap → ∀ a, base = some a → (Builtin.append_ #[st, xt] ty #[.slice base sLen sCap, x]).run P w = ((storeCells (a.add (sLen * xe.size)) new.toList).run P w).andThen fun _ w => .ok (.slice base (sLen + n) sCap) w) ∧
    (sCap < sLen + n → (2 * (sLen + n) + 200) * xe.bytes ≤ 281474976710656 → xe.bytes ≠ 0 → ∃ (cap : Nat) (rest : List Value), sLen + n ≤ cap ∧ rest.length = (cap - (sLen + n)) * xe.size ∧
      (Builtin.append_ #[st, xt] ty #[.slice base sLen sCap, x]).run P w = .ok (.slice (some ⟨w.heap.size, 0, none⟩) (sLen + n) cap) (w.drew.alloc (.cells (old ++ new ++ ⟨rest⟩) e))) := by
  obtain ⟨i1, d1, z1, hz1⟩ := hti st _ h1
  have hd := hz1.ud; rw [h2] at hd; simp only [UDRel] at hd; subst hd
  obtain ⟨i2, d2, z2, hz2⟩ := hti xt _ h3
  obtain ⟨ie, de, ze, hze⟩ := hti e _ h5
  have u1 := hz1.und
  have u2 := hz2.und
  have hne : ∀ k, d2 ≠ .int k := by
    have hd := hz2.ud
    obtain ⟨ud, _, _, _⟩ := xx
    intro k hk; subst hk
    cases ud <;> simp only [UDRel] at hd
    case int k => exact absurd rfl (h4 k)
    case strct => obtain ⟨_, h, _⟩ := hd; cases h
    case func => obtain ⟨_, _, _, h⟩ := hd; cases h
    case iface => obtain ⟨_, h⟩ := hd; cases h
    all_goals (cases hd)
  clear hz2 h4
  refine ⟨?_, ?_, ?_⟩
  · intro hle hb
    subst hb
    cases d2 <;> first
      | exact absurd rfl (hne _)
      | (simp only [Builtin.append_, List.getElem?_toArray, List.getElem?_cons_zero, List.getElem?_cons_succ, Sem.run_bind, Sem.run_pure, run_und u1, run_und u2, run_size hze.info, hze.size, Result.andThen_ok, Bool.false_eq_true, if_false, hn, hle, if_true, Bool.not_false, hnew])
  · intro hle a hb
    subst hb
    cases d2 <;> first
      | exact absurd rfl (hne _)
      | (simp only [Builtin.append_, List.getElem?_toArray, List.getElem?_cons_zero, List.getElem?_cons_succ, Sem.run_bind, Sem.run_pure, run_und u1, run_und u2, run_size hze.info, hze.size, Result.andThen_ok, Bool.false_eq_true, if_false, hn, hle, if_true, Bool.not_false, hnew])
  · intro hlt hb hb0
    have hle : ¬ (sLen + n ≤ sCap) := by omega
    obtain ⟨cap, hcap⟩ : ∃ cap, cap = (Question.appendCap (sLen + n) sCap e).cut (w.tape w.drawn (Question.appendCap (sLen + n) sCap e)) := ⟨_, rfl⟩
    have hge : sLen + n ≤ cap := by rw [hcap]; simp [Question.cut]
    have hq : (Question.appendCap (sLen + n) sCap e).forced = false := rfl
    have hnc : ¬ (Builtin.nextslicecap (sLen + n) sCap * xe.bytes > 2 ^ 48) := by
      have := nextcap_le hlt
      have h' := Nat.mul_le_mul_right xe.bytes this
      omega
    refine ⟨cap, (Builtin.zeroCells ze.cells (cap - (sLen + n))).toList, hge, ?_, ?_⟩
    · simp [Builtin.zeroCells, hze.zsz]
    · have hb0' : (xe.bytes = 0) = False := by simp [hb0]
      cases d2 <;> first
        | exact absurd rfl (hne _)
        | (simp only [Builtin.append_, List.getElem?_toArray, List.getElem?_cons_zero, List.getElem?_cons_succ, Sem.run_bind, Sem.run_pure, run_und u1, run_und u2, run_size hze.info, hze.size, run_info hze.info, hze.bytes, hb0', Result.andThen_ok, Bool.false_eq_true, if_false, hn, hle, if_true, Bool.not_false, or_self, and_false, hnc, run_choose, hq, ← hcap, World.drew_eq, run_askRoom, hold, hnew', run_zero hze.info hze.zero, newRow, run_newObj, World.alloc_eq, World.size_drew])
end Go.Ev

/- append, copy, len, min, max. -/
namespace Go.Ev
variable {P : Program} {σ : Nat → Value} {prot : Nat → Prop} {w0 : World} {m : BM} {mem : T AB} {next : Nat} {w : World}

def UD.isInt : UD → Bool
  | .int _ => true
  | _ => false

noncomputable def opAppend (ti : T TI) (st xt : Nat) (s x : AV) (mem : T AB) (next : Nat) (k : AV → T AB → Nat → Bool) : Bool :=
  match ti.get st, ti.get xt, lenA s, lenA x with
  | some ⟨.slice e, _, _, _⟩, some xx, some sLen, some n => (match ti.get e with
    | some xe => bif xx.ud.isInt then false else bif Nat.blt 0 xe.size && Nat.blt 0 xe.bytes && Nat.ble ((2 * (sLen + n) + 200) * xe.bytes) 281474976710656 then
        natK (sLen + n) fun need =>
        (match s with
        | .nils => (bif Nat.beq n 0 then k .nils mem next else
            firstA xe.size n x mem fun new => bif allCell new && Nat.beq new.length (need * xe.size) then natK new.length fun nn => stK new .e 0 fun c => mem.set next (.row e nn c [] xe.size 0) fun mem => k (.sliceU next 0 0 need) mem (Nat.succ next) else false)
        | .slice b off _ cap => (bif Nat.ble need cap then
            (match mem.get b with
            | some (.row be nn cells dz g ro) => firstA xe.size n x mem fun new =>
                bif allCell new && Nat.ble (off + sLen * xe.size + new.length) nn && Nat.ble ro (off + sLen * xe.size) then stK new cells (off + sLen * xe.size) fun c => mem.set b (.row be nn c dz g ro) fun mem => k (.slice b off need cap) mem next else false
            | _ => false)
            else firstA xe.size sLen s mem fun old => firstA xe.size n x mem fun new => bif allCell new && allCell old && Nat.beq (old ++ new).length (need * xe.size) then
              natK (old ++ new).length fun nn => stK (old ++ new) .e 0 fun c => mem.set next (.row e nn c [] xe.size 0) fun mem => k (.sliceU next 0 0 need) mem (Nat.succ next) else false)
        | .sliceU b off koff _ => (match mem.get b with
            | some (.row be nn cells dz g ro) => bif Nat.beq be e && Nat.beq g xe.size && Nat.beq off 0 && Nat.beq koff 0 && Nat.ble (sLen * xe.size) nn && Nat.ble ro (sLen * xe.size) then
                (bif Nat.beq n 0 then k s mem next else
                firstA xe.size n x mem fun new => bif allCell new && Nat.beq new.length (n * xe.size) then stK new cells (sLen * xe.size) fun c => mem.set b .dead fun mem => natK (need * xe.size) fun nn => mem.set next (.row e nn c dz xe.size ro) fun mem => k (.sliceU next 0 0 need) mem (Nat.succ next) else false) else false
            | _ => false)
        | _ => false) else false
    | none => false)
  | _, _, _, _ => false

/-- A new row with spare room, after a draw. -/
theorem Out.grown (h : Rel σ prot w0 m mem next w) {s : Sem Value} {k : AV → T AB → Nat → Bool} {e sz need cap : Nat} {l : List AV} {vs rest : List Value} (hsz : sz ≠ 0) (hl : LRel σ m l vs) (hlen : l.length = need * sz) (hcap : need ≤ cap) (hrest : rest.length = (cap - need) * sz)
    (hk : k (.sliceU next 0 0 need) (mem.upd next (.row e l.length (stT .e 0 l) [] sz 0)) (next+1) = true)
    (hs : s.run P w = .ok (.slice (some ⟨w.heap.size, 0, none⟩) need cap) (w.drew.alloc (.cells (⟨vs⟩ ++ ⟨rest⟩) e))) : Out P σ prot w0 m next w s k := by
  have hd := h.drew
  have hn : (fun x => if x = next then some (w.drew.heap.size, cap) else m x) next = some (w.drew.heap.size, cap) := by simp
  have hB : ∀ m' : BM, m.le m' → BRel σ m' (.row e l.length (stT .e 0 l) [] sz 0) cap (some (.cells (⟨vs⟩ ++ ⟨rest⟩ : Array Value) e (0, 0))) := by
    intro m' hm
    refine ⟨_, _, rfl, ?_⟩
    have hc : (vs ++ rest).length = cap * sz := by
      have := hl.length
      rw [List.length_append, ← this, hlen, hrest, ← Nat.add_mul]; congr 1; omega
    have := rowRel_spare (hl.mono hm) [] sz hsz cap rest hc (0, 0) (by intro i _; simp)
    have e1 : (⟨vs⟩ ++ ⟨rest⟩ : Array Value) = ⟨vs ++ rest⟩ := by apply Array.ext'; simp
    rw [e1]; exact this
  have hle := (ext_new hd cap).le
  obtain ⟨_, hR⟩ := hd.alloc _ cap _ (hB _ hle)
  exact ⟨_, _, _, _, _, .slice (some ⟨w.heap.size, 0, none⟩) need (cap - 0), hk, Nat.le_succ _, ext_new hd cap, hR, .sliceU next 0 0 need w.drew.heap.size cap hn, hs⟩

theorem isInt_ne {u : UD} (h : u.isInt = false) : ∀ k, u ≠ .int k := by intro k hk; subst hk; simp [UD.isInt] at h

theorem lenA_slice {s : AV} {n : Nat} (h : lenA s = some n) : (∀ {b off len cap}, s = .slice b off len cap → n = len) ∧ (∀ {b off koff len}, s = .sliceU b off koff len → n = len) ∧ (s = .nils → n = 0) := by
  refine ⟨?_, ?_, ?_⟩ <;> (intros; subst_vars; simpa [lenA] using h.symm)


/-- Stores into a row, told on the world. -/
theorem run_storeCells_row (r off : Nat) : ∀ (vs : List Value) (i : Nat) (w : World) (cs : Array Value) (e : Nat) (fr : Nat × Nat), w.heap[r]? = some (.cells cs e fr) → off + i + vs.length ≤ cs.size → (∀ v ∈ vs, v.oneCell' = true) →
    (∀ j, off + i ≤ j → j < off + i + vs.length → (fr.1 ≤ j && j < fr.2) = false) →
    ∃ w' cs', (storeCells ⟨r, off, none⟩ vs i).run P w = .ok () w' ∧ w'.heap[r]? = some (.cells cs' e fr) ∧ cs'.size = cs.size ∧ (∀ j : Nat, cs'[j]? = if off + i ≤ j ∧ j < off + i + vs.length then vs[j - (off + i)]? else cs[j]?) ∧
      w'.os = w.os ∧ w'.tape = w.tape ∧ w'.output = w.output ∧ w'.heap.size = w.heap.size ∧ ∀ k, k ≠ r → w'.heap[k]? = w.heap[k]? := by
  intro vs
  induction vs with
  | nil =>
    intro i w cs e fr h _ _ _
    exact ⟨w, cs, rfl, h, rfl, fun j => by rw [if_neg (by simp)], rfl, rfl, rfl, rfl, fun _ _ => rfl⟩
  | cons v vs ih =>
    intro i w cs e fr h hle h1 hf
    simp only [List.length_cons] at hle hf
    have hcell : w.cell? ⟨r, off + i, none⟩ = some (cs[off+i]'(by omega)) := by simp [World.cell?, h]
    have hfz : w.frozen? ⟨r, off + i, none⟩ = false := by
      have := hf (off+i) (by omega) (by omega)
      obtain ⟨f1, f2⟩ := fr
      simpa [World.frozen?, h] using this
    have hh : (w.setCell ⟨r, off + i, none⟩ v).heap[r]? = some (.cells (cs.setIfInBounds (off+i) v) e fr) := by simp [World.setCell, Array.getElem?_modify, h]
    obtain ⟨w', cs', g1, g2, g3, g4, g5, g6, g7, g8, g9⟩ := ih (i+1) (w.setCell ⟨r, off + i, none⟩ v) _ e fr hh (by simp; omega) (fun u hu => h1 u (by simp [hu])) (fun j a b => hf j (by omega) (by omega))
    refine ⟨w', cs', ?_, g2, by simpa using g3, ?_, g5, g6, g7, by simpa using g8, ?_⟩
    · rw [storeCells]
      simp only [Sem.run_bind, addr_add]
      rw [run_store P w _ v .plain (h1 v (by simp))]
      simp only [hcell, hfz, Bool.false_eq_true, if_false, Result.andThen_ok]
      exact g1
    · intro j
      rw [g4 j, Array.getElem?_setIfInBounds]
      simp only [List.length_cons]
      by_cases e1 : j = off + i
      · subst e1
        rw [if_neg (by omega), if_pos rfl, if_pos (by omega), if_pos (by omega)]; simp
      · by_cases e2 : off + (i+1) ≤ j ∧ j < off + (i+1) + vs.length
        · rw [if_pos e2, if_pos (by omega)]
          obtain ⟨q, rfl⟩ : ∃ q, j = off + i + 1 + q := ⟨j - (off+i+1), by omega⟩
          rw [show off + i + 1 + q - (off + (i+1)) = q by omega, show off + i + 1 + q - (off + i) = q + 1 by omega]; rfl
        · rw [if_neg e2, if_neg (by omega), if_neg (by omega)]
    · intro k hk; rw [g9 k hk]; exact RowKit.Below.heap_setCell w _ v k hk

theorem Rel.rename (h : Rel σ prot w0 m mem next w) {b : Nat} {B : AB} {r c : Nat} (hb : mem.get b = some B) (hw : B.wr = true) (hm : m b = some (r, c)) :
    BM.ext prot next m (fun x => if x = next then some (r, c) else m x) ∧ Rel σ prot w0 (fun x => if x = next then some (r, c) else m x) ((mem.upd b .dead).upd next B) (next+1) w := by
  have hbn : b ≠ next := by intro e; subst e; rw [h.fresh _ (Nat.le_refl _)] at hm; cases hm
  have hx : BM.ext prot next m (fun x => if x = next then some (r, c) else m x) :=
    ⟨fun x y hx => by
      by_cases e : x = next
      · subst e; rw [h.fresh _ (Nat.le_refl _)] at hx; cases hx
      · simp [e, hx], fun x hx => by simp [Nat.ne_of_lt hx], fun x r' cc h1 h2 => by
      by_cases e : x = next
      · simp [e] at h1; rw [← h1.1]; exact h.wr b _ _ _ hb hw hm
      · simp [e, h2] at h1⟩
  have get : ∀ x, ((mem.upd b .dead).upd next B).get x = if x = next then some B else if x = b then some .dead else mem.get x := by
    intro x; rw [T.get_upd, T.get_upd]
  refine ⟨hx, h.os, h.tape, h.output, h.size, h.plt, h.keep, ?_, ?_, ?_, ?_, ?_⟩
  · intro x X r' c' h1 h2
    rw [get] at h1
    by_cases e : x = next
    · simp [e] at h1 h2; obtain ⟨rfl, rfl⟩ := h2; subst h1
      exact (h.blk b _ _ _ hb hm).mono hx.le
    · by_cases e2 : x = b
      · simp [e, e2, hbn] at h1; subst h1; trivial
      · simp [e, e2] at h1 h2; exact (h.blk x _ _ _ h1 h2).mono hx.le
  · intro x x' X X' r' c1 c2 h1 l1 h2 l2 m1 m2
    rw [get] at h1 h2
    by_cases e : x = next <;> by_cases e' : x' = next
    · rw [e, e']
    · by_cases e2 : x' = b
      · simp [e2, hbn] at h2; subst h2; simp [AB.live] at l2
      · simp [e] at h1 m1; simp [e', e2] at h2 m2
        obtain ⟨rfl, rfl⟩ := m1
        exact absurd (h.inj b x' B X' _ _ _ hb (AB.live_of_wr hw) h2 l2 hm m2).symm e2
    · by_cases e2 : x = b
      · simp [e2, hbn] at h1; subst h1; simp [AB.live] at l1
      · simp [e, e2] at h1 m1; simp [e'] at h2 m2
        obtain ⟨rfl, rfl⟩ := m2
        exact absurd (h.inj x b X B _ _ _ h1 l1 hb (AB.live_of_wr hw) m1 hm) e2
    · by_cases e2 : x = b
      · simp [e2, hbn] at h1; subst h1; simp [AB.live] at l1
      · by_cases e3 : x' = b
        · simp [e3, hbn] at h2; subst h2; simp [AB.live] at l2
        · simp [e, e2] at h1 m1; simp [e', e3] at h2 m2
          exact h.inj x x' X X' _ _ _ h1 l1 h2 l2 m1 m2
  · intro x r' c' hx'
    by_cases e : x = next
    · simp [e] at hx'; obtain ⟨rfl, rfl⟩ := hx'; exact h.lt b _ _ hm
    · simp [e] at hx'; exact h.lt x _ _ hx'
  · intro x hx'; have : x ≠ next := by omega
    simp [this]; exact h.fresh x (by omega)
  · intro x X r' c' h1 hw' h2
    rw [get] at h1
    by_cases e : x = next
    · simp [e] at h1 h2; obtain ⟨rfl, rfl⟩ := h2; exact h.wr b _ _ _ hb hw hm
    · by_cases e2 : x = b
      · simp [e, e2, hbn] at h1; subst h1; simp [AB.wr] at hw'
      · simp [e, e2] at h1 h2; exact h.wr x _ _ _ h1 hw' h2

/-- What is appended to a row of unknown capacity. -/
theorem rowRel_app {n : Nat} {cells : T AV} {dz : List AV} {g ro c : Nat} {cs : Array Value} {fr : Nat × Nat} (h : RowRel σ m n cells dz g ro c cs fr) (hg : g ≠ 0) {k : Nat} (hk : k ≤ n) {l : List AV} {vs : List Value} (hl : LRel σ m l vs) {cs' : Array Value}
    (hsz : cs'.size = cs.size) (hle : k + l.length ≤ cs.size) (hcs : ∀ j : Nat, cs'[j]? = if k ≤ j ∧ j < k + vs.length then vs[j - k]? else cs[j]?) :
    RowRel σ m (k + l.length) (stT cells k l) dz g ro c cs' fr := by
  refine ⟨by omega, fun e => absurd e hg, fun e => hsz.trans (h.2.2.1 e), ?_, fun i a b => h.2.2.2.2.1 i a (by omega), fun _ => h.2.2.2.2.2 (.inr hg)⟩
  intro j hj
  rw [cellOf_stT, hcs j, ← hl.length]
  by_cases e : k ≤ j ∧ j < k + l.length
  · rw [dif_pos e, if_pos e]
    exact hl.get (j - k) _ (by simp)
  · rw [dif_neg e, if_neg e]
    exact h.2.2.2.1 j (by omega)
end Go.Ev

/- append, proved; copy, len, min, max. -/
namespace Go.Ev
variable {P : Program} {σ : Nat → Value} {prot : Nat → Prop} {w0 : World} {m : BM} {mem : T AB} {next : Nat} {w : World}

theorem firstCells_emp (size : Nat) (a : Addr) (c : Nat) : (Builtin.firstCells size 0 (.slice (some a) 0 c)).run P w = .ok #[] w := by
  simp [Builtin.firstCells, loadCells, loadCellsFrom]

theorem firstA_both (hR : Rel σ prot w0 m mem next w) {size n : Nat} {x : AV} {v : Value} (hv : VRel σ m x v) {k : List AV → Bool} (h : firstA size n x mem k = true) :
    ∃ l vs, (Builtin.firstCells size n v).run P w = .ok (⟨vs⟩ : Array Value) w ∧ (Builtin.firstCells size n v).run P w.drew = .ok (⟨vs⟩ : Array Value) w.drew ∧ LRel σ m l vs ∧ k l = true := by
  unfold firstA at h
  split at h
  · cases hv with
    | str l s hs =>
      have hx : ∀ w : World, (Builtin.firstCells size n (.string s)).run P w = .ok (⟨(s.data.toList.take n).map fun b => Value.int .u8 (b.toNat : Int)⟩ : Array Value) w := by
        intro w
        simp only [Builtin.firstCells, Sem.run_pure]
        congr 1
        apply Array.ext'
        simp [ByteArray.data_extract]
      exact ⟨_, _, hx w, hx w.drew, by rw [← hs, ← List.map_take]; exact bytesRel _, h⟩
  · rename_i b off _ _
    cases hv with
    | slice _ _ _ _ r c hm =>
      split at h
      · rename_i e nn cells dz g ro hb
        cases hc : Nat.ble (off + n * size) nn with
        | false => rw [hc, cond_false] at h; cases h
        | true =>
          rw [hc, cond_true, ldK_eq] at h
          obtain ⟨vs, h1, h2, h3⟩ := hR.cellsAt_rel hb hm (n * size) off (Nat.le_of_ble_eq_true hc)
          have hx : ∀ W : World, (∀ a, W.cell? a = w.cell? a) → (loadCells ⟨r, off, none⟩ (n * size)).run P W = .ok ⟨vs⟩ W := by
            intro W hW
            have := run_loadCells_list (P := P) W ⟨r, off, none⟩ vs (fun j v hv => by rw [addr_add, hW]; exact h3 j v hv)
            rw [h1] at this; exact this
          exact ⟨_, vs, hx w (fun _ => rfl), hx w.drew (fun _ => rfl), h2, h⟩
      · cases h
  · rename_i b off _ _
    cases hv with
    | sliceU _ _ _ _ r c hm =>
      split at h
      · rename_i e nn cells dz g ro hb
        cases hc : Nat.ble (off + n * size) nn with
        | false => rw [hc, cond_false] at h; cases h
        | true =>
          rw [hc, cond_true, ldK_eq] at h
          obtain ⟨vs, h1, h2, h3⟩ := hR.cellsAt_rel hb hm (n * size) off (Nat.le_of_ble_eq_true hc)
          have hx : ∀ W : World, (∀ a, W.cell? a = w.cell? a) → (loadCells ⟨r, off, none⟩ (n * size)).run P W = .ok ⟨vs⟩ W := by
            intro W hW
            have := run_loadCells_list (P := P) W ⟨r, off, none⟩ vs (fun j v hv => by rw [addr_add, hW]; exact h3 j v hv)
            rw [h1] at this; exact this
          exact ⟨_, vs, hx w (fun _ => rfl), hx w.drew (fun _ => rfl), h2, h⟩
      · cases h
  · cases hv; exact ⟨[], [], rfl, rfl, .nil, h⟩
  · cases hc : Nat.beq n 0 with
    | false => rw [hc, cond_false] at h; cases h
    | true =>
      rw [hc, cond_true] at h
      have := Nat.eq_of_beq_eq_true hc
      subst this
      cases hv
      exact ⟨[], [], firstCells_emp .., firstCells_emp .., .nil, h⟩
  · cases h

theorem opAppend_ok {ti : T TI} (hti : TIOk P ti) (h : Rel σ prot w0 m mem next w) {st xt : Nat} {s x : AV} {s' x' : Value} (hs : VRel σ m s s') (hx : VRel σ m x x') {k : AV → T AB → Nat → Bool} (ty : TypeId) (hk : opAppend ti st xt s x mem next k = true) :
    Out P σ prot w0 m next w (Builtin.append_ #[st, xt] ty #[s', x']) k := by
  unfold opAppend at hk
  split at hk
  · rename_i e _ _ _ xx sLen n hst hxt hsl hnl
    split at hk
    · rename_i xe hxe
      cases hii : xx.ud.isInt with
      | true => rw [hii, cond_true] at hk; cases hk
      | false =>
      rw [hii, cond_false] at hk
      have hn := lenA_ok (P := P) (w := w) hnl hx
      cases hc : (Nat.blt 0 xe.size && Nat.blt 0 xe.bytes && Nat.ble ((2 * (sLen + n) + 200) * xe.bytes) 281474976710656) with
      | false => rw [hc, cond_false] at hk; cases hk
      | true =>
      rw [hc, cond_true, natK_eq] at hk
      simp only [Bool.and_eq_true, Nat.blt_eq] at hc
      obtain ⟨⟨c1, c2⟩, c3⟩ := hc
      have c3 := Nat.le_of_ble_eq_true c3
      have hsz : xe.size ≠ 0 := by omega
      split at hk
      · -- nil
        cases hs
        have : sLen = 0 := by simpa [lenA] using hsl.symm
        subst this
        cases hn0 : Nat.beq n 0 with
        | true =>
          rw [hn0, cond_true] at hk
          have := Nat.eq_of_beq_eq_true hn0
          subst this
          -- nothing is appended to nil
          have hnew : ∃ new : Array Value, (Builtin.firstCells xe.size 0 x').run P w = .ok new w ∧ (Builtin.firstCells xe.size 0 x').run P w.drew = .ok new w.drew := by
            cases x <;> simp [lenA] at hnl <;> cases hx
            · exact ⟨_, rfl, rfl⟩
            · exact ⟨#[], by simp [Builtin.firstCells, loadCells, loadCellsFrom], by simp [Builtin.firstCells, loadCells, loadCellsFrom]⟩
            · exact ⟨#[], by simp [Builtin.firstCells, loadCells, loadCellsFrom], by simp [Builtin.firstCells, loadCells, loadCellsFrom]⟩
            · exact ⟨#[], rfl, rfl⟩
            · exact ⟨#[], firstCells_emp .., firstCells_emp ..⟩
          obtain ⟨new, g1, g2⟩ := hnew
          obtain ⟨r1, r2, r3⟩ := run_append_head (w := w) (base := none) (sLen := 0) (sCap := 0) (old := #[]) hti hst rfl hxt (isInt_ne hii) hxe hn ty rfl g1 g2
          exact Out.pure h hk .nils (r1 (Nat.le_refl _) rfl)
        | false =>
          rw [hn0, cond_false] at hk
          have hn0' : n ≠ 0 := by intro e; subst e; simp at hn0
          obtain ⟨l, vs, f1, f1', f2, f3⟩ := firstA_both (P := P) h hx hk
          cases hcc : (allCell l && Nat.beq l.length ((0 + n) * xe.size)) with
          | false => rw [hcc, cond_false] at f3; cases f3
          | true =>
            rw [hcc, cond_true, natK_eq, stK_eq, T.set_eq] at f3
            simp only [Bool.and_eq_true] at hcc
            have hlen := Nat.eq_of_beq_eq_true hcc.2
            obtain ⟨r1, r2, r3⟩ := run_append_head (w := w) (base := none) (sLen := 0) (sCap := 0) (old := #[]) hti hst rfl hxt (isInt_ne hii) hxe hn ty rfl f1 f1'
            obtain ⟨cap, rest, g1, g2, g3⟩ := r3 (by omega) c3 (by omega)
            refine Out.grown h hsz f2 hlen g1 g2 f3 ?_
            rw [g3]; simp
      · -- a known capacity
        rename_i b off len cap
        have : sLen = len := by simpa [lenA] using hsl.symm
        subst this
        cases hs with
        | slice _ _ _ _ r c hm =>
        cases hle : Nat.ble (sLen + n) cap with
        | true =>
          rw [hle, cond_true] at hk
          have hle := Nat.le_of_ble_eq_true hle
          split at hk
          · rename_i be nn cells dz g ro hb
            obtain ⟨l, vs, f1, f1', f2, f3⟩ := firstA_both (P := P) h hx hk
            cases hcc : (allCell l && Nat.ble (off + sLen * xe.size + l.length) nn && Nat.ble ro (off + sLen * xe.size)) with
            | false => rw [hcc, cond_false] at f3; cases f3
            | true =>
              rw [hcc, cond_true, stK_eq, T.set_eq] at f3
              simp only [Bool.and_eq_true] at hcc
              obtain ⟨⟨d1, d2⟩, d3⟩ := hcc
              have d2 := Nat.le_of_ble_eq_true d2
              have d3 := Nat.le_of_ble_eq_true d3
              obtain ⟨w', g1, g2⟩ := Rel.storeCells_ok (P := P) hm (off + sLen * xe.size) d3 l vs 0 cells mem w h hb f2 d1 (by omega)
              have hold : ∃ old : Array Value, (Builtin.firstCells xe.size sLen (.slice (some ⟨r, off, none⟩) sLen cap)).run P w.drew = .ok old w.drew := by
                obtain ⟨vs', q1, q2, q3⟩ := h.drew.loadCells_ok (P := P) hb hm (sLen * xe.size) off (by omega)
                exact ⟨_, q3⟩
              obtain ⟨old, hold⟩ := hold
              obtain ⟨r1, r2, r3⟩ := run_append_head (w := w) (base := some ⟨r, off, none⟩) (sLen := sLen) (sCap := cap) hti hst rfl hxt (isInt_ne hii) hxe hn ty hold f1 f1'
              have hrun := r2 hle _ rfl
              rw [addr_add, g1] at hrun
              exact ⟨_, _, _, m, w', _, f3, Nat.le_refl _, BM.ext_refl _ _ _, g2, .slice _ _ _ _ _ _ hm, hrun⟩
          · cases hk
        | false =>
          rw [hle, cond_false] at hk
          have hle' : ¬ (sLen + n ≤ cap) := fun e => by rw [Nat.ble_eq_true_of_le e] at hle; cases hle
          obtain ⟨lo, vo, p1, p1', p2, p3⟩ := firstA_both (P := P) h (VRel.slice (σ := σ) b off sLen cap r c hm) hk
          obtain ⟨l, vs, f1, f1', f2, f3⟩ := firstA_both (P := P) h hx p3
          cases hcc : (allCell l && allCell lo && Nat.beq (lo ++ l).length ((sLen + n) * xe.size)) with
          | false => rw [hcc, cond_false] at f3; cases f3
          | true =>
            rw [hcc, cond_true, natK_eq, stK_eq, T.set_eq] at f3
            simp only [Bool.and_eq_true] at hcc
            have hlen := Nat.eq_of_beq_eq_true hcc.2
            obtain ⟨r1, r2, r3⟩ := run_append_head (w := w) (base := some ⟨r, off, none⟩) (sLen := sLen) (sCap := cap) hti hst rfl hxt (isInt_ne hii) hxe hn ty p1' f1 f1'
            obtain ⟨cap', rest, g1, g2, g3⟩ := r3 (by omega) c3 (by omega)
            refine Out.grown h hsz (p2.append f2) hlen g1 g2 f3 ?_
            rw [g3]
            have : (⟨vo⟩ ++ ⟨vs⟩ : Array Value) = ⟨vo ++ vs⟩ := by apply Array.ext'; simp
            rw [this]
      · -- an unknown capacity
        rename_i b off koff len
        have : sLen = len := by simpa [lenA] using hsl.symm
        subst this
        cases hs with
        | sliceU _ _ _ _ r c hm =>
        split at hk
        · rename_i be nn cells dz g ro hb
          cases hcc : (Nat.beq be e && Nat.beq g xe.size && Nat.beq off 0 && Nat.beq koff 0 && Nat.ble (sLen * xe.size) nn && Nat.ble ro (sLen * xe.size)) with
          | false => rw [hcc, cond_false] at hk; cases hk
          | true =>
          rw [hcc, cond_true] at hk
          simp only [Bool.and_eq_true] at hcc
          obtain ⟨⟨⟨⟨⟨d1, d2⟩, d3⟩, d4⟩, d5⟩, d6⟩ := hcc
          have d1 := Nat.eq_of_beq_eq_true d1
          have d2 := Nat.eq_of_beq_eq_true d2
          have d3 := Nat.eq_of_beq_eq_true d3
          have d4 := Nat.eq_of_beq_eq_true d4
          have d5 := Nat.le_of_ble_eq_true d5
          have d6 := Nat.le_of_ble_eq_true d6
          subst d1 d3 d4
          obtain ⟨cs, fr, hcs, hrow⟩ := h.blk b _ r c hb hm
          have hcsz : cs.size = c * xe.size := by rw [← d2]; exact hrow.2.2.1 (by omega)
          have hlc : sLen ≤ c := by
            have : sLen * xe.size ≤ c * xe.size := by have := hrow.1; omega
            exact Nat.le_of_mul_le_mul_right this c1
          obtain ⟨vo, q1, q2, q3⟩ := h.drew.loadCells_ok (P := P) hb hm (sLen * xe.size) 0 (by omega)
          have hwr : AB.wr (.row be nn cells dz g ro) = true := by
            have : Nat.blt 0 g = true := by rw [Nat.blt_eq]; omega
            simp [AB.wr, this]
          cases hn0 : Nat.beq n 0 with
          | true =>
            rw [hn0, cond_true] at hk
            have := Nat.eq_of_beq_eq_true hn0
            subst this
            have hnew : ∃ vs : List Value, vs = [] ∧ (Builtin.firstCells xe.size 0 x').run P w = .ok (⟨vs⟩ : Array Value) w ∧ (Builtin.firstCells xe.size 0 x').run P w.drew = .ok (⟨vs⟩ : Array Value) w.drew := by
              refine ⟨[], rfl, ?_⟩
              cases x <;> simp [lenA] at hnl <;> cases hx
              · rename_i s hs
                have e : ∀ W : World, (Builtin.firstCells xe.size 0 (.string s)).run P W = .ok (⟨[]⟩ : Array Value) W := by
                  intro W
                  simp only [Builtin.firstCells, Sem.run_pure]
                  congr 1
                  apply Array.ext'; simp [ByteArray.data_extract]
                exact ⟨e w, e w.drew⟩
              · exact ⟨by simp [Builtin.firstCells, loadCells, loadCellsFrom], by simp [Builtin.firstCells, loadCells, loadCellsFrom]⟩
              · exact ⟨by simp [Builtin.firstCells, loadCells, loadCellsFrom], by simp [Builtin.firstCells, loadCells, loadCellsFrom]⟩
              · exact ⟨rfl, rfl⟩
              · exact ⟨firstCells_emp .., firstCells_emp ..⟩
            obtain ⟨vs, rfl, g1, g2⟩ := hnew
            obtain ⟨r1, r2, r3⟩ := run_append_head (w := w) (base := some ⟨r, 0, none⟩) (sLen := sLen) (sCap := c - 0) hti hst rfl hxt (isInt_ne hii) hxe hn ty q3 g1 g2
            have hrun := r2 (by omega) _ rfl
            simp only [storeCells, Sem.run_pure, Result.andThen_ok, Nat.add_zero] at hrun
            exact Out.pure h hk (.sliceU b 0 0 sLen r c hm) hrun
          | false =>
          rw [hn0, cond_false] at hk
          have hn0' : n ≠ 0 := by intro e; subst e; simp at hn0
          obtain ⟨l, vs, f1, f1', f2, f3⟩ := firstA_both (P := P) h hx hk
          cases hcc2 : (allCell l && Nat.beq l.length (n * xe.size)) with
          | false => rw [hcc2, cond_false] at f3; cases f3
          | true =>
          rw [hcc2, cond_true, stK_eq, T.set_eq, natK_eq, T.set_eq] at f3
          simp only [Bool.and_eq_true] at hcc2
          have hlen := Nat.eq_of_beq_eq_true hcc2.2
          have hvl : vs.length = n * xe.size := by rw [← f2.length]; exact hlen
          have hneed : (sLen + n) * xe.size = sLen * xe.size + l.length := by rw [hlen, Nat.add_mul]
          obtain ⟨r1, r2, r3⟩ := run_append_head (w := w) (base := some ⟨r, 0, none⟩) (sLen := sLen) (sCap := c - 0) hti hst rfl hxt (isInt_ne hii) hxe hn ty q3 f1 f1'
          by_cases hfit : sLen + n ≤ c
          · have hbound : sLen * xe.size + vs.length ≤ cs.size := by
              rw [hvl, hcsz, ← Nat.add_mul]; exact Nat.mul_le_mul_right _ hfit
            obtain ⟨w', cs', g1, g2, g3, g4, g5, g6, g7, g8, g9⟩ := run_storeCells_row (P := P) r (sLen * xe.size) vs 0 w cs be fr hcs (by omega) (f2.oneCells hcc2.1) (fun j a b => hrow.2.2.2.2.1 j (by omega) (by omega))
            have hrow' : RowRel σ m ((sLen + n) * xe.size) (stT cells (sLen * xe.size) l) dz xe.size ro c cs' fr := by
              have q := rowRel_app hrow (by omega) d5 f2 g3 (by rw [f2.length]; exact hbound) (by simpa using g4)
              rw [d2] at q
              rw [hneed]; exact q
            have hR' := h.change b (.row be nn cells dz g ro) (.row be ((sLen + n) * xe.size) (stT cells (sLen * xe.size) l) dz xe.size ro) r c hb hwr hm w' g5 g6 g7 g8 g9 (by rw [g2]; exact ⟨cs', fr, rfl, hrow'⟩)
            have hwr2 : AB.wr (.row be ((sLen + n) * xe.size) (stT cells (sLen * xe.size) l) dz xe.size ro) = true := by
              have : Nat.blt 0 xe.size = true := by rw [Nat.blt_eq]; omega
              simp [AB.wr, this]
            obtain ⟨hx2, hR2⟩ := hR'.rename (b := b) (B := .row be ((sLen + n) * xe.size) (stT cells (sLen * xe.size) l) dz xe.size ro) (r := r) (c := c) (by rw [T.get_upd]; simp) hwr2 hm
            have hrun := r2 (by omega) _ rfl
            rw [addr_add, Nat.zero_add, g1] at hrun
            refine ⟨_, _, _, _, w', _, f3, Nat.le_succ _, hx2, hR2.congr ?_, .sliceU next 0 0 (sLen + n) r c (by simp), ?_⟩
            · intro y; simp only [T.get_upd]; split
              · rfl
              · split <;> rfl
            · rw [hrun]; rfl
          · obtain ⟨cap', rest, g1, g2, g3⟩ := r3 (by omega) c3 (by omega)
            have hk2 := h.kill b
            have hd := hk2.drew
            have hx2 := ext_new hd cap'
            have hn' : (fun x => if x = next then some (w.drew.heap.size, cap') else m x) next = some (w.drew.heap.size, cap') := by simp
            have hvo : vo.length = sLen * xe.size := q1
            have hrest' : (vo ++ vs ++ rest).length = cap' * xe.size := by
              simp only [List.length_append, hvo, hvl, g2, ← Nat.add_mul]; congr 1; omega
            have hB : ∀ m' : BM, m.le m' → BRel σ m' (.row be ((sLen + n) * xe.size) (stT cells (sLen * xe.size) l) dz xe.size ro) cap' (some (.cells (⟨vo⟩ ++ ⟨vs⟩ ++ ⟨rest⟩ : Array Value) be (0, 0))) := by
              intro m' hm'
              refine ⟨_, _, rfl, ?_⟩
              have e1 : (⟨vo⟩ ++ ⟨vs⟩ ++ ⟨rest⟩ : Array Value) = ⟨vo ++ vs ++ rest⟩ := by apply Array.ext'; simp
              rw [e1]
              refine ⟨?_, fun e => absurd e hsz, fun _ => by simpa using hrest', ?_, by simp⟩
              · show (sLen + n) * xe.size ≤ (vo ++ vs ++ rest).length
                rw [hrest']; exact Nat.mul_le_mul_right _ g1
              · intro j hj
                rw [hneed] at hj
                rw [cellOf_stT]
                by_cases e2 : sLen * xe.size ≤ j ∧ j < sLen * xe.size + l.length
                · rw [dif_pos e2]
                  obtain ⟨u, hu, hr⟩ := f2.get (j - sLen * xe.size) _ (List.getElem?_eq_getElem (by omega))
                  refine ⟨u, ?_, hr.mono hm'⟩
                  rw [show (⟨vo ++ vs ++ rest⟩ : Array Value)[j]? = (vo ++ vs ++ rest)[j]? from by simp]
                  rw [List.append_assoc, List.getElem?_append_right (by omega), List.getElem?_append_left (by rw [hvo, ← f2.length]; omega), hvo]
                  exact hu
                · rw [dif_neg e2]
                  have hjl : j < sLen * xe.size := by omega
                  obtain ⟨u, hu, hr⟩ := q2.get j (cellOf cells dz (0 + j)) (cellsAt_get _ _ _ _ _ hjl)
                  rw [Nat.zero_add] at hr
                  refine ⟨u, ?_, hr.mono hm'⟩
                  rw [show (⟨vo ++ vs ++ rest⟩ : Array Value)[j]? = (vo ++ vs ++ rest)[j]? from by simp]
                  rw [List.append_assoc, List.getElem?_append_left (by omega)]
                  exact hu
            obtain ⟨_, hR2⟩ := hd.alloc _ cap' _ (hB _ hx2.le)
            exact ⟨_, _, _, _, _, .slice (some ⟨w.heap.size, 0, none⟩) (sLen + n) (cap' - 0), f3, Nat.le_succ _, hx2, hR2, .sliceU next 0 0 (sLen + n) w.drew.heap.size cap' hn', g3⟩
        · cases hk
      · cases hk
    · cases hk
  · cases hk
end Go.Ev

