/- The call of InitialNone returns true and turns nothing that was there: the listed variables hold their rows; the arguments' cells can be read. -/
import Derived.Test.YtonlnkibohmalaaGreatDoorWalk2
import Derived.Test.YtonlnkibohmalaaGreatDoorKnown
import Derived.Test.YtonlnkibohmalaaGreatDoorRest
set_option linter.unusedVariables false
set_option linter.unusedSimpArgs false
namespace Go.Proofs.YtonlnkibohmalaaGreatDoor
open Go.RowKit Go.Ev
theorem known_any (e0 e1 : Nat) {W : World} (h : ∀ r ∈ K35.glob e0 e1, RowIn W r) (h12 : 12 ≤ W.heap.size) : Calls Tryz.prog 6 #[] W fun e w' => e = .returned (.bool true) ∧ Below W.heap.size W w' := by
  obtain ⟨a0, h0⟩ := (h ⟨0, e0, 8, K35.g0⟩ List.mem_cons_self).at
  obtain ⟨a1, h1⟩ := (h ⟨1, e1, 64, K35.g1⟩ (List.mem_cons_of_mem _ List.mem_cons_self)).at
  refine run_bool (E := K35.E) K35.envok K35.envshot K35.nocon K35.mixed (K35.known_run a0 a1) (rowsOk_of fun r hr => ?_) h12
  simp only [K35.glob, List.mem_cons, List.not_mem_nil, or_false] at hr
  rcases hr with rfl | rfl
  · exact h0
  · exact h1
theorem glob_lt {e0 e1 : Nat} {r : GR} (h : r ∈ K35.glob e0 e1) : r.g < 12 := by
  simp only [K35.glob, List.mem_cons, List.not_mem_nil, or_false] at h
  rcases h with rfl | rfl
  · exact (by decide : 0 < 12)
  · exact (by decide : 1 < 12)
theorem EltSl.mono {w w' : World} {A : Option Addr} {l n j : Nat} (h : EltSl w A l n j) (hb : Below w.heap.size w w') : EltSl w' A l n j := fun k hk => by
  obtain ⟨b, off, B, L, C, e, hlt, hL, hc⟩ := h k hk
  exact ⟨b, off, B, L, C, e, Nat.lt_of_lt_of_le hlt hb.size, hL, (hb.cell hlt).trans hc⟩
theorem EltPr.mono {w w' : World} {A : Option Addr} {l n j : Nat} (h : EltPr w A l n j) (hb : Below w.heap.size w w') : EltPr w' A l n j := fun k hk => by
  obtain ⟨b, off, p0, p1, e, hlt, h0, h1, hp⟩ := h k hk
  exact ⟨b, off, p0, p1, e, Nat.lt_of_lt_of_le hlt hb.size, (hb.cell hlt).trans h0, (hb.cell hlt).trans h1, hp.mono hb⟩
theorem boxx {W w1 : World} {o : Obj} {x0 x1 x2 x3 x4 x5 x6 x7 x8 x9 x10 x11 x12 x13 x14 x15 x16 x17 : Value} (hb : Below ((W.alloc o).alloc (.cells #[x0, x1, x2, x3, x4, x5, x6, x7, x8, x9, x10, x11, x12, x13, x14, x15, x16, x17] 43)).heap.size ((W.alloc o).alloc (.cells #[x0, x1, x2, x3, x4, x5, x6, x7, x8, x9, x10, x11, x12, x13, x14, x15, x16, x17] 43)) w1) :
    w1.cell? ⟨W.heap.size + 1, 0, none⟩ = some x0 ∧ w1.cell? ⟨W.heap.size + 1, 1, none⟩ = some x1 ∧ w1.cell? ⟨W.heap.size + 1, 2, none⟩ = some x2 ∧ w1.cell? ⟨W.heap.size + 1, 3, none⟩ = some x3 ∧ w1.cell? ⟨W.heap.size + 1, 4, none⟩ = some x4 ∧ w1.cell? ⟨W.heap.size + 1, 5, none⟩ = some x5 ∧ w1.cell? ⟨W.heap.size + 1, 6, none⟩ = some x6 ∧ w1.cell? ⟨W.heap.size + 1, 7, none⟩ = some x7 ∧ w1.cell? ⟨W.heap.size + 1, 8, none⟩ = some x8 ∧ w1.cell? ⟨W.heap.size + 1, 9, none⟩ = some x9 ∧ w1.cell? ⟨W.heap.size + 1, 10, none⟩ = some x10 ∧ w1.cell? ⟨W.heap.size + 1, 11, none⟩ = some x11 ∧ w1.cell? ⟨W.heap.size + 1, 12, none⟩ = some x12 ∧ w1.cell? ⟨W.heap.size + 1, 13, none⟩ = some x13 ∧ w1.cell? ⟨W.heap.size + 1, 14, none⟩ = some x14 ∧ w1.cell? ⟨W.heap.size + 1, 15, none⟩ = some x15 ∧ w1.cell? ⟨W.heap.size + 1, 16, none⟩ = some x16 ∧ w1.cell? ⟨W.heap.size + 1, 17, none⟩ = some x17 := by
  refine ⟨?_, ?_, ?_, ?_, ?_, ?_, ?_, ?_, ?_, ?_, ?_, ?_, ?_, ?_, ?_, ?_, ?_, ?_⟩ <;> exact (hb.cell (by simp)).trans (by simp [go_sem])

/-! ### the rest of the function, run by the kernel -/
theorem con_get {e0 e1 f : Nat} {x : Ext} (h : (K35.con e0 e1).get f = some x) : f = 6 ∧ x = boolX (K35.glob e0 e1) := by
  unfold K35.con at h
  rw [T.get_upd] at h
  split at h
  · rename_i e; cases h; exact ⟨e, rfl⟩
  · rw [T.get_e] at h; cases h
theorem E'_ok (e0 e1 : Nat) : EnvOk Tryz.prog (K35.E' e0 e1) := by
  refine envOf_ok (fun fn hf => ?_) (fun f x h => ?_)
  · have := List.all_eq_true.1 K35.names fn hf
    simpa using this
  · obtain ⟨rfl, rfl⟩ := K35.ext_get h
    exact extIndexByte_ok K35.at433
theorem E'_shot (e0 e1 : Nat) : EnvShot (K35.E' e0 e1) := ⟨fun f x h => by
  have h : K35.ext.get f = some x := h
  obtain ⟨rfl, rfl⟩ := K35.ext_get h
  exact sIndexByte⟩
theorem has6 (e0 e1 : Nat) : ((K35.E' e0 e1).fns.get 6).isSome = true := by kernel_rfl
theorem E'_con (e0 e1 : Nat) : ∀ f x, (K35.E' e0 e1).con.get f = some x → ConOk Tryz.prog (K35.E' e0 e1) f x := by
  intro f x h
  obtain ⟨rfl, rfl⟩ := con_get (e0 := e0) (e1 := e1) h
  exact boolX_ok (G := 0) (has6 e0 e1) (fun r hr => glob_lt hr) fun w hw hs => known_any e0 e1 hw hs

def topM (W : World) : BM := fun b => if b < 12 then some (b, 0) else if b = 12 then some (W.heap.size, 0) else if b = 13 then some (W.heap.size + 1, 0) else none
theorem topM_some {W : World} {b r c : Nat} (h : topM W b = some (r, c)) : (b < 12 ∧ r = b ∨ b = 12 ∧ r = W.heap.size ∨ b = 13 ∧ r = W.heap.size + 1) ∧ c = 0 := by
  unfold topM at h
  split at h
  · rename_i hb; cases h; exact ⟨.inl ⟨hb, rfl⟩, rfl⟩
  · split at h
    · rename_i hb; cases h; exact ⟨.inr (.inl ⟨hb, rfl⟩), rfl⟩
    · split at h
      · rename_i hb; cases h; exact ⟨.inr (.inr ⟨hb, rfl⟩), rfl⟩
      · cases h
theorem mem1_get {e0 e1 b : Nat} {B : AB} (h : (K35.mem1 e0 e1).get b = some B) : (b = 13 ∧ B = .row 43 18 .e [.unk] 0 0) ∨ (b = 12 ∧ B = .row 29 10 .e [.unk] 0 0) ∨ (∃ r ∈ K35.glob e0 e1, b = r.g ∧ B = .row r.e r.n r.cells [] 0 r.n) := by
  unfold K35.mem1 at h
  rw [T.get_upd] at h
  split at h
  · rename_i e; cases h; exact .inl ⟨e, rfl⟩
  · rw [T.get_upd] at h
    split at h
    · rename_i e; cases h; exact .inr (.inl ⟨e, rfl⟩)
    · exact .inr (.inr (memG_get h))
theorem unkRow {n c : Nat} {cs : Array Value} (hn : cs.size = n) (ho : ∀ v ∈ cs.toList, v.oneCell' = true) (σ : Nat → Value) (m : BM) : RowRel σ m n .e [.unk] 0 0 c cs (0, 0) := by
  refine ⟨by omega, fun _ => hn, fun h => absurd rfl h, fun i hi => ?_, ⟨fun i _ _ => by simp, fun _ => Nat.le_refl _⟩⟩
  have hi' : i < cs.size := by omega
  refine ⟨cs[i], by simp [hi'], ?_⟩
  have h0 : cellOf .e [.unk] i = .unk := by
    show List.getD [AV.unk] (i % [AV.unk].length) AV.unk = AV.unk
    simp [Nat.mod_one]
  rw [h0]
  exact .unk _ (ho _ (by simp))
theorem rel_top {e0 e1 : Nat} {W w2 : World} {c29 c43 : Array Value} (hb : Below ((W.alloc (.cells c29 29)).alloc (.cells c43 43)).heap.size ((W.alloc (.cells c29 29)).alloc (.cells c43 43)) w2)
    (h12 : 12 ≤ W.heap.size) (hg : ∀ r ∈ K35.glob e0 e1, RowAt W r) (n29 : c29.size = 10) (n43 : c43.size = 18) (o29 : ∀ v ∈ c29.toList, v.oneCell' = true) (o43 : ∀ v ∈ c43.toList, v.oneCell' = true) (σ : Nat → Value) :
    Rel σ (fun r => r < W.heap.size) W (topM W) (K35.mem1 e0 e1) 14 w2 := by
  have hB2 : Below W.heap.size W ((W.alloc (.cells c29 29)).alloc (.cells c43 43)) := ((Below.refl _ _).al _).al _
  have hw : Below W.heap.size W w2 := hB2.trans (hb.mono hB2.size)
  have q12 : w2.heap[W.heap.size]? = some (.cells c29 29 (0, 0)) := by
    rw [hb.block W.heap.size (by simp; omega)]
    show ((W.heap.push _).push _)[W.heap.size]? = _
    rw [Array.getElem?_push_lt (by simp)]
    simp
  have q13 : w2.heap[W.heap.size + 1]? = some (.cells c43 43 (0, 0)) := by
    rw [hb.block (W.heap.size + 1) (by simp)]
    have hs2 : (W.heap.push (Obj.cells c29 29)).size = W.heap.size + 1 := by simp
    show ((W.heap.push (Obj.cells c29 29)).push (Obj.cells c43 43))[W.heap.size + 1]? = _
    rw [← hs2]
    exact Array.getElem?_push_size
  have hsz : W.heap.size + 2 ≤ w2.heap.size := by have := hb.size; simp at this; omega
  refine ⟨hw.os, hw.tape, hw.output, hw.size, fun r hr => hr, fun r hr => hw.block r hr, ?_, ?_, ?_, ?_, ?_⟩
  · intro b B r c hB hm
    obtain ⟨h, rfl⟩ := topM_some hm
    rcases mem1_get hB with ⟨rfl, rfl⟩ | ⟨rfl, rfl⟩ | ⟨x, hx, rfl, rfl⟩
    · have : r = W.heap.size + 1 := by omega
      subst this
      exact ⟨c43, (0, 0), q13, unkRow n43 o43 σ _⟩
    · have : r = W.heap.size := by omega
      subst this
      exact ⟨c29, (0, 0), q12, unkRow n29 o29 σ _⟩
    · have hlt := glob_lt hx
      have : r = x.g := by omega
      subst this
      obtain ⟨cs, fr, h1, h2, h3⟩ := hg x hx
      refine ⟨cs, fr, (hw.block x.g (by omega)).trans h1, by omega, fun _ => h2, fun h => absurd rfl h, fun i hi => ?_, ⟨fun i a b => by omega, fun h => ?_⟩⟩
      · obtain ⟨v, e1, e2⟩ := h3 i hi
        exact ⟨v, e1, e2 σ _⟩
      · rcases h with h | h
        · omega
        · exact absurd rfl h
  · intro b b' B B' r c c' _ _ _ _ h1 h2
    obtain ⟨h1, _⟩ := topM_some h1
    obtain ⟨h2, _⟩ := topM_some h2
    omega
  · intro b r c h
    obtain ⟨h, _⟩ := topM_some h
    omega
  · intro b hb
    unfold topM
    rw [if_neg (by omega), if_neg (by omega), if_neg (by omega)]
  · intro b B r c hB hwr hm hp
    obtain ⟨h, _⟩ := topM_some hm
    rcases mem1_get hB with ⟨rfl, rfl⟩ | ⟨rfl, rfl⟩ | ⟨x, hx, rfl, rfl⟩
    · omega
    · omega
    · simp [AB.wr] at hwr

theorem tops_get (n i : Nat) : (K35.tops n).get i = if i < n then some .top else none := by
  induction n with
  | zero => rfl
  | succ n ih =>
    show (T.upd (K35.tops n) n .top).get i = _
    rw [T.get_upd, ih]
    by_cases h : i = n
    · rw [if_pos h, if_pos (by omega)]
    · rw [if_neg h]
      by_cases h2 : i < n
      · rw [if_pos h2, if_pos (by omega)]
      · rw [if_neg h2, if_neg (by omega)]
theorem trel_top {W : World} {tm : Array Value} (hn : tm.size = 125) (h2 : tm[2]? = some (.pointer (some ⟨W.heap.size, 0, none⟩))) (h3 : tm[3]? = some (.pointer (some ⟨W.heap.size + 1, 0, none⟩)))
    (hu : tm.toList.drop 32 = List.replicate 93 undef) (σ : Nat → Value) : TRel σ (topM W) 125 K35.t3 tm := by
  refine ⟨hn, ?_, ?_⟩
  · intro i hi
    unfold K35.t3
    rw [tget_upd, tget_upd]
    by_cases e3 : i = 3
    · subst e3; exact ⟨_, h3, .ptr _ _ _ 0 (by simp [topM])⟩
    · rw [if_neg e3]
      by_cases e2 : i = 2
      · subst e2; exact ⟨_, h2, .ptr _ _ _ 0 (by simp [topM])⟩
      · rw [if_neg e2]
        unfold tget
        rw [tops_get]
        by_cases hlt : i < 32
        · rw [if_pos hlt]
          have : i < tm.size := by omega
          exact ⟨tm[i], by simp [this], .top _⟩
        · rw [if_neg hlt]
          refine ⟨undef, ?_, .tup [] [] .nil⟩
          have : (tm.toList.drop 32)[i - 32]? = some undef := by
            rw [hu, List.getElem?_replicate, if_pos (by omega)]
          rw [List.getElem?_drop] at this
          rw [show 32 + (i - 32) = i by omega] at this
          simpa using this
  · intro i hi
    unfold K35.t3
    rw [T.get_upd, T.get_upd, if_neg (by omega), if_neg (by omega), tops_get, if_neg (by omega)]

theorem rest_wp {e0 e1 : Nat} {W w2 : World} {a : Act} {c d : Code} (hcd : K35.rest3 = .seq c d) {K : Act → World → Prop} {Q : Exit → Act → World → Prop} (hK : ∀ a w, d.wp Tryz.prog Q a w → K a w)
    (hR : Rel (fun _ => default) (fun r => r < W.heap.size) W (topM W) (K35.mem1 e0 e1) 14 w2) (hT : TRel (fun _ => default) (topM W) 125 K35.t3 a.tmps) (ha : a.defers = [])
    (hQ : ∀ a' w', a'.defers = [] → a'.tmps.getD 4 undef = .bool true → Below W.heap.size W w' → Q .ret a' w') : c.wp Tryz.prog (Exit.then K Q) a w2 := by
  have hk : (runF (K35.E' e0 e1) (99999 + 1)).exec 125 none (.seq c d) K35.t3 [] (K35.mem1 e0 e1) 14 K35.retTrue = true := by
    rw [← hcd]; exact K35.rest_true e0 e1
  refine exec_wp_k (E'_ok e0 e1) (E'_shot e0 e1) (E'_con e0 e1) K35.mixed hk hK hR (fun g hg => ⟨0, by have hg : g < 12 := hg; unfold topM; rw [if_pos hg]⟩) hT ha ?_
  intro x t' ds' mem' next' m' e a' w' hx _ hext hR' hT' hD' he
  unfold K35.retTrue at hx
  split at hx
  · cases he
    split at hx
    · rename_i b h4
      subst hx
      obtain ⟨v, e1, e2⟩ := hT'.2.1 4 (by decide)
      simp only [tget, h4] at e2
      cases e2
      refine hQ a' w' hD' ?_ hR'.below
      rw [Array.getD_eq_getD_getElem?, e1]; rfl
    · cases hx
  · cases hx
set_option maxRecDepth 20000 in
set_option maxHeartbeats 4000000 in
theorem top_any (W : World) (hW : ∀ r ∈ K35.glob 0 0, RowIn W r) (h12 : 12 ≤ W.heap.size)
    (s0 : ByteArray) (v1 v2 v3 v4 : Value) (g : Int) (A6 A7 A8 A9 : Option Addr) (l6 c6 l7 c7 l8 c8 l9 c9 : Nat)
    (hs0 : s0.size ≤ maxLen) (hm6 : l6 ≤ maxLen) (hm7 : l7 ≤ maxLen) (hm8 : l8 ≤ maxLen) (hm9 : l9 ≤ maxLen) (hg1 : -9223372036854775808 ≤ g) (hg2 : g ≤ 9223372036854775807)
    (h6 : EltPr W A6 l6 4 0) (h6s : EltSl W A6 l6 4 3) (h7 : EltPr W A7 l7 3 0) (h8 : EltPr W A8 l8 11 1) (h8' : EltPr W A8 l8 11 3) (h8s : EltSl W A8 l8 11 9) (h8s' : EltSl W A8 l8 11 10)
    (x0 x2 x3 x4 x5 x6 x7 x8 x9 x10 x14 x16 x17 : Value) (B1 B11 B12 B13 B15 : Option Addr) (m1 d1 m11 d11 m12 d12 m13 d13 m15 d15 : Nat)
    (km1 : m1 ≤ maxLen) (km11 : m11 ≤ maxLen) (km12 : m12 ≤ maxLen) (km13 : m13 ≤ maxLen) (km15 : m15 ≤ maxLen) (hc : PrinOk W x3 x4) (hs : PrinOk W x5 x6) (k1 : EltSl W B1 m1 2 1) (k12 : EltSl W B12 m12 2 1)
    (k13 : EltSl W B13 m13 5 4) (k13p : EltPr W B13 m13 5 0) (o1 : v1.oneCell' = true) (o2 : v2.oneCell' = true) (o3 : v3.oneCell' = true) (o4 : v4.oneCell' = true)
    (p0 : x0.oneCell' = true) (p2 : x2.oneCell' = true) (p7 : x7.oneCell' = true) (p8 : x8.oneCell' = true) (p9 : x9.oneCell' = true) (p10 : x10.oneCell' = true) (p14 : x14.oneCell' = true) (p16 : x16.oneCell' = true) (p17 : x17.oneCell' = true) :
    Calls Tryz.prog 3 #[.agg #[.string s0, v1, v2, v3, v4, .int .i64 g, .slice A6 l6 c6, .slice A7 l7 c7, .slice A8 l8 c8, .slice A9 l9 c9],
        .agg #[x0, .slice B1 m1 d1, x2, x3, x4, x5, x6, x7, x8, x9, x10, .slice B11 m11 d11, .slice B12 m12 d12, .slice B13 m13 d13, x14, .slice B15 m15 d15, x16, x17]] W
      fun e w' => e = .returned (.bool true) ∧ Below W.heap.size W w' := by
  obtain ⟨e0, h0⟩ := (hW ⟨0, 0, 8, K35.g0⟩ List.mem_cons_self).at
  obtain ⟨e1, h1⟩ := (hW ⟨1, 0, 64, K35.g1⟩ (List.mem_cons_of_mem _ List.mem_cons_self)).at
  have hg : ∀ r ∈ K35.glob e0 e1, RowAt W r := by
    intro r hr
    simp only [K35.glob, List.mem_cons, List.not_mem_nil, or_false] at hr
    rcases hr with rfl | rfl
    · exact h0
    · exact h1
  have q3 : x3.oneCell' = true := by
    obtain ⟨_, _, _, h, _⟩ := hc.2; subst h; rfl
  have q4 : x4.oneCell' = true := by
    obtain ⟨s, h, _⟩ := hc.1; subst h; rfl
  have q5 : x5.oneCell' = true := by
    obtain ⟨_, _, _, h, _⟩ := hs.2; subst h; rfl
  have q6 : x6.oneCell' = true := by
    obtain ⟨s, h, _⟩ := hs.1; subst h; rfl
  have ho29 : ∀ v ∈ (#[.string s0, v1, v2, v3, v4, .int .i64 g, .slice A6 l6 c6, .slice A7 l7 c7, .slice A8 l8 c8, .slice A9 l9 c9] : Array Value).toList, v.oneCell' = true := by
    intro v hv
    simp only [List.mem_cons, List.not_mem_nil, or_false] at hv
    rcases hv with rfl | rfl | rfl | rfl | rfl | rfl | rfl | rfl | rfl | rfl <;> first | rfl | assumption
  have ho43 : ∀ v ∈ (#[x0, .slice B1 m1 d1, x2, x3, x4, x5, x6, x7, x8, x9, x10, .slice B11 m11 d11, .slice B12 m12 d12, .slice B13 m13 d13, x14, .slice B15 m15 d15, x16, x17] : Array Value).toList, v.oneCell' = true := by
    intro v hv
    simp only [List.mem_cons, List.not_mem_nil, or_false] at hv
    rcases hv with rfl | rfl | rfl | rfl | rfl | rfl | rfl | rfl | rfl | rfl | rfl | rfl | rfl | rfl | rfl | rfl | rfl | rfl <;> first | rfl | assumption
  clear h0 h1 q3 q4 q5 q6 o1 o2 o3 o4 p0 p2 p7 p8 p9 p10 p14 p16 p17
  go_enter Tryz.func3, Tryz.ntmps3
  have hB2 : ∀ o o', Below W.heap.size W ((W.alloc o).alloc o') := fun o o' => ((Below.refl _ _).al o).al o'
  have L := fun o o' => light_any ((W.alloc o).alloc o') s0 v1 v2 v3 v4 g A6 A7 A8 A9 l6 c6 l7 c7 l8 c8 l9 c9 hs0 hm6 hm7 hm8 hm9 hg1 hg2 (h6.mono (hB2 o o')) (h6s.mono (hB2 o o')) (h7.mono (hB2 o o')) (h8.mono (hB2 o o')) (h8'.mono (hB2 o o')) (h8s.mono (hB2 o o')) (h8s'.mono (hB2 o o'))
  have Hv := fun w (hw : Below W.heap.size W w) => heavy_any w x0 x2 x3 x4 x5 x6 x7 x8 x9 x10 B1 B11 B12 B13 m1 d1 m11 d11 m12 d12 m13 d13 km1 km11 km12 km13 (hc.mono hw) (hs.mono hw) (k1.mono hw) (k12.mono hw) (k13.mono hw) (k13p.mono hw)
  have Kn := fun w (hw : Below W.heap.size W w) => known_any 0 0 (W := w) (fun r hr => (hW r hr).mono (Nat.lt_of_lt_of_le (glob_lt hr) h12) hw) (Nat.le_trans h12 hw.size)
  clear h6 h6s h7 h8 h8' h8s h8s' hc hs k1 k12 k13 k13p hW hs0 hm6 hm7 hm8 hm9 hg1 hg2
  unfold maxLen at *
  go_upto_region 3 with (first
    | (go_at_call 4; refine (L _ _).mono ?_; rintro e w1 ⟨⟨b1, rfl⟩, hb1⟩; obtain ⟨y0, y1, y2, y3, y4, y5, y6, y7, y8, y9, y10, y11, y12, y13, y14, y15, y16, y17⟩ := boxx hb1; cases b1)
    | (go_at_call 5; refine (Hv _ ((hB2 _ _).trans (hb1.mono (hB2 _ _).size))).mono ?_; rintro e w2 ⟨⟨b2, rfl⟩, hb2⟩; have hb3 := hb1.trans (hb2.mono hb1.size); obtain ⟨_, _, _, _, _, _, _, _, _, _, _, _, _, _, _, z15, _, _⟩ := boxx hb3; cases b2)
    | (go_at_call 6; refine (Kn _ ((hB2 _ _).trans (hb1.mono (hB2 _ _).size))).mono ?_; rintro e w3 ⟨rfl, hb4⟩)
    | (go_at_call 6; refine (Kn _ ((hB2 _ _).trans (hb3.mono (hB2 _ _).size))).mono ?_; rintro e w3 ⟨rfl, hb4⟩))
  · go_ret
    exact ⟨rfl, ((hB2 _ _).trans (hb1.mono (hB2 _ _).size)).trans (hb4.mono ((hB2 _ _).trans (hb1.mono (hB2 _ _).size)).size)⟩
  · go_ret
    exact ⟨rfl, ((hB2 _ _).trans (hb3.mono (hB2 _ _).size)).trans (hb4.mono ((hB2 _ _).trans (hb3.mono (hB2 _ _).size)).size)⟩
  · refine rest_wp (e0 := e0) (e1 := e1) (W := W) rfl (by assumption) (rel_top hb3 h12 hg rfl rfl ho29 ho43 _) (trel_top rfl rfl rfl rfl _) rfl ?_
    intro a' w' hd h4 hw'
    refine bodyPost_ret (results_tmp rfl _ _ _) hd ⟨?_, hw'⟩
    rw [h4]
  · go_ret
    exact ⟨rfl, ((hB2 _ _).trans (hb3.mono (hB2 _ _).size)).trans (hb4.mono ((hB2 _ _).trans (hb3.mono (hB2 _ _).size)).size)⟩
end Go.Proofs.YtonlnkibohmalaaGreatDoor

