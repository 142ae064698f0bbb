/- light returns some bool and turns nothing that was there, at every argument that can be read. -/
import Derived.Test.YtonlnkibohmalaaGreatDoorWalk1
import Derived.Deep.Cut
set_option linter.unusedVariables false
set_option linter.unusedSimpArgs false
namespace Go.Proofs.YtonlnkibohmalaaGreatDoor
open Go.RowKit Go.Ev

/-- The classes of what region 1 of 'light' looks at. -/
structure Cl where
  s0 : AV
  g : AV
  l6 : AV
  l7 : AV
  l8 : AV
  l9 : AV
noncomputable def clT (c : Cl) : T AV := (.n (.n (.n (.n .e (some (c.l7)) .e) none .e) none (.n (.n .e (some (c.l9)) .e) (some (c.g)) .e)) (some (c.s0)) (.n (.n (.n .e (some (c.l8)) .e) none .e) none (.n .e (some (c.l6)) .e)))
noncomputable def E0 : Env := envOf Tryz.prog 10 0 .e .e
theorem E0_ok : EnvOk Tryz.prog E0 := by
  refine envOf_ok (fun fn hf => ?_) (fun f x h => by rw [T.get_e] at h; cases h)
  have := List.all_eq_true.1 K35.names fn hf
  simpa using this
theorem E0_shot : EnvShot E0 := ⟨fun f x h => by
  have h : (T.e : T Ext).get f = some x := h
  rw [T.get_e] at h; cases h⟩
theorem E0_con : ∀ f x, E0.con.get f = some x → ConOk Tryz.prog E0 f x := by
  intro f x h
  have h : (T.e : T Ext).get f = some x := h
  rw [T.get_e] at h; cases h
noncomputable def reg1 : Code := match Tryz.f4.body with | some (.seq _ (.seq (.seq r _) _)) => r | _ => .skip
noncomputable def tL : T AV := T.upd (T.upd (T.upd .e 0 .top) 1 (.ptr 0 0)) 2 (.bool false)
noncomputable def chkL : XK := fun x t ds _ _ => match x, ds with | .nrm, [] => (match t.get 1, t.get 2, t.get 74 with | some (.ptr 0 0), some (.bool false), some (.bool _) => isFreeT t 3 && isFreeT t 4 && isFreeT t 5 | _, _, _ => false) | _, _ => false
 where isFreeT (t : T AV) (i : Nat) : Bool := match t.get i with | none => true | some _ => false
noncomputable def check (c : Cl) : Bool := (runF E0 100).exec 156 none reg1 tL [] (T.upd .e 0 (.row 29 10 (clT c) [.top] 0 10)) 1 chkL

structure ClOk (σ : Nat → Value) (m : BM) (c : Cl) (s0 : ByteArray) (g : Int) (A6 A7 A8 A9 : Option Addr) (l6 c6 l7 c7 l8 c8 l9 c9 : Nat) : Prop where
  s0 : VRel σ m c.s0 (.string s0)
  g : VRel σ m c.g (.int .i64 g)
  l6 : VRel σ m c.l6 (.slice A6 l6 c6)
  l7 : VRel σ m c.l7 (.slice A7 l7 c7)
  l8 : VRel σ m c.l8 (.slice A8 l8 c8)
  l9 : VRel σ m c.l9 (.slice A9 l9 c9)

/-- What holds of the frame and the world behind region 1. -/
structure R1 (w1 : World) (r : Nat) (a : Act) (w : World) : Prop where
  d : a.defers = []
  n : a.tmps.size = 156
  t1 : a.tmps[1]? = some (.pointer (some ⟨r, 0, none⟩))
  t2 : a.tmps[2]? = some (.bool false)
  t3 : a.tmps[3]? = some undef
  t4 : a.tmps[4]? = some undef
  t5 : a.tmps[5]? = some undef
  t74 : ∃ b, a.tmps[74]? = some (.bool b)
  b : Below w1.heap.size w1 w

theorem light_r1 {w1 : World} {r : Nat} {s0 : ByteArray} {v1 v2 v3 v4 x0 : Value} {g : Int} {A6 A7 A8 A9 : Option Addr} {l6 c6 l7 c7 l8 c8 l9 c9 : Nat} {fr : Nat × Nat}
    (hr : w1.heap[r]? = some (.cells #[.string s0, v1, v2, v3, v4, .int .i64 g, .slice A6 l6 c6, .slice A7 l7 c7, .slice A8 l8 c8, .slice A9 l9 c9] 29 fr)) {a : Act} (ha : a.defers = [])
    {l : List Value} (hl : l.length = 153) (hu : ∀ j, j < 153 → l[j]? = some undef) (ht : a.tmps = (⟨x0 :: .pointer (some ⟨r, 0, none⟩) :: .bool false :: l⟩ : Array Value)) (c : Cl) (hk : check c = true) (hc : ∀ σ m, ClOk σ m c s0 g A6 A7 A8 A9 l6 c6 l7 c7 l8 c8 l9 c9)
    {Q : Exit → Act → World → Prop} (hQ : ∀ a' w', R1 w1 r a' w' → Q .normal a' w') : reg1.wp Tryz.prog Q a w1 := by
  have hcells : ∀ i, i < 10 → ∃ v, (#[.string s0, v1, v2, v3, v4, .int .i64 g, .slice A6 l6 c6, .slice A7 l7 c7, .slice A8 l8 c8, .slice A9 l9 c9] : Array Value)[i]? = some v ∧ VRel (fun _ => default) (oneM r) (cellOf (clT c) [.top] i) v := by
    intro i hi
    have h := hc (fun _ => default) (oneM r)
    match i, hi with
    | 0, _ => exact ⟨_, rfl, h.s0⟩
    | 1, _ => exact ⟨_, rfl, .top _⟩
    | 2, _ => exact ⟨_, rfl, .top _⟩
    | 3, _ => exact ⟨_, rfl, .top _⟩
    | 4, _ => exact ⟨_, rfl, .top _⟩
    | 5, _ => exact ⟨_, rfl, h.g⟩
    | 6, _ => exact ⟨_, rfl, h.l6⟩
    | 7, _ => exact ⟨_, rfl, h.l7⟩
    | 8, _ => exact ⟨_, rfl, h.l8⟩
    | 9, _ => exact ⟨_, rfl, h.l9⟩
  have hR := rel_one (fun _ => default) hr rfl hcells
  have hT : TRel (fun _ => default) (oneM r) 156 tL a.tmps := by
    rw [ht]
    refine ⟨by simp [hl], ?_, ?_⟩
    · intro i hi
      rw [List.getElem?_toArray]
      unfold tL
      rw [tget_upd, tget_upd, tget_upd]
      by_cases h2 : i = 2
      · subst h2; exact ⟨_, rfl, .bool _⟩
      · rw [if_neg h2]
        by_cases h1 : i = 1
        · subst h1; exact ⟨_, rfl, .ptr _ _ _ 0 rfl⟩
        · rw [if_neg h1]
          by_cases h0 : i = 0
          · subst h0; exact ⟨_, rfl, .top _⟩
          · rw [if_neg h0]
            obtain ⟨j, rfl⟩ : ∃ j, i = j + 3 := ⟨i - 3, by omega⟩
            refine ⟨undef, ?_, .tup [] [] .nil⟩
            have hj : j < 153 := by omega
            simpa using hu j hj
    · intro i hi
      unfold tL
      rw [T.get_upd, T.get_upd, T.get_upd, if_neg (by omega), if_neg (by omega), if_neg (by omega)]
      rfl
  have hk' : (runF E0 100).exec 156 none reg1 tL [] (T.upd .e 0 (.row 29 10 (clT c) [.top] 0 10)) 1 chkL = true := hk
  refine exec_wp E0_ok E0_shot E0_con K35.mixed hk' hR (fun g hg => absurd hg (Nat.not_lt_zero g)) hT ha ?_
  intro x t' ds' mem' next' m' e a' w' hx _ hext hR' hT' hD' he
  unfold chkL at hx
  split at hx
  · cases he
    split at hx
    · rename_i h1 h2 h74
      simp only [Bool.and_eq_true] at hx
      obtain ⟨⟨f3, f4⟩, f5⟩ := hx
      have fr_ : ∀ i, chkL.isFreeT t' i = true → t'.get i = none := by
        intro i h
        unfold chkL.isFreeT at h
        split at h
        · assumption
        · cases h
      have und : ∀ i, i < 156 → t'.get i = none → a'.tmps[i]? = some undef := by
        intro i hi h
        obtain ⟨v, e1, e2⟩ := hT'.2.1 i hi
        simp only [tget, h] at e2
        cases e2 with
        | tup _ _ hl => cases hl; exact e1
      refine hQ a' w' ⟨hD', hT'.1, ?_, ?_, und 3 (by decide) (fr_ 3 f3), und 4 (by decide) (fr_ 4 f4), und 5 (by decide) (fr_ 5 f5), ?_, hR'.below⟩
      · obtain ⟨v, e1, e2⟩ := hT'.2.1 1 (by decide)
        simp only [tget, h1] at e2
        cases e2 with
        | ptr _ _ r' c' hm =>
          have := hext.le 0 (r, 0) rfl
          rw [this] at hm
          cases hm
          exact e1
      · obtain ⟨v, e1, e2⟩ := hT'.2.1 2 (by decide)
        simp only [tget, h2] at e2
        cases e2
        exact e1
      · obtain ⟨v, e1, e2⟩ := hT'.2.1 74 (by decide)
        simp only [tget, h74] at e2
        cases e2
        exact ⟨_, e1⟩
    · cases hx
  · cases hx
end Go.Proofs.YtonlnkibohmalaaGreatDoor

namespace Go.Proofs.YtonlnkibohmalaaGreatDoor
open Go.RowKit Go.Ev
set_option maxRecDepth 4000 in
theorem light_cls (s0 : ByteArray) (g : Int) (A6 A7 A8 A9 : Option Addr) (l6 c6 l7 c7 l8 c8 l9 c9 : Nat) (hs0 : s0.size ≤ 9223372036854775807) (hm6 : l6 ≤ 9223372036854775807) (hm7 : l7 ≤ 9223372036854775807) (hm8 : l8 ≤ 9223372036854775807) (hm9 : l9 ≤ 9223372036854775807)
    (hg1 : -9223372036854775808 ≤ g) (hg2 : g ≤ 9223372036854775807) : ∃ c, check c = true ∧ ∀ σ m, ClOk σ m c s0 g A6 A7 A8 A9 l6 c6 l7 c7 l8 c8 l9 c9 := by
  rcases (by omega : s0.size ≤ 60 ∨ 61 ≤ s0.size) with hs | hs
  ·
    rcases (by omega : g = 4 ∨ g ≤ 3 ∨ 5 ≤ g) with rfl | hg | hg
    ·
      exact ⟨⟨.lenv false 0 60, .int .i64 4, .top, .top, .top, .top⟩, by kernel_rfl, fun _ _ => ⟨.lenS 0 60 s0 (by omega) (by omega), .int _ _, .top _, .top _, .top _, .top _⟩⟩
    ·
      rcases (by omega : l9 ≤ 100 ∨ 101 ≤ l9) with h9 | h9
      ·
        rcases (by omega : l6 ≤ 3 ∨ (4 ≤ l6 ∧ l6 ≤ 64) ∨ (65 ≤ l6 ∧ l6 ≤ 70) ∨ 71 ≤ l6) with h6 | h6 | h6 | h6
        ·
          rcases (by omega : l7 ≤ 3 ∨ (4 ≤ l7 ∧ l7 ≤ 64) ∨ (65 ≤ l7 ∧ l7 ≤ 70) ∨ 71 ≤ l7) with h7 | h7 | h7 | h7
          ·
            rcases (by omega : l8 ≤ 3 ∨ (4 ≤ l8 ∧ l8 ≤ 5) ∨ (6 ≤ l8 ∧ l8 ≤ 8) ∨ 9 ≤ l8) with h8 | h8 | h8 | h8
            ·
              exact ⟨⟨.lenv false 0 60, .intB .i64 (-9223372036854775808) 3, .lenv true 0 3, .lenv true 0 3, .lenv true 0 3, .lenv true 0 100⟩, by kernel_rfl, fun _ _ => ⟨.lenS 0 60 s0 (by omega) (by omega), .intB _ _ _ _ (by omega) (by omega), .lenL 0 3 A6 l6 c6 (by omega) (by omega), .lenL 0 3 A7 l7 c7 (by omega) (by omega), .lenL 0 3 A8 l8 c8 (by omega) (by omega), .lenL 0 100 A9 l9 c9 (by omega) (by omega)⟩⟩
            ·
              exact ⟨⟨.lenv false 0 60, .intB .i64 (-9223372036854775808) 3, .lenv true 0 3, .lenv true 0 3, .lenv true 4 5, .lenv true 0 100⟩, by kernel_rfl, fun _ _ => ⟨.lenS 0 60 s0 (by omega) (by omega), .intB _ _ _ _ (by omega) (by omega), .lenL 0 3 A6 l6 c6 (by omega) (by omega), .lenL 0 3 A7 l7 c7 (by omega) (by omega), .lenL 4 5 A8 l8 c8 (by omega) (by omega), .lenL 0 100 A9 l9 c9 (by omega) (by omega)⟩⟩
            ·
              exact ⟨⟨.lenv false 0 60, .intB .i64 (-9223372036854775808) 3, .lenv true 0 3, .lenv true 0 3, .lenv true 6 8, .lenv true 0 100⟩, by kernel_rfl, fun _ _ => ⟨.lenS 0 60 s0 (by omega) (by omega), .intB _ _ _ _ (by omega) (by omega), .lenL 0 3 A6 l6 c6 (by omega) (by omega), .lenL 0 3 A7 l7 c7 (by omega) (by omega), .lenL 6 8 A8 l8 c8 (by omega) (by omega), .lenL 0 100 A9 l9 c9 (by omega) (by omega)⟩⟩
            ·
              exact ⟨⟨.lenv false 0 60, .intB .i64 (-9223372036854775808) 3, .lenv true 0 3, .lenv true 0 3, .lenv true 9 9223372036854775807, .lenv true 0 100⟩, by kernel_rfl, fun _ _ => ⟨.lenS 0 60 s0 (by omega) (by omega), .intB _ _ _ _ (by omega) (by omega), .lenL 0 3 A6 l6 c6 (by omega) (by omega), .lenL 0 3 A7 l7 c7 (by omega) (by omega), .lenL 9 9223372036854775807 A8 l8 c8 (by omega) (by omega), .lenL 0 100 A9 l9 c9 (by omega) (by omega)⟩⟩
          ·
            exact ⟨⟨.lenv false 0 60, .intB .i64 (-9223372036854775808) 3, .lenv true 0 3, .lenv true 4 64, .top, .lenv true 0 100⟩, by kernel_rfl, fun _ _ => ⟨.lenS 0 60 s0 (by omega) (by omega), .intB _ _ _ _ (by omega) (by omega), .lenL 0 3 A6 l6 c6 (by omega) (by omega), .lenL 4 64 A7 l7 c7 (by omega) (by omega), .top _, .lenL 0 100 A9 l9 c9 (by omega) (by omega)⟩⟩
          ·
            rcases (by omega : l8 ≤ 3 ∨ (4 ≤ l8 ∧ l8 ≤ 5) ∨ (6 ≤ l8 ∧ l8 ≤ 8) ∨ 9 ≤ l8) with h8 | h8 | h8 | h8
            ·
              exact ⟨⟨.lenv false 0 60, .intB .i64 (-9223372036854775808) 3, .lenv true 0 3, .lenv true 65 70, .lenv true 0 3, .lenv true 0 100⟩, by kernel_rfl, fun _ _ => ⟨.lenS 0 60 s0 (by omega) (by omega), .intB _ _ _ _ (by omega) (by omega), .lenL 0 3 A6 l6 c6 (by omega) (by omega), .lenL 65 70 A7 l7 c7 (by omega) (by omega), .lenL 0 3 A8 l8 c8 (by omega) (by omega), .lenL 0 100 A9 l9 c9 (by omega) (by omega)⟩⟩
            ·
              exact ⟨⟨.lenv false 0 60, .intB .i64 (-9223372036854775808) 3, .lenv true 0 3, .lenv true 65 70, .lenv true 4 5, .lenv true 0 100⟩, by kernel_rfl, fun _ _ => ⟨.lenS 0 60 s0 (by omega) (by omega), .intB _ _ _ _ (by omega) (by omega), .lenL 0 3 A6 l6 c6 (by omega) (by omega), .lenL 65 70 A7 l7 c7 (by omega) (by omega), .lenL 4 5 A8 l8 c8 (by omega) (by omega), .lenL 0 100 A9 l9 c9 (by omega) (by omega)⟩⟩
            ·
              exact ⟨⟨.lenv false 0 60, .intB .i64 (-9223372036854775808) 3, .lenv true 0 3, .lenv true 65 70, .lenv true 6 8, .lenv true 0 100⟩, by kernel_rfl, fun _ _ => ⟨.lenS 0 60 s0 (by omega) (by omega), .intB _ _ _ _ (by omega) (by omega), .lenL 0 3 A6 l6 c6 (by omega) (by omega), .lenL 65 70 A7 l7 c7 (by omega) (by omega), .lenL 6 8 A8 l8 c8 (by omega) (by omega), .lenL 0 100 A9 l9 c9 (by omega) (by omega)⟩⟩
            ·
              exact ⟨⟨.lenv false 0 60, .intB .i64 (-9223372036854775808) 3, .lenv true 0 3, .lenv true 65 70, .lenv true 9 9223372036854775807, .lenv true 0 100⟩, by kernel_rfl, fun _ _ => ⟨.lenS 0 60 s0 (by omega) (by omega), .intB _ _ _ _ (by omega) (by omega), .lenL 0 3 A6 l6 c6 (by omega) (by omega), .lenL 65 70 A7 l7 c7 (by omega) (by omega), .lenL 9 9223372036854775807 A8 l8 c8 (by omega) (by omega), .lenL 0 100 A9 l9 c9 (by omega) (by omega)⟩⟩
          ·
            exact ⟨⟨.lenv false 0 60, .intB .i64 (-9223372036854775808) 3, .lenv true 0 3, .lenv true 71 9223372036854775807, .top, .lenv true 0 100⟩, by kernel_rfl, fun _ _ => ⟨.lenS 0 60 s0 (by omega) (by omega), .intB _ _ _ _ (by omega) (by omega), .lenL 0 3 A6 l6 c6 (by omega) (by omega), .lenL 71 9223372036854775807 A7 l7 c7 (by omega) (by omega), .top _, .lenL 0 100 A9 l9 c9 (by omega) (by omega)⟩⟩
        ·
          exact ⟨⟨.lenv false 0 60, .intB .i64 (-9223372036854775808) 3, .lenv true 4 64, .top, .top, .lenv true 0 100⟩, by kernel_rfl, fun _ _ => ⟨.lenS 0 60 s0 (by omega) (by omega), .intB _ _ _ _ (by omega) (by omega), .lenL 4 64 A6 l6 c6 (by omega) (by omega), .top _, .top _, .lenL 0 100 A9 l9 c9 (by omega) (by omega)⟩⟩
        ·
          rcases (by omega : l7 ≤ 3 ∨ (4 ≤ l7 ∧ l7 ≤ 64) ∨ (65 ≤ l7 ∧ l7 ≤ 70) ∨ 71 ≤ l7) with h7 | h7 | h7 | h7
          ·
            rcases (by omega : l8 ≤ 3 ∨ (4 ≤ l8 ∧ l8 ≤ 5) ∨ (6 ≤ l8 ∧ l8 ≤ 8) ∨ 9 ≤ l8) with h8 | h8 | h8 | h8
            ·
              exact ⟨⟨.lenv false 0 60, .intB .i64 (-9223372036854775808) 3, .lenv true 65 70, .lenv true 0 3, .lenv true 0 3, .lenv true 0 100⟩, by kernel_rfl, fun _ _ => ⟨.lenS 0 60 s0 (by omega) (by omega), .intB _ _ _ _ (by omega) (by omega), .lenL 65 70 A6 l6 c6 (by omega) (by omega), .lenL 0 3 A7 l7 c7 (by omega) (by omega), .lenL 0 3 A8 l8 c8 (by omega) (by omega), .lenL 0 100 A9 l9 c9 (by omega) (by omega)⟩⟩
            ·
              exact ⟨⟨.lenv false 0 60, .intB .i64 (-9223372036854775808) 3, .lenv true 65 70, .lenv true 0 3, .lenv true 4 5, .lenv true 0 100⟩, by kernel_rfl, fun _ _ => ⟨.lenS 0 60 s0 (by omega) (by omega), .intB _ _ _ _ (by omega) (by omega), .lenL 65 70 A6 l6 c6 (by omega) (by omega), .lenL 0 3 A7 l7 c7 (by omega) (by omega), .lenL 4 5 A8 l8 c8 (by omega) (by omega), .lenL 0 100 A9 l9 c9 (by omega) (by omega)⟩⟩
            ·
              exact ⟨⟨.lenv false 0 60, .intB .i64 (-9223372036854775808) 3, .lenv true 65 70, .lenv true 0 3, .lenv true 6 8, .lenv true 0 100⟩, by kernel_rfl, fun _ _ => ⟨.lenS 0 60 s0 (by omega) (by omega), .intB _ _ _ _ (by omega) (by omega), .lenL 65 70 A6 l6 c6 (by omega) (by omega), .lenL 0 3 A7 l7 c7 (by omega) (by omega), .lenL 6 8 A8 l8 c8 (by omega) (by omega), .lenL 0 100 A9 l9 c9 (by omega) (by omega)⟩⟩
            ·
              exact ⟨⟨.lenv false 0 60, .intB .i64 (-9223372036854775808) 3, .lenv true 65 70, .lenv true 0 3, .lenv true 9 9223372036854775807, .lenv true 0 100⟩, by kernel_rfl, fun _ _ => ⟨.lenS 0 60 s0 (by omega) (by omega), .intB _ _ _ _ (by omega) (by omega), .lenL 65 70 A6 l6 c6 (by omega) (by omega), .lenL 0 3 A7 l7 c7 (by omega) (by omega), .lenL 9 9223372036854775807 A8 l8 c8 (by omega) (by omega), .lenL 0 100 A9 l9 c9 (by omega) (by omega)⟩⟩
          ·
            exact ⟨⟨.lenv false 0 60, .intB .i64 (-9223372036854775808) 3, .lenv true 65 70, .lenv true 4 64, .top, .lenv true 0 100⟩, by kernel_rfl, fun _ _ => ⟨.lenS 0 60 s0 (by omega) (by omega), .intB _ _ _ _ (by omega) (by omega), .lenL 65 70 A6 l6 c6 (by omega) (by omega), .lenL 4 64 A7 l7 c7 (by omega) (by omega), .top _, .lenL 0 100 A9 l9 c9 (by omega) (by omega)⟩⟩
          ·
            rcases (by omega : l8 ≤ 3 ∨ (4 ≤ l8 ∧ l8 ≤ 5) ∨ (6 ≤ l8 ∧ l8 ≤ 8) ∨ 9 ≤ l8) with h8 | h8 | h8 | h8
            ·
              exact ⟨⟨.lenv false 0 60, .intB .i64 (-9223372036854775808) 3, .lenv true 65 70, .lenv true 65 70, .lenv true 0 3, .lenv true 0 100⟩, by kernel_rfl, fun _ _ => ⟨.lenS 0 60 s0 (by omega) (by omega), .intB _ _ _ _ (by omega) (by omega), .lenL 65 70 A6 l6 c6 (by omega) (by omega), .lenL 65 70 A7 l7 c7 (by omega) (by omega), .lenL 0 3 A8 l8 c8 (by omega) (by omega), .lenL 0 100 A9 l9 c9 (by omega) (by omega)⟩⟩
            ·
              exact ⟨⟨.lenv false 0 60, .intB .i64 (-9223372036854775808) 3, .lenv true 65 70, .lenv true 65 70, .lenv true 4 5, .lenv true 0 100⟩, by kernel_rfl, fun _ _ => ⟨.lenS 0 60 s0 (by omega) (by omega), .intB _ _ _ _ (by omega) (by omega), .lenL 65 70 A6 l6 c6 (by omega) (by omega), .lenL 65 70 A7 l7 c7 (by omega) (by omega), .lenL 4 5 A8 l8 c8 (by omega) (by omega), .lenL 0 100 A9 l9 c9 (by omega) (by omega)⟩⟩
            ·
              exact ⟨⟨.lenv false 0 60, .intB .i64 (-9223372036854775808) 3, .lenv true 65 70, .lenv true 65 70, .lenv true 6 8, .lenv true 0 100⟩, by kernel_rfl, fun _ _ => ⟨.lenS 0 60 s0 (by omega) (by omega), .intB _ _ _ _ (by omega) (by omega), .lenL 65 70 A6 l6 c6 (by omega) (by omega), .lenL 65 70 A7 l7 c7 (by omega) (by omega), .lenL 6 8 A8 l8 c8 (by omega) (by omega), .lenL 0 100 A9 l9 c9 (by omega) (by omega)⟩⟩
            ·
              exact ⟨⟨.lenv false 0 60, .intB .i64 (-9223372036854775808) 3, .lenv true 65 70, .lenv true 65 70, .lenv true 9 9223372036854775807, .lenv true 0 100⟩, by kernel_rfl, fun _ _ => ⟨.lenS 0 60 s0 (by omega) (by omega), .intB _ _ _ _ (by omega) (by omega), .lenL 65 70 A6 l6 c6 (by omega) (by omega), .lenL 65 70 A7 l7 c7 (by omega) (by omega), .lenL 9 9223372036854775807 A8 l8 c8 (by omega) (by omega), .lenL 0 100 A9 l9 c9 (by omega) (by omega)⟩⟩
          ·
            exact ⟨⟨.lenv false 0 60, .intB .i64 (-9223372036854775808) 3, .lenv true 65 70, .lenv true 71 9223372036854775807, .top, .lenv true 0 100⟩, by kernel_rfl, fun _ _ => ⟨.lenS 0 60 s0 (by omega) (by omega), .intB _ _ _ _ (by omega) (by omega), .lenL 65 70 A6 l6 c6 (by omega) (by omega), .lenL 71 9223372036854775807 A7 l7 c7 (by omega) (by omega), .top _, .lenL 0 100 A9 l9 c9 (by omega) (by omega)⟩⟩
        ·
          exact ⟨⟨.lenv false 0 60, .intB .i64 (-9223372036854775808) 3, .lenv true 71 9223372036854775807, .top, .top, .lenv true 0 100⟩, by kernel_rfl, fun _ _ => ⟨.lenS 0 60 s0 (by omega) (by omega), .intB _ _ _ _ (by omega) (by omega), .lenL 71 9223372036854775807 A6 l6 c6 (by omega) (by omega), .top _, .top _, .lenL 0 100 A9 l9 c9 (by omega) (by omega)⟩⟩
      ·
        exact ⟨⟨.lenv false 0 60, .intB .i64 (-9223372036854775808) 3, .top, .top, .top, .lenv true 101 9223372036854775807⟩, by kernel_rfl, fun _ _ => ⟨.lenS 0 60 s0 (by omega) (by omega), .intB _ _ _ _ (by omega) (by omega), .top _, .top _, .top _, .lenL 101 9223372036854775807 A9 l9 c9 (by omega) (by omega)⟩⟩
    ·
      rcases (by omega : l9 ≤ 100 ∨ 101 ≤ l9) with h9 | h9
      ·
        rcases (by omega : l6 ≤ 3 ∨ (4 ≤ l6 ∧ l6 ≤ 64) ∨ (65 ≤ l6 ∧ l6 ≤ 70) ∨ 71 ≤ l6) with h6 | h6 | h6 | h6
        ·
          rcases (by omega : l7 ≤ 3 ∨ (4 ≤ l7 ∧ l7 ≤ 64) ∨ (65 ≤ l7 ∧ l7 ≤ 70) ∨ 71 ≤ l7) with h7 | h7 | h7 | h7
          ·
            rcases (by omega : l8 ≤ 3 ∨ (4 ≤ l8 ∧ l8 ≤ 5) ∨ (6 ≤ l8 ∧ l8 ≤ 8) ∨ 9 ≤ l8) with h8 | h8 | h8 | h8
            ·
              exact ⟨⟨.lenv false 0 60, .intB .i64 5 9223372036854775807, .lenv true 0 3, .lenv true 0 3, .lenv true 0 3, .lenv true 0 100⟩, by kernel_rfl, fun _ _ => ⟨.lenS 0 60 s0 (by omega) (by omega), .intB _ _ _ _ (by omega) (by omega), .lenL 0 3 A6 l6 c6 (by omega) (by omega), .lenL 0 3 A7 l7 c7 (by omega) (by omega), .lenL 0 3 A8 l8 c8 (by omega) (by omega), .lenL 0 100 A9 l9 c9 (by omega) (by omega)⟩⟩
            ·
              exact ⟨⟨.lenv false 0 60, .intB .i64 5 9223372036854775807, .lenv true 0 3, .lenv true 0 3, .lenv true 4 5, .lenv true 0 100⟩, by kernel_rfl, fun _ _ => ⟨.lenS 0 60 s0 (by omega) (by omega), .intB _ _ _ _ (by omega) (by omega), .lenL 0 3 A6 l6 c6 (by omega) (by omega), .lenL 0 3 A7 l7 c7 (by omega) (by omega), .lenL 4 5 A8 l8 c8 (by omega) (by omega), .lenL 0 100 A9 l9 c9 (by omega) (by omega)⟩⟩
            ·
              exact ⟨⟨.lenv false 0 60, .intB .i64 5 9223372036854775807, .lenv true 0 3, .lenv true 0 3, .lenv true 6 8, .lenv true 0 100⟩, by kernel_rfl, fun _ _ => ⟨.lenS 0 60 s0 (by omega) (by omega), .intB _ _ _ _ (by omega) (by omega), .lenL 0 3 A6 l6 c6 (by omega) (by omega), .lenL 0 3 A7 l7 c7 (by omega) (by omega), .lenL 6 8 A8 l8 c8 (by omega) (by omega), .lenL 0 100 A9 l9 c9 (by omega) (by omega)⟩⟩
            ·
              exact ⟨⟨.lenv false 0 60, .intB .i64 5 9223372036854775807, .lenv true 0 3, .lenv true 0 3, .lenv true 9 9223372036854775807, .lenv true 0 100⟩, by kernel_rfl, fun _ _ => ⟨.lenS 0 60 s0 (by omega) (by omega), .intB _ _ _ _ (by omega) (by omega), .lenL 0 3 A6 l6 c6 (by omega) (by omega), .lenL 0 3 A7 l7 c7 (by omega) (by omega), .lenL 9 9223372036854775807 A8 l8 c8 (by omega) (by omega), .lenL 0 100 A9 l9 c9 (by omega) (by omega)⟩⟩
          ·
            exact ⟨⟨.lenv false 0 60, .intB .i64 5 9223372036854775807, .lenv true 0 3, .lenv true 4 64, .top, .lenv true 0 100⟩, by kernel_rfl, fun _ _ => ⟨.lenS 0 60 s0 (by omega) (by omega), .intB _ _ _ _ (by omega) (by omega), .lenL 0 3 A6 l6 c6 (by omega) (by omega), .lenL 4 64 A7 l7 c7 (by omega) (by omega), .top _, .lenL 0 100 A9 l9 c9 (by omega) (by omega)⟩⟩
          ·
            rcases (by omega : l8 ≤ 3 ∨ (4 ≤ l8 ∧ l8 ≤ 5) ∨ (6 ≤ l8 ∧ l8 ≤ 8) ∨ 9 ≤ l8) with h8 | h8 | h8 | h8
            ·
              exact ⟨⟨.lenv false 0 60, .intB .i64 5 9223372036854775807, .lenv true 0 3, .lenv true 65 70, .lenv true 0 3, .lenv true 0 100⟩, by kernel_rfl, fun _ _ => ⟨.lenS 0 60 s0 (by omega) (by omega), .intB _ _ _ _ (by omega) (by omega), .lenL 0 3 A6 l6 c6 (by omega) (by omega), .lenL 65 70 A7 l7 c7 (by omega) (by omega), .lenL 0 3 A8 l8 c8 (by omega) (by omega), .lenL 0 100 A9 l9 c9 (by omega) (by omega)⟩⟩
            ·
              exact ⟨⟨.lenv false 0 60, .intB .i64 5 9223372036854775807, .lenv true 0 3, .lenv true 65 70, .lenv true 4 5, .lenv true 0 100⟩, by kernel_rfl, fun _ _ => ⟨.lenS 0 60 s0 (by omega) (by omega), .intB _ _ _ _ (by omega) (by omega), .lenL 0 3 A6 l6 c6 (by omega) (by omega), .lenL 65 70 A7 l7 c7 (by omega) (by omega), .lenL 4 5 A8 l8 c8 (by omega) (by omega), .lenL 0 100 A9 l9 c9 (by omega) (by omega)⟩⟩
            ·
              exact ⟨⟨.lenv false 0 60, .intB .i64 5 9223372036854775807, .lenv true 0 3, .lenv true 65 70, .lenv true 6 8, .lenv true 0 100⟩, by kernel_rfl, fun _ _ => ⟨.lenS 0 60 s0 (by omega) (by omega), .intB _ _ _ _ (by omega) (by omega), .lenL 0 3 A6 l6 c6 (by omega) (by omega), .lenL 65 70 A7 l7 c7 (by omega) (by omega), .lenL 6 8 A8 l8 c8 (by omega) (by omega), .lenL 0 100 A9 l9 c9 (by omega) (by omega)⟩⟩
            ·
              exact ⟨⟨.lenv false 0 60, .intB .i64 5 9223372036854775807, .lenv true 0 3, .lenv true 65 70, .lenv true 9 9223372036854775807, .lenv true 0 100⟩, by kernel_rfl, fun _ _ => ⟨.lenS 0 60 s0 (by omega) (by omega), .intB _ _ _ _ (by omega) (by omega), .lenL 0 3 A6 l6 c6 (by omega) (by omega), .lenL 65 70 A7 l7 c7 (by omega) (by omega), .lenL 9 9223372036854775807 A8 l8 c8 (by omega) (by omega), .lenL 0 100 A9 l9 c9 (by omega) (by omega)⟩⟩
          ·
            exact ⟨⟨.lenv false 0 60, .intB .i64 5 9223372036854775807, .lenv true 0 3, .lenv true 71 9223372036854775807, .top, .lenv true 0 100⟩, by kernel_rfl, fun _ _ => ⟨.lenS 0 60 s0 (by omega) (by omega), .intB _ _ _ _ (by omega) (by omega), .lenL 0 3 A6 l6 c6 (by omega) (by omega), .lenL 71 9223372036854775807 A7 l7 c7 (by omega) (by omega), .top _, .lenL 0 100 A9 l9 c9 (by omega) (by omega)⟩⟩
        ·
          exact ⟨⟨.lenv false 0 60, .intB .i64 5 9223372036854775807, .lenv true 4 64, .top, .top, .lenv true 0 100⟩, by kernel_rfl, fun _ _ => ⟨.lenS 0 60 s0 (by omega) (by omega), .intB _ _ _ _ (by omega) (by omega), .lenL 4 64 A6 l6 c6 (by omega) (by omega), .top _, .top _, .lenL 0 100 A9 l9 c9 (by omega) (by omega)⟩⟩
        ·
          rcases (by omega : l7 ≤ 3 ∨ (4 ≤ l7 ∧ l7 ≤ 64) ∨ (65 ≤ l7 ∧ l7 ≤ 70) ∨ 71 ≤ l7) with h7 | h7 | h7 | h7
          ·
            rcases (by omega : l8 ≤ 3 ∨ (4 ≤ l8 ∧ l8 ≤ 5) ∨ (6 ≤ l8 ∧ l8 ≤ 8) ∨ 9 ≤ l8) with h8 | h8 | h8 | h8
            ·
              exact ⟨⟨.lenv false 0 60, .intB .i64 5 9223372036854775807, .lenv true 65 70, .lenv true 0 3, .lenv true 0 3, .lenv true 0 100⟩, by kernel_rfl, fun _ _ => ⟨.lenS 0 60 s0 (by omega) (by omega), .intB _ _ _ _ (by omega) (by omega), .lenL 65 70 A6 l6 c6 (by omega) (by omega), .lenL 0 3 A7 l7 c7 (by omega) (by omega), .lenL 0 3 A8 l8 c8 (by omega) (by omega), .lenL 0 100 A9 l9 c9 (by omega) (by omega)⟩⟩
            ·
              exact ⟨⟨.lenv false 0 60, .intB .i64 5 9223372036854775807, .lenv true 65 70, .lenv true 0 3, .lenv true 4 5, .lenv true 0 100⟩, by kernel_rfl, fun _ _ => ⟨.lenS 0 60 s0 (by omega) (by omega), .intB _ _ _ _ (by omega) (by omega), .lenL 65 70 A6 l6 c6 (by omega) (by omega), .lenL 0 3 A7 l7 c7 (by omega) (by omega), .lenL 4 5 A8 l8 c8 (by omega) (by omega), .lenL 0 100 A9 l9 c9 (by omega) (by omega)⟩⟩
            ·
              exact ⟨⟨.lenv false 0 60, .intB .i64 5 9223372036854775807, .lenv true 65 70, .lenv true 0 3, .lenv true 6 8, .lenv true 0 100⟩, by kernel_rfl, fun _ _ => ⟨.lenS 0 60 s0 (by omega) (by omega), .intB _ _ _ _ (by omega) (by omega), .lenL 65 70 A6 l6 c6 (by omega) (by omega), .lenL 0 3 A7 l7 c7 (by omega) (by omega), .lenL 6 8 A8 l8 c8 (by omega) (by omega), .lenL 0 100 A9 l9 c9 (by omega) (by omega)⟩⟩
            ·
              exact ⟨⟨.lenv false 0 60, .intB .i64 5 9223372036854775807, .lenv true 65 70, .lenv true 0 3, .lenv true 9 9223372036854775807, .lenv true 0 100⟩, by kernel_rfl, fun _ _ => ⟨.lenS 0 60 s0 (by omega) (by omega), .intB _ _ _ _ (by omega) (by omega), .lenL 65 70 A6 l6 c6 (by omega) (by omega), .lenL 0 3 A7 l7 c7 (by omega) (by omega), .lenL 9 9223372036854775807 A8 l8 c8 (by omega) (by omega), .lenL 0 100 A9 l9 c9 (by omega) (by omega)⟩⟩
          ·
            exact ⟨⟨.lenv false 0 60, .intB .i64 5 9223372036854775807, .lenv true 65 70, .lenv true 4 64, .top, .lenv true 0 100⟩, by kernel_rfl, fun _ _ => ⟨.lenS 0 60 s0 (by omega) (by omega), .intB _ _ _ _ (by omega) (by omega), .lenL 65 70 A6 l6 c6 (by omega) (by omega), .lenL 4 64 A7 l7 c7 (by omega) (by omega), .top _, .lenL 0 100 A9 l9 c9 (by omega) (by omega)⟩⟩
          ·
            rcases (by omega : l8 ≤ 3 ∨ (4 ≤ l8 ∧ l8 ≤ 5) ∨ (6 ≤ l8 ∧ l8 ≤ 8) ∨ 9 ≤ l8) with h8 | h8 | h8 | h8
            ·
              exact ⟨⟨.lenv false 0 60, .intB .i64 5 9223372036854775807, .lenv true 65 70, .lenv true 65 70, .lenv true 0 3, .lenv true 0 100⟩, by kernel_rfl, fun _ _ => ⟨.lenS 0 60 s0 (by omega) (by omega), .intB _ _ _ _ (by omega) (by omega), .lenL 65 70 A6 l6 c6 (by omega) (by omega), .lenL 65 70 A7 l7 c7 (by omega) (by omega), .lenL 0 3 A8 l8 c8 (by omega) (by omega), .lenL 0 100 A9 l9 c9 (by omega) (by omega)⟩⟩
            ·
              exact ⟨⟨.lenv false 0 60, .intB .i64 5 9223372036854775807, .lenv true 65 70, .lenv true 65 70, .lenv true 4 5, .lenv true 0 100⟩, by kernel_rfl, fun _ _ => ⟨.lenS 0 60 s0 (by omega) (by omega), .intB _ _ _ _ (by omega) (by omega), .lenL 65 70 A6 l6 c6 (by omega) (by omega), .lenL 65 70 A7 l7 c7 (by omega) (by omega), .lenL 4 5 A8 l8 c8 (by omega) (by omega), .lenL 0 100 A9 l9 c9 (by omega) (by omega)⟩⟩
            ·
              exact ⟨⟨.lenv false 0 60, .intB .i64 5 9223372036854775807, .lenv true 65 70, .lenv true 65 70, .lenv true 6 8, .lenv true 0 100⟩, by kernel_rfl, fun _ _ => ⟨.lenS 0 60 s0 (by omega) (by omega), .intB _ _ _ _ (by omega) (by omega), .lenL 65 70 A6 l6 c6 (by omega) (by omega), .lenL 65 70 A7 l7 c7 (by omega) (by omega), .lenL 6 8 A8 l8 c8 (by omega) (by omega), .lenL 0 100 A9 l9 c9 (by omega) (by omega)⟩⟩
            ·
              exact ⟨⟨.lenv false 0 60, .intB .i64 5 9223372036854775807, .lenv true 65 70, .lenv true 65 70, .lenv true 9 9223372036854775807, .lenv true 0 100⟩, by kernel_rfl, fun _ _ => ⟨.lenS 0 60 s0 (by omega) (by omega), .intB _ _ _ _ (by omega) (by omega), .lenL 65 70 A6 l6 c6 (by omega) (by omega), .lenL 65 70 A7 l7 c7 (by omega) (by omega), .lenL 9 9223372036854775807 A8 l8 c8 (by omega) (by omega), .lenL 0 100 A9 l9 c9 (by omega) (by omega)⟩⟩
          ·
            exact ⟨⟨.lenv false 0 60, .intB .i64 5 9223372036854775807, .lenv true 65 70, .lenv true 71 9223372036854775807, .top, .lenv true 0 100⟩, by kernel_rfl, fun _ _ => ⟨.lenS 0 60 s0 (by omega) (by omega), .intB _ _ _ _ (by omega) (by omega), .lenL 65 70 A6 l6 c6 (by omega) (by omega), .lenL 71 9223372036854775807 A7 l7 c7 (by omega) (by omega), .top _, .lenL 0 100 A9 l9 c9 (by omega) (by omega)⟩⟩
        ·
          exact ⟨⟨.lenv false 0 60, .intB .i64 5 9223372036854775807, .lenv true 71 9223372036854775807, .top, .top, .lenv true 0 100⟩, by kernel_rfl, fun _ _ => ⟨.lenS 0 60 s0 (by omega) (by omega), .intB _ _ _ _ (by omega) (by omega), .lenL 71 9223372036854775807 A6 l6 c6 (by omega) (by omega), .top _, .top _, .lenL 0 100 A9 l9 c9 (by omega) (by omega)⟩⟩
      ·
        exact ⟨⟨.lenv false 0 60, .intB .i64 5 9223372036854775807, .top, .top, .top, .lenv true 101 9223372036854775807⟩, by kernel_rfl, fun _ _ => ⟨.lenS 0 60 s0 (by omega) (by omega), .intB _ _ _ _ (by omega) (by omega), .top _, .top _, .top _, .lenL 101 9223372036854775807 A9 l9 c9 (by omega) (by omega)⟩⟩
  ·
    exact ⟨⟨.lenv false 61 9223372036854775807, .top, .top, .top, .top, .top⟩, by kernel_rfl, fun _ _ => ⟨.lenS 61 9223372036854775807 s0 (by omega) (by omega), .top _, .top _, .top _, .top _, .top _⟩⟩

theorem lcons {l : List Value} {n : Nat} (h : l.length = n + 1) : ∃ x l', l = x :: l' ∧ l'.length = n := by
  cases l with
  | nil => cases h
  | cons x l => exact ⟨x, l, rfl, by simpa using h⟩
set_option maxRecDepth 20000 in
set_option maxHeartbeats 4000000 in
theorem light_any (w : World) (s0 : ByteArray) (v1 v2 v3 v4 : Value) (g : Int) (A6 A7 A8 A9 : Option Addr) (l6 c6 l7 c7 l8 c8 l9 c9 : Nat)
    (hs0 : s0.size ≤ maxLen) (hm6 : l6 ≤ maxLen) (hm7 : l7 ≤ maxLen) (hm8 : l8 ≤ maxLen) (hm9 : l9 ≤ maxLen) (hg1 : -9223372036854775808 ≤ g) (hg2 : g ≤ 9223372036854775807)
    (h6 : EltPr w A6 l6 4 0) (h6s : EltSl w A6 l6 4 3) (h7 : EltPr w A7 l7 3 0) (h8 : EltPr w A8 l8 11 1) (h8' : EltPr w A8 l8 11 3) (h8s : EltSl w A8 l8 11 9) (h8s' : EltSl w A8 l8 11 10) :
    Calls Tryz.prog 4 #[.agg #[.string s0, v1, v2, v3, v4, .int .i64 g, .slice A6 l6 c6, .slice A7 l7 c7, .slice A8 l8 c8, .slice A9 l9 c9]] w
      fun e w' => IsBool e ∧ Below w.heap.size w w' := by
  unfold maxLen at hs0 hm6 hm7 hm8 hm9
  have hB : ∀ o, Below w.heap.size w (w.alloc o) := fun o => (Below.refl _ _).al o
  go_enter Tryz.func4, Tryz.ntmps4
  go_upto_region 1 with fail
  refine wp_cut (R1 (w.alloc (.cells #[.string s0, v1, v2, v3, v4, .int .i64 g, .slice A6 l6 c6, .slice A7 l7 c7, .slice A8 l8 c8, .slice A9 l9 c9] 29)) w.heap.size) ?_ ?_
  · intro a' wc hR1
    obtain ⟨hd, hn, e1, e2, e3, e4, e5, ⟨b, e74⟩, hb⟩ := hR1
    obtain ⟨⟨l⟩, ds⟩ := a'
    simp only at hd
    subst hd
    have hh0 : l.length = 156 := hn
    clear hn
    obtain ⟨x0, l, rfl, hh1⟩ := lcons hh0; clear hh0
    obtain ⟨x1, l, rfl, hh2⟩ := lcons hh1; clear hh1
    obtain ⟨x2, l, rfl, hh3⟩ := lcons hh2; clear hh2
    obtain ⟨x3, l, rfl, hh4⟩ := lcons hh3; clear hh3
    obtain ⟨x4, l, rfl, hh5⟩ := lcons hh4; clear hh4
    obtain ⟨x5, l, rfl, hh6⟩ := lcons hh5; clear hh5
    obtain ⟨x6, l, rfl, hh7⟩ := lcons hh6; clear hh6
    obtain ⟨x7, l, rfl, hh8⟩ := lcons hh7; clear hh7
    obtain ⟨x8, l, rfl, hh9⟩ := lcons hh8; clear hh8
    obtain ⟨x9, l, rfl, hh10⟩ := lcons hh9; clear hh9
    obtain ⟨x10, l, rfl, hh11⟩ := lcons hh10; clear hh10
    obtain ⟨x11, l, rfl, hh12⟩ := lcons hh11; clear hh11
    obtain ⟨x12, l, rfl, hh13⟩ := lcons hh12; clear hh12
    obtain ⟨x13, l, rfl, hh14⟩ := lcons hh13; clear hh13
    obtain ⟨x14, l, rfl, hh15⟩ := lcons hh14; clear hh14
    obtain ⟨x15, l, rfl, hh16⟩ := lcons hh15; clear hh15
    obtain ⟨x16, l, rfl, hh17⟩ := lcons hh16; clear hh16
    obtain ⟨x17, l, rfl, hh18⟩ := lcons hh17; clear hh17
    obtain ⟨x18, l, rfl, hh19⟩ := lcons hh18; clear hh18
    obtain ⟨x19, l, rfl, hh20⟩ := lcons hh19; clear hh19
    obtain ⟨x20, l, rfl, hh21⟩ := lcons hh20; clear hh20
    obtain ⟨x21, l, rfl, hh22⟩ := lcons hh21; clear hh21
    obtain ⟨x22, l, rfl, hh23⟩ := lcons hh22; clear hh22
    obtain ⟨x23, l, rfl, hh24⟩ := lcons hh23; clear hh23
    obtain ⟨x24, l, rfl, hh25⟩ := lcons hh24; clear hh24
    obtain ⟨x25, l, rfl, hh26⟩ := lcons hh25; clear hh25
    obtain ⟨x26, l, rfl, hh27⟩ := lcons hh26; clear hh26
    obtain ⟨x27, l, rfl, hh28⟩ := lcons hh27; clear hh27
    obtain ⟨x28, l, rfl, hh29⟩ := lcons hh28; clear hh28
    obtain ⟨x29, l, rfl, hh30⟩ := lcons hh29; clear hh29
    obtain ⟨x30, l, rfl, hh31⟩ := lcons hh30; clear hh30
    obtain ⟨x31, l, rfl, hh32⟩ := lcons hh31; clear hh31
    obtain ⟨x32, l, rfl, hh33⟩ := lcons hh32; clear hh32
    obtain ⟨x33, l, rfl, hh34⟩ := lcons hh33; clear hh33
    obtain ⟨x34, l, rfl, hh35⟩ := lcons hh34; clear hh34
    obtain ⟨x35, l, rfl, hh36⟩ := lcons hh35; clear hh35
    obtain ⟨x36, l, rfl, hh37⟩ := lcons hh36; clear hh36
    obtain ⟨x37, l, rfl, hh38⟩ := lcons hh37; clear hh37
    obtain ⟨x38, l, rfl, hh39⟩ := lcons hh38; clear hh38
    obtain ⟨x39, l, rfl, hh40⟩ := lcons hh39; clear hh39
    obtain ⟨x40, l, rfl, hh41⟩ := lcons hh40; clear hh40
    obtain ⟨x41, l, rfl, hh42⟩ := lcons hh41; clear hh41
    obtain ⟨x42, l, rfl, hh43⟩ := lcons hh42; clear hh42
    obtain ⟨x43, l, rfl, hh44⟩ := lcons hh43; clear hh43
    obtain ⟨x44, l, rfl, hh45⟩ := lcons hh44; clear hh44
    obtain ⟨x45, l, rfl, hh46⟩ := lcons hh45; clear hh45
    obtain ⟨x46, l, rfl, hh47⟩ := lcons hh46; clear hh46
    obtain ⟨x47, l, rfl, hh48⟩ := lcons hh47; clear hh47
    obtain ⟨x48, l, rfl, hh49⟩ := lcons hh48; clear hh48
    obtain ⟨x49, l, rfl, hh50⟩ := lcons hh49; clear hh49
    obtain ⟨x50, l, rfl, hh51⟩ := lcons hh50; clear hh50
    obtain ⟨x51, l, rfl, hh52⟩ := lcons hh51; clear hh51
    obtain ⟨x52, l, rfl, hh53⟩ := lcons hh52; clear hh52
    obtain ⟨x53, l, rfl, hh54⟩ := lcons hh53; clear hh53
    obtain ⟨x54, l, rfl, hh55⟩ := lcons hh54; clear hh54
    obtain ⟨x55, l, rfl, hh56⟩ := lcons hh55; clear hh55
    obtain ⟨x56, l, rfl, hh57⟩ := lcons hh56; clear hh56
    obtain ⟨x57, l, rfl, hh58⟩ := lcons hh57; clear hh57
    obtain ⟨x58, l, rfl, hh59⟩ := lcons hh58; clear hh58
    obtain ⟨x59, l, rfl, hh60⟩ := lcons hh59; clear hh59
    obtain ⟨x60, l, rfl, hh61⟩ := lcons hh60; clear hh60
    obtain ⟨x61, l, rfl, hh62⟩ := lcons hh61; clear hh61
    obtain ⟨x62, l, rfl, hh63⟩ := lcons hh62; clear hh62
    obtain ⟨x63, l, rfl, hh64⟩ := lcons hh63; clear hh63
    obtain ⟨x64, l, rfl, hh65⟩ := lcons hh64; clear hh64
    obtain ⟨x65, l, rfl, hh66⟩ := lcons hh65; clear hh65
    obtain ⟨x66, l, rfl, hh67⟩ := lcons hh66; clear hh66
    obtain ⟨x67, l, rfl, hh68⟩ := lcons hh67; clear hh67
    obtain ⟨x68, l, rfl, hh69⟩ := lcons hh68; clear hh68
    obtain ⟨x69, l, rfl, hh70⟩ := lcons hh69; clear hh69
    obtain ⟨x70, l, rfl, hh71⟩ := lcons hh70; clear hh70
    obtain ⟨x71, l, rfl, hh72⟩ := lcons hh71; clear hh71
    obtain ⟨x72, l, rfl, hh73⟩ := lcons hh72; clear hh72
    obtain ⟨x73, l, rfl, hh74⟩ := lcons hh73; clear hh73
    obtain ⟨x74, l, rfl, hh75⟩ := lcons hh74; clear hh74
    obtain ⟨x75, l, rfl, hh76⟩ := lcons hh75; clear hh75
    obtain ⟨x76, l, rfl, hh77⟩ := lcons hh76; clear hh76
    obtain ⟨x77, l, rfl, hh78⟩ := lcons hh77; clear hh77
    obtain ⟨x78, l, rfl, hh79⟩ := lcons hh78; clear hh78
    obtain ⟨x79, l, rfl, hh80⟩ := lcons hh79; clear hh79
    obtain ⟨x80, l, rfl, hh81⟩ := lcons hh80; clear hh80
    obtain ⟨x81, l, rfl, hh82⟩ := lcons hh81; clear hh81
    obtain ⟨x82, l, rfl, hh83⟩ := lcons hh82; clear hh82
    obtain ⟨x83, l, rfl, hh84⟩ := lcons hh83; clear hh83
    obtain ⟨x84, l, rfl, hh85⟩ := lcons hh84; clear hh84
    obtain ⟨x85, l, rfl, hh86⟩ := lcons hh85; clear hh85
    obtain ⟨x86, l, rfl, hh87⟩ := lcons hh86; clear hh86
    obtain ⟨x87, l, rfl, hh88⟩ := lcons hh87; clear hh87
    obtain ⟨x88, l, rfl, hh89⟩ := lcons hh88; clear hh88
    obtain ⟨x89, l, rfl, hh90⟩ := lcons hh89; clear hh89
    obtain ⟨x90, l, rfl, hh91⟩ := lcons hh90; clear hh90
    obtain ⟨x91, l, rfl, hh92⟩ := lcons hh91; clear hh91
    obtain ⟨x92, l, rfl, hh93⟩ := lcons hh92; clear hh92
    obtain ⟨x93, l, rfl, hh94⟩ := lcons hh93; clear hh93
    obtain ⟨x94, l, rfl, hh95⟩ := lcons hh94; clear hh94
    obtain ⟨x95, l, rfl, hh96⟩ := lcons hh95; clear hh95
    obtain ⟨x96, l, rfl, hh97⟩ := lcons hh96; clear hh96
    obtain ⟨x97, l, rfl, hh98⟩ := lcons hh97; clear hh97
    obtain ⟨x98, l, rfl, hh99⟩ := lcons hh98; clear hh98
    obtain ⟨x99, l, rfl, hh100⟩ := lcons hh99; clear hh99
    obtain ⟨x100, l, rfl, hh101⟩ := lcons hh100; clear hh100
    obtain ⟨x101, l, rfl, hh102⟩ := lcons hh101; clear hh101
    obtain ⟨x102, l, rfl, hh103⟩ := lcons hh102; clear hh102
    obtain ⟨x103, l, rfl, hh104⟩ := lcons hh103; clear hh103
    obtain ⟨x104, l, rfl, hh105⟩ := lcons hh104; clear hh104
    obtain ⟨x105, l, rfl, hh106⟩ := lcons hh105; clear hh105
    obtain ⟨x106, l, rfl, hh107⟩ := lcons hh106; clear hh106
    obtain ⟨x107, l, rfl, hh108⟩ := lcons hh107; clear hh107
    obtain ⟨x108, l, rfl, hh109⟩ := lcons hh108; clear hh108
    obtain ⟨x109, l, rfl, hh110⟩ := lcons hh109; clear hh109
    obtain ⟨x110, l, rfl, hh111⟩ := lcons hh110; clear hh110
    obtain ⟨x111, l, rfl, hh112⟩ := lcons hh111; clear hh111
    obtain ⟨x112, l, rfl, hh113⟩ := lcons hh112; clear hh112
    obtain ⟨x113, l, rfl, hh114⟩ := lcons hh113; clear hh113
    obtain ⟨x114, l, rfl, hh115⟩ := lcons hh114; clear hh114
    obtain ⟨x115, l, rfl, hh116⟩ := lcons hh115; clear hh115
    obtain ⟨x116, l, rfl, hh117⟩ := lcons hh116; clear hh116
    obtain ⟨x117, l, rfl, hh118⟩ := lcons hh117; clear hh117
    obtain ⟨x118, l, rfl, hh119⟩ := lcons hh118; clear hh118
    obtain ⟨x119, l, rfl, hh120⟩ := lcons hh119; clear hh119
    obtain ⟨x120, l, rfl, hh121⟩ := lcons hh120; clear hh120
    obtain ⟨x121, l, rfl, hh122⟩ := lcons hh121; clear hh121
    obtain ⟨x122, l, rfl, hh123⟩ := lcons hh122; clear hh122
    obtain ⟨x123, l, rfl, hh124⟩ := lcons hh123; clear hh123
    obtain ⟨x124, l, rfl, hh125⟩ := lcons hh124; clear hh124
    obtain ⟨x125, l, rfl, hh126⟩ := lcons hh125; clear hh125
    obtain ⟨x126, l, rfl, hh127⟩ := lcons hh126; clear hh126
    obtain ⟨x127, l, rfl, hh128⟩ := lcons hh127; clear hh127
    obtain ⟨x128, l, rfl, hh129⟩ := lcons hh128; clear hh128
    obtain ⟨x129, l, rfl, hh130⟩ := lcons hh129; clear hh129
    obtain ⟨x130, l, rfl, hh131⟩ := lcons hh130; clear hh130
    obtain ⟨x131, l, rfl, hh132⟩ := lcons hh131; clear hh131
    obtain ⟨x132, l, rfl, hh133⟩ := lcons hh132; clear hh132
    obtain ⟨x133, l, rfl, hh134⟩ := lcons hh133; clear hh133
    obtain ⟨x134, l, rfl, hh135⟩ := lcons hh134; clear hh134
    obtain ⟨x135, l, rfl, hh136⟩ := lcons hh135; clear hh135
    obtain ⟨x136, l, rfl, hh137⟩ := lcons hh136; clear hh136
    obtain ⟨x137, l, rfl, hh138⟩ := lcons hh137; clear hh137
    obtain ⟨x138, l, rfl, hh139⟩ := lcons hh138; clear hh138
    obtain ⟨x139, l, rfl, hh140⟩ := lcons hh139; clear hh139
    obtain ⟨x140, l, rfl, hh141⟩ := lcons hh140; clear hh140
    obtain ⟨x141, l, rfl, hh142⟩ := lcons hh141; clear hh141
    obtain ⟨x142, l, rfl, hh143⟩ := lcons hh142; clear hh142
    obtain ⟨x143, l, rfl, hh144⟩ := lcons hh143; clear hh143
    obtain ⟨x144, l, rfl, hh145⟩ := lcons hh144; clear hh144
    obtain ⟨x145, l, rfl, hh146⟩ := lcons hh145; clear hh145
    obtain ⟨x146, l, rfl, hh147⟩ := lcons hh146; clear hh146
    obtain ⟨x147, l, rfl, hh148⟩ := lcons hh147; clear hh147
    obtain ⟨x148, l, rfl, hh149⟩ := lcons hh148; clear hh148
    obtain ⟨x149, l, rfl, hh150⟩ := lcons hh149; clear hh149
    obtain ⟨x150, l, rfl, hh151⟩ := lcons hh150; clear hh150
    obtain ⟨x151, l, rfl, hh152⟩ := lcons hh151; clear hh151
    obtain ⟨x152, l, rfl, hh153⟩ := lcons hh152; clear hh152
    obtain ⟨x153, l, rfl, hh154⟩ := lcons hh153; clear hh153
    obtain ⟨x154, l, rfl, hh155⟩ := lcons hh154; clear hh154
    obtain ⟨x155, l, rfl, hh156⟩ := lcons hh155; clear hh155
    obtain rfl := List.length_eq_zero_iff.1 hh156
    clear hh156
    have e1 : x1 = .pointer (some ⟨w.heap.size, 0, none⟩) := Option.some.inj (show some x1 = some _ from e1)
    subst e1
    have e2 : x2 = .bool false := Option.some.inj (show some x2 = some _ from e2)
    subst e2
    have e3 : x3 = undef := Option.some.inj (show some x3 = some _ from e3)
    subst e3
    have e4 : x4 = undef := Option.some.inj (show some x4 = some _ from e4)
    subst e4
    have e5 : x5 = undef := Option.some.inj (show some x5 = some _ from e5)
    subst e5
    have e74 : x74 = .bool b := Option.some.inj (show some x74 = some _ from e74)
    subst e74
    have hw1 : Below w.heap.size w wc := (hB _).trans (hb.mono (hB _).size)
    have hw1s : w.heap.size + 1 ≤ wc.heap.size := Nat.le_trans (by simp) hb.size
    have hbx : ∀ p : Addr, p.block < w.heap.size + 1 → wc.cell? p = (w.alloc (.cells #[.string s0, v1, v2, v3, v4, .int .i64 g, .slice A6 l6 c6, .slice A7 l7 c7, .slice A8 l8 c8, .slice A9 l9 c9] 29)).cell? p := fun p hp => hb.cell (by simpa using hp)
    have c6' : wc.cell? ⟨w.heap.size, 6, none⟩ = some (.slice A6 l6 c6) := (hbx _ (Nat.lt_succ_self _)).trans (by simp [go_sem])
    have c7' : wc.cell? ⟨w.heap.size, 7, none⟩ = some (.slice A7 l7 c7) := (hbx _ (Nat.lt_succ_self _)).trans (by simp [go_sem])
    have c8' : wc.cell? ⟨w.heap.size, 8, none⟩ = some (.slice A8 l8 c8) := (hbx _ (Nat.lt_succ_self _)).trans (by simp [go_sem])
    have hBw : Below w.heap.size w wc := hw1
    clear hB hb hbx hs0 hg1 hg2
    cases b with
    | true =>
      go_wp2
      go_ret
      exact ⟨⟨_, rfl⟩, hBw⟩
    | false =>
      go_wp2
      have hRz : Below (w.heap.size + 1) wc wc := Below.refl _ _
      go_loopw [3] (fun i wr => (∃ k : Nat, k ≤ l6 ∧ i = .int .i64 k) ∧ Below (w.heap.size + 1) wc wr) (fun i wr => l6 - (intOf i).toNat)
      case atStart => exact ⟨⟨0, Nat.zero_le _, rfl⟩, hRz⟩
      case round =>
        obtain ⟨⟨k, hk, rfl⟩, hR⟩ := hrel
        have hw : Below w.heap.size w wr := hBw.trans (hR.mono (Nat.le_succ _))
        have hsz : w.heap.size + 1 ≤ wr.heap.size := Nat.le_trans hw1s hR.size
        have f6 : wr.cell? ⟨w.heap.size, 6, none⟩ = some (.slice A6 l6 c6) := (hR.cell (Nat.lt_succ_self _)).trans c6'
        have f6' : ∀ o, (wr.alloc o).cell? ⟨w.heap.size, 6, none⟩ = some (.slice A6 l6 c6) := fun o => ((hR.alloc hsz o).cell (Nat.lt_succ_self _)).trans c6'
        have hRa : ∀ o, Below (w.heap.size + 1) wc (wr.alloc o) := fun o => hR.alloc hsz o
        have hwa : ∀ o, Below w.heap.size w (wr.alloc o) := fun o => hw.al o
        by_cases hlt : k < l6
        · obtain ⟨b, off, B, L, C, rfl, hb, hL, hcell⟩ := h6s k hlt
          obtain ⟨b', off', p0, p1, e, hb', hp0, hp1, hpr⟩ := h6 k hlt
          cases e
          unfold maxLen at hL
          have hcell' : ∀ o, (wr.alloc o).cell? ⟨b, off + k * 4 + 3, none⟩ = some (.slice B L C) := fun o => ((hwa o).cell hb).trans hcell
          have hp0' : wr.cell? ⟨b, off + k * 4, none⟩ = some p0 := (hw.cell hb).trans hp0
          have hp1' : wr.cell? ⟨b, off + k * 4 + 1, none⟩ = some p1 := (hw.cell hb).trans hp1
          have hpr' := hpr.mono hw
          clear h6 h6s h7 h8 h8' h8s h8s' hcell hp0 hp1 hpr c6' c7' c8'
          go_wp2_with (go_at_call 11; refine (long_any hpr').mono ?_; rintro e w' ⟨⟨b1, rfl⟩, rfl⟩; cases b1)
          · go_ret
            exact ⟨⟨_, rfl⟩, hwa _⟩
          · go_roundw
            case rel => exact ⟨⟨k + 1, by omega, by go_num⟩, hRa _⟩
            case measure => simp [intOf]; omega
          · go_ret
            exact ⟨⟨_, rfl⟩, hwa _⟩
        · clear h6 h6s f6'
          go_wp2
          go_loopw [4] (fun i wq => (∃ k : Nat, k ≤ l7 ∧ i = .int .i64 k) ∧ Below (w.heap.size + 1) wc wq) (fun i wq => l7 - (intOf i).toNat)
          case atStart => exact ⟨⟨0, Nat.zero_le _, rfl⟩, hR⟩
          case round =>
            clear hw hsz f6 hRa hwa hR
            obtain ⟨⟨q, hq, rfl⟩, hR⟩ := hrel
            have hw : Below w.heap.size w wr := hBw.trans (hR.mono (Nat.le_succ _))
            have hsz : w.heap.size + 1 ≤ wr.heap.size := Nat.le_trans hw1s hR.size
            have f7 : wr.cell? ⟨w.heap.size, 7, none⟩ = some (.slice A7 l7 c7) := (hR.cell (Nat.lt_succ_self _)).trans c7'
            have hRa : ∀ o, Below (w.heap.size + 1) wc (wr.alloc o) := fun o => hR.alloc hsz o
            have hwa : ∀ o, Below w.heap.size w (wr.alloc o) := fun o => hw.al o
            by_cases hltq : q < l7
            · obtain ⟨b', off', p0, p1, rfl, hb', hp0, hp1, hpr⟩ := h7 q hltq
              have hp0' : wr.cell? ⟨b', off' + q * 3, none⟩ = some p0 := (hw.cell hb').trans hp0
              have hp1' : wr.cell? ⟨b', off' + q * 3 + 1, none⟩ = some p1 := (hw.cell hb').trans hp1
              have hpr' := hpr.mono hw
              clear h7 h8 h8' h8s h8s' hp0 hp1 hpr c6' c7' c8'
              go_wp2_with (go_at_call 11; refine (long_any hpr').mono ?_; rintro e w' ⟨⟨b1, rfl⟩, rfl⟩; cases b1)
              · go_roundw
                case rel => exact ⟨⟨q + 1, by omega, by go_num⟩, hRa _⟩
                case measure => simp [intOf]; omega
              · go_ret
                exact ⟨⟨_, rfl⟩, hwa _⟩
            · clear h7
              go_wp2
              go_loopw [5] (fun i wq => (∃ k : Nat, k ≤ l8 ∧ i = .int .i64 k) ∧ Below (w.heap.size + 1) wc wq) (fun i wq => l8 - (intOf i).toNat)
              case atStart => exact ⟨⟨0, Nat.zero_le _, rfl⟩, hR⟩
              case round =>
                clear hw hsz f7 hRa hwa hR
                obtain ⟨⟨j, hj, rfl⟩, hR⟩ := hrel
                have hw : Below w.heap.size w wr := hBw.trans (hR.mono (Nat.le_succ _))
                have hsz : w.heap.size + 1 ≤ wr.heap.size := Nat.le_trans hw1s hR.size
                have f8 : wr.cell? ⟨w.heap.size, 8, none⟩ = some (.slice A8 l8 c8) := (hR.cell (Nat.lt_succ_self _)).trans c8'
                have f8' : ∀ o, (wr.alloc o).cell? ⟨w.heap.size, 8, none⟩ = some (.slice A8 l8 c8) := fun o => ((hR.alloc hsz o).cell (Nat.lt_succ_self _)).trans c8'
                have hRa : ∀ o, Below (w.heap.size + 1) wc (wr.alloc o) := fun o => hR.alloc hsz o
                have f8'' : ∀ o o', ((wr.alloc o).alloc o').cell? ⟨w.heap.size, 8, none⟩ = some (.slice A8 l8 c8) := fun o o' => (((hRa o).alloc (by simp; omega) o').cell (Nat.lt_succ_self _)).trans c8'
                have hRa2 : ∀ o o', Below (w.heap.size + 1) wc ((wr.alloc o).alloc o') := fun o o' => (hRa o).alloc (by simp; omega) o'
                have hwa : ∀ o, Below w.heap.size w (wr.alloc o) := fun o => hw.al o
                have hwa2 : ∀ o o', Below w.heap.size w ((wr.alloc o).alloc o') := fun o o' => (hwa o).al o'
                by_cases hltj : j < l8
                · obtain ⟨b, off, B, L, C, rfl, hb, hL, hcell⟩ := h8s j hltj
                  obtain ⟨b', off', p0, p1, e, hb', hp0, hp1, hpr⟩ := h8 j hltj
                  cases e
                  obtain ⟨b', off', p2, p3, e, hb', hp2, hp3, hpr2⟩ := h8' j hltj
                  cases e
                  obtain ⟨b', off', B', L', C', e, hb', hL', hcell2⟩ := h8s' j hltj
                  cases e
                  unfold maxLen at hL hL'
                  have hc9 : ∀ o o', ((wr.alloc o).alloc o').cell? ⟨b, off + j * 11 + 9, none⟩ = some (.slice B L C) := fun o o' => ((hwa2 o o').cell hb).trans hcell
                  have hc10 : ∀ o o', ((wr.alloc o).alloc o').cell? ⟨b, off + j * 11 + 10, none⟩ = some (.slice B' L' C') := fun o o' => ((hwa2 o o').cell hb).trans hcell2
                  have hp0' : wr.cell? ⟨b, off + j * 11 + 1, none⟩ = some p0 := (hw.cell hb).trans hp0
                  have hp1' : wr.cell? ⟨b, off + j * 11 + 1 + 1, none⟩ = some p1 := (hw.cell hb).trans hp1
                  have hp2' : ∀ o, (wr.alloc o).cell? ⟨b, off + j * 11 + 3, none⟩ = some p2 := fun o => ((hwa o).cell hb).trans hp2
                  have hp3' : ∀ o, (wr.alloc o).cell? ⟨b, off + j * 11 + 3 + 1, none⟩ = some p3 := fun o => ((hwa o).cell hb).trans hp3
                  have hpr' := hpr.mono hw
                  have hpr2' : ∀ o, PrinOk (wr.alloc o) p2 p3 := fun o => hpr2.mono (hwa o)
                  clear h8 h8' h8s h8s' hp0 hp1 hpr hp2 hp3 hpr2 hcell hcell2 c6' c7' c8'
                  go_wp2_with (first | (go_at_call_of 11 p0; refine (long_any hpr').mono ?_; rintro e w' ⟨⟨b1, rfl⟩, rfl⟩; cases b1) | (go_at_call_of 11 p2; refine (long_any (hpr2' _)).mono ?_; rintro e w' ⟨⟨b1, rfl⟩, rfl⟩; cases b1))
                  · go_ret
                    first | exact ⟨⟨_, rfl⟩, hwa2 _ _⟩ | exact ⟨⟨_, rfl⟩, hwa _⟩
                  · go_roundw
                    case rel => exact ⟨⟨j + 1, by omega, by go_num⟩, hRa2 _ _⟩
                    case measure => simp [intOf]; omega
                  all_goals
                    go_ret
                    first | exact ⟨⟨_, rfl⟩, hwa2 _ _⟩ | exact ⟨⟨_, rfl⟩, hwa _⟩
                · clear h8 h8' h8s h8s'
                  go_wp2
                  go_ret
                  exact ⟨⟨_, rfl⟩, hw⟩
  · intro J K' hJ hK
    obtain ⟨c, hk, hc⟩ := light_cls s0 g A6 A7 A8 A9 l6 c6 l7 c7 l8 c8 l9 c9 (by omega) (by omega) (by omega) (by omega) (by omega) hg1 hg2
    refine light_r1 (l := List.replicate 153 undef) (by show (w.heap.push _)[w.heap.size]? = _; exact Array.getElem?_push_size) rfl List.length_replicate (fun j hj => by rw [List.getElem?_replicate, if_pos hj]) rfl c hk hc ?_
    intro a' w' h
    exact hK a' w' (hJ a' w' h)
end Go.Proofs.YtonlnkibohmalaaGreatDoor

