/- long and heavy return some bool and turn nothing that was there, at every argument that can be read. -/
import Derived.Test.YtonlnkibohmalaaGreatDoorEnv
import Derived.WalkKit
import Derived.WalkSpells
import Derived.WalkLawsBesides
import Derived.LoopTactic
import Derived.Deep.RegionWith
set_option linter.unusedVariables false
set_option linter.unusedSimpArgs false
namespace Go.Proofs.YtonlnkibohmalaaGreatDoor
open Go.RowKit
def IsBool (e : Ending) : Prop := ∃ b, e = .returned (.bool b)
/-- Element k of a list of strings. -/
def StrAt (w : World) (A : Option Addr) (len : Nat) : Prop := ∀ k, k < len → ∃ b off, ∃ s : ByteArray, A = some ⟨b, off, none⟩ ∧ b < w.heap.size ∧ s.size ≤ maxLen ∧ w.cell? ⟨b, off + k, none⟩ = some (.string s)
set_option maxHeartbeats 1000000 in
theorem long_sl (s : ByteArray) (A : Option Addr) (len cap : Nat) (w : World) (hs : s.size ≤ maxLen) (hl : len ≤ maxLen) (hS : StrAt w A len) :
    Calls Tryz.prog 11 #[.agg #[.slice A len cap, .string s]] w fun e w' => IsBool e ∧ w' = w.alloc (.cells #[.slice A len cap, .string s] 34) := by
  unfold maxLen at hs hl
  have hB : ∀ o, Below w.heap.size w (w.alloc o) := fun o => (Below.refl _ _).alloc (Nat.le_refl _) o
  go_enter Tryz.func11, Tryz.ntmps11
  go_wp2
  · go_ret
    exact ⟨⟨_, rfl⟩, rfl⟩
  · go_loop [3] (fun i => ∃ k : Nat, k ≤ len ∧ i = .int .i64 k) (fun i => len - (intOf i).toNat)
    case atStart => exact ⟨0, Nat.zero_le _, rfl⟩
    case round =>
      obtain ⟨k, hk, rfl⟩ := hrel
      by_cases hlt : k < len
      · obtain ⟨b, off, sk, rfl, hb, hsk, hcell⟩ := hS k hlt
        unfold maxLen at hsk
        have hcell' : ∀ o, (w.alloc o).cell? ⟨b, off + k, none⟩ = some (.string sk) := fun o => ((hB o).cell hb).trans hcell
        clear hcell hS hB
        go_wp2
        · go_ret
          exact ⟨⟨_, rfl⟩, rfl⟩
        · go_round
          case rel => exact ⟨k + 1, by omega, by go_num⟩
          case measure => simp [intOf]; omega
      · clear hS hB
        go_wp2
        go_ret
        exact ⟨⟨_, rfl⟩, rfl⟩
  · go_ret
    exact ⟨⟨_, rfl⟩, rfl⟩

/-- A principal's two cells can be read. -/
def PrinOk (w : World) (v0 v1 : Value) : Prop :=
  (∃ s : ByteArray, v1 = .string s ∧ s.size ≤ maxLen) ∧ ∃ A len cap, v0 = .slice A len cap ∧ len ≤ maxLen ∧ StrAt w A len
theorem PrinOk.mono {w w' : World} {v0 v1 : Value} (h : PrinOk w v0 v1) (hb : Below w.heap.size w w') : PrinOk w' v0 v1 := by
  obtain ⟨h1, A, len, cap, e, hl, hS⟩ := h
  refine ⟨h1, A, len, cap, e, hl, fun k hk => ?_⟩
  obtain ⟨b, off, s, eA, hlt, hs, hc⟩ := hS k hk
  exact ⟨b, off, s, eA, Nat.lt_of_lt_of_le hlt hb.size, hs, (hb.cell hlt).trans hc⟩
theorem long_any {w : World} {v0 v1 : Value} (h : PrinOk w v0 v1) : Calls Tryz.prog 11 #[.agg #[v0, v1]] w fun e w' => IsBool e ∧ w' = w.alloc (.cells #[v0, v1] 34) := by
  obtain ⟨⟨s, rfl, hs⟩, A, len, cap, rfl, hl, hS⟩ := h
  exact long_sl s A len cap w hs hl hS
end Go.Proofs.YtonlnkibohmalaaGreatDoor

namespace Go.Proofs.YtonlnkibohmalaaGreatDoor
open Go.RowKit
theorem _root_.Go.RowKit.Below.al {w a : World} (h : Below w.heap.size w a) (o : Obj) : Below w.heap.size w (a.alloc o) := h.alloc h.size o
/-- Element k's cell j holds a slice. -/
def EltSl (w : World) (A : Option Addr) (l n j : Nat) : Prop := ∀ k, k < l → ∃ b off B, ∃ L C : Nat, A = some ⟨b, off, none⟩ ∧ b < w.heap.size ∧ L ≤ maxLen ∧ w.cell? ⟨b, off + k * n + j, none⟩ = some (.slice B L C)
/-- Element k's cells j, j + 1 hold a principal. -/
def EltPr (w : World) (A : Option Addr) (l n j : Nat) : Prop := ∀ k, k < l → ∃ b off p0 p1, A = some ⟨b, off, none⟩ ∧ b < w.heap.size ∧ w.cell? ⟨b, off + k * n + j, none⟩ = some p0 ∧ w.cell? ⟨b, off + k * n + j + 1, none⟩ = some p1 ∧ PrinOk w p0 p1
set_option maxRecDepth 20000 in
set_option maxHeartbeats 2000000 in
theorem heavy_any (w : World) (v0 v2 v3 v4 v5 v6 v7 v8 v9 v10 : Value) (A1 A11 A12 A13 : Option Addr) (l1 c1 l11 c11 l12 c12 l13 c13 : Nat)
    (hm1 : l1 ≤ maxLen) (hm11 : l11 ≤ maxLen) (hm12 : l12 ≤ maxLen) (hm13 : l13 ≤ maxLen) (hc : PrinOk w v3 v4) (hs : PrinOk w v5 v6) (h1 : EltSl w A1 l1 2 1) (h12 : EltSl w A12 l12 2 1)
    (h13 : EltSl w A13 l13 5 4) (h13p : EltPr w A13 l13 5 0) :
    Calls Tryz.prog 5 #[.agg #[v0, .slice A1 l1 c1, v2, v3, v4, v5, v6, v7, v8, v9, v10, .slice A11 l11 c11, .slice A12 l12 c12, .slice A13 l13 c13]] w
      fun e w' => IsBool e ∧ Below w.heap.size w w' := by
  unfold maxLen at hm1 hm11 hm12 hm13
  have hB : ∀ o, Below w.heap.size w (w.alloc o) := fun o => (Below.refl _ _).al o
  have hB2 : ∀ o o', Below w.heap.size w ((w.alloc o).alloc o') := fun o o' => (hB o).al o'
  have hB3 : ∀ o o' o'', Below w.heap.size w (((w.alloc o).alloc o').alloc o'') := fun o o' o'' => (hB2 o o').al o''
  go_enter Tryz.func5, Tryz.ntmps5
  go_wp2_with (first | (go_at_call_of 11 v3; refine (long_any (hc.mono (hB _))).mono ?_; rintro e w' ⟨⟨b1, rfl⟩, rfl⟩; cases b1) | (go_at_call_of 11 v5; refine (long_any (hs.mono (hB2 _ _))).mono ?_; rintro e w' ⟨⟨b1, rfl⟩, rfl⟩; cases b1))
  all_goals try (go_ret; first | exact ⟨⟨_, rfl⟩, hB3 _ _ _⟩ | exact ⟨⟨_, rfl⟩, hB2 _ _⟩)
  go_loop [3] (fun i => ∃ k : Nat, k ≤ l1 ∧ i = .int .i64 k) (fun i => l1 - (intOf i).toNat)
  case atStart => exact ⟨0, Nat.zero_le _, rfl⟩
  case round =>
    obtain ⟨k, hk, rfl⟩ := hrel
    by_cases hlt : k < l1
    · obtain ⟨b, off, B, L, C, rfl, hb, hL, hcell⟩ := h1 k hlt
      unfold maxLen at hL
      have hcell' : ∀ o o' o'', (((w.alloc o).alloc o').alloc o'').cell? ⟨b, off + k * 2 + 1, none⟩ = some (.slice B L C) := fun o o' o'' => ((hB3 o o' o'').cell hb).trans hcell
      clear h1 h12 h13 h13p hcell
      go_wp2
      · go_ret
        exact ⟨⟨_, rfl⟩, hB3 _ _ _⟩
      · go_round
        case rel => exact ⟨k + 1, by omega, by go_num⟩
        case measure => simp [intOf]; omega
    · clear h1
      go_wp2
      go_loop [4] (fun i => ∃ k : Nat, k ≤ l12 ∧ i = .int .i64 k) (fun i => l12 - (intOf i).toNat)
      case atStart => exact ⟨0, Nat.zero_le _, rfl⟩
      case round =>
        obtain ⟨k2, hk2, rfl⟩ := hrel
        by_cases hlt2 : k2 < l12
        · obtain ⟨b, off, B, L, C, rfl, hb, hL, hcell⟩ := h12 k2 hlt2
          unfold maxLen at hL
          have hcell' : ∀ o o' o'', (((w.alloc o).alloc o').alloc o'').cell? ⟨b, off + k2 * 2 + 1, none⟩ = some (.slice B L C) := fun o o' o'' => ((hB3 o o' o'').cell hb).trans hcell
          clear h12 h13 h13p hcell
          go_wp2
          · go_ret
            exact ⟨⟨_, rfl⟩, hB3 _ _ _⟩
          · go_round
            case rel => exact ⟨k2 + 1, by omega, by go_num⟩
            case measure => simp [intOf]; omega
        · clear h12
          go_wp2
          generalize hbox : Obj.cells #[v0, Value.slice A1 l1 c1, v2, v3, v4, v5, v6, v7, v8, v9, v10, Value.slice A11 l11 c11, Value.slice A12 l12 c12, Value.slice A13 l13 c13] 39 = box
          have hb13 : (w.alloc box).cell? ⟨w.heap.size, 13, none⟩ = some (.slice A13 l13 c13) := by rw [← hbox]; simp [go_sem]
          clear hbox
          have hR0 : ∀ o' o'', Below (w.heap.size + 1) (w.alloc box) (((w.alloc box).alloc o').alloc o'') := fun o' o'' => (((Below.refl _ _).alloc (by simp) o').alloc (by simp) o'')
          go_loopw [5] (fun i wr => (∃ k : Nat, k ≤ l13 ∧ i = .int .i64 k) ∧ Below (w.heap.size + 1) (w.alloc box) wr) (fun i wr => l13 - (intOf i).toNat)
          case atStart => exact ⟨⟨0, Nat.zero_le _, rfl⟩, hR0 _ _⟩
          case round =>
            obtain ⟨⟨k3, hk3, rfl⟩, hR⟩ := hrel
            have hw : Below w.heap.size w wr := (hB box).trans (hR.mono (Nat.le_succ _))
            have hc13 : wr.cell? ⟨w.heap.size, 13, none⟩ = some (.slice A13 l13 c13) := (hR.cell (Nat.lt_succ_self _)).trans hb13
            have hc13' : ∀ o, (wr.alloc o).cell? ⟨w.heap.size, 13, none⟩ = some (.slice A13 l13 c13) := fun o => ((hR.alloc (by have := hR.size; simp at this ⊢; omega) o).cell (Nat.lt_succ_self _)).trans hb13
            have hRa : ∀ o, Below (w.heap.size + 1) (w.alloc box) (wr.alloc o) := fun o => hR.alloc (by have := hR.size; simp at this ⊢; omega) o
            have hwa : ∀ o, Below w.heap.size w (wr.alloc o) := fun o => hw.al o
            clear hb13 hR0
            by_cases hlt3 : k3 < l13
            · obtain ⟨b, off, B, L, C, rfl, hb, hL, hcell⟩ := h13 k3 hlt3
              obtain ⟨b', off', p0, p1, e, hb', hp0, hp1, hpr⟩ := h13p k3 hlt3
              cases e
              unfold maxLen at hL
              have hcell' : ∀ o, (wr.alloc o).cell? ⟨b, off + k3 * 5 + 4, none⟩ = some (.slice B L C) := fun o => ((hwa o).cell hb).trans hcell
              have hp0' : wr.cell? ⟨b, off + k3 * 5, none⟩ = some p0 := (hw.cell hb).trans hp0
              have hp1' : wr.cell? ⟨b, off + k3 * 5 + 1, none⟩ = some p1 := (hw.cell hb).trans hp1
              have hpr' := hpr.mono hw
              clear h13 h13p hcell hp0 hp1 hpr
              go_wp2_with (go_at_call 11; refine (long_any hpr').mono ?_; rintro e w' ⟨⟨b1, rfl⟩, rfl⟩; cases b1)
              · go_ret
                exact ⟨⟨_, rfl⟩, hwa _⟩
              · go_roundw
                case rel => exact ⟨⟨k3 + 1, by omega, by go_num⟩, hRa _⟩
                case measure => simp [intOf]; omega
              · go_ret
                exact ⟨⟨_, rfl⟩, hwa _⟩
            · go_wp2
              go_ret
              exact ⟨⟨_, rfl⟩, hw⟩
end Go.Proofs.YtonlnkibohmalaaGreatDoor

