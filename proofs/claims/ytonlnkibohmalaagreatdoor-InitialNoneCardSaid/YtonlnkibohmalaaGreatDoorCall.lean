/- The same, out of what the row's reading of the arguments gives. -/
import Derived.Test.YtonlnkibohmalaaGreatDoorTop
import Derived.ProofKit
import Derived.OpenShut
import Derived.Deep.Slices
import Derived.Deep.DeepHandedRow
import Derived.Lib.LaidTab
set_option linter.unusedVariables false
set_option linter.unusedSimpArgs false
namespace Go.Proofs.YtonlnkibohmalaaGreatDoor
open Go.RowKit Go.Deep
section
variable {H : Type} {enc : TypeId × Value → H} {P : Program} {w : World}

/-- Cells that can be read at a type. -/
def Rd (enc : TypeId × Value → H) (P : Program) (w : World) (t : TypeId) (cs : List Value) : Prop := ∃ n x, DataW.trod enc P w 0 (fun _ => true) true n t cs = some x

theorem Rd.field {t : TypeId} {fs : Array Field} {cs : List Value} (ht : P.underlying t = some (.struct fs)) (h : Rd enc P w t cs) (i off ty n : Nat) (hf : (fs[i]?).map (fun f => (f.offset, f.type)) = some (off, ty)) (hn : P.cellsOf ty = n) : Rd enc P w ty ((cs.drop off).take n) := by
  obtain ⟨fu, x, h⟩ := h
  obtain ⟨xs, m, _, _, _, hl, hx⟩ := DataW.trod_struct ht h
  obtain ⟨f, hg, e⟩ := Option.map_eq_some_iff.1 hf
  cases e
  subst hn
  have hi : i < xs.length := by
    have := (Array.getElem?_eq_some_iff.1 hg).1
    omega
  exact ⟨m, xs[i], by rw [hx i f hg, List.getElem?_eq_getElem hi]⟩
theorem Rd.length {t : TypeId} {fs : Array Field} {cs : List Value} (ht : P.underlying t = some (.struct fs)) (h : Rd enc P w t cs) : cs.length = P.cellsOf t := by
  obtain ⟨n, x, h⟩ := h
  obtain ⟨xs, m, _, _, hl, _⟩ := DataW.trod_struct ht h
  exact hl
theorem Rd.int {t : TypeId} {k : IntKind} {cs : List Value} (ht : P.underlying t = some (.int k)) (h : Rd enc P w t cs) : ∃ n, cs = [.int k n] ∧ (Lit.int k n).wf = true := by
  obtain ⟨n, x, h⟩ := h
  obtain ⟨v, h1, _, h2⟩ := DataW.trod_int ht h
  exact ⟨v, h1, h2⟩
theorem Rd.string {t : TypeId} {cs : List Value} (ht : P.underlying t = some .string) (h : Rd enc P w t cs) : ∃ s : ByteArray, cs = [.string s] ∧ s.size ≤ maxLen := by
  obtain ⟨n, x, h⟩ := h
  obtain ⟨v, h1, _, h2⟩ := DataW.trod_string ht h
  exact ⟨v, h1, h2⟩
theorem Rd.slice {t e n : TypeId} {cs : List Value} (ht : P.underlying t = some (.slice e)) (hn : P.cellsOf e = n) (h0 : 0 < n) (h : Rd enc P w t cs) :
    ∃ A len cap, cs = [.slice A len cap] ∧ len ≤ maxLen ∧ ∀ k, k < len → ∃ b off cs', A = some ⟨b, off, none⟩ ∧ b < w.heap.size ∧ cs'.length = n ∧ (∀ j, j < n → w.cell? ⟨b, off + k * n + j, none⟩ = cs'[j]?) ∧ Rd enc P w e cs' := by
  subst hn
  obtain ⟨f, x, h⟩ := h
  rcases open_slice ht h with ⟨rfl, _⟩ | ⟨a, len, cap, m, n, D, Pl, rfl, hb, hl, hm, hmm, _, hx⟩
  · exact ⟨none, 0, 0, rfl, Nat.zero_le _, fun k hk => absurd hk (Nat.not_lt_zero k)⟩
  refine ⟨some a, len, cap, rfl, by omega, fun k hk => ?_⟩
  have hkm : k < m := by simp at hmm; omega
  obtain ⟨cz, z1, _⟩ := hx 0 (by omega)
  obtain ⟨_, zlen, zc⟩ := World.cells?_some z1
  have hz := zc 0 h0
  have hzs : cz[0]? = some (cz[0]'(by rw [zlen]; exact h0)) := List.getElem?_eq_getElem _
  rw [hzs] at hz
  have hsp := World.cell?_spot hz
  obtain ⟨b, off, sp⟩ := a
  have hsp : sp = none := by simpa [Addr.add] using hsp
  subst hsp
  have hadd : ∀ x y, ((⟨b, off, none⟩ : Addr).add x).add y = ⟨b, off + x + y, none⟩ := by
    intro x y
    unfold Addr.add
    by_cases hx : x = 0 <;> by_cases hy : y = 0 <;> simp [hx, hy]
  obtain ⟨cs', h1, h2⟩ := hx k hkm
  obtain ⟨_, hlen, hc⟩ := World.cells?_some h1
  refine ⟨b, off, cs', rfl, ?_, hlen, fun j hj => ?_, ⟨_, _, h2⟩⟩
  · unfold World.cell? at hz
    rw [hadd] at hz
    split at hz
    · rename_i hh; exact (Array.getElem?_eq_some_iff.1 hh).1
    · cases hz
  · have := hc j hj
    rw [hadd] at this
    exact this

theorem one_of_take {cs : List Value} {j : Nat} {v : Value} (h : (cs.drop j).take 1 = [v]) : cs[j]? = some v := by
  have : ((cs.drop j).take 1)[0]? = some v := by rw [h]; rfl
  rw [List.getElem?_take, if_pos (by decide), List.getElem?_drop] at this
  simpa using this
theorem two_of_take {cs : List Value} {j : Nat} {v v' : Value} (h : (cs.drop j).take 2 = [v, v']) : cs[j]? = some v ∧ cs[j+1]? = some v' := by
  have h0 : ((cs.drop j).take 2)[0]? = some v := by rw [h]; rfl
  have h1 : ((cs.drop j).take 2)[1]? = some v' := by rw [h]; rfl
  rw [List.getElem?_take, if_pos (by decide), List.getElem?_drop] at h0 h1
  exact ⟨by simpa using h0, h1⟩
end

section
variable {H : Type} {enc : TypeId × Value → H} {w : World}
theorem k1 (t : Nat) (h : Tryz.prog.cellsOf t = 1 := by kernel_rfl) : Tryz.prog.cellsOf t = 1 := h
theorem prin_of {cs : List Value} (h : Rd enc Tryz.prog w 34 cs) : ∃ p0 p1, cs = [p0, p1] ∧ PrinOk w p0 p1 := by
  have hl : cs.length = 2 := (h.length Tryz.underlying34).trans (by kernel_rfl)
  obtain ⟨A, len, cap, e0, hlen, hk⟩ := (h.field Tryz.underlying34 0 0 32 1 rfl (by kernel_rfl)).slice Tryz.underlying32 (show Tryz.prog.cellsOf 9 = 1 by kernel_rfl) (by decide)
  obtain ⟨s, e1, hs⟩ := (h.field Tryz.underlying34 1 1 9 1 rfl (by kernel_rfl)).string Tryz.underlying9
  match cs, hl with
  | [p0, p1], _ =>
    have a0 : p0 = .slice A len cap := by simpa using e0
    have a1 : p1 = .string s := by simpa using e1
    subst a0; subst a1
    refine ⟨_, _, rfl, ⟨s, rfl, hs⟩, A, len, cap, rfl, hlen, fun k hk' => ?_⟩
    obtain ⟨b, off, cs', eA, hb, hl', hc, hr⟩ := hk k hk'
    obtain ⟨sk, e, hsk⟩ := hr.string Tryz.underlying9
    subst e
    have := hc 0 (by decide)
    exact ⟨b, off, sk, eA, hb, hsk, by simpa using this⟩

/-- A slice of structs: the field at offset j is a slice of bytes. -/
theorem eltSl_of {te n j i : Nat} {fs : Array Field} (hte : Tryz.prog.underlying te = some (.struct fs)) (hf : (fs[i]?).map (fun f => (f.offset, f.type)) = some (j, 27)) {A : Option Addr} {l : Nat}
    (hk : ∀ k, k < l → ∃ b off cs', A = some ⟨b, off, none⟩ ∧ b < w.heap.size ∧ cs'.length = n ∧ (∀ j, j < n → w.cell? ⟨b, off + k * n + j, none⟩ = cs'[j]?) ∧ Rd enc Tryz.prog w te cs') (hjn : j < n) : EltSl w A l n j := by
  intro k hlt
  obtain ⟨b, off, cs', eA, hb, hl, hc, hr⟩ := hk k hlt
  have hfd := hr.field hte i j 27 1 hf (by kernel_rfl)
  obtain ⟨B, L, C, e, hL, _⟩ := hfd.slice Tryz.underlying27 (show Tryz.prog.cellsOf 5 = 1 by kernel_rfl) (by decide)
  exact ⟨b, off, B, L, C, eA, hb, hL, (hc j hjn).trans (one_of_take e)⟩
theorem eltPr_of {te n j i : Nat} {fs : Array Field} (hte : Tryz.prog.underlying te = some (.struct fs)) (hf : (fs[i]?).map (fun f => (f.offset, f.type)) = some (j, 34)) {A : Option Addr} {l : Nat}
    (hk : ∀ k, k < l → ∃ b off cs', A = some ⟨b, off, none⟩ ∧ b < w.heap.size ∧ cs'.length = n ∧ (∀ j, j < n → w.cell? ⟨b, off + k * n + j, none⟩ = cs'[j]?) ∧ Rd enc Tryz.prog w te cs') (hjn : j + 1 < n) : EltPr w A l n j := by
  intro k hlt
  obtain ⟨b, off, cs', eA, hb, hl, hc, hr⟩ := hk k hlt
  have hfd := hr.field hte i j 34 2 hf (by kernel_rfl)
  obtain ⟨p0, p1, e, hp⟩ := prin_of hfd
  obtain ⟨e0, e1⟩ := two_of_take e
  exact ⟨b, off, p0, p1, eA, hb, (hc j (by omega)).trans e0, by rw [show off + k * n + j + 1 = off + k * n + (j + 1) by omega]; exact (hc (j+1) hjn).trans e1, hp⟩
end
end Go.Proofs.YtonlnkibohmalaaGreatDoor

namespace Go.Proofs.YtonlnkibohmalaaGreatDoor
open Go.RowKit Go.Deep Go.Ev Go.ChangeShapes Go.WideShapes Go.ChangeAt
theorem i64_bounds {n : Int} (h : (Lit.int .i64 n).wf = true) : -9223372036854775808 ≤ n ∧ n ≤ 9223372036854775807 := by
  have e1 : IntKind.i64.min = -9223372036854775808 := by decide
  have e2 : IntKind.i64.max = 9223372036854775807 := by decide
  simp [Lit.wf, e1, e2] at h
  omega
theorem getOne {cs : List Value} {j : Nat} {v : Value} (h : (cs.drop j).take 1 = [v]) : cs[j]? = some v := one_of_take h
section
variable {H : Type} {enc : TypeId × Value → H}
theorem eltSl_of_in {w : World} {A : Option Addr} {l : Nat}
    (hk : ∀ k, k < l → ∃ b off cs', A = some ⟨b, off, none⟩ ∧ b < w.heap.size ∧ cs'.length = 5 ∧ (∀ j, j < 5 → w.cell? ⟨b, off + k * 5 + j, none⟩ = cs'[j]?) ∧ Rd enc Tryz.prog w 58 cs') : EltSl w A l 5 4 := by
  intro k hlt
  obtain ⟨b, off, cs', eA, hb, hl, hc, hr⟩ := hk k hlt
  have h2 := hr.field Tryz.underlying58 1 2 56 3 rfl (by kernel_rfl)
  obtain ⟨B, L, C, e, hL, _⟩ := (h2.field Tryz.underlying56 2 2 27 1 rfl (by kernel_rfl)).slice Tryz.underlying27 (show Tryz.prog.cellsOf 5 = 1 by kernel_rfl) (by decide)
  match cs', hl with
  | [y0, y1, y2, y3, y4], _ =>
    simp only [List.drop_succ_cons, List.drop_zero, List.take_succ_cons, List.take_zero, List.cons.injEq, and_true] at e
    exact ⟨b, off, B, L, C, eA, hb, hL, (hc 4 (by decide)).trans (by rw [e]; rfl)⟩
/-- THE WHOLE CALL, FROM WHAT CAN BE READ. -/
theorem call_any {W : World} (hW : ∀ r ∈ K35.glob 0 0, RowIn W r) (h12 : 12 ≤ W.heap.size) {ca cb : Array Value} (ha : Rd enc Tryz.prog W 29 ca.toList) (hb : Rd enc Tryz.prog W 43 cb.toList) :
    Calls Tryz.prog 3 #[.agg ca, .agg cb] W fun e w' => e = .returned (.bool true) ∧ Below W.heap.size W w' := by
  obtain ⟨la⟩ := ca
  obtain ⟨lb⟩ := cb
  have ha : Rd enc Tryz.prog W 29 la := ha
  have hb : Rd enc Tryz.prog W 43 lb := hb
  have na : la.length = 10 := (ha.length Tryz.underlying29).trans (by kernel_rfl)
  have nb : lb.length = 18 := (hb.length Tryz.underlying43).trans (by kernel_rfl)
  -- the configuration
  obtain ⟨s0, a0, z0⟩ := (ha.field Tryz.underlying29 0 0 9 1 rfl (by kernel_rfl)).string Tryz.underlying9
  obtain ⟨n1, a1, _⟩ := (ha.field Tryz.underlying29 1 1 3 1 rfl (by kernel_rfl)).int Tryz.underlying3
  obtain ⟨n2, a2, _⟩ := (ha.field Tryz.underlying29 2 2 3 1 rfl (by kernel_rfl)).int Tryz.underlying3
  obtain ⟨n3, a3, _⟩ := (ha.field Tryz.underlying29 3 3 3 1 rfl (by kernel_rfl)).int Tryz.underlying3
  obtain ⟨n4, a4, _⟩ := (ha.field Tryz.underlying29 4 4 23 1 rfl (by kernel_rfl)).int Tryz.underlying23
  obtain ⟨g, a5, wg⟩ := (ha.field Tryz.underlying29 5 5 3 1 rfl (by kernel_rfl)).int Tryz.underlying3
  obtain ⟨A6, l6, c6, a6, m6, e6⟩ := (ha.field Tryz.underlying29 6 6 24 1 rfl (by kernel_rfl)).slice Tryz.underlying24 (show Tryz.prog.cellsOf 83 = 4 by kernel_rfl) (by decide)
  obtain ⟨A7, l7, c7, a7, m7, e7⟩ := (ha.field Tryz.underlying29 7 7 25 1 rfl (by kernel_rfl)).slice Tryz.underlying25 (show Tryz.prog.cellsOf 85 = 3 by kernel_rfl) (by decide)
  obtain ⟨A8, l8, c8, a8, m8, e8⟩ := (ha.field Tryz.underlying29 8 8 26 1 rfl (by kernel_rfl)).slice Tryz.underlying26 (show Tryz.prog.cellsOf 87 = 11 by kernel_rfl) (by decide)
  obtain ⟨A9, l9, c9, a9, m9, _⟩ := (ha.field Tryz.underlying29 9 9 27 1 rfl (by kernel_rfl)).slice Tryz.underlying27 (show Tryz.prog.cellsOf 5 = 1 by kernel_rfl) (by decide)
  obtain ⟨g1, g2⟩ := i64_bounds wg
  -- the request
  have hr : Rd enc Tryz.prog W 39 (lb.take 14) := hb.field Tryz.underlying43 0 0 39 14 rfl (by kernel_rfl)
  have hf : Rd enc Tryz.prog W 41 ((lb.drop 14).take 2) := hb.field Tryz.underlying43 1 14 41 2 rfl (by kernel_rfl)
  obtain ⟨n16, b16, _⟩ := (hb.field Tryz.underlying43 2 16 3 1 rfl (by kernel_rfl)).int Tryz.underlying3
  obtain ⟨n17, b17, _⟩ := (hb.field Tryz.underlying43 3 17 3 1 rfl (by kernel_rfl)).int Tryz.underlying3
  obtain ⟨n14, b14, _⟩ := (hf.field Tryz.underlying41 0 0 3 1 rfl (by kernel_rfl)).int Tryz.underlying3
  obtain ⟨B15, m15, d15, b15, w15, _⟩ := (hf.field Tryz.underlying41 1 1 27 1 rfl (by kernel_rfl)).slice Tryz.underlying27 (show Tryz.prog.cellsOf 5 = 1 by kernel_rfl) (by decide)
  obtain ⟨n0, b0, _⟩ := (hr.field Tryz.underlying39 0 0 30 1 rfl (by kernel_rfl)).int Tryz.underlying30
  obtain ⟨B1, m1, d1, b1, w1, f1⟩ := (hr.field Tryz.underlying39 1 1 31 1 rfl (by kernel_rfl)).slice Tryz.underlying31 (show Tryz.prog.cellsOf 88 = 2 by kernel_rfl) (by decide)
  obtain ⟨o2, b2, _⟩ := (hr.field Tryz.underlying39 2 2 23 1 rfl (by kernel_rfl)).int Tryz.underlying23
  obtain ⟨x3, x4, b3, hp3⟩ := prin_of (hr.field Tryz.underlying39 3 3 34 2 rfl (by kernel_rfl))
  obtain ⟨x5, x6, b5, hp5⟩ := prin_of (hr.field Tryz.underlying39 4 5 34 2 rfl (by kernel_rfl))
  obtain ⟨o7, b7, _⟩ := (hr.field Tryz.underlying39 5 7 3 1 rfl (by kernel_rfl)).int Tryz.underlying3
  obtain ⟨o8, b8, _⟩ := (hr.field Tryz.underlying39 6 8 3 1 rfl (by kernel_rfl)).int Tryz.underlying3
  obtain ⟨o9, b9, _⟩ := (hr.field Tryz.underlying39 7 9 3 1 rfl (by kernel_rfl)).int Tryz.underlying3
  obtain ⟨o10, b10, _⟩ := (hr.field Tryz.underlying39 8 10 3 1 rfl (by kernel_rfl)).int Tryz.underlying3
  obtain ⟨B11, m11, d11, b11, w11, _⟩ := (hr.field Tryz.underlying39 9 11 35 1 rfl (by kernel_rfl)).slice Tryz.underlying35 (show Tryz.prog.cellsOf 3 = 1 by kernel_rfl) (by decide)
  obtain ⟨B12, m12, d12, b12, w12, f12⟩ := (hr.field Tryz.underlying39 10 12 36 1 rfl (by kernel_rfl)).slice Tryz.underlying36 (show Tryz.prog.cellsOf 41 = 2 by kernel_rfl) (by decide)
  obtain ⟨B13, m13, d13, b13, w13, f13⟩ := (hr.field Tryz.underlying39 11 13 37 1 rfl (by kernel_rfl)).slice Tryz.underlying37 (show Tryz.prog.cellsOf 58 = 5 by kernel_rfl) (by decide)
  have la_eq : la = [.string s0, .int .i64 n1, .int .i64 n2, .int .i64 n3, .int .u32 n4, .int .i64 g, .slice A6 l6 c6, .slice A7 l7 c7, .slice A8 l8 c8, .slice A9 l9 c9] := by
    match la, na with
    | [y0, y1, y2, y3, y4, y5, y6, y7, y8, y9], _ =>
      simp only [List.drop_succ_cons, List.drop_zero, List.take_succ_cons, List.take_zero, List.cons.injEq, and_true] at a0 a1 a2 a3 a4 a5 a6 a7 a8 a9
      rw [a0, a1, a2, a3, a4, a5, a6, a7, a8, a9]
  have lb_eq : lb = [.int .i64 n0, .slice B1 m1 d1, .int .u32 o2, x3, x4, x5, x6, .int .i64 o7, .int .i64 o8, .int .i64 o9, .int .i64 o10, .slice B11 m11 d11, .slice B12 m12 d12, .slice B13 m13 d13, .int .i64 n14, .slice B15 m15 d15, .int .i64 n16, .int .i64 n17] := by
    match lb, nb with
    | [y0, y1, y2, y3, y4, y5, y6, y7, y8, y9, y10, y11, y12, y13, y14, y15, y16, y17], _ =>
      simp only [List.drop_succ_cons, List.drop_zero, List.take_succ_cons, List.take_zero, List.cons.injEq, and_true] at b0 b1 b2 b3 b5 b7 b8 b9 b10 b11 b12 b13 b14 b15 b16 b17
      obtain ⟨b3, b4⟩ := b3
      obtain ⟨b5, b6⟩ := b5
      rw [b0, b1, b2, b3, b4, b5, b6, b7, b8, b9, b10, b11, b12, b13, b14, b15, b16, b17]
  subst la_eq; subst lb_eq
  exact top_any W hW h12 s0 _ _ _ _ g A6 A7 A8 A9 l6 c6 l7 c7 l8 c8 l9 c9 z0 m6 m7 m8 m9 g1 g2
    (eltPr_of Tryz.underlying83 (i := 0) rfl e6 (by decide)) (eltSl_of Tryz.underlying83 (i := 2) rfl e6 (by decide)) (eltPr_of Tryz.underlying85 (i := 0) rfl e7 (by decide))
    (eltPr_of Tryz.underlying87 (i := 1) rfl e8 (by decide)) (eltPr_of Tryz.underlying87 (i := 2) rfl e8 (by decide)) (eltSl_of Tryz.underlying87 (i := 7) rfl e8 (by decide)) (eltSl_of Tryz.underlying87 (i := 8) rfl e8 (by decide))
    _ _ _ _ _ _ _ _ _ _ _ _ _ B1 B11 B12 B13 B15 m1 d1 m11 d11 m12 d12 m13 d13 m15 d15 w1 w11 w12 w13 w15 hp3 hp5
    (eltSl_of Tryz.underlying88 (i := 1) rfl f1 (by decide)) (eltSl_of Tryz.underlying41 (i := 1) rfl f12 (by decide)) (eltSl_of_in f13) (eltPr_of Tryz.underlying58 (i := 0) rfl f13 (by decide))
    rfl rfl rfl rfl rfl rfl rfl rfl rfl rfl rfl rfl rfl
end
end Go.Proofs.YtonlnkibohmalaaGreatDoor

