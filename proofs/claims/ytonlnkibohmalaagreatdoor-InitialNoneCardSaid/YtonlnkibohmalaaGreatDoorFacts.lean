/- The row's closed facts (what the program forces of the row's cells), one by one, so that the kernel's memory stays small. Printed by gen_facts.py. -/
import Derived.Test.YtonlnkibohmalaaGreatDoorReach
set_option linter.unusedVariables false
set_option linter.unusedSimpArgs false
namespace Go.Proofs.YtonlnkibohmalaaGreatDoor
open Go
theorem allRange {f : Nat → Bool} {n : Nat} (h : ∀ i < n, f i = true) : (List.range n).all f = true := List.all_eq_true.2 fun i hi => h i (List.mem_range.1 hi)
theorem part {f : Nat → Bool} {a k i : Nat} (h : (List.range' a k).all f = true) (h1 : a ≤ i) (h2 : i < a + k) : f i = true := List.all_eq_true.1 h i (List.mem_range'_1.2 ⟨h1, h2⟩)
theorem lo_size : Tryz.prog.types.size ≤ 800 := of_decide_eq_true (by kernel_rfl)
theorem lo0 : (List.range' 0 200).all (rowFine Tryz.prog) = true := by kernel_rfl
theorem lo1 : (List.range' 200 200).all (rowFine Tryz.prog) = true := by kernel_rfl
theorem lo2 : (List.range' 400 200).all (rowFine Tryz.prog) = true := by kernel_rfl
theorem lo3 : (List.range' 600 200).all (rowFine Tryz.prog) = true := by kernel_rfl
theorem lo4 : Tryz.prog.globals.all (fun g => decide (g.type < Tryz.prog.types.size)) = true := by kernel_rfl
theorem lo5 : Tryz.prog.funcs.all (fun f => f.params.all fun t => decide (t < Tryz.prog.types.size)) = true := by kernel_rfl
theorem lo6 : (List.range Tryz.prog.types.size).all (rowFine Tryz.prog) = true := by
  refine allRange fun i hi => ?_
  have := lo_size
  by_cases h1 : i < 200
  · exact part lo0 (by omega) (by omega)
  by_cases h2 : i < 400
  · exact part lo1 (by omega) (by omega)
  by_cases h3 : i < 600
  · exact part lo2 (by omega) (by omega)
  exact part lo3 (by omega) (by omega)
theorem laidOut : laidOutB Tryz.prog = true := by
  unfold laidOutB
  rw [lo4, lo5, lo6]
  rfl
theorem j0 : Rows.initialNoneRow.wf (OpenSpec.ofChange (OpenSpec.ofChange Rows.initialNoneSpec).bare) = true := by kernel_rfl
theorem j2 : mapsRowed Tryz.prog = true := by kernel_rfl
theorem j3 : Tryz.f3.params.all (Tryz.prog.readableRec ·) = true := by kernel_rfl
theorem j4 : namedTie Tryz.prog Rows.initialNoneRow.named (OpenSpec.ofChange Rows.initialNoneSpec).bare.vars = true := by kernel_rfl
theorem j5 : (Rows.initialNoneRow.stops == []) = true := by kernel_rfl
theorem j6 : (Tryz.prog.stops == []) = true := by kernel_rfl
theorem j7 : (Rows.initialNoneRow.knobs == []) = true := by kernel_rfl
theorem j8 : (Tryz.prog.stopKnobs == []) = true := by kernel_rfl
theorem j10 : (Rows.initialNoneRow.unfollowed == Tryz.prog.unfollowed 3) = true := by
  rw [unfollowed3]
  rfl
theorem j11 : (Rows.initialNoneRow.recurses == Tryz.prog.recurses 3) = true := by
  rw [recurses3]
  rfl
theorem j13 : (Rows.initialNoneRow.maps == (Tryz.f3.params.toList ++ (OpenSpec.ofChange Rows.initialNoneSpec).bare.plain.varTypes Tryz.prog).any (Tryz.prog.mapsRec ·)) = true := by kernel_rfl
theorem j14 : (Rows.initialNoneRow.ifaces == (Tryz.f3.params.toList ++ (OpenSpec.ofChange Rows.initialNoneSpec).bare.plain.varTypes Tryz.prog).any (Tryz.prog.ifacesRec ·)) = true := by kernel_rfl
theorem j15 : (Rows.initialNoneRow.mapsOut == Tryz.prog.mapsAmong Tryz.f3.resultTypes.toList) = true := by kernel_rfl
theorem j16 : (Rows.initialNoneRow.loops == (Tryz.f3.params.toList ++ (OpenSpec.ofChange Rows.initialNoneSpec).bare.plain.varTypes Tryz.prog).any (Tryz.prog.loopsFrom ·)) = true := by kernel_rfl
theorem j17 : (Rows.initialNoneRow.wideKeys == (Tryz.f3.params.toList ++ (OpenSpec.ofChange Rows.initialNoneSpec).bare.plain.varTypes Tryz.prog ++ Tryz.f3.resultTypes.toList).any (Tryz.prog.wideKeysFrom ·)) = true := by kernel_rfl
theorem j18 : (OpenSpec.ofChange Rows.initialNoneSpec).bare.vars.all (Tryz.prog.varReadable ·) = true := by kernel_rfl
theorem j19 : Tryz.f3.resultTypes.all (fun t => Tryz.prog.readableRec t && decide (t < Tryz.prog.types.size)) = true := by kernel_rfl
theorem j20 : (Rows.initialNoneRow.ifacesOut == Tryz.f3.resultTypes.toList.any (Tryz.prog.ifacesRec ·)) = true := by kernel_rfl
theorem j21 : (Rows.initialNoneRow.loopsOut == Tryz.f3.resultTypes.toList.any (Tryz.prog.loopsFrom ·)) = true := by kernel_rfl
theorem j22 : (Rows.initialNoneRow.plainKeys == Tryz.prog.plainKeys) = true := by kernel_rfl
theorem j23 : Rows.initialNoneRow.shortTexts.isNone = true := by kernel_rfl
theorem j24 : Tryz.prog.stopsHeard = true := by kernel_rfl
theorem j25 : Tryz.prog.mayEnter = true := by kernel_rfl
theorem j26 : (Rows.initialNoneRow.lifted == Tryz.prog.liftsFinal) = true := by kernel_rfl
theorem j27 : (Tryz.prog.make == some Rows.initialNoneRow.make) = true := by kernel_rfl
theorem j29 : (Rows.initialNoneRow.pinned == Rows.initialNoneRow.pinnedBy) = true := by kernel_rfl
theorem j30 : (Rows.initialNoneRow.veiled == (Tryz.f3.params.toList ++ (OpenSpec.ofChange Rows.initialNoneSpec).bare.plain.varTypes Tryz.prog ++ Tryz.f3.resultTypes.toList).any (Tryz.prog.veiledRec ·)) = true := by kernel_rfl
theorem j31 : Rows.initialNoneRow.veiledFits Tryz.prog Tryz.f3.params.toList (Tryz.f3.params.toList ++ (OpenSpec.ofChange Rows.initialNoneSpec).bare.plain.varTypes Tryz.prog ++ Tryz.f3.resultTypes.toList) = true := by kernel_rfl
theorem and2 {a b : Bool} (h : a = true) (k : b = true) : (a && b) = true := by rw [h, k]; rfl
theorem joined : joinedFacts Tryz.prog 3 Tryz.f3 (OpenSpec.ofChange Rows.initialNoneSpec).bare Rows.initialNoneRow = true := by
  unfold joinedFacts
  exact (and2 (and2 (and2 (and2 (and2 (and2 (and2 (and2 (and2 (and2 (and2 (and2 (and2 (and2 (and2 (and2 (and2 (and2 (and2 (and2 (and2 (and2 (and2 (and2 (and2 (and2 (and2 (and2 (and2 (and2 (and2 j0 laidOut) j2) j3) j4) j5) j6) j7) j8) inPlace3) j10) j11) named3) j13) j14) j15) j16) j17) j18) j19) j20) j21) j22) j23) j24) j25) j26) j27) (by kernel_rfl)) j29) j30) j31)
end Go.Proofs.YtonlnkibohmalaaGreatDoor
