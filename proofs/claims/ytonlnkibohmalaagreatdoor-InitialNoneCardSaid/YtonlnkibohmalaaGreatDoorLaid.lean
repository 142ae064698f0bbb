/- The variables that the program lays, by a walk of 'gosem.cut.vars': the tie without the kernel's run of the machine. Printed by gen_tie.py. -/
import Derived.Test.YtonlnkibohmalaaGreatDoorRows
import Derived.LaidOnce
import Derived.SevenTiedAt
import Derived.Great.CaseRows
import Derived.Great.LaidInts
import Derived.Great.ByCallsLater
import Derived.Lib.LaidU8
import Derived.WalkKit
set_option linter.unusedVariables false
set_option linter.unusedSimpArgs false
namespace Go.Proofs.YtonlnkibohmalaaGreatDoor.Own
open Go Go.Great Go.Lib

def z0 : List Int := [0, 1, 28, 2, 29, 14, 24, 3, 30, 22, 20, 15, 25, 17, 4, 8, 31, 27, 13, 23, 21, 19, 16, 7, 26, 12, 18, 6, 11, 5, 10, 9]
def z1 : List Int := [0, 1, 56, 2, 57, 49, 28, 3, 61, 58, 42, 50, 38, 29, 17, 4, 62, 47, 59, 36, 45, 43, 51, 22, 53, 39, 33, 30, 24, 18, 12, 5, 63, 55, 48, 27, 60, 41, 37, 16, 46, 35, 44, 21, 52, 32, 23, 11, 54, 26, 40, 15, 34, 20, 31, 10, 25, 14, 19, 9, 13, 8, 7, 6]
def z2 : List Int := [1, 10, 100, 1000, 10000, 100000, 1000000, 10000000, 100000000, 1000000000, 10000000000, 100000000000, 1000000000000, 10000000000000, 100000000000000, 1000000000000000, 10000000000000000, 100000000000000000, 1000000000000000000, 10000000000000000000]
def z5 : List Int := [1779033703, 3144134277, 1013904242, 2773480762, 1359893119, 2600822924, 528734635, 1541459225]
def z6 : List Int := [1116352408, 1899447441, 3049323471, 3921009573, 961987163, 1508970993, 2453635748, 2870763221, 3624381080, 310598401, 607225278, 1426881987, 1925078388, 2162078206, 2614888103, 3248222580, 3835390401, 4022224774, 264347078, 604807628, 770255983, 1249150122, 1555081692, 1996064986, 2554220882, 2821834349, 2952996808, 3210313671, 3336571891, 3584528711, 113926993, 338241895, 666307205, 773529912, 1294757372, 1396182291, 1695183700, 1986661051, 2177026350, 2456956037, 2730485921, 2820302411, 3259730800, 3345764771, 3516065817, 3600352804, 4094571909, 275423344, 430227734, 506948616, 659060556, 883997877, 958139571, 1322822218, 1537002063, 1747873779, 1955562222, 2024104815, 2227730452, 2361852424, 2428436474, 2756734187, 3204031479, 3329325298]
def z7 : List Int := [0, 1]
def accCells : Array Value := #[.int .u8 128, .int .u8 191, .int .u8 160, .int .u8 191, .int .u8 128, .int .u8 159, .int .u8 144, .int .u8 191, .int .u8 128, .int .u8 143, .int .u8 0, .int .u8 0, .int .u8 0, .int .u8 0, .int .u8 0, .int .u8 0, .int .u8 0, .int .u8 0, .int .u8 0, .int .u8 0, .int .u8 0, .int .u8 0, .int .u8 0, .int .u8 0, .int .u8 0, .int .u8 0, .int .u8 0, .int .u8 0, .int .u8 0, .int .u8 0, .int .u8 0, .int .u8 0]
def primeCells : Array Value := #[.string ⟨#[98, 51, 102]⟩, .string ⟨#[52, 52, 56, 53, 56, 102, 102]⟩, .string ⟨#[57, 49, 98, 56, 56, 55, 102, 102]⟩, .string ⟨#[102, 102, 102, 102, 102, 102, 102, 102, 102, 102, 102, 102, 102, 102, 102, 102, 99, 57, 48, 102, 100, 97, 97, 50, 50, 49, 54, 56, 99, 50, 51, 52, 99, 52, 99, 54, 54, 50, 56, 98, 56, 48, 100, 99, 49, 99, 100, 49, 50, 57, 48, 50, 52, 101, 48, 56, 56, 97, 54, 55, 99, 99, 55, 52, 48, 50, 48, 98, 98, 101, 97, 54, 51, 98, 49, 51, 57, 98, 50, 50, 53, 49, 52, 97, 48, 56, 55, 57, 56, 101, 51, 52, 48, 52, 100, 100, 101, 102, 57, 53, 49, 57, 98, 51, 99, 100, 51, 97, 52, 51, 49, 98, 51, 48, 50, 98, 48, 97, 54, 100, 102, 50, 53, 102, 49, 52, 51, 55, 52, 102, 101, 49, 51, 53, 54, 100, 54, 100, 53, 49, 99, 50, 52, 53, 101, 52, 56, 53, 98, 53, 55, 54, 54, 50, 53, 101, 55, 101, 99, 54, 102, 52, 52, 99, 52, 50, 101, 57, 97, 54, 51, 97, 51, 54, 50, 48, 102, 102, 102, 102, 102, 102, 102, 102, 102, 102, 102, 102, 102, 102, 102, 102]⟩]
def rowOf (w : World) (g : Nat) : Array Value := match w.heap[g]? with | some (.cells c _ _) => c | _ => #[]
def laid8 : List (String × DataW Unit) := [("unicode/utf8.acceptRanges", Rows.laid_unicode_utf8_acceptRanges), ("watchword/sha.start", Rows.laid_watchword_sha_start), ("watchword/sha.constants", Rows.laid_watchword_sha_constants), ("internal/strconv.uint64pow10", Rows.laid_internal_strconv_uint64pow10), ("math/bits.deBruijn32tab", Rows.laid_math_bits_deBruijn32tab), ("math/bits.deBruijn64tab", Rows.laid_math_bits_deBruijn64tab), ("watchword/group.primes", Rows.laid_watchword_group_primes), ("watchword/sign.scalars", Rows.laid_watchword_sign_scalars)]

def w8 (w : World) : World := (((((((w.setRow 8 (z0.map (Value.int .u8)).toArray).setRow 9 (z1.map (Value.int .u8)).toArray).setRow 6 (z2.map (Value.int .u64)).toArray).setRow 3 accCells).setRow 5 primeCells).setRow 0 (z5.map (Value.int .u32)).toArray).setRow 1 (z6.map (Value.int .u32)).toArray).setRow 7 (z7.map (Value.int .i64)).toArray
theorem hw : Tryz.prog.worded (varsWordLater true) = true := by kernel_rfl
theorem hw' : Tryz.prog.worded (varsWordLater !true) = false := by kernel_rfl
theorem hroot : Tryz.prog.worded rootWordLater = true := by kernel_rfl
theorem hk : laid8.map (fun x => Tryz.prog.kindOfLater x.1) = [LaidKind.data, .data, .data, .data, .data, .data, .data, .data].map some := by kernel_rfl
theorem hg : (Tryz.prog.funcNamed "gosem.cut.vars").isSome = true := by kernel_rfl
theorem hn : varsNamedLaterB Tryz.prog (varsId Tryz.prog) laid8 = true := by kernel_rfl
theorem hi : Tryz.prog.inits.idxOf? (varsId Tryz.prog) = none := by kernel_rfl
theorem he : varsId Tryz.prog = 688 := by kernel_rfl
theorem hplain : (laid8.all fun x => x.2.handleName?.isNone) = true := by kernel_rfl
theorem read1 (os : Os) (tape : Tape) : (DataW.laidRun Tryz.prog (w8 (varsStart Tryz.prog os tape)) 400 (laid8.map (·.1))).map (·.1) = some laid8 := by kernel_rfl
theorem read2 (os : Os) (tape : Tape) : (DataW.laidRun Tryz.prog (w8 (varsStart Tryz.prog os tape)) 400 (laid8.map (·.1))).map (fun x => nodupB (x.2.map MemPlace.codeOf)) = some true := by kernel_rfl
theorem read3 (os : Os) (tape : Tape) : (DataW.laidRun Tryz.prog (w8 (varsStart Tryz.prog os tape)) 400 (laid8.map (·.1))).map (fun x => laidRowsB Tryz.prog (w8 (varsStart Tryz.prog os tape)) x.2) = some true := by kernel_rfl
theorem read4 (os : Os) (tape : Tape) : (DataW.laidRun Tryz.prog (w8 (varsStart Tryz.prog os tape)) 400 (laid8.map (·.1))).map (fun x => x.2.all fun p => [0, 1, 3, 5, 6, 7, 8, 9].contains p.block) = some true := by kernel_rfl
theorem reads (os : Os) (tape : Tape) : laidMetH Tryz.prog laid8 (w8 (varsStart Tryz.prog os tape)).memory := by
  rw [MakeChecks.laidMetH_plain _ _ _ hplain]
  exact laidMet_memory (LaidIn.met (B := [0, 1, 3, 5, 6, 7, 8, 9]) (LaidIn.of_run _ 400 (read1 os tape) (read2 os tape) (read3 os tape) (read4 os tape)))

attribute [local irreducible] wpList Code.wp varsStart rowOf accCells primeCells z0 z1 z2 z5 z6 z7

set_option maxRecDepth 1000000 in
set_option maxHeartbeats 4000000 in
theorem walk (os : Os) (tape : Tape) : Calls Tryz.prog (varsId Tryz.prog) #[] (varsStart Tryz.prog os tape) fun e w' => (∃ v, e = .returned v) ∧ laidMetH Tryz.prog laid8 w'.memory := by
    rw [he]
    refine calls_of_wp Tryz.func688 rfl ?_
    refine wp_anyFrame 13 (by as_aux_lemma => kernel_rfl) rfl fun a0 hs0 hd0 => ?_
    apply wp_seq_k; intro K0 hK0
    apply wp_region_lit
    refine wpList_buildFlatArrTo rfl 76 5 32 _ rfl .u8 z0 (some 0) rfl (by as_aux_lemma => kernel_rfl) (by as_aux_lemma => kernel_rfl) (by as_aux_lemma => kernel_rfl) (by as_aux_lemma => kernel_rfl) ?_
    refine wpList_store_rowTo rfl 76 _ _ rfl rfl 8 (z0.map (Value.int .u8)).toArray rfl (Act.eval_put_same _ 0 _ (by simp only [Act.size_put, hs0]; omega)) 76 (rowOf (varsStart Tryz.prog os tape) 8) (by as_aux_lemma => kernel_rfl) (by as_aux_lemma => kernel_rfl) (by as_aux_lemma => kernel_rfl) (by as_aux_lemma => kernel_rfl) ?_
    apply wpList_nil
    refine hK0 _ _ ?_
    refine wp_anyFrame 13 (by simp only [Act.size_put, hs0]) (by simp only [Act.defers_put', hd0]) fun a1 hs1 hd1 => ?_
    clear hK0 K0
    apply wp_seq_k; intro K1 hK1
    apply wp_region_lit
    refine wpList_buildFlatArrTo rfl 169 5 64 _ rfl .u8 z1 (some 1) rfl (by as_aux_lemma => kernel_rfl) (by as_aux_lemma => kernel_rfl) (by as_aux_lemma => kernel_rfl) (by as_aux_lemma => kernel_rfl) ?_
    refine wpList_store_rowTo rfl 169 _ _ rfl rfl 9 (z1.map (Value.int .u8)).toArray rfl (Act.eval_put_same _ 1 _ (by simp only [Act.size_put, hs1]; omega)) 169 (rowOf (varsStart Tryz.prog os tape) 9) (by as_aux_lemma => kernel_rfl) (by as_aux_lemma => kernel_rfl) (by as_aux_lemma => kernel_rfl) (by as_aux_lemma => kernel_rfl) ?_
    apply wpList_nil
    refine hK1 _ _ ?_
    refine wp_anyFrame 13 (by simp only [Act.size_put, hs1]) (by simp only [Act.defers_put', hd1]) fun a2 hs2 hd2 => ?_
    clear hK1 K1
    apply wp_seq_k; intro K2 hK2
    apply wp_region_lit
    refine wpList_buildFlatArrTo rfl 600 341 20 _ rfl .u64 z2 (some 2) rfl (by as_aux_lemma => kernel_rfl) (by as_aux_lemma => kernel_rfl) (by as_aux_lemma => kernel_rfl) (by as_aux_lemma => kernel_rfl) ?_
    refine wpList_store_rowTo rfl 600 _ _ rfl rfl 6 (z2.map (Value.int .u64)).toArray rfl (Act.eval_put_same _ 2 _ (by simp only [Act.size_put, hs2]; omega)) 600 (rowOf (varsStart Tryz.prog os tape) 6) (by as_aux_lemma => kernel_rfl) (by as_aux_lemma => kernel_rfl) (by as_aux_lemma => kernel_rfl) (by as_aux_lemma => kernel_rfl) ?_
    apply wpList_nil
    refine hK2 _ _ ?_
    refine wp_anyFrame 13 (by simp only [Act.size_put, hs2]) (by simp only [Act.defers_put', hd2]) fun a3 hs3 hd3 => ?_
    clear hK2 K2
    apply wp_seq_k; intro K3 hK3
    apply wp_region_lit
    refine wpList_buildTo rfl 440 _ rfl (some 3) rfl #[.int .u8 128, .int .u8 191] (by as_aux_lemma => kernel_rfl) ?_
    refine wpList_buildTo rfl 440 _ rfl (some 4) rfl #[.int .u8 160, .int .u8 191] (by as_aux_lemma => kernel_rfl) ?_
    refine wpList_buildTo rfl 440 _ rfl (some 5) rfl #[.int .u8 128, .int .u8 159] (by as_aux_lemma => kernel_rfl) ?_
    refine wpList_buildTo rfl 440 _ rfl (some 6) rfl #[.int .u8 144, .int .u8 191] (by as_aux_lemma => kernel_rfl) ?_
    refine wpList_buildTo rfl 440 _ rfl (some 7) rfl #[.int .u8 128, .int .u8 143] (by as_aux_lemma => kernel_rfl) ?_
    refine wpList_buildTo rfl 441 _ rfl (some 8) rfl accCells ?_ ?_
    · simp only [List.map_toArray, List.map_cons, List.map_nil]
      rw [Act.eval_put_ne _ _ _ _ (by decide), Act.eval_put_ne _ _ _ _ (by decide), Act.eval_put_ne _ _ _ _ (by decide), Act.eval_put_ne _ _ _ _ (by decide), Act.eval_put_same _ 3 _ (by simp only [Act.size_put, hs3]; omega), Act.eval_put_ne _ _ _ _ (by decide), Act.eval_put_ne _ _ _ _ (by decide), Act.eval_put_ne _ _ _ _ (by decide), Act.eval_put_same _ 4 _ (by simp only [Act.size_put, hs3]; omega), Act.eval_put_ne _ _ _ _ (by decide), Act.eval_put_ne _ _ _ _ (by decide), Act.eval_put_same _ 5 _ (by simp only [Act.size_put, hs3]; omega), Act.eval_put_ne _ _ _ _ (by decide), Act.eval_put_same _ 6 _ (by simp only [Act.size_put, hs3]; omega), Act.eval_put_same _ 7 _ (by simp only [Act.size_put, hs3]; omega)]
      as_aux_lemma => kernel_rfl
    refine wpList_store_rowTo rfl 441 _ _ rfl rfl 3 accCells rfl (Act.eval_put_same _ 8 _ (by simp only [Act.size_put, hs3]; omega)) 441 (rowOf (varsStart Tryz.prog os tape) 3) (by as_aux_lemma => kernel_rfl) (by as_aux_lemma => kernel_rfl) (by as_aux_lemma => kernel_rfl) (by as_aux_lemma => kernel_rfl) ?_
    apply wpList_nil
    refine hK3 _ _ ?_
    refine wp_anyFrame 13 (by simp only [Act.size_put, hs3]) (by simp only [Act.defers_put', hd3]) fun a4 hs4 hd4 => ?_
    clear hK3 K3
    apply wp_seq_k; intro K4 hK4
    apply wp_region_lit
    refine wpList_buildTo rfl 454 _ rfl (some 9) rfl primeCells (by as_aux_lemma => kernel_rfl) ?_
    refine wpList_store_rowTo rfl 454 _ _ rfl rfl 5 primeCells rfl (Act.eval_put_same _ 9 _ (by simp only [Act.size_put, hs4]; omega)) 454 (rowOf (varsStart Tryz.prog os tape) 5) (by as_aux_lemma => kernel_rfl) (by as_aux_lemma => kernel_rfl) (by as_aux_lemma => kernel_rfl) (by as_aux_lemma => kernel_rfl) ?_
    apply wpList_nil
    refine hK4 _ _ ?_
    refine wp_anyFrame 13 (by simp only [Act.size_put, hs4]) (by simp only [Act.defers_put', hd4]) fun a5 hs5 hd5 => ?_
    clear hK4 K4
    apply wp_seq_k; intro K5 hK5
    apply wp_region_lit
    refine wpList_buildFlatArrTo rfl 175 22 8 _ rfl .u32 z5 (some 10) rfl (by as_aux_lemma => kernel_rfl) (by as_aux_lemma => kernel_rfl) (by as_aux_lemma => kernel_rfl) (by as_aux_lemma => kernel_rfl) ?_
    refine wpList_store_rowTo rfl 175 _ _ rfl rfl 0 (z5.map (Value.int .u32)).toArray rfl (Act.eval_put_same _ 10 _ (by simp only [Act.size_put, hs5]; omega)) 175 (rowOf (varsStart Tryz.prog os tape) 0) (by as_aux_lemma => kernel_rfl) (by as_aux_lemma => kernel_rfl) (by as_aux_lemma => kernel_rfl) (by as_aux_lemma => kernel_rfl) ?_
    apply wpList_nil
    refine hK5 _ _ ?_
    refine wp_anyFrame 13 (by simp only [Act.size_put, hs5]) (by simp only [Act.defers_put', hd5]) fun a6 hs6 hd6 => ?_
    clear hK5 K5
    apply wp_seq_k; intro K6 hK6
    apply wp_region_lit
    refine wpList_buildFlatArrTo rfl 343 22 64 _ rfl .u32 z6 (some 11) rfl (by as_aux_lemma => kernel_rfl) (by as_aux_lemma => kernel_rfl) (by as_aux_lemma => kernel_rfl) (by as_aux_lemma => kernel_rfl) ?_
    refine wpList_store_rowTo rfl 343 _ _ rfl rfl 1 (z6.map (Value.int .u32)).toArray rfl (Act.eval_put_same _ 11 _ (by simp only [Act.size_put, hs6]; omega)) 343 (rowOf (varsStart Tryz.prog os tape) 1) (by as_aux_lemma => kernel_rfl) (by as_aux_lemma => kernel_rfl) (by as_aux_lemma => kernel_rfl) (by as_aux_lemma => kernel_rfl) ?_
    apply wpList_nil
    refine hK6 _ _ ?_
    refine wp_anyFrame 13 (by simp only [Act.size_put, hs6]) (by simp only [Act.defers_put', hd6]) fun a7 hs7 hd7 => ?_
    clear hK6 K6
    apply wp_region_lit
    refine wpList_buildFlatArrTo rfl 668 3 2 _ rfl .i64 z7 (some 12) rfl (by as_aux_lemma => kernel_rfl) (by as_aux_lemma => kernel_rfl) (by as_aux_lemma => kernel_rfl) (by as_aux_lemma => kernel_rfl) ?_
    refine wpList_store_rowTo rfl 668 _ _ rfl rfl 7 (z7.map (Value.int .i64)).toArray rfl (Act.eval_put_same _ 12 _ (by simp only [Act.size_put, hs7]; omega)) 668 (rowOf (varsStart Tryz.prog os tape) 7) (by as_aux_lemma => kernel_rfl) (by as_aux_lemma => kernel_rfl) (by as_aux_lemma => kernel_rfl) (by as_aux_lemma => kernel_rfl) ?_
    apply wpList_nil
    refine bodyPost_end0 rfl (by simp only [Act.defers_put', hd7]) ?_
    exact ⟨⟨_, rfl⟩, reads os tape⟩

theorem tie : Tryz.prog.laidByTextLater laid8 [.data, .data, .data, .data, .data, .data, .data, .data] true :=
  Program.laidByTextLater_by_calls hw hw' hroot hk hg hn hi walk
end Go.Proofs.YtonlnkibohmalaaGreatDoor.Own
