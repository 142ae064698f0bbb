/- InitialNone answers true at every input and each argument reads behind the call as it did: its tied card; the listed variables hold what the program's text lays. -/
import Derived.Test.YtonlnkibohmalaaGreatDoorCards
import Derived.Test.YtonlnkibohmalaaGreatDoorLaid
import Derived.Test.YtonlnkibohmalaaGreatDoorFacts
import Derived.Test.YtonlnkibohmalaaGreatDoorCall
import Derived.WalkKit
import Derived.ProofKit
import Derived.OpenShut
import Derived.MakeChecks
import Derived.Stop.LaidErr
import Derived.Deep.DeepHandedRow
import Derived.Lib.LaidTab
set_option linter.unusedVariables false
set_option linter.unusedSimpArgs false
namespace Go.Proofs.YtonlnkibohmalaaGreatDoor
open Go.ChangeShapes Go.WideShapes Go.ChangeAt Go.RowKit Go.Ev

theorem own : ownKnob Tryz.prog.godebug = none := by kernel_rfl

/-! ### the listed variables -/
theorem tabRow {W : World} {name : String} {g e n : Nat} {zs : List Int} {lit : T AV} (hg : Tryz.prog.globalNamed name = some g) (h : Lib.TabIs Tryz.prog W name .u32 zs) (hn : zs.length = n)
    (hc : allR (fun i => avEq (cellOf lit [] i) (.int .u32 (zs.getD i 0))) (List.range n) = true) : RowIn W ⟨g, e, n, lit⟩ := by
  unfold Lib.TabIs World.var? at h
  rw [hg] at h
  simp only [Option.bind_some] at h
  split at h
  · rename_i cs t fr hh
    cases h
    refine ⟨_, t, fr, hh, by simp [hn], fun i hi => ?_⟩
    have hi' : i < zs.length := by rw [hn]; exact hi
    refine ⟨.int .u32 zs[i], by simp [hi'], fun σ m => ?_⟩
    have := avEq_ok _ _ (allR_iff.1 hc i (List.mem_range.2 hi))
    show VRel σ m (cellOf lit [] i) _
    rw [this]
    have e2 : zs.getD i 0 = zs[i] := by simp [List.getD, hi']
    rw [e2]
    exact .int _ _
  · cases h
theorem gStart : Tryz.prog.globalNamed "watchword/sha.start" = some 0 := by kernel_rfl
theorem gConst : Tryz.prog.globalNamed "watchword/sha.constants" = some 1 := by kernel_rfl
theorem rows_of_laid {W : World} (h : laidMetH Tryz.prog Rows.initialNoneRow.laid W) : ∀ r ∈ K35.glob 0 0, RowIn W r := by
  rw [MakeChecks.laidMetH_plain _ _ _ (by kernel_rfl)] at h
  have h2 := (laidMet.tail (laidMet.tail h))
  have h3 := laidMet.tail h2
  have t0 := Lib.tabIs_of_head (k := .u32) (zs := [1779033703, 3144134277, 1013904242, 2773480762, 1359893119, 2600822924, 528734635, 1541459225]) (n := 8) gStart (by kernel_rfl) Tryz.underlying175 Tryz.underlying22 (by kernel_rfl) (by kernel_rfl) h2
  have t1 := Lib.tabIs_of_head (k := .u32) (zs := [1116352408, 1899447441, 3049323471, 3921009573, 961987163, 1508970993, 2453635748, 2870763221, 3624381080, 310598401, 607225278, 1426881987, 1925078388, 2162078206, 2614888103, 3248222580, 3835390401, 4022224774, 264347078, 604807628, 770255983, 1249150122, 1555081692, 1996064986, 2554220882, 2821834349, 2952996808, 3210313671, 3336571891, 3584528711, 113926993, 338241895, 666307205, 773529912, 1294757372, 1396182291, 1695183700, 1986661051, 2177026350, 2456956037, 2730485921, 2820302411, 3259730800, 3345764771, 3516065817, 3600352804, 4094571909, 275423344, 430227734, 506948616, 659060556, 883997877, 958139571, 1322822218, 1537002063, 1747873779, 1955562222, 2024104815, 2227730452, 2361852424, 2428436474, 2756734187, 3204031479, 3329325298]) (n := 64) gConst (by kernel_rfl) Tryz.underlying343 Tryz.underlying22 (by kernel_rfl) (by kernel_rfl) h3
  intro r hr
  simp only [K35.glob, List.mem_cons, List.not_mem_nil, or_false] at hr
  rcases hr with rfl | rfl
  · exact tabRow gStart t0 rfl (by kernel_rfl)
  · exact tabRow gConst t1 rfl (by kernel_rfl)

theorem size12 {W : World} (h : W.ShapedOpen Tryz.prog) : 12 ≤ W.heap.size := by
  obtain ⟨o, o0, h1, _⟩ := h.2 12 (of_decide_eq_true (by kernel_rfl)) (of_decide_eq_true (by kernel_rfl))
  have := (Array.getElem?_eq_some_iff.1 h1).1
  omega

/-! ### the post-condition, where the world has grown -/
theorem post_of_below {H : Type} {enc : TypeId × Value → H} {P : Program} {f : Func} {s : ChangeSpec} {apart fresh handsOn again : Bool} {W W' : World} {args : Array Value} {v : Value} {ds gs : List (DataW H)} {before pa pv : List MemPlace}
    (hW : DataW.Whole enc P f.params.toList s.vars apart W args.toList ds gs before)
    (hres : ∀ (b : Nat) (sp : Nat → Bool) (hd : Bool), DataW.TrodAll enc P W' b sp hd f.resultTypes.toList (v.resultList f.resultTypes.size) (s.fn H (ds ++ gs)).results [])
    (hargs : ∀ sp : Nat → Bool, (∀ p ∈ before, sp p.block = true) → DataW.TrodAll enc P W' 0 sp true f.params.toList args.toList (s.fn H (ds ++ gs)).args pa)
    (hvars : ∀ sp : Nat → Bool, (∀ p ∈ before, sp p.block = true) → DataW.TrodVars enc P W' sp s.vars (s.fn H (ds ++ gs)).vars pv)
    (hps : before = pa ++ pv) (hb : Below W.heap.size W W')
    (hok : ∀ (j : Nat) (t : TypeId) (r : Value), f.resultTypes[j]? = some t → (v.resultList f.resultTypes.size)[j]? = some r → Value.okWide P W' .any 0 t r) :
    s.post enc P f apart fresh handsOn again W args v W' := by
  have hlt : ∀ p ∈ before, p.block < W.heap.size := fun p hp => by simpa using hW.lt p hp
  have hold : ∀ p ∈ before, (fun b => decide (b < W.heap.size)) p.block = true := fun p hp => by simpa using hlt p hp
  refine ⟨ds, gs, before, [], pa, pv, hW, hres _ _ _, hargs _ hold, hvars _ hold, World.keptBut_mono (fun p hp => ⟨hp, ?_⟩) (hb.frame (· ∈ before)), fun _ => ?_⟩
  · rw [hps, List.mem_append] at hp
    exact Or.inr hp
  · obtain ⟨_, _, _, _, _, hz, hn⟩ := hW
    refine ⟨hok, _, _, ([] ++ pa) ++ pv, ⟨[] ++ pa, pv, trodAll_append (hargs _ (fun _ _ => rfl)) (hres _ _ _), hvars _ (fun _ _ => rfl), rfl, ?_, ?_⟩, ?_⟩
    · intro b off hp
      have hp' : MemPlace.cell b off ∈ before := by rw [hps]; simpa using hp
      rw [hb.frozen (p := ⟨b, off, none⟩) (hlt _ hp')]
      exact hz b off hp'
    · intro ha
      have := hn ha
      rw [hps] at this
      simpa using this
    · intro p hp _
      rw [hps]
      simpa using hp

/-! ### the row -/
section
attribute [local irreducible] Value.okWide
theorem contract (H : Type) (enc : TypeId × Value → H) (W : World) (base : Nat) (args : Array Value) (ds gs : List (DataW H)) (before : List MemPlace)
    (hval : ∀ (j : Nat) t v, Tryz.f3.params[j]? = some t → args[j]? = some v → Value.okWide Tryz.prog W .any base t v)
    (hW : DataW.Whole enc Tryz.prog Tryz.f3.params.toList Rows.initialNoneSpec.vars false W args.toList ds gs before) (hL : laidMetH Tryz.prog Rows.initialNoneRow.laid W) (hsh : W.ShapedOpen Tryz.prog) :
    Calls Tryz.prog 3 args W fun e W' => ∃ v, e = .returned v ∧ Rows.initialNoneSpec.post enc Tryz.prog Tryz.f3 false true false false W args v W' := by
  have hW' := hW
  obtain ⟨p, q, hA0, hV, rfl, hfz, hnd⟩ := hW
  have hA : DataW.TrodAll enc Tryz.prog W 0 (fun _ => true) true Tryz.f3.params.toList args.toList ds p := hA0
  rw [Tryz.params3] at hA hval
  obtain ⟨v0, v1, d0, d1, p0, p1, rfl, rfl, rfl, h0, h1⟩ := trodAll_two hA
  obtain ⟨rfl, rfl⟩ := trodVars_none hV
  obtain ⟨ca, rfl, _⟩ := okWide_struct Tryz.underlying29 (hval 0 29 v0 (by simp) (by simp))
  obtain ⟨cb, rfl, _⟩ := okWide_struct Tryz.underlying43 (hval 1 43 v1 (by simp) (by simp))
  have ra : Rd enc Tryz.prog W 29 ca.toList := h0.imp fun _ h => ⟨_, h⟩
  have rb : Rd enc Tryz.prog W 43 cb.toList := h1.imp fun _ h => ⟨_, h⟩
  simp only [List.append_nil] at hW'
  have hlt : ∀ x ∈ p0 ++ p1, x.block < W.heap.size := fun x hx => by simpa using hW'.lt x hx
  refine (call_any (rows_of_laid hL) (size12 hsh) ra rb).mono fun e W' ⟨he, hb⟩ => ?_
  subst he
  refine ⟨_, rfl, post_of_below (pa := p0 ++ p1) (pv := []) hW' (fun _ _ _ => trodAll_mk1 (shut_bool Tryz.underlying4 _)) (fun sp hsp => ?_) (fun _ _ => rfl) (by simp) hb (ok_one (by kernel_rfl) rfl (okWide_bool_mk Tryz.underlying4 _))⟩
  have a0 := WideElems.Trod_stays (sp' := sp) laidOut (by kernel_rfl) (of_decide_eq_true (by kernel_rfl)) h0 (fun x hx => hb.same (hlt x (List.mem_append_left _ hx))) (fun x hx => hsp x (List.mem_append_left _ hx))
  have a1 := WideElems.Trod_stays (sp' := sp) laidOut (by kernel_rfl) (of_decide_eq_true (by kernel_rfl)) h1 (fun x hx => hb.same (hlt x (List.mem_append_right _ hx))) (fun x hx => hsp x (List.mem_append_right _ hx))
  exact trodAll_mk2 a0 a1

end

/-! ### the witness: the settled world, the listed variables holding what the row lists -/
def litV : Lit → Value
  | .int k n => .int k n
  | .bool b => .bool b
  | .string bs => .string ⟨bs.toArray⟩
  | _ => undef
def flat : Nat → DataW Unit → List Value
  | n + 1, .agg ps => ps.flatMap (flat n)
  | _, .lit l => [litV l]
  | _, _ => []
noncomputable def laidHeap (h : Array Obj) : List (Nat × DataW Unit) → Array Obj
  | [] => h
  | (g, d) :: r => laidHeap (h.modify g fun
      | .cells _ t frozen => .cells ⟨flat 4 d⟩ t frozen
      | o => o) r
noncomputable def laidWorld (os : Os) : World :=
  { World.holding Tryz.prog os ⟨#[], #[], []⟩ with heap := laidHeap (World.holding Tryz.prog os ⟨#[], #[], []⟩).heap [(2, Rows.laid_unicode_utf8_first), (3, Rows.laid_unicode_utf8_acceptRanges), (0, Rows.laid_watchword_sha_start), (1, Rows.laid_watchword_sha_constants), (6, Rows.laid_internal_strconv_uint64pow10), (8, Rows.laid_math_bits_deBruijn32tab), (9, Rows.laid_math_bits_deBruijn64tab), (5, Rows.laid_watchword_group_primes), (7, Rows.laid_watchword_sign_scalars)] }
def z : Value := .int .i64 0
def nl : Value := .slice none 0 0
def zs : Value := .string ⟨#[]⟩
def zargs : Array Value := #[.agg #[zs, z, z, z, .int .u32 0, z, nl, nl, nl, nl], .agg #[z, nl, .int .u32 0, nl, zs, nl, zs, z, z, z, z, nl, nl, nl, z, nl, z, z]]
noncomputable def wit (os : Os) : World := (laidWorld os).forCall (fun _ _ => 0) ⟨#[], zargs, []⟩
theorem wit_met1 (os : Os) : (DataW.laidRun Tryz.prog (wit os).memory 8 (List.map (fun x => x.fst) Rows.initialNoneRow.laid)).map (·.1) = some Rows.initialNoneRow.laid := by kernel_rfl
theorem wit_met2 (os : Os) : (DataW.laidRun Tryz.prog (wit os).memory 8 (List.map (fun x => x.fst) Rows.initialNoneRow.laid)).map (fun x => nodupB (x.2.map MemPlace.codeOf)) = some true := by kernel_rfl
theorem wit_met3 (os : Os) : (DataW.laidRun Tryz.prog (wit os).memory 8 (List.map (fun x => x.fst) Rows.initialNoneRow.laid)).map (fun x => laidRowsB Tryz.prog (wit os).memory x.2) = some true := by kernel_rfl
theorem wit_vars (os : Os) : ((laidWorld os).forCall (fun _ _ => 0) ⟨#[], zargs, []⟩).variablesB Tryz.checked.prog = true := by kernel_rfl
theorem wit_rest (os : Os) : (((laidWorld os).forCall (fun _ _ => 0) ⟨#[], zargs, []⟩).heap.toList.drop Tryz.checked.prog.globals.size).take ((begin Tryz.checked.prog (fun _ _ => 0) default).world.heap.size - Tryz.checked.prog.globals.size) =
      (begin Tryz.checked.prog (fun _ _ => 0) default).world.heap.toList.drop Tryz.checked.prog.globals.size := by kernel_rfl
theorem wit_ok (os : Os) : Input.okWideB Tryz.checked.prog ((laidWorld os).forCall (fun _ _ => 0) ⟨#[], zargs, []⟩) 3 ⟨#[], zargs, []⟩ = true := by kernel_rfl
theorem noInit3 : Tryz.checked.prog.inits.idxOf? 3 = none := by kernel_rfl
theorem laid_plain : (Rows.initialNoneRow.laid.all fun x => x.2.handleName?.isNone) = true := by kernel_rfl
theorem laid_met (os : Os) : laidMetH Tryz.prog Rows.initialNoneRow.laid ((laidWorld os).forCall (fun _ _ => 0) ⟨#[], zargs, []⟩).memory := by
  rw [MakeChecks.laidMetH_plain _ _ _ laid_plain]
  exact laidMet_of_run3 8 (wit_met1 os) (wit_met2 os) (wit_met3 os)
def zl {H : Type} : DataW H := .lit (.int .i64 0)
def zu {H : Type} : DataW H := .lit (.int .u32 0)
def zst {H : Type} : DataW H := .lit (.string [])
def zd0 {H : Type} : DataW H := .agg [zst, zl, zl, zl, zu, zl, .nil, .nil, .nil, .nil]
def zp {H : Type} : DataW H := .agg [.nil, zst]
def zd1 {H : Type} : DataW H := .agg [.agg [zl, .nil, zu, zp, zp, zl, zl, zl, zl, .nil, .nil, .nil], .agg [zl, .nil], zl, zl]
theorem reads (os : Os) {H : Type} (enc : TypeId × Value → H) : ∃ places, DataW.whole enc Tryz.prog ((laidWorld os).forCall (fun _ _ => 0) ⟨#[], zargs, []⟩).memory Tryz.f3.params.toList Rows.initialNoneSpec.vars false zargs.toList 8 = some ([zd0, zd1], [], places) :=
  ⟨[], by kernel_rfl⟩

set_option maxRecDepth 100000 in
theorem lifted (os : Os) (started : os.Started) (H : Type) (enc : TypeId × Value → H) (F : Stop.Interp) :
    ReturnsInHanded {} Tryz.checked os 3 .any ((OpenSpec.ofChange Rows.initialNoneSpec).preRow enc Tryz.prog Tryz.f3 Rows.initialNoneRow.domain false Rows.initialNoneRow.laid) (((OpenSpec.ofChange Rows.initialNoneSpec).at F).post enc Tryz.prog Tryz.f3 false true false false) := by
  obtain ⟨places, hx⟩ := reads os enc
  refine returnsInHanded_of_row (C := Tryz.checked) (s := OpenSpec.ofChange Rows.initialNoneSpec) own started noInit3 Tryz.func3
    (witness_row_at (enc := enc) (C := Tryz.checked) false (laidWorld os) zargs rfl (wit_vars os) (wit_rest os) (wit_ok os)
      (OpenSpec.preRow_of_cond 8 hx (by kernel_rfl) (fun k hk => by cases hk) (by kernel_rfl) (laid_met os))) ?_
  intro W base args ds gs before hval hW _ _ _ hL hsh _
  exact contract H enc W base args ds gs before hval hW hL hsh

theorem named : Tryz.pinned.checked.prog.funcNamed Rows.initialNoneRow.func = some 3 := by kernel_rfl
theorem progs : Tryz.pinned.checked.prog = Tryz.prog := by kernel_rfl
theorem joined' : joinedFacts Tryz.pinned.checked.prog 3 Tryz.f3 (OpenSpec.ofChange Rows.initialNoneSpec).bare Rows.initialNoneRow = true := by
  rw [progs]
  exact joined
theorem instH : Tryz.f3.isInstance Tryz.pinned.checked.prog Rows.initialNoneRow.origin Rows.initialNoneRow.targs := of_decide_eq_true (by kernel_rfl)
theorem wrapH : Tryz.f3.isWrapper Tryz.pinned.checked.prog Rows.initialNoneRow.wrapper Rows.initialNoneRow.mainSum := by unfold Func.isWrapper; first | (rw [if_pos (by decide +kernel)]; kernel_rfl) | (rw [if_neg (by decide +kernel)]; exact ⟨rfl, rfl⟩)
theorem said : Rows.InitialNoneSaid :=
  OpenClaim.holds_of_cond 3 Tryz.f3 rfl rfl rfl rfl rfl rfl rfl ⟨rfl, rfl, rfl, rfl, rfl⟩ rfl rfl rfl rfl rfl named Tryz.func3 joined' instH wrapH
    (fun os started H enc _ F => by rw [OpenClaim.pre_eq_preRow]; exact lifted os started H enc F)

theorem plain (f : FuncId) (fn : Func) (hf : Tryz.pinned.checked.prog.funcNamed "watchword/watchwordlaw35.InitialNone" = some f) (hfn : Tryz.pinned.checked.prog.funcs[f]? = some fn) :
    true = Tryz.pinned.checked.prog.looks [] ∧ ∀ (j : Nat) t, fn.params[j]? = some t → Tryz.pinned.checked.prog.wantsStandIn t = false := by
  obtain rfl : f = 3 := Option.some.inj ((show Tryz.prog.funcNamed "watchword/watchwordlaw35.InitialNone" = some 3 by kernel_rfl).symm.trans hf) |>.symm
  obtain rfl : fn = Tryz.f3 := (Option.some.inj (Tryz.func3.symm.trans hfn)).symm
  refine ⟨by kernel_rfl, fun j t ht => ?_⟩
  rw [Tryz.params3] at ht
  have hm : t ∈ [29, 43] := by simpa using Array.mem_of_getElem? ht
  have hall : ([29, 43].all fun u => !Tryz.prog.wantsStandIn u) = true := by kernel_rfl
  exact (show Tryz.prog.wantsStandIn t = false by simpa using List.all_eq_true.1 hall t hm)

/-! ### the tie: the program's text lays what the row lists ('tie' by a walk of gosem.cut.vars) -/
theorem pin_first : Tryz.pinned.checked.prog.pinnedFits "unicode/utf8.first" = true := by kernel_rfl
theorem noOwnUnsafe : Tryz.pinned.checked.prog.headLifts.contains "ownunsafe" = false := by kernel_rfl
theorem fits1 : Tryz.pinned.checked.prog.listedFits (("unicode/utf8.first", Rows.laid_unicode_utf8_first) :: Own.laid8) = true := by
  unfold Program.listedFits
  rw [noOwnUnsafe]
  kernel_rfl
theorem row_tie : Rows.initialNoneRow.laidByTextAt .later Tryz.pinned [.pinned, .data, .data, .data, .data, .data, .data, .data, .data] true :=
  OpenClaim.laidByTextAt_pinned rfl rfl Own.tie rfl rfl rfl rfl (fun y hy _e => by
    simp only [Rows.initialNoneRow, List.zip_cons_cons, List.zip_nil_right, List.mem_cons, List.mem_nil_iff, or_false] at hy
    rcases hy with rfl | rfl | rfl | rfl | rfl | rfl | rfl | rfl | rfl
    · exact ⟨pin_first, by kernel_rfl⟩
    · cases _e
    · cases _e
    · cases _e
    · cases _e
    · cases _e
    · cases _e
    · cases _e
    · cases _e) fits1

theorem goesBy4 : false = Rows.initialNoneRow.goesBy Tryz.pinned.checked.prog := by
  rw [progs]
  exact goesBy3
theorem byText : Rows.initialNoneRow.wfByText (OpenSpec.ofChange Rows.initialNoneSpec) = true := by kernel_rfl
theorem mainIs1 : Tryz.pinned.checked.prog.mainIs = some (true, "d10fdf3afb6aa864b6baadc5944b53db766bf7c86189d01898f22051853d22cf".toList) := by kernel_rfl
/-- THE CARD. -/
theorem initialNone_card : Rows.InitialNoneCardSaid :=
  Claim7.holds_tied_plain_at .later [] _ _ _ _ said (fun _ h => by cases h) byText (fun _ h => by cases h) row_tie rfl ⟨rfl, rfl⟩ mainIs1 rfl plain goesBy4
#print axioms initialNone_card
end Go.Proofs.YtonlnkibohmalaaGreatDoor
