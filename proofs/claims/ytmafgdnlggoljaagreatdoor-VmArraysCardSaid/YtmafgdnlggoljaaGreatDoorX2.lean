/- For all whole numbers n, at and x the law VmArrays (kilnlaw16) of the given program answers true, and leaves its arguments as they were, wherever the two listed tables hold what the program's text lays in them: the card that ties them to the text. Conditions: those of the given row alone. -/
import Derived.WalkKit
import Derived.ProofKit
import Derived.OpenShut
import Derived.Deep.DeepHandedRow
import Derived.Lib.LaidTab
import Derived.Test.YtmafgdnlggoljaaGreatDoorCards
import Derived.Test.YtmafgdnlggoljaaGreatDoorTie
import Derived.Test.YtmafgdnlggoljaaGreatDoorX1
namespace Go.Proofs.YtmafgdnlggoljaaGreatDoor
open Go Go.ChangeShapes Go.WideShapes Go.ChangeAt Go.RowKit Go.Kx

theorem vmOwn : ownKnob Tryz.prog.godebug = Option.none := by kernel_rfl
theorem vmShapes : Tryz.prog.globalNamed "kiln/op.shapes" = some 2 := by kernel_rfl
theorem vmMarks : Tryz.prog.globalNamed "kiln/lex.marks" = some 0 := by kernel_rfl
theorem vmShapesType : (Tryz.prog.globals[2]?).map (·.type) = some 274 := by kernel_rfl
theorem vmMarksType : (Tryz.prog.globals[0]?).map (·.type) = some 217 := by kernel_rfl
theorem vmC9 : Tryz.prog.cellsOf 9 = 1 := by kernel_rfl
theorem vmC217 : Tryz.prog.cellsOf 217 = 22 := by kernel_rfl
theorem vmC274 : Tryz.prog.cellsOf 274 = 66 := by kernel_rfl
theorem vmC273 : Tryz.prog.cellsOf 273 = 2 := by kernel_rfl

/-- The two tables' cells, as the small heap has them. -/
theorem vmStart {W : World} (h : laidMetH Tryz.prog Rows.vmArraysRow.laid W) : ∃ R, WR 3 R h0V W := by
  have h' : laidMet Tryz.prog Rows.vmArraysRow.laid W := h
  obtain ⟨ps, ⟨g', t', cs, fuel, p, q, hg', ht', hvar, hd, hrest, _⟩, _⟩ := h'
  obtain ⟨g2', t2', cs2, fuel2, p2, q2, hg2', ht2', hvar2, hd2, _, _⟩ := hrest
  obtain rfl := Option.some.inj (vmShapes.symm.trans hg')
  obtain rfl := Option.some.inj (vmMarks.symm.trans hg2')
  obtain rfl := Option.some.inj (vmShapesType.symm.trans ht')
  obtain rfl := Option.some.inj (vmMarksType.symm.trans ht2')
  obtain ⟨T2, z2, e2⟩ := var_heap vmShapes hvar
  obtain ⟨T0, z0, e0⟩ := var_heap vmMarks hvar2
  have m := strs_ok (R3 (marksL.map AV.str).length 0 (flatP shapesL).length) (bss := marksL) Tryz.underlying217 Tryz.underlying9 vmC9 hd2
  have s := pairs_ok (R3 (marksL.map AV.str).length 0 (flatP shapesL).length) (prs := shapesL) Tryz.underlying274 Tryz.underlying273 vmC273 (by kernel_rfl) Tryz.underlying9 Tryz.underlying21 vmC9 (by kernel_rfl) hd
  refine ⟨_, start3 0 e0 e2 ?_ ?_ (by kernel_rfl) (by kernel_rfl) ?_ ?_⟩
  · have := m.1
    rw [vmC217] at this
    have e : (marksL.map AV.str).length = 22 := by kernel_rfl
    rw [e]; simpa using this
  · have := s.1
    rw [vmC274] at this
    have e : (flatP shapesL).length = 66 := by kernel_rfl
    rw [e]; simpa using this
  · intro j x hx; simpa using m.2 j x hx
  · intro j x hx; simpa using s.2 j x hx

section
variable {H : Type} {enc : TypeId × Value → H} {P : Program}
/-- A law over numbers alone, whose call lets all that was there be. -/
theorem vmPost {f : Func} {s : ChangeSpec} {apart fresh handsOn again : Bool} {W W' : World} {args : Array Value} {v : Value} {ds gs : List (DataW H)}
    (hW : DataW.Whole enc P f.params.toList s.vars apart W args.toList ds gs [])
    (hres : ∀ (b : Nat) (sp : Nat → Bool) (hd : Bool), DataW.TrodAll enc P W' b sp hd f.resultTypes.toList (v.resultList f.resultTypes.size) (s.fn H (ds ++ gs)).results [])
    (hargs : ∀ sp : Nat → Bool, DataW.TrodAll enc P W' 0 sp true f.params.toList args.toList (s.fn H (ds ++ gs)).args [])
    (hvars : ∀ sp : Nat → Bool, DataW.TrodVars enc P W' sp s.vars (s.fn H (ds ++ gs)).vars [])
    (hk : W.keptBut W' (fun _ => False))
    (hok : ∀ (j : Nat) (t : TypeId) (r : Value), f.resultTypes[j]? = some t → (v.resultList f.resultTypes.size)[j]? = some r → Value.okWide P W' .any 0 t r) :
    s.post enc P f apart fresh handsOn again W args v W' := by
  refine ⟨ds, gs, [], [], [], [], hW, hres _ _ _, hargs _, hvars _, World.keptBut_mono (fun p hp => hp.elim) hk, fun _ => ?_⟩
  refine ⟨hok, _, _, ([] ++ []) ++ [], ⟨[] ++ [], [], trodAll_append (hargs _) (hres _ _ _), hvars _, rfl, ?_, ?_⟩, ?_⟩
  · intro b off hp; simp at hp
  · intro _; simp
  · intro p hp _; simp at hp
end

set_option maxRecDepth 100000 in
/-- WHAT THE WALK GIVES, FOR EVERY ARGUMENT AND EVERY WORLD THAT HOLDS THE TABLES. -/
theorem vmContract (H : Type) (enc : TypeId × Value → H) (W : World) (base : Nat) (args : Array Value) (ds gs : List (DataW H)) (before : List MemPlace)
    (hval : ∀ (j : Nat) t v, Tryz.f3.params[j]? = some t → args[j]? = some v → Value.okWide Tryz.prog W .any base t v)
    (hW : DataW.Whole enc Tryz.prog Tryz.f3.params.toList Rows.vmArraysSpec.vars false W args.toList ds gs before) (hL : laidMetH Tryz.prog Rows.vmArraysRow.laid W) :
    Calls Tryz.prog 3 args W fun e W' => ∃ v, e = .returned v ∧ Rows.vmArraysSpec.post enc Tryz.prog Tryz.f3 false true false false W args v W' := by
  have hW' := hW
  obtain ⟨p, q, hA0, hV, rfl, hfz, hnd⟩ := hW
  have hA : DataW.TrodAll enc Tryz.prog W 0 (fun _ => true) true Tryz.f3.params.toList args.toList ds p := hA0
  rw [Tryz.params3] at hA hval
  obtain ⟨v0, vs0, d0, ds0, p0, q0, hargs, rfl, rfl, h0, r0⟩ := trodAll_cons hA
  obtain ⟨v1, vs1, d1, ds1, p1, q1, rfl, rfl, rfl, h1, r1⟩ := trodAll_cons r0
  obtain ⟨v2, vs2, d2, ds2, p2, q2, rfl, rfl, rfl, h2, r2⟩ := trodAll_cons r1
  obtain ⟨rfl, rfl, rfl⟩ := trodAll_nil r2
  obtain rfl : args = #[v0, v1, v2] := by cases args; simp_all
  obtain ⟨rfl, rfl⟩ := trodVars_none hV
  obtain ⟨n0, rfl, rfl, rfl, w0⟩ := open_int Tryz.underlying3 (hval 0 3 v0 rfl rfl) h0
  obtain ⟨n1, rfl, rfl, rfl, w1⟩ := open_int Tryz.underlying3 (hval 1 3 v1 rfl rfl) h1
  obtain ⟨n2, rfl, rfl, rfl, w2⟩ := open_int Tryz.underlying2 (hval 2 2 v2 rfl rfl) h2
  clear hA0
  simp only [List.append_nil] at hW'
  obtain ⟨R, hw⟩ := vmStart hL
  refine (walkV n0 n1 n2 hw).mono fun e W' ⟨he, R', h', hg⟩ => ?_
  subst he
  refine ⟨_, rfl, vmPost hW' (fun _ _ _ => trodAll_cons_mk (shut_bool Tryz.underlying4 _) trodAll_mk0)
    (fun _ => trodAll_cons_mk (shut_int Tryz.underlying3 w0) (trodAll_cons_mk (shut_int Tryz.underlying3 w1) (trodAll_cons_mk (shut_int Tryz.underlying2 w2) trodAll_mk0))) (fun _ => rfl) ?_
    (ok_one (by kernel_rfl) rfl (okWide_bool_mk Tryz.underlying4 _))⟩
  exact kept_of hg (fun i ob ho => by
    have := trL_get (show (trL _).get i = some ob from ho)
    simp only [List.mem_cons, Prod.mk.injEq, List.not_mem_nil, or_false] at this
    rcases this with ⟨_, rfl⟩ | ⟨_, rfl⟩ <;> rfl) (fun i => Tr.get_leaf i) _

/-- A WORLD FOR THE WITNESS: the settled one, the two tables holding what their initialisers lay. -/
noncomputable def vmLay (cs : Array Value) : _root_.Go.Obj → _root_.Go.Obj
  | .cells _ t frozen => .cells cs t frozen
  | o => o
noncomputable def vmWorld (os : Os) : World :=
  { World.holding Tryz.prog os ⟨#[], #[], []⟩ with heap := (((World.holding Tryz.prog os ⟨#[], #[], []⟩).heap.modify 0 (vmLay #[.string ⟨#[61, 61]⟩, .string ⟨#[33, 61]⟩, .string ⟨#[60, 61]⟩, .string ⟨#[38, 38]⟩, .string ⟨#[124, 124]⟩, .string ⟨#[43]⟩, .string ⟨#[45]⟩, .string ⟨#[42]⟩, .string ⟨#[47]⟩, .string ⟨#[37]⟩, .string ⟨#[60]⟩, .string ⟨#[61]⟩, .string ⟨#[33]⟩, .string ⟨#[40]⟩, .string ⟨#[41]⟩, .string ⟨#[91]⟩, .string ⟨#[93]⟩, .string ⟨#[123]⟩, .string ⟨#[125]⟩, .string ⟨#[59]⟩, .string ⟨#[44]⟩, .string ⟨#[46]⟩])).modify 2 (vmLay #[.string ⟨#[]⟩, .int .i32 0, .string ⟨#[105, 110, 116]⟩, .int .i32 110, .string ⟨#[110, 117, 108, 108]⟩, .int .i32 0, .string ⟨#[108, 111, 99, 97, 108]⟩, .int .i32 108, .string ⟨#[115, 116, 111, 114, 101]⟩, .int .i32 108, .string ⟨#[97, 100, 100]⟩, .int .i32 0, .string ⟨#[115, 117, 98]⟩, .int .i32 0, .string ⟨#[109, 117, 108]⟩, .int .i32 0, .string ⟨#[100, 105, 118]⟩, .int .i32 0, .string ⟨#[109, 111, 100]⟩, .int .i32 0, .string ⟨#[108, 101, 115, 115]⟩, .int .i32 0, .string ⟨#[109, 111, 115, 116]⟩, .int .i32 0, .string ⟨#[115, 97, 109, 101]⟩, .int .i32 0, .string ⟨#[111, 116, 104, 101, 114]⟩, .int .i32 0, .string ⟨#[110, 101, 103]⟩, .int .i32 0, .string ⟨#[110, 111, 116]⟩, .int .i32 0, .string ⟨#[103, 101, 116]⟩, .int .i32 102, .string ⟨#[112, 117, 116]⟩, .int .i32 102, .string ⟨#[110, 101, 119]⟩, .int .i32 99, .string ⟨#[97, 114, 114, 97, 121]⟩, .int .i32 116, .string ⟨#[108, 111, 97, 100]⟩, .int .i32 116, .string ⟨#[115, 97, 118, 101]⟩, .int .i32 116, .string ⟨#[108, 101, 110, 103, 116, 104]⟩, .int .i32 0, .string ⟨#[99, 97, 115, 116]⟩, .int .i32 99, .string ⟨#[105, 115]⟩, .int .i32 99, .string ⟨#[99, 97, 108, 108]⟩, .int .i32 109, .string ⟨#[115, 116, 97, 116, 105, 99]⟩, .int .i32 109, .string ⟨#[106, 117, 109, 112]⟩, .int .i32 106, .string ⟨#[117, 110, 108, 101, 115, 115]⟩, .int .i32 106, .string ⟨#[114, 101, 116, 117, 114, 110]⟩, .int .i32 0, .string ⟨#[112, 114, 105, 110, 116]⟩, .int .i32 0, .string ⟨#[112, 111, 112]⟩, .int .i32 0, .string ⟨#[98, 111, 111, 108]⟩, .int .i32 98])) }
theorem vmLaid (os : Os) : laidMet Tryz.prog Rows.vmArraysRow.laid ((vmWorld os).forCall (fun _ _ => 0) ⟨#[], #[.int .i64 0, .int .i64 0, .int .i64 0], []⟩).memory :=
  laidMet_of_run' 8 (by kernel_rfl) (by kernel_rfl)
theorem vmReads (os : Os) {H : Type} (enc : TypeId × Value → H) : ∃ places, DataW.whole enc Tryz.prog ((vmWorld os).forCall (fun _ _ => 0) ⟨#[], #[.int .i64 0, .int .i64 0, .int .i64 0], []⟩).memory Tryz.f3.params.toList Rows.vmArraysSpec.vars false #[Value.int .i64 0, Value.int .i64 0, Value.int .i64 0].toList 8 = some ([.lit (.int .i64 0), .lit (.int .i64 0), .lit (.int .i64 0)], [], places) :=
  ⟨[], by kernel_rfl⟩

set_option maxRecDepth 100000 in
theorem vmLifted (os : Os) (started : os.Started) (H : Type) (enc : TypeId × Value → H) (F : Stop.Interp) :
    ReturnsInHanded {} Tryz.checked os 3 .any ((OpenSpec.ofChange Rows.vmArraysSpec).preRow enc Tryz.prog Tryz.f3 Rows.vmArraysRow.domain false Rows.vmArraysRow.laid) (((OpenSpec.ofChange Rows.vmArraysSpec).at F).post enc Tryz.prog Tryz.f3 false true false false) := by
  obtain ⟨places, hx⟩ := vmReads os enc
  refine returnsInHanded_of_row (C := Tryz.checked) (s := OpenSpec.ofChange Rows.vmArraysSpec) vmOwn started (by kernel_rfl) Tryz.func3
    (witness_row_at (enc := enc) (C := Tryz.checked) false (vmWorld os) #[.int .i64 0, .int .i64 0, .int .i64 0] rfl (by kernel_rfl) (by kernel_rfl) (by kernel_rfl)
      (OpenSpec.preRow_of_cond 8 hx (by kernel_rfl) (fun k hk => by cases hk) (by kernel_rfl) (vmLaid os))) ?_
  intro W base args ds gs before hval hW _ _ _ hL _ _
  exact vmContract H enc W base args ds gs before hval hW hL

theorem vmSaid : Rows.VmArraysSaid :=
  OpenClaim.holds_of_cond 3 Tryz.f3 rfl rfl rfl rfl rfl rfl rfl ⟨rfl, rfl, rfl, rfl, rfl⟩ rfl rfl rfl rfl rfl (by kernel_rfl) Tryz.func3 (by kernel_rfl)
    (of_decide_eq_true (by kernel_rfl)) (by unfold Func.isWrapper; first | (rw [if_pos (by decide +kernel)]; kernel_rfl) | (rw [if_neg (by decide +kernel)]; exact ⟨rfl, rfl⟩))
    (fun os started H enc _ F => by rw [OpenClaim.pre_eq_preRow]; exact vmLifted os started H enc F)

theorem vmPlain (f : FuncId) (fn : Func) (hf : Tryz.pinned.checked.prog.funcNamed "kiln/kilnlaw16.VmArrays" = some f) (hfn : Tryz.pinned.checked.prog.funcs[f]? = some fn) :
    false = Tryz.pinned.checked.prog.looks [] ∧ ∀ (j : Nat) t, fn.params[j]? = some t → Tryz.pinned.checked.prog.wantsStandIn t = false := by
  obtain rfl : f = 3 := Option.some.inj ((show Tryz.prog.funcNamed "kiln/kilnlaw16.VmArrays" = some 3 by kernel_rfl).symm.trans hf) |>.symm
  obtain rfl : fn = Tryz.f3 := (Option.some.inj (Tryz.func3.symm.trans hfn)).symm
  refine ⟨by kernel_rfl, fun j t ht => ?_⟩
  rw [Tryz.params3] at ht
  have ht' : t = 3 ∨ t = 2 := by simpa using Array.mem_of_getElem? ht
  rcases ht' with rfl | rfl
  · exact (show Tryz.prog.wantsStandIn 3 = false by kernel_rfl)
  · exact (show Tryz.prog.wantsStandIn 2 = false by kernel_rfl)

/-- THE CARD -/
theorem vmArrays_card : Rows.VmArraysCardSaid :=
  Claim7.holds_tied_plain_at .later [] _ _ _ _ vmSaid (fun _ h => by cases h) (by kernel_rfl) (fun _ h => by cases h) vmArrays_row_tie rfl ⟨rfl, rfl⟩ (by kernel_rfl) rfl vmPlain (by kernel_rfl)
end Go.Proofs.YtmafgdnlggoljaaGreatDoor
