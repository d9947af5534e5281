/-
  PROVED HERE: that the law TmplReads returns true, whatever the text, and what is read stands as it did. Conditions: none beyond the given statement's own (the card lists errors.errorType, lex.marks and expr.levels, tied by the given tie).
-/
import Derived.Test.YtofmheeiplagjaaGreatDoorCards
import Derived.Test.YtofmheeiplagjaaGreatDoorTie
import Derived.Test.YtofmheeiplagjaaGreatDoorTpZ
import Derived.Test.YtofmheeiplagjaaGreatDoorFrame
import Derived.WalkKit
import Derived.ProofKit
import Derived.OpenShut
import Derived.ShutString
import Derived.LaidHandle
import Derived.Deep.DeepHandedRow
import Derived.Lib.LaidTab
import Derived.Deep.DeepWitnessRowRef
import Derived.Shelf.Vars
namespace Go.Proofs.YtofmheeiplagjaaGreatDoor.tmplReads
open Go.ChangeShapes Go.WideShapes Go.ChangeAt Go.RowKit
open Go.ChangeMaps (open_string shut_string)
set_option linter.unusedVariables false

theorem own : ownKnob Tryz.prog.godebug = none := by kernel_rfl
theorem laidOut : laidOutB Tryz.prog = true := by kernel_rfl
theorem size : Tryz.prog.types.size = 213 := by kernel_rfl
theorem hts : ∀ t ∈ Tryz.f4.params.toList, Tryz.prog.readableRec t = true ∧ t < Tryz.prog.types.size := by
  rw [Tryz.params4, size]
  intro t ht
  rcases List.mem_cons.1 ht with rfl | ht
  · exact ⟨by kernel_rfl, by decide⟩
  cases ht
theorem et : Tryz.prog.globalNamed "errors.errorType" = some 2 := by kernel_rfl
theorem rt : (Tryz.prog.cutTypes.find? (·.1 == "internal/reflectlite.rtype")).map (·.2) = some 173 := by kernel_rfl
theorem oneRow : ((List.range 213).filter fun t => Tryz.prog.rowNamed t [101, 114, 114, 111, 114]) = [31] := by kernel_rfl
/-- What the row's list gives: errors.errorType holds error's type. -/
theorem handle_of_laid {W : World} (h : laidMetH Tryz.prog Rows.tmplReadsRow.laid W) : Err.Home W := by
  have h' : laidMet Tryz.prog [("escritoire/lex.marks", Rows.laid_escritoire_lex_marks), ("escritoire/expr.levels", Rows.laid_escritoire_expr_levels)] W ∧ handlesMet Tryz.prog [("errors.errorType", Rows.laid_errors_errorType)] W := h
  obtain ⟨name, u, ty, e1, e2, e3, e4, e5⟩ := h'.2 _ (List.mem_singleton.2 rfl)
  have en : name = [101, 114, 114, 111, 114] := (Option.some.inj e1).symm
  subst en
  obtain rfl := Option.some.inj (rt.symm.trans e2)
  have hm : ty ∈ (List.range 213).filter fun t => Tryz.prog.rowNamed t [101, 114, 114, 111, 114] := List.mem_filter.2 ⟨List.mem_range.2 (by rw [← size]; exact e3), e4⟩
  rw [oneRow] at hm
  obtain rfl := List.mem_singleton.1 hm
  have hh : typeHandle Tryz.prog 31 = .pointer (some ⟨4, 31, none⟩) := by kernel_rfl
  rw [hh] at e5
  unfold Err.Home
  simpa using World.var?_cell et e5 0
/-- .. and lex.marks holds the marks, expr.levels the ops. -/
theorem both_laid {W : World} (h : laidMetH Tryz.prog Rows.tmplReadsRow.laid W) : Lex.HomeM W ∧ Tm.LH W.heap.size W := by
  have h' : laidMet Tryz.prog [("escritoire/lex.marks", Rows.laid_escritoire_lex_marks), ("escritoire/expr.levels", Rows.laid_escritoire_expr_levels)] W ∧ handlesMet Tryz.prog [("errors.errorType", Rows.laid_errors_errorType)] W := h
  exact Tm.both_of_laid (handle_of_laid h) h'.1

set_option maxRecDepth 100000 in
theorem contract (H : Type) (enc : TypeId × Value → H) (W : World) (base : Nat) (args : Array Value) (ds gs : List (DataW H)) (before : List MemPlace)
    (hval : ∀ (j : Nat) t v, Tryz.f4.params[j]? = some t → args[j]? = some v → Value.okWide Tryz.prog W .any base t v)
    (hW : DataW.Whole enc Tryz.prog Tryz.f4.params.toList Rows.tmplReadsSpec.vars false W args.toList ds gs before) (hL : laidMetH Tryz.prog Rows.tmplReadsRow.laid W) (hS : W.ShapedOpen Tryz.prog) :
    Calls Tryz.prog 4 args W fun e W' => ∃ v, e = .returned v ∧ Rows.tmplReadsSpec.post enc Tryz.prog Tryz.f4 false true false false W args v W' := by
  have hW' := hW
  obtain ⟨p, q, hA0, hV, rfl, hfz, hnd⟩ := hW
  have hA : DataW.TrodAll enc Tryz.prog W 0 (fun _ => true) true Tryz.f4.params.toList args.toList ds p := hA0
  rw [Tryz.params4] at hA hval
  obtain ⟨v0, vs0, d0, ds0, p0, q0, hargs, rfl, rfl, h0, r0⟩ := trodAll_cons hA
  obtain ⟨rfl, rfl, rfl⟩ := trodAll_nil r0
  obtain rfl : args = #[v0] := by cases args; simp_all
  obtain ⟨rfl, rfl⟩ := trodVars_none hV
  obtain ⟨a0, rfl, rfl, rfl, w0⟩ := open_string Tryz.underlying9 (hval 0 9 v0 rfl rfl) h0
  clear hA0
  have hg := handle_of_laid hL
  obtain ⟨hm, hl⟩ := both_laid hL
  have hx : ∃ m, W.cell? ⟨3, 0, none⟩ = some (.int .i64 m) := Go.Proofs.cell_of_shapedOpen_int (zero := #[.int .i64 0]) (t := 3) hS (of_decide_eq_true (by kernel_rfl)) (by kernel_rfl) rfl (by kernel_rfl) (by kernel_rfl) Tryz.underlying3
  refine (Tm.tmpl_walk a0 W hg hm hl hx).mono fun e W' ⟨he, hb⟩ => ?_
  subst he
  exact ⟨_, rfl, law_post Tryz.underlying4 rfl laidOut hts rfl rfl hW' hb⟩

/-- A world for the witness. -/
noncomputable def laidFirst (os : Os) : World :=
  { World.holding Tryz.prog os ⟨#[], #[], []⟩ with heap := (World.holding Tryz.prog os ⟨#[], #[], []⟩).heap.modify 2 fun
      | .cells _ t frozen => .cells #[.iface 173 (.agg #[.pointer (some ⟨4, 31, none⟩)])] t frozen
      | o => o }
noncomputable def laidSecond (os : Os) : World :=
  { laidFirst os with heap := (laidFirst os).heap.modify 1 fun
      | .cells _ t frozen => .cells (Lex.mkl.map fun z => Value.string ⟨z.toArray⟩).toArray t frozen
      | o => o }
noncomputable def laidWorld (os : Os) : World :=
  { laidSecond os with heap := ((laidSecond os).heap.modify 0 fun
      | .cells _ t frozen => .cells #[.slice (some ⟨(laidSecond os).heap.size, 0, none⟩) 4 4, .slice (some ⟨(laidSecond os).heap.size + 1, 0, none⟩) 3 3, .slice (some ⟨(laidSecond os).heap.size + 2, 0, none⟩) 2 2] t frozen
      | o => o) ++ #[.cells #[.string ⟨#[61, 61]⟩, .string ⟨#[33, 61]⟩, .string ⟨#[60]⟩, .string ⟨#[62]⟩] 9, .cells #[.string ⟨#[43]⟩, .string ⟨#[45]⟩, .string ⟨#[124]⟩] 9, .cells #[.string ⟨#[42]⟩, .string ⟨#[38]⟩] 9] }
theorem laid_met (os : Os) : laidMetH Tryz.prog Rows.tmplReadsRow.laid ((laidWorld os).forCall (fun _ _ => 0) ⟨#[], #[.string ByteArray.empty], []⟩).memory :=
  laidMetH_of_parts (laidMet_of_run3 8 (by kernel_rfl) (by kernel_rfl) (by kernel_rfl)) (by kernel_rfl)
theorem reads (os : Os) {H : Type} (enc : TypeId × Value → H) : ∃ places, DataW.whole enc Tryz.prog ((laidWorld os).forCall (fun _ _ => 0) ⟨#[], #[.string ByteArray.empty], []⟩).memory Tryz.f4.params.toList Rows.tmplReadsSpec.vars false (#[.string ByteArray.empty] : Array Value).toList 8 = some ([.lit (.string [])], [], places) :=
  ⟨[], by kernel_rfl⟩

set_option maxRecDepth 100000 in
theorem lifted (os : Os) (started : os.Started) (H : Type) (enc : TypeId × Value → H) (F : Stop.Interp) :
    ReturnsInHanded {} Tryz.checked os 4 .any ((OpenSpec.ofChange Rows.tmplReadsSpec).preRow enc Tryz.prog Tryz.f4 Rows.tmplReadsRow.domain false Rows.tmplReadsRow.laid) (((OpenSpec.ofChange Rows.tmplReadsSpec).at F).post enc Tryz.prog Tryz.f4 false true false false) := by
  obtain ⟨places, hx⟩ := reads os enc
  refine returnsInHanded_of_row (C := Tryz.checked) (s := (OpenSpec.ofChange Rows.tmplReadsSpec)) own started (by kernel_rfl) Tryz.func4
    (witness_row_atRef (enc := enc) (C := Tryz.checked) false (laidWorld os) #[.string ByteArray.empty] rfl (by kernel_rfl) (by kernel_rfl) (by kernel_rfl)
      (OpenSpec.preRow_of_cond 8 hx (by kernel_rfl) (fun k hk => by cases hk) (by kernel_rfl) (laid_met os))) ?_
  intro W base args ds gs before hval hW _ _ _ hL hS _
  exact contract H enc W base args ds gs before hval hW hL hS

theorem said : Rows.TmplReadsSaid :=
  OpenClaim.holds_of_cond 4 Tryz.f4 rfl rfl rfl rfl rfl rfl rfl ⟨rfl, rfl, rfl, rfl, rfl⟩ rfl rfl rfl rfl rfl (by kernel_rfl) Tryz.func4 (by kernel_rfl)
    (of_decide_eq_true (by kernel_rfl)) (by unfold Func.isWrapper; first | (rw [if_pos (by decide +kernel)]; kernel_rfl) | (rw [if_neg (by decide +kernel)]; exact ⟨rfl, rfl⟩))
    (fun os started H enc _ F => by rw [OpenClaim.pre_eq_preRow]; exact lifted os started H enc F)

theorem plain (f : FuncId) (fn : Func) (hf : Tryz.pinned.checked.prog.funcNamed "escritoire/escritoirelaw.TmplReads" = some f) (hfn : Tryz.pinned.checked.prog.funcs[f]? = some fn) :
    true = Tryz.pinned.checked.prog.looks [] ∧ ∀ (j : Nat) t, fn.params[j]? = some t → Tryz.pinned.checked.prog.wantsStandIn t = false := by
  obtain rfl : f = 4 := Option.some.inj ((show Tryz.prog.funcNamed "escritoire/escritoirelaw.TmplReads" = some 4 by kernel_rfl).symm.trans hf) |>.symm
  obtain rfl : fn = Tryz.f4 := (Option.some.inj (Tryz.func4.symm.trans hfn)).symm
  refine ⟨by kernel_rfl, fun j t ht => ?_⟩
  rw [Tryz.params4] at ht
  rcases j with _ | j
  · obtain rfl : 9 = t := by simpa using ht
    exact (show Tryz.prog.wantsStandIn 9 = false by kernel_rfl)
  · simp at ht

/-- THE CARD. -/
theorem proved : Rows.TmplReadsCardSaid :=
  Claim7.holds_tied_plain_at .later [] _ _ _ _ said (fun _ h => by cases h) (by kernel_rfl) (fun _ h => by cases h) tmplReads_row_tie rfl ⟨rfl, rfl⟩ (by kernel_rfl) rfl plain (by kernel_rfl)
#print axioms proved
end Go.Proofs.YtofmheeiplagjaaGreatDoor.tmplReads
