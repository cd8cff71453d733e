/- The row of ClientKnown, proved. -/
import Derived.Test.YtldclhmpgjcimaaGreatDoorTapO4
import Derived.Test.YtldclhmpgjcimaaGreatDoorTapO7
import Derived.Test.YtldclhmpgjcimaaGreatDoorRows
import Derived.ProofKit
import Derived.LaidMore
import Derived.OpenShut
import Derived.Stop.Joined
namespace Go.Proofs.YtldclhmpgjcimaaGreatDoor
open Go.ChangeShapes Go.WideShapes Go.ChangeAt Go.WideMaps Go.WideElems Go.RowKit

theorem ckOwn : ownKnob Tryz.prog.godebug = none := by kernel_rfl
theorem ckEt : Tryz.prog.globalNamed "errors.errorType" = some 0 := by kernel_rfl
theorem ckRt : (Tryz.prog.cutTypes.find? (·.1 == "internal/reflectlite.rtype")).map (·.2) = some 327 := by kernel_rfl
theorem ckOneRow : ((List.range 500).filter fun t => Tryz.prog.rowNamed t [101, 114, 114, 111, 114]) = [43] := by kernel_rfl
theorem ckSize : Tryz.prog.types.size = 500 := by kernel_rfl
theorem ckHandle : typeHandle Tryz.prog 43 = .pointer (some ⟨7, 43, none⟩) := by kernel_rfl

/-- What the condition gives the walk: the cell of errors.errorType. -/
theorem ck_of_laid {W : World} (h : laidMetH Tryz.prog Rows.clientKnownRow.laid W) : W.cell? ⟨0, 0, none⟩ = some (.iface 327 (.agg #[.pointer (some ⟨7, 43, none⟩)])) := by
  have h' : laidMet Tryz.prog [("math/bits.deBruijn32tab", Rows.laid_math_bits_deBruijn32tab), ("math/bits.deBruijn64tab", Rows.laid_math_bits_deBruijn64tab), ("internal/strconv.uint64pow10", Rows.laid_internal_strconv_uint64pow10), ("strconv.ErrRange", Rows.laid_strconv_ErrRange), ("strconv.ErrSyntax", Rows.laid_strconv_ErrSyntax)] W ∧ handlesMet Tryz.prog [("errors.errorType", Rows.laid_errors_errorType)] W := h
  obtain ⟨name, u, ty, e1, e2, e3, e4, e5⟩ := h'.2 _ (List.mem_singleton.2 rfl)
  have en : name = [101, 114, 114, 111, 114] := (Option.some.inj e1).symm
  subst en
  obtain rfl := Option.some.inj (ckRt.symm.trans e2)
  have hm : ty ∈ (List.range 500).filter fun t => Tryz.prog.rowNamed t [101, 114, 114, 111, 114] := List.mem_filter.2 ⟨List.mem_range.2 (by rw [← ckSize]; exact e3), e4⟩
  rw [ckOneRow] at hm
  obtain rfl := List.mem_singleton.1 hm
  rw [ckHandle] at e5
  simpa using World.var?_cell ckEt e5 0

theorem ckDoor (os : Os) (args : Array Value) : laidMetH Tryz.prog Rows.clientKnownRow.laid ((World.doorLaid Tryz.prog 400 os).forCall (fun _ _ => 0) ⟨#[], args, []⟩).memory :=
  laidMetH_of_parts3 (fuel := 8) (laidMet_of_run' 8 (by kernel_rfl) (by kernel_rfl)) (by kernel_rfl) (by kernel_rfl)

theorem Grew.kept {w w' : World} (h : Grew w w') (may : MemPlace → Prop) : w.keptBut w' may := by
  refine ⟨h.os, h.output, fun i hi => ?_⟩
  rw [h.old i hi]
  cases w.heap[i]? with
  | none => rfl
  | some o => cases o <;> simp
theorem Grew.frozen {w w' : World} (h : Grew w w') (a : Addr) (ha : a.block < w.heap.size) : w'.frozen? a = w.frozen? a := by
  unfold World.frozen?
  rw [h.old _ ha]

set_option maxRecDepth 100000 in
theorem ck_lifted (os : Os) (started : os.Started) (H : Type) (enc : TypeId × Value → H) :
    ReturnsInHanded {} Tryz.checked os 8 .any (fun w args => (Rows.clientKnownSpec.pre enc Tryz.prog Tryz.f8 [] false w args ∧ laidMetH Tryz.prog Rows.clientKnownRow.laid w) ∧ sizedMet enc Tryz.prog Tryz.f8 (OpenSpec.ofChange Rows.clientKnownSpec) false w args)
      (Rows.clientKnownSpec.post enc Tryz.prog Tryz.f8 false true false false) := by
  refine returnsInHanded_of_change_and (C := Tryz.checked) (X := fun w _ => laidMetH Tryz.prog Rows.clientKnownRow.laid w) (fun _ _ _ hh h => h.of_heap hh) ckOwn started (by kernel_rfl) Tryz.func8
    (ChangeSpec.witness_shaped (enc := enc) (C := Tryz.checked) (os := os) (X := fun w _ => laidMetH Tryz.prog Rows.clientKnownRow.laid w) false (World.doorLaid Tryz.prog 400 os) #[] 8 rfl (World.shaped_of_RefB (by kernel_rfl) (by kernel_rfl)) (by kernel_rfl) (by kernel_rfl) (by kernel_rfl) (ckDoor os _)) ?_
  intro W base args ds gs before hval0 hW _ _ hL _
  have hW' := hW
  obtain ⟨p, q, hA0, hV, rfl, hfz, hnd⟩ := hW
  have hA : DataW.TrodAll enc Tryz.prog W 0 (fun _ => true) true Tryz.f8.params.toList args.toList ds p := hA0
  rw [Tryz.params8] at hA
  obtain ⟨rfl, rfl, rfl⟩ := trodAll_none hA
  obtain ⟨rfl, rfl⟩ := trodVars_none hV
  refine (Tryz.ck_calls W (ck_of_laid hL)).mono fun e W' ⟨he, hg⟩ => ?_
  subst he
  refine ⟨_, rfl, _, _, _, [], [], [], hW', ?_, ?_, ?_, Grew.kept hg _, fun h => by cases h⟩
  · exact trodAll_mk1 (shut_bool Tryz.underlying4 true)
  · exact trodAll_mk0
  · rfl

theorem ckNamed : Tryz.pinned.checked.prog.funcNamed Rows.clientKnownRow.func = some 8 := by kernel_rfl
theorem ckHolds : Rows.ClientKnownSaid :=
  OpenClaim.holds_of_wide 8 Tryz.f8 rfl rfl rfl rfl rfl rfl rfl ⟨rfl, rfl, rfl, rfl, rfl⟩ rfl rfl rfl rfl rfl ckNamed Tryz.func8 ckJoined
    (of_decide_eq_true (by kernel_rfl)) (by unfold Func.isWrapper; rw [if_neg (of_decide_eq_false (by kernel_rfl))]; exact ⟨rfl, rfl⟩)
    (fun os started H enc _ => ck_lifted os started H enc)
end Go.Proofs.YtldclhmpgjcimaaGreatDoor
