/- SessionConsts: the closed sentence about the numbers that layer 25 names answers true. No condition. -/
import Derived.Test.YtcljmlgbmjjldaaRows
import Derived.Test.YtcljmlgbmjjldaaF0
import Derived.WalkKit
import Derived.ProofKit
import Derived.OpenShut
import Derived.ShutString
import Derived.ChangeOld
import Derived.Below
import Derived.SizedLaws
namespace Go.Proofs.Ytcljmlgbmjjldaa.sessionConsts
open Go.ChangeShapes Go.WideShapes Go.ChangeAt Go.RowKit Go.VC
open Go.Proofs.Ytcljmlgbmjjldaa.F
set_option linter.unusedVariables false
theorem num_calls (e : Int) (w : World) : Calls Try.prog 14 #[.int .i64 e] w fun r w' => r = .returned (.int .i64 e) ∧ w = w' :=
  v14 e w _ ⟨rfl, rfl⟩
theorem walk (w : World) : Calls Try.prog 3 #[] w fun e w' => e = .returned (.bool true) ∧ Below w.heap.size w w' := by
  refine v3 w _ ((num_calls 250 w).mono ?_)
  rintro r w' ⟨rfl, rfl⟩
  exact ⟨250, rfl, fun _ => ⟨rfl, Below.refl _ _⟩, fun h => by cases h⟩
theorem own : ownKnob Try.prog.godebug = none := by kernel_rfl
set_option maxRecDepth 100000 in
theorem lifted (os : Os) (started : os.Started) (H : Type) (enc : TypeId × Value → H) :
    ReturnsInHanded {} Try.checked os 3 .any (Rows.sessionConstsSpec.pre6 enc Try.prog Try.f3 Rows.sessionConstsRow.domain false) (Rows.sessionConstsSpec.post enc Try.prog Try.f3 false true false false) := by
  refine returnsInHanded_of_change_sized (C := Try.checked) own started (by kernel_rfl) Try.func3
    (ChangeSpec.witness6 (enc := enc) (C := Try.checked) false ⟨#[], #[], []⟩ 8 (by kernel_rfl) (by kernel_rfl) (by kernel_rfl) (by kernel_rfl)) ?_
  intro W base args ds gs before hval0 hW hcnd hsz0 _
  have hW' := hW
  obtain ⟨p, q, hA0, hV, rfl, hfz, hnd⟩ := hW
  have hA : DataW.TrodAll enc Try.prog W 0 (fun _ => true) true Try.f3.params.toList args.toList ds p := hA0
  rw [Try.params3] at hA
  obtain ⟨rfl, rfl, rfl⟩ := trodAll_none hA
  obtain ⟨rfl, rfl⟩ := trodVars_none hV
  refine (walk W).mono fun e W' ⟨he, bel⟩ => ?_
  subst he
  exact ⟨_, rfl, _, _, _, [], _, [], hW', trodAll_mk1 (shut_bool Try.underlying4 _), trodAll_mk0, rfl, bel.frame _, fun h => by cases h⟩
theorem over : Rows.sessionConstsRow.holds Try.pinned (OpenSpec.ofChange Rows.sessionConstsSpec) :=
  OpenClaim.holds_of_wide 3 Try.f3 rfl rfl rfl rfl rfl rfl rfl ⟨rfl, rfl, rfl, rfl, rfl⟩ rfl rfl rfl rfl rfl (by kernel_rfl) Try.func3 (by kernel_rfl)
    (of_decide_eq_true (by kernel_rfl)) (by unfold Func.isWrapper; first | (rw [if_pos (by decide +kernel)]; kernel_rfl) | (rw [if_neg (by decide +kernel)]; exact ⟨rfl, rfl⟩))
    (fun os started H enc _ => lifted os started H enc)
theorem proved : Rows.SessionConstsSaid := over
#print axioms proved
end Go.Proofs.Ytcljmlgbmjjldaa.sessionConsts
namespace Go.Proofs.Ytcljmlgbmjjldaa
/-- The row, under a short name, for the claim. -/
theorem sessionConsts_holds : Rows.SessionConstsSaid := sessionConsts.proved
end Go.Proofs.Ytcljmlgbmjjldaa
