/- DictScans, where what it reads is of bulk at most 1048576. -/
import Derived.Test.YtcljmlgbmjjldaaRowKit
import Derived.Test.YtcljmlgbmjjldaaWalkKit
import Derived.Test.YtcljmlgbmjjldaaDict16
import Derived.WalkKit
import Derived.ProofKit
import Derived.OpenShut
import Derived.JoinedCond
import Derived.ShutString
import Derived.ChangeOld
import Derived.Below
namespace Go.Proofs.Ytcljmlgbmjjldaa.dictScans
open Go.ChangeShapes Go.WideShapes Go.ChangeAt Go.RowKit Go.VC Go.Proofs.Ytcljmlgbmjjldaa
set_option linter.unusedVariables false
theorem own : ownKnob Try.prog.godebug = none := by kernel_rfl
theorem okTs : (Try.f6.params.toList.all (okT Try.prog 8)) = true := by kernel_rfl
set_option maxRecDepth 100000 in
theorem contract (H : Type) (enc : TypeId × Value → H) (W : World) (base : Nat) (args : Array Value) (ds gs : List (DataW H)) (before : List MemPlace)
    (hval : ∀ (j : Nat) t v, Try.f6.params[j]? = some t → args[j]? = some v → Value.okWide Try.prog W .any base t v)
    (hW : DataW.Whole enc Try.prog Try.f6.params.toList Rows.dictScansSpec.vars false W args.toList ds gs before) (hk : Rows.uptoSmall H (ds ++ gs) = true) :
    Calls Try.prog 6 args W fun e W' => ∃ v, e = .returned v ∧ Rows.dictScansSpec.post enc Try.prog Try.f6 false true false false W args v W' := by
  have hW' := hW
  obtain ⟨p, q, hA0, hV, rfl, hfz, hnd⟩ := hW
  have hA : DataW.TrodAll enc Try.prog W 0 (fun _ => true) true Try.f6.params.toList args.toList ds p := hA0
  have hAA := hA
  rw [Try.params6] at hA hval
  obtain ⟨v1, vs1, d1, ds1, a1, b1, e1, rfl, rfl, h1, hA2⟩ := trodAll_cons hA
  obtain ⟨e2, rfl, rfl⟩ := trodAll_none hA2
  obtain ⟨rfl, rfl⟩ := trodVars_none hV
  have hargs : args = #[v1] := by
    apply Array.ext'
    rw [e1, show vs1 = [] from congrArg Array.toList e2]
  subst hargs
  have o1 := hval 0 42 v1 rfl rfl
  simp only [Rows.uptoSmall, List.append_nil] at hk
  have hk := of_decide_eq_true hk
  simp only [Rows.uptoBulkAll] at hk
  obtain ⟨seed1, A1, c1, ahead1, B1, cB1, between1, n1, rfl, hops1, hok1, hopsB1, hokB1, hlen1, lo1, hi1⟩ := walk_open (okWide_struct Try.underlying42 o1) h1
  refine (scans_walk hops1 hok1 hopsB1 hokB1 (by omega) (by omega)).mono fun e W' ⟨he, ch⟩ => ?_
  subst he
  exact ⟨_, rfl, _, _, _, [], _, [], hW', trodAll_mk1 (shut_bool Try.underlying4 _), trodAll_ext ch.ext (fun b hb => by simpa using hb) okTs hAA, rfl, ch.below.frame _, fun h => by cases h⟩
set_option maxRecDepth 100000 in
theorem lifted (os : Os) (started : os.Started) (H : Type) (enc : TypeId × Value → H) (F : Stop.Interp) :
    ReturnsInHanded {} Try.checked os 6 .any ((Rows.OpenSpec.upto Rows.dictScansSpec).pre6 enc Try.prog Try.f6 Rows.dictScansUptoRow.domain false) (((Rows.OpenSpec.upto Rows.dictScansSpec).at F).post enc Try.prog Try.f6 false true false false) := by
  refine returnsInHanded_of_cond (C := Try.checked) (s := Rows.OpenSpec.upto Rows.dictScansSpec) (k := Rows.uptoSmall) rfl own started (by kernel_rfl) Try.func6
    (OpenSpec.witness (enc := enc) (C := Try.checked) (s := Rows.OpenSpec.upto Rows.dictScansSpec) (k := Rows.uptoSmall) rfl false ⟨#[], #[.agg #[.int .i64 0, .slice none 0 0, .slice none 0 0, .int .i64 0]], []⟩ 6 (by kernel_rfl) (by kernel_rfl) (by kernel_rfl)
      (x := ([.agg [.lit (.int .i64 0), .nil, .nil, .lit (.int .i64 0)]], [], [])) (by kernel_rfl) rfl (by kernel_rfl)) ?_
  intro W base args ds gs before hval hW _ hk _
  exact contract H enc W base args ds gs before hval hW hk
theorem over : Rows.dictScansUptoRow.holds Try.pinned (Rows.OpenSpec.upto Rows.dictScansSpec) :=
  OpenClaim.holds_of_cond 6 Try.f6 rfl rfl rfl rfl rfl rfl rfl ⟨rfl, rfl, rfl, rfl, rfl⟩ rfl rfl rfl rfl rfl (by kernel_rfl) Try.func6 (by kernel_rfl)
    (of_decide_eq_true (by kernel_rfl)) (by unfold Func.isWrapper; first | (rw [if_pos (by decide +kernel)]; kernel_rfl) | (rw [if_neg (by decide +kernel)]; exact ⟨rfl, rfl⟩))
    (fun os started H enc _ F => lifted os started H enc F)
theorem proved : Rows.DictScansUptoSaid := over
#print axioms proved
end Go.Proofs.Ytcljmlgbmjjldaa.dictScans
namespace Go.Proofs.Ytcljmlgbmjjldaa
/-- The row, under a short name, for the claim. -/
theorem dictScans_holds : Rows.DictScansUptoSaid := dictScans.proved
end Go.Proofs.Ytcljmlgbmjjldaa
