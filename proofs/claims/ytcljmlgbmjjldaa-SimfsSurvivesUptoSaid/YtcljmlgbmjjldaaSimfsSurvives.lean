/- SimfsSurvives, where what it reads is of bulk at most 1048576. -/
import Derived.Test.YtcljmlgbmjjldaaFsOpen
import Derived.Test.YtcljmlgbmjjldaaSimfs13
import Derived.WalkKit
import Derived.ProofKit
import Derived.OpenShut
import Derived.JoinedCond
import Derived.ShutString
import Derived.ChangeOld
import Derived.Below
namespace Go.Proofs.Ytcljmlgbmjjldaa.simfsSurvives
open Go.ChangeShapes Go.WideShapes Go.ChangeAt Go.RowKit Go.VC Go.Proofs.Ytcljmlgbmjjldaa Go.Proofs.Ytcljmlgbmjjldaa.Fs
set_option linter.unusedVariables false
theorem own : ownKnob Try.prog.godebug = none := by kernel_rfl
theorem okTs : (Try.f11.params.toList.all (okT Try.prog 8)) = true := by kernel_rfl
set_option maxRecDepth 100000 in
theorem contract (H : Type) (enc : TypeId × Value → H) (W : World) (base : Nat) (args : Array Value) (ds gs : List (DataW H)) (before : List MemPlace)
    (hval : ∀ (j : Nat) t v, Try.f11.params[j]? = some t → args[j]? = some v → Value.okWide Try.prog W .any base t v)
    (hW : DataW.Whole enc Try.prog Try.f11.params.toList Rows.simfsSurvivesSpec.vars false W args.toList ds gs before) (hk : Rows.uptoSmall H (ds ++ gs) = true) :
    Calls Try.prog 11 args W fun e W' => ∃ v, e = .returned v ∧ Rows.simfsSurvivesSpec.post enc Try.prog Try.f11 false true false false W args v W' := by
  have hW' := hW
  obtain ⟨p, q, hA0, hV, rfl, hfz, hnd⟩ := hW
  have hA : DataW.TrodAll enc Try.prog W 0 (fun _ => true) true Try.f11.params.toList args.toList ds p := hA0
  have hAA := hA
  rw [Try.params11] at hA hval
  obtain ⟨v1, vs1, d1, ds1, a1, b1, e1, rfl, rfl, h1, hA2⟩ := trodAll_cons hA
  obtain ⟨v2, vs2, d2, ds2, a2, b2, e2, rfl, rfl, h2, hA3⟩ := trodAll_cons hA2
  obtain ⟨e3, rfl, rfl⟩ := trodAll_none hA3
  obtain ⟨rfl, rfl⟩ := trodVars_none hV
  have hargs : args = #[v1, v2] := by
    apply Array.ext'
    rw [e1, e2, show vs2 = [] from congrArg Array.toList e3]
  subst hargs
  have o1 := hval 0 68 v1 rfl rfl
  have o2 := hval 1 31 v2 rfl rfl
  simp only [Rows.uptoSmall, List.append_nil] at hk
  have hk := of_decide_eq_true hk
  simp only [Rows.uptoBulkAll] at hk
  obtain ⟨A1, c1, ops1, rfl, hops1, hok1, hlen1⟩ := fops_open (okWide_slice Try.underlying68 o1) h1
  obtain ⟨A2, n2, c2, l2, rfl, hl2, hlen2⟩ := ints_open (okWide_slice Try.underlying31 o2) h2
  refine (survives_walk hops1 (fun o ho => (hok1 o ho).mono (by omega)) (by omega) hl2 (by omega)).mono fun e W' ⟨he, ch⟩ => ?_
  subst he
  exact ⟨_, rfl, _, _, _, [], _, [], hW', trodAll_mk1 (shut_bool Try.underlying4 _), trodAll_ext ch.ext (fun b hb => by simpa using hb) okTs hAA, rfl, ch.below.frame _, fun h => by cases h⟩
set_option maxRecDepth 100000 in
theorem lifted (os : Os) (started : os.Started) (H : Type) (enc : TypeId × Value → H) (F : Stop.Interp) :
    ReturnsInHanded {} Try.checked os 11 .any ((Rows.OpenSpec.upto Rows.simfsSurvivesSpec).pre6 enc Try.prog Try.f11 Rows.simfsSurvivesUptoRow.domain false) (((Rows.OpenSpec.upto Rows.simfsSurvivesSpec).at F).post enc Try.prog Try.f11 false true false false) := by
  refine returnsInHanded_of_cond (C := Try.checked) (s := Rows.OpenSpec.upto Rows.simfsSurvivesSpec) (k := Rows.uptoSmall) rfl own started (by kernel_rfl) Try.func11
    (OpenSpec.witness (enc := enc) (C := Try.checked) (s := Rows.OpenSpec.upto Rows.simfsSurvivesSpec) (k := Rows.uptoSmall) rfl false ⟨#[], #[.slice none 0 0, .slice none 0 0], []⟩ 11 (by kernel_rfl) (by kernel_rfl) (by kernel_rfl)
      (x := ([.nil, .nil], [], [])) (by kernel_rfl) rfl (by kernel_rfl)) ?_
  intro W base args ds gs before hval hW _ hk _
  exact contract H enc W base args ds gs before hval hW hk
theorem over : Rows.simfsSurvivesUptoRow.holds Try.pinned (Rows.OpenSpec.upto Rows.simfsSurvivesSpec) :=
  OpenClaim.holds_of_cond 11 Try.f11 rfl rfl rfl rfl rfl rfl rfl ⟨rfl, rfl, rfl, rfl, rfl⟩ rfl rfl rfl rfl rfl (by kernel_rfl) Try.func11 (by kernel_rfl)
    (of_decide_eq_true (by kernel_rfl)) (by unfold Func.isWrapper; first | (rw [if_pos (by decide +kernel)]; kernel_rfl) | (rw [if_neg (by decide +kernel)]; exact ⟨rfl, rfl⟩))
    (fun os started H enc _ F => lifted os started H enc F)
theorem proved : Rows.SimfsSurvivesUptoSaid := over
#print axioms proved
end Go.Proofs.Ytcljmlgbmjjldaa.simfsSurvives
namespace Go.Proofs.Ytcljmlgbmjjldaa
/-- The row, under a short name, for the claim. -/
theorem simfsSurvives_holds : Rows.SimfsSurvivesUptoSaid := simfsSurvives.proved
end Go.Proofs.Ytcljmlgbmjjldaa
