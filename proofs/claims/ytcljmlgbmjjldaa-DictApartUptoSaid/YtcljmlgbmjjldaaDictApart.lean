/- DictApart, where what it reads is of bulk at most 1048576. -/
import Derived.Test.YtcljmlgbmjjldaaRowKit
import Derived.Test.YtcljmlgbmjjldaaDict18
import Derived.WalkKit
import Derived.ProofKit
import Derived.OpenShut
import Derived.JoinedCond
import Derived.ShutString
import Derived.ChangeOld
import Derived.Below
namespace Go.Proofs.Ytcljmlgbmjjldaa.dictApart
open Go.ChangeShapes Go.WideShapes Go.ChangeAt Go.RowKit Go.VC Go.Proofs.Ytcljmlgbmjjldaa
set_option linter.unusedVariables false
theorem own : ownKnob Try.prog.godebug = none := by kernel_rfl
theorem okTs : (Try.f10.params.toList.all (okT Try.prog 8)) = true := by kernel_rfl
set_option maxRecDepth 100000 in
theorem contract (H : Type) (enc : TypeId × Value → H) (W : World) (base : Nat) (args : Array Value) (ds gs : List (DataW H)) (before : List MemPlace)
    (hval : ∀ (j : Nat) t v, Try.f10.params[j]? = some t → args[j]? = some v → Value.okWide Try.prog W .any base t v)
    (hW : DataW.Whole enc Try.prog Try.f10.params.toList Rows.dictApartSpec.vars false W args.toList ds gs before) (hk : Rows.uptoSmall H (ds ++ gs) = true) :
    Calls Try.prog 10 args W fun e W' => ∃ v, e = .returned v ∧ Rows.dictApartSpec.post enc Try.prog Try.f10 false true false false W args v W' := by
  have hW' := hW
  obtain ⟨p, q, hA0, hV, rfl, hfz, hnd⟩ := hW
  have hA : DataW.TrodAll enc Try.prog W 0 (fun _ => true) true Try.f10.params.toList args.toList ds p := hA0
  have hAA := hA
  rw [Try.params10] at hA hval
  obtain ⟨v1, vs1, d1, ds1, a1, b1, e1, rfl, rfl, h1, hA2⟩ := trodAll_cons hA
  obtain ⟨v2, vs2, d2, ds2, a2, b2, e2, rfl, rfl, h2, hA3⟩ := trodAll_cons hA2
  obtain ⟨v3, vs3, d3, ds3, a3, b3, e3, rfl, rfl, h3, hA4⟩ := trodAll_cons hA3
  obtain ⟨e4, rfl, rfl⟩ := trodAll_none hA4
  obtain ⟨rfl, rfl⟩ := trodVars_none hV
  have hargs : args = #[v1, v2, v3] := by
    apply Array.ext'
    rw [e1, e2, e3, show vs3 = [] from congrArg Array.toList e4]
  subst hargs
  have o1 := hval 0 3 v1 rfl rfl
  have o2 := hval 1 27 v2 rfl rfl
  have o3 := hval 2 27 v3 rfl rfl
  simp only [Rows.uptoSmall, List.append_nil] at hk
  have hk := of_decide_eq_true hk
  simp only [Rows.uptoBulkAll] at hk
  obtain ⟨n1, rfl, rfl, rfl, hw1⟩ := open_int Try.underlying3 o1 h1
  have x1 : -9223372036854775808 ≤ n1 ∧ n1 ≤ 9223372036854775807 := by simpa [Lit.wf, IntKind.min, IntKind.max, IntKind.signed, IntKind.bits] using hw1
  obtain ⟨A2, c2, ops2, rfl, hops2, hok2, hlen2⟩ := ops_open (okWide_slice Try.underlying27 o2) h2
  obtain ⟨A3, c3, ops3, rfl, hops3, hok3, hlen3⟩ := ops_open (okWide_slice Try.underlying27 o3) h3
  refine (apart_walk hops2 hok2 hops3 hok3 (by omega)).mono fun e W' ⟨he, ch⟩ => ?_
  subst he
  exact ⟨_, rfl, _, _, _, [], _, [], hW', trodAll_mk1 (shut_bool Try.underlying4 _), trodAll_ext ch.ext (fun b hb => by simpa using hb) okTs hAA, rfl, ch.below.frame _, fun h => by cases h⟩
set_option maxRecDepth 100000 in
theorem lifted (os : Os) (started : os.Started) (H : Type) (enc : TypeId × Value → H) (F : Stop.Interp) :
    ReturnsInHanded {} Try.checked os 10 .any ((Rows.OpenSpec.upto Rows.dictApartSpec).pre6 enc Try.prog Try.f10 Rows.dictApartUptoRow.domain false) (((Rows.OpenSpec.upto Rows.dictApartSpec).at F).post enc Try.prog Try.f10 false true false false) := by
  refine returnsInHanded_of_cond (C := Try.checked) (s := Rows.OpenSpec.upto Rows.dictApartSpec) (k := Rows.uptoSmall) rfl own started (by kernel_rfl) Try.func10
    (OpenSpec.witness (enc := enc) (C := Try.checked) (s := Rows.OpenSpec.upto Rows.dictApartSpec) (k := Rows.uptoSmall) rfl false ⟨#[], #[.int .i64 0, .slice none 0 0, .slice none 0 0], []⟩ 10 (by kernel_rfl) (by kernel_rfl) (by kernel_rfl)
      (x := ([.lit (.int .i64 0), .nil, .nil], [], [])) (by kernel_rfl) rfl (by kernel_rfl)) ?_
  intro W base args ds gs before hval hW _ hk _
  exact contract H enc W base args ds gs before hval hW hk
theorem over : Rows.dictApartUptoRow.holds Try.pinned (Rows.OpenSpec.upto Rows.dictApartSpec) :=
  OpenClaim.holds_of_cond 10 Try.f10 rfl rfl rfl rfl rfl rfl rfl ⟨rfl, rfl, rfl, rfl, rfl⟩ rfl rfl rfl rfl rfl (by kernel_rfl) Try.func10 (by kernel_rfl)
    (of_decide_eq_true (by kernel_rfl)) (by unfold Func.isWrapper; first | (rw [if_pos (by decide +kernel)]; kernel_rfl) | (rw [if_neg (by decide +kernel)]; exact ⟨rfl, rfl⟩))
    (fun os started H enc _ F => lifted os started H enc F)
theorem proved : Rows.DictApartUptoSaid := over
#print axioms proved
end Go.Proofs.Ytcljmlgbmjjldaa.dictApart
namespace Go.Proofs.Ytcljmlgbmjjldaa
/-- The row, under a short name, for the claim. -/
theorem dictApart_holds : Rows.DictApartUptoSaid := dictApart.proved
end Go.Proofs.Ytcljmlgbmjjldaa
