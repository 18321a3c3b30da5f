/- DictHashes: of every seed and every text the dict's hash is the document's. -/
import Derived.Test.YtcljmlgbmjjldaaRows
import Derived.Test.YtcljmlgbmjjldaaDictW
import Derived.WalkKit
import Derived.ProofKit
import Derived.OpenShut
import Derived.ShutString
import Derived.ChangeOld
import Derived.Below
import Derived.SizedLaws
namespace Go.Proofs.Ytcljmlgbmjjldaa.dictHashes
open Go.ChangeShapes Go.WideShapes Go.ChangeAt Go.RowKit Go.VC
open Go.Proofs.Ytcljmlgbmjjldaa.F
set_option linter.unusedVariables false
theorem walk (seed : Int) (s : ByteArray) (hs : s.size < 9223372036854775808) (w : World) : Calls Try.prog 4 #[.int .i64 seed, .string s] w fun e w' => e = .returned (.bool true) ∧ Below w.heap.size w w' := by
  refine v4 seed s w _ ((works_ok w).mono ?_)
  rintro e w1 ⟨rfl, c1⟩
  refine ⟨_, rfl, fun _ => ?_, fun h => (by cases h)⟩
  refine (hash_ok hs w1).mono ?_
  rintro e w2 ⟨rfl, rfl⟩
  refine ⟨_, rfl, (refHash_ok hs w1).mono ?_⟩
  rintro e w3 ⟨rfl, rfl⟩
  exact ⟨_, rfl, by rw [beq_self_eq_true], c1.below⟩
theorem own : ownKnob Try.prog.godebug = none := by kernel_rfl
set_option maxRecDepth 100000 in
theorem lifted (os : Os) (started : os.Started) (H : Type) (enc : TypeId × Value → H) :
    ReturnsInHanded {} Try.checked os 4 .any (Rows.dictHashesSpec.pre6 enc Try.prog Try.f4 Rows.dictHashesRow.domain false) (Rows.dictHashesSpec.post enc Try.prog Try.f4 false true false false) := by
  refine returnsInHanded_of_change_sized (C := Try.checked) own started (by kernel_rfl) Try.func4
    (ChangeSpec.witness6 (enc := enc) (C := Try.checked) false ⟨#[], #[.int .i64 0, .string ByteArray.empty], []⟩ 8 (by kernel_rfl) (by kernel_rfl) (by kernel_rfl) (by kernel_rfl)) ?_
  intro W base args ds gs before hval0 hW hcnd hsz0 _
  have hW' := hW
  obtain ⟨p, q, hA0, hV, rfl, hfz, hnd⟩ := hW
  have hA : DataW.TrodAll enc Try.prog W 0 (fun _ => true) true Try.f4.params.toList args.toList ds p := hA0
  rw [Try.params4] at hA
  obtain ⟨v1, vs1, d1, ds1, a1, b1, e1, rfl, rfl, h1, hA2⟩ := trodAll_cons hA
  obtain ⟨v2, vs2, d2, ds2, a2, b2, e2, rfl, rfl, h2, hA3⟩ := trodAll_cons hA2
  obtain ⟨e3, rfl, rfl⟩ := trodAll_none hA3
  obtain ⟨rfl, rfl⟩ := trodVars_none hV
  have hargs : args = #[v1, v2] := by
    apply Array.ext'
    rw [e1, e2, show vs2 = [] from congrArg Array.toList e3]
  subst hargs
  have o1 := hval0 0 3 v1 (by rw [Array.getElem?_eq_some_iff]; exact ⟨by decide, rfl⟩) rfl
  have o2 := hval0 1 9 v2 (by rw [Array.getElem?_eq_some_iff]; exact ⟨by decide, rfl⟩) rfl
  obtain ⟨n, rfl, rfl, rfl, hw1⟩ := open_int Try.underlying3 o1 h1
  obtain ⟨s, rfl, rfl, rfl, hs⟩ := Go.ChangeMaps.open_string Try.underlying9 o2 h2
  refine (walk n s (by unfold maxLen at hs; omega) W).mono fun e W' ⟨he, bel⟩ => ?_
  subst he
  exact ⟨_, rfl, _, _, _, [], _, [], hW', trodAll_mk1 (shut_bool Try.underlying4 _), trodAll_cons_mk (shut_int Try.underlying3 hw1) (trodAll_mk1 (Go.ChangeMaps.shut_string Try.underlying9 hs)), rfl, bel.frame _, fun h => by cases h⟩
theorem over : Rows.dictHashesRow.holds Try.pinned (OpenSpec.ofChange Rows.dictHashesSpec) :=
  OpenClaim.holds_of_wide 4 Try.f4 rfl rfl rfl rfl rfl rfl rfl ⟨rfl, rfl, rfl, rfl, rfl⟩ rfl rfl rfl rfl rfl (by kernel_rfl) Try.func4 (by kernel_rfl)
    (of_decide_eq_true (by kernel_rfl)) (by unfold Func.isWrapper; first | (rw [if_pos (by decide +kernel)]; kernel_rfl) | (rw [if_neg (by decide +kernel)]; exact ⟨rfl, rfl⟩))
    (fun os started H enc _ => lifted os started H enc)
theorem proved : Rows.DictHashesSaid := over
#print axioms proved
end Go.Proofs.Ytcljmlgbmjjldaa.dictHashes
namespace Go.Proofs.Ytcljmlgbmjjldaa
/-- The row, under a short name, for the claim. -/
theorem dictHashes_holds : Rows.DictHashesSaid := dictHashes.proved
end Go.Proofs.Ytcljmlgbmjjldaa
