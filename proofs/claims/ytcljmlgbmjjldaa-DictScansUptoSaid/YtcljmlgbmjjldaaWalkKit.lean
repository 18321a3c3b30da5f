/- Rows: a walk (a struct with two slices of operations) opened. -/
import Derived.Test.YtcljmlgbmjjldaaRowKit
namespace Go.Proofs.Ytcljmlgbmjjldaa
open Go Go.VC Go.RowKit Go.ChangeShapes Go.WideShapes Go.Deep
set_option linter.unusedVariables false
set_option linter.unusedSimpArgs false
theorem ops_cell {H : Type} {enc : TypeId × Value → H} {W : World} {v : Value} {n : Nat} {x : DataW H × List MemPlace} (h : DataW.trod enc Try.prog W 0 (fun _ => true) true n 27 [v] = some x) :
    ∃ A c ops, v = .slice A (List.length ops) c ∧ OpsAt W A ops ∧ (∀ o ∈ ops, o.Ok) ∧ ops.length ≤ Rows.uptoBulk x.1 := by
  have hv : ∃ A n c, v = .slice A n c := by
    rcases open_slice Try.underlying27 h with ⟨e1, e2⟩ | ⟨a, len, cap, m, k, D, Pl, e1, _⟩
    · exact ⟨none, 0, 0, by simpa using e1⟩
    · exact ⟨some a, len, cap, by simpa using e1⟩
  refine ops_open (enc := enc) (d := x.1) (ps := x.2) hv ⟨n, ?_⟩
  obtain ⟨A, k, c, rfl⟩ := hv
  exact h
theorem walk_open {H : Type} {enc : TypeId × Value → H} {W : World} {v : Value} {d : DataW H} {ps : List MemPlace} (hv : ∃ cs, v = .agg cs ∧ cs.size = Try.prog.cellsOf 42) (h : DataW.Trod enc Try.prog W 0 (fun _ => true) true 42 v d ps) :
    ∃ seed A1 c1 ahead A2 c2 between n, v = .agg #[.int .i64 seed, .slice A1 (List.length ahead) c1, .slice A2 (List.length between) c2, .int .i64 n] ∧ OpsAt W A1 ahead ∧ (∀ o ∈ ahead, o.Ok) ∧ OpsAt W A2 between ∧ (∀ o ∈ between, o.Ok) ∧
      ahead.length + between.length ≤ Rows.uptoBulk d ∧ -9223372036854775808 ≤ n ∧ n ≤ 9223372036854775807 := by
  obtain ⟨cs, rfl, hcs⟩ := hv
  obtain ⟨fuel, hf⟩ := h
  have hcs4 : cs.size = 4 := hcs.trans (by kernel_rfl)
  have hf' : DataW.trod enc Try.prog W 0 (fun _ => true) true fuel 42 cs.toList = some (d, ps) := hf
  obtain ⟨xs, k', hk, hxy, hlen, hxl, hff⟩ := DataW.trod_struct Try.underlying42 hf'
  have hl4 : cs.toList.length = 4 := by simpa using hcs4
  match hm : cs.toList, hl4 with
  | [v0, v1, v2, v3], _ =>
    match xs, hxl with
    | [y0, y1, y2, y3], _ =>
      have g0 := hff 0 _ rfl
      have g1 := hff 1 _ rfl
      have g2 := hff 2 _ rfl
      have g3 := hff 3 _ rfl
      have c3 : Try.prog.cellsOf 3 = 1 := by kernel_rfl
      have c27 : Try.prog.cellsOf 27 = 1 := by kernel_rfl
      simp [hm, c3, c27] at g0 g1 g2 g3
      obtain ⟨n0, i0, _, w0⟩ := DataW.trod_int Try.underlying3 g0
      obtain ⟨n3, i3, _, w3⟩ := DataW.trod_int Try.underlying3 g3
      obtain ⟨A1, p1, ops1, rfl, a1, a2, a3⟩ := ops_cell g1
      obtain ⟨A2, p2, ops2, rfl, b1, b2, b3⟩ := ops_cell g2
      simp at i0 i3
      subst i0; subst i3
      have x3 : -9223372036854775808 ≤ n3 ∧ n3 ≤ 9223372036854775807 := by simpa [Lit.wf, IntKind.min, IntKind.max, IntKind.signed, IntKind.bits] using w3
      refine ⟨n0, A1, p1, ops1, A2, p2, ops2, n3, congrArg Value.agg (Array.ext' hm), a1, a2, b1, b2, ?_, x3.1, x3.2⟩
      have : d = .agg [y0.1, y1.1, y2.1, y3.1] := congrArg Prod.fst hxy
      rw [this]
      simp only [Rows.uptoBulk, Rows.uptoBulkAll]
      omega
end Go.Proofs.Ytcljmlgbmjjldaa
