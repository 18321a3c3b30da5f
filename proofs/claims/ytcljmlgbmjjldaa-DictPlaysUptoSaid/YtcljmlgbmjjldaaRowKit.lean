/- Rows: slices of operations opened. -/
import Derived.Test.YtcljmlgbmjjldaaDict12
import Derived.Test.YtcljmlgbmjjldaaReads
import Derived.Test.YtcljmlgbmjjldaaRows
import Derived.Deep.Slices
import Derived.Deep.SlicePairs
import Derived.KernelRfl
namespace Go.Proofs.Ytcljmlgbmjjldaa
open Go Go.VC Go.RowKit Go.ChangeShapes Go.WideShapes Go.Deep
set_option linter.unusedVariables false
set_option linter.unusedSimpArgs false
instance : Inhabited Op := ⟨⟨0, ByteArray.empty, 0⟩⟩
theorem one_le {H : Type} (d : DataW H) : 1 ≤ Rows.uptoBulk d := by
  cases d with
  | lit l => cases l <;> simp [Rows.uptoBulk]
  | nil => simp [Rows.uptoBulk]
  | ptr d => simp [Rows.uptoBulk]
  | slice elems spare => simp [Rows.uptoBulk]
  | agg parts => simp [Rows.uptoBulk]
  | iface t d => simp [Rows.uptoBulk]
  | map entries => simp [Rows.uptoBulk]
  | held h => simp [Rows.uptoBulk]
theorem length_le {H : Type} (l : List (DataW H)) : l.length ≤ Rows.uptoBulkAll l := by
  induction l with
  | nil => simp [Rows.uptoBulkAll]
  | cons x r ih => have := one_le x; simp only [Rows.uptoBulkAll, List.length_cons]; omega
theorem ops_open' {H : Type} {enc : TypeId × Value → H} {P : Program} {t e : TypeId} {f0 f1 f2 : Field} (ht : P.underlying t = some (.slice e)) (hs : P.underlying e = some (.struct #[f0, f1, f2])) (ce : P.cellsOf e = 3) (o0 : f0.offset = 0) (o1 : f1.offset = 1) (o2 : f2.offset = 2)
    (c0 : P.cellsOf f0.type = 1) (c1 : P.cellsOf f1.type = 1) (c2 : P.cellsOf f2.type = 1) (t0 : P.underlying f0.type = some (.int .i64)) (t1 : P.underlying f1.type = some .string) (t2 : P.underlying f2.type = some (.int .i64))
    {W : World} {v : Value} {d : DataW H} {ps : List MemPlace} (hv : ∃ A n c, v = .slice A n c) (h : DataW.Trod enc P W 0 (fun _ => true) true t v d ps) :
    ∃ A c ops, v = .slice A (List.length ops) c ∧ OpsAt W A ops ∧ (∀ o ∈ ops, o.Ok) ∧ ops.length ≤ Rows.uptoBulk d := by
  obtain ⟨A, n, c, rfl⟩ := hv
  obtain ⟨fuel, hf⟩ := h
  rcases open_slice ht hf with ⟨e1, e2⟩ | ⟨a, len, cap, m, k, D, Pl, e1, hb, hl, hm, hmm, e2, hx⟩
  · simp [Value.cells] at e1
    obtain ⟨rfl, rfl, rfl⟩ := e1
    exact ⟨none, 0, [], rfl, fun j o ho => by simp at ho, fun o ho => (by cases ho), Nat.zero_le _⟩
  · simp [Value.cells] at e1
    obtain ⟨rfl, rfl, rfl⟩ := e1
    have hlm : n ≤ m := by rw [hmm]; simpa using hl
    have each : ∀ i, i < n → ∃ o : Op, W.cell? (a.add (i * 3)) = some (.int .i64 o.kind) ∧ W.cell? ((a.add (i * 3)).add 1) = some (.string o.key) ∧ W.cell? ((a.add (i * 3)).add 2) = some (.int .i64 o.n) ∧ o.Ok := by
      intro i hi
      obtain ⟨cs', h1, h2⟩ := hx i (by omega)
      rw [ce] at h1
      obtain ⟨_, hlen, hcell⟩ := World.cells?_some h1
      obtain ⟨xs, k', hk, hxy, _, hxl, hff⟩ := DataW.trod_struct hs h2
      match xs, hxl, cs', hlen with
      | [y0, y1, y2], _, [v0, v1, v2], _ =>
        have g0 := hff 0 _ rfl
        have g1 := hff 1 _ rfl
        have g2 := hff 2 _ rfl
        simp [o0, o1, o2, c0, c1, c2] at g0 g1 g2
        obtain ⟨n0, i0, _, w0⟩ := DataW.trod_int t0 g0
        obtain ⟨s1, i1, _, w1⟩ := DataW.trod_string t1 g1
        obtain ⟨n2, i2, _, w2⟩ := DataW.trod_int t2 g2
        simp at i0 i1 i2
        subst i0; subst i1; subst i2
        have q0 := hcell 0 (by omega)
        have q1 := hcell 1 (by omega)
        have q2 := hcell 2 (by omega)
        have x0 : -9223372036854775808 ≤ n0 ∧ n0 ≤ 9223372036854775807 := by simpa [Lit.wf, IntKind.min, IntKind.max, IntKind.signed, IntKind.bits] using w0
        have x2 : -9223372036854775808 ≤ n2 ∧ n2 ≤ 9223372036854775807 := by simpa [Lit.wf, IntKind.min, IntKind.max, IntKind.signed, IntKind.bits] using w2
        refine ⟨⟨n0, s1, n2⟩, ?_, by simpa using q1, by simpa using q2, ⟨x0.1, (by show n0 < 9223372036854775808; omega), (by unfold maxLen at w1; show s1.size < 9223372036854775808; omega), x2.1, (by show n2 < 9223372036854775808; omega)⟩⟩
        have e0 : (a.add (i * 3)).add 0 = a.add (i * 3) := by unfold Addr.add; split <;> (try split) <;> simp_all
        rw [e0] at q0; simpa using q0
    have each' : ∀ i, ∃ o : Op, i < n → (W.cell? (a.add (i * 3)) = some (.int .i64 o.kind) ∧ W.cell? ((a.add (i * 3)).add 1) = some (.string o.key) ∧ W.cell? ((a.add (i * 3)).add 2) = some (.int .i64 o.n) ∧ o.Ok) := fun i => by
      by_cases hi : i < n
      · obtain ⟨o, ho⟩ := each i hi; exact ⟨o, fun _ => ho⟩
      · exact ⟨default, fun h => absurd h hi⟩
    have hq := fun i => (each' i).choose_spec
    refine ⟨some a, c, (List.range n).map fun i => (each' i).choose, by simp, fun j o ho => ?_, fun o ho => ?_, ?_⟩
    · have hj : j < n := by
        have := (List.getElem?_eq_some_iff.1 ho).1; simpa using this
      have : o = (each' j).choose := by simpa [hj] using ho.symm
      subst this
      have := hq j hj
      exact ⟨a, rfl, this.1, this.2.1, this.2.2.1⟩
    · obtain ⟨j, hj, rfl⟩ := List.mem_map.1 ho
      exact (hq j (List.mem_range.1 hj)).2.2.2
    · have : d = .slice ((List.range n).map D) ((List.range (m - n)).map fun j => D (n + j)) := congrArg Prod.fst e2
      rw [this]
      simp only [Rows.uptoBulk]
      have := length_le ((List.range n).map D)
      simp at this ⊢; omega
theorem ops_open {H : Type} {enc : TypeId × Value → H} {W : World} {v : Value} {d : DataW H} {ps : List MemPlace} (hv : ∃ A n c, v = .slice A n c) (h : DataW.Trod enc Try.prog W 0 (fun _ => true) true 27 v d ps) :
    ∃ A c ops, v = .slice A (List.length ops) c ∧ OpsAt W A ops ∧ (∀ o ∈ ops, o.Ok) ∧ ops.length ≤ Rows.uptoBulk d :=
  ops_open' Try.underlying27 Try.underlying33 (by kernel_rfl) rfl rfl rfl (by kernel_rfl) (by kernel_rfl) (by kernel_rfl) Try.underlying3 Try.underlying9 Try.underlying3 hv h
end Go.Proofs.Ytcljmlgbmjjldaa
