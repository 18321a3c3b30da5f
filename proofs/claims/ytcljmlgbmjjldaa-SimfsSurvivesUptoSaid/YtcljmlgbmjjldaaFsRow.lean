/- Rows: scripts of the file system opened. -/
import Derived.Test.YtcljmlgbmjjldaaSimfs12
import Derived.Test.YtcljmlgbmjjldaaReads
import Derived.Test.YtcljmlgbmjjldaaRows
import Derived.Deep.Slices
import Derived.Deep.SlicePairs
import Derived.KernelRfl
namespace Go.Proofs.Ytcljmlgbmjjldaa.Fs
open Go Go.VC Go.RowKit Go.ChangeShapes Go.WideShapes Go.Deep
set_option linter.unusedVariables false
set_option linter.unusedSimpArgs false
instance : Inhabited FOp := ⟨⟨0, ByteArray.empty, ByteArray.empty, ByteArray.empty, 0, 0, []⟩⟩
theorem one_le {H : Type} (d : DataW H) : 1 ≤ Rows.uptoBulk d := by
  cases d with
  | lit l => cases l <;> simp [Rows.uptoBulk]
  | nil => simp [Rows.uptoBulk]
  | ptr d => simp [Rows.uptoBulk]
  | slice elems spare => simp [Rows.uptoBulk]
  | agg parts => simp [Rows.uptoBulk]
  | iface t d => simp [Rows.uptoBulk]
  | map entries => simp [Rows.uptoBulk]
  | held h => simp [Rows.uptoBulk]
theorem length_le {H : Type} (l : List (DataW H)) : l.length ≤ Rows.uptoBulkAll l := by
  induction l with
  | nil => simp [Rows.uptoBulkAll]
  | cons x r ih => have := one_le x; simp only [Rows.uptoBulkAll, List.length_cons]; omega
theorem mem_le {H : Type} {x : DataW H} {l : List (DataW H)} (h : x ∈ l) : Rows.uptoBulk x ≤ Rows.uptoBulkAll l := by
  induction l with
  | nil => cases h
  | cons y r ih =>
    simp only [Rows.uptoBulkAll]
    rcases List.mem_cons.1 h with rfl | h
    · omega
    · have := ih h; omega
section
variable {H : Type} {enc : TypeId × Value → H} {P : Program} {W : World}
theorem ints_open' {t e : TypeId} (ht : P.underlying t = some (.slice e)) (he : P.underlying e = some (.int .i64)) (ce : P.cellsOf e = 1) {fuel : Nat} {v : Value} {x : DataW H × List MemPlace}
    (h : DataW.trod enc P W 0 (fun _ => true) true fuel t [v] = some x) : ∃ A n c l, v = .slice A n c ∧ n = List.length l ∧ Rd W v (ints l) ∧ l.length ≤ Rows.uptoBulk x.1 := by
  rcases open_slice ht h with ⟨e1, e2⟩ | ⟨a, len, cap, m, k, D, Pl, e1, hb, hl, hm, hmm, e2, hx⟩
  · simp at e1
    subst e1
    exact ⟨none, 0, 0, [], rfl, rfl, ⟨none, 0, rfl, Nat.le_refl _, .inl ⟨rfl, rfl, rfl⟩⟩, Nat.zero_le _⟩
  · simp at e1
    subst e1
    have hlm : len ≤ m := by rw [hmm]; simpa using hl
    have each : ∀ i, i < len → ∃ z : Int, W.cell? (a.add i) = some (.int .i64 z) := by
      intro i hi
      obtain ⟨cs', h1, h2⟩ := hx i (by omega)
      rw [ce] at h1
      obtain ⟨_, hlen, hcell⟩ := World.cells?_some h1
      match cs', hlen with
      | [v0], _ =>
        obtain ⟨n0, i0, _, w0⟩ := DataW.trod_int he h2
        simp at i0
        subst i0
        have q0 := hcell 0 (by omega)
        have e0 : (a.add (i * 1)).add 0 = a.add i := by rw [Nat.mul_one]; unfold Addr.add; split <;> (try split) <;> simp_all
        rw [e0] at q0
        exact ⟨n0, by simpa using q0⟩
    have each' : ∀ i, ∃ z : Int, i < len → W.cell? (a.add i) = some (.int .i64 z) := fun i => by
      by_cases hi : i < len
      · obtain ⟨z, hz⟩ := each i hi; exact ⟨z, fun _ => hz⟩
      · exact ⟨0, fun h => absurd h hi⟩
    have hq := fun i => (each' i).choose_spec
    refine ⟨some a, len, cap, (List.range len).map fun i => (each' i).choose, rfl, by simp, ⟨some a, cap, by simp [ints], by simpa [ints] using hl, .inr ⟨a, rfl, fun j u hj => ?_⟩⟩, ?_⟩
    · have hjl : j < len := by
        have := (List.getElem?_eq_some_iff.1 hj).1; simpa [ints] using this
      have : u = .int .i64 (each' j).choose := by simpa [ints, hjl] using hj.symm
      rw [this]; exact hq j hjl
    · rw [e2]
      simp only [Rows.uptoBulk]
      have := length_le ((List.range len).map D)
      simp at this ⊢; omega
/-- the calls that stand behind a slice's address -/
def FOpsAt (w : World) (A : Option Addr) (ops : List FOp) : Prop :=
  ∀ (j : Nat) (o : FOp), ops[j]? = some o → ∃ a, A = some a ∧ w.cell? (a.add (j * 7)) = some (.int .i64 o.kind) ∧ w.cell? ((a.add (j * 7)).add 1) = some (.string o.name) ∧ w.cell? ((a.add (j * 7)).add 2) = some (.string o.to) ∧
    w.cell? ((a.add (j * 7)).add 3) = some (.string o.data) ∧ w.cell? ((a.add (j * 7)).add 4) = some (.int .i64 o.n) ∧ w.cell? ((a.add (j * 7)).add 5) = some (.int .i64 o.part) ∧
    ∃ B n c, w.cell? ((a.add (j * 7)).add 6) = some (.slice B n c) ∧ Rd w (.slice B n c) (ints o.picks)
theorem FOpsAt.chg {w w' : World} {A : Option Addr} {ops : List FOp} (h : FOpsAt w A ops) (hc : Chg (fun _ => False) w w') : FOpsAt w' A ops := fun j o ho => by
  obtain ⟨a, e, h0, h1, h2, h3, h4, h5, B, n, c, h6, h7⟩ := h j o ho
  exact ⟨a, e, cell_chg hc id h0, cell_chg hc id h1, cell_chg hc id h2, cell_chg hc id h3, cell_chg hc id h4, cell_chg hc id h5, B, n, c, cell_chg hc id h6, h7.chg hc fun _ _ h => h⟩
structure FOp.Fit (o : FOp) (N : Nat) : Prop where
  name : o.name.size < 9223372036854775808
  to : o.to.size < 9223372036854775808
  data : o.data.size < 9223372036854775808
  picks : o.picks.length ≤ N
theorem fops_open' {t e ti : TypeId} {f0 f1 f2 f3 f4 f5 f6 : Field} (ht : P.underlying t = some (.slice e)) (hs : P.underlying e = some (.struct #[f0, f1, f2, f3, f4, f5, f6])) (ce : P.cellsOf e = 7)
    (of : f0.offset = 0 ∧ f1.offset = 1 ∧ f2.offset = 2 ∧ f3.offset = 3 ∧ f4.offset = 4 ∧ f5.offset = 5 ∧ f6.offset = 6)
    (cf : P.cellsOf f0.type = 1 ∧ P.cellsOf f1.type = 1 ∧ P.cellsOf f2.type = 1 ∧ P.cellsOf f3.type = 1 ∧ P.cellsOf f4.type = 1 ∧ P.cellsOf f5.type = 1 ∧ P.cellsOf f6.type = 1)
    (t0 : P.underlying f0.type = some (.int .i64)) (t1 : P.underlying f1.type = some .string) (t2 : P.underlying f2.type = some .string) (t3 : P.underlying f3.type = some .string) (t4 : P.underlying f4.type = some (.int .i64)) (t5 : P.underlying f5.type = some (.int .i64))
    (t6 : P.underlying f6.type = some (.slice ti)) (ti0 : P.underlying ti = some (.int .i64)) (tic : P.cellsOf ti = 1)
    {v : Value} {d : DataW H} {ps : List MemPlace} (h : DataW.Trod enc P W 0 (fun _ => true) true t v d ps) (hv : ∃ A n c, v = .slice A n c) :
    ∃ A c ops, v = .slice A (List.length ops) c ∧ FOpsAt W A ops ∧ (∀ o ∈ ops, FOp.Fit o (Rows.uptoBulk d)) ∧ ops.length ≤ Rows.uptoBulk d := by
  obtain ⟨A, n, c, rfl⟩ := hv
  obtain ⟨fuel, hf⟩ := h
  rcases open_slice ht hf with ⟨e1, e2⟩ | ⟨a, len, cap, m, k, D, Pl, e1, hb, hl, hm, hmm, e2, hx⟩
  · simp [Value.cells] at e1
    obtain ⟨rfl, rfl, rfl⟩ := e1
    exact ⟨none, 0, [], rfl, fun j o ho => by simp at ho, fun o ho => (by cases ho), Nat.zero_le _⟩
  · simp [Value.cells] at e1
    obtain ⟨rfl, rfl, rfl⟩ := e1
    have hlm : n ≤ m := by rw [hmm]; simpa using hl
    have hd : d = .slice ((List.range n).map D) ((List.range (m - n)).map fun j => D (n + j)) := congrArg Prod.fst e2
    have hDle : ∀ i, i < n → Rows.uptoBulk (D i) ≤ Rows.uptoBulk d := fun i hi => by
      rw [hd]
      simp only [Rows.uptoBulk]
      have := mem_le (x := D i) (l := (List.range n).map D) (List.mem_map.2 ⟨i, List.mem_range.2 hi, rfl⟩)
      omega
    have hnle : n ≤ Rows.uptoBulk d := by
      rw [hd]
      simp only [Rows.uptoBulk]
      have := length_le ((List.range n).map D)
      simp at this ⊢; omega
    obtain ⟨o0, o1, o2, o3, o4, o5, o6⟩ := of
    obtain ⟨c0, c1, c2, c3, c4, c5, c6⟩ := cf
    have each : ∀ i, i < n → ∃ o : FOp, (W.cell? (a.add (i * 7)) = some (.int .i64 o.kind) ∧ W.cell? ((a.add (i * 7)).add 1) = some (.string o.name) ∧ W.cell? ((a.add (i * 7)).add 2) = some (.string o.to) ∧
        W.cell? ((a.add (i * 7)).add 3) = some (.string o.data) ∧ W.cell? ((a.add (i * 7)).add 4) = some (.int .i64 o.n) ∧ W.cell? ((a.add (i * 7)).add 5) = some (.int .i64 o.part) ∧
        ∃ B n c, W.cell? ((a.add (i * 7)).add 6) = some (.slice B n c) ∧ Rd W (.slice B n c) (ints o.picks)) ∧ FOp.Fit o (Rows.uptoBulk d) := by
      intro i hi
      obtain ⟨cs', h1, h2⟩ := hx i (by omega)
      rw [ce] at h1
      obtain ⟨_, hlen, hcell⟩ := World.cells?_some h1
      obtain ⟨xs, k', hk, hxy, _, hxl, hff⟩ := DataW.trod_struct hs h2
      match xs, hxl, cs', hlen with
      | [y0, y1, y2, y3, y4, y5, y6], _, [v0, v1, v2, v3, v4, v5, v6], _ =>
        have g0 := hff 0 _ rfl
        have g1 := hff 1 _ rfl
        have g2 := hff 2 _ rfl
        have g3 := hff 3 _ rfl
        have g4 := hff 4 _ rfl
        have g5 := hff 5 _ rfl
        have g6 := hff 6 _ rfl
        simp [o0, o1, o2, o3, o4, o5, o6, c0, c1, c2, c3, c4, c5, c6] at g0 g1 g2 g3 g4 g5 g6
        obtain ⟨n0, i0, _, w0⟩ := DataW.trod_int t0 g0
        obtain ⟨s1, i1, _, w1⟩ := DataW.trod_string t1 g1
        obtain ⟨s2, i2, _, w2⟩ := DataW.trod_string t2 g2
        obtain ⟨s3, i3, _, w3⟩ := DataW.trod_string t3 g3
        obtain ⟨n4, i4, _, w4⟩ := DataW.trod_int t4 g4
        obtain ⟨n5, i5, _, w5⟩ := DataW.trod_int t5 g5
        obtain ⟨B, bn, bc, l, rfl, hbl, hrd, hbulk⟩ := ints_open' t6 ti0 tic g6
        simp at i0 i1 i2 i3 i4 i5
        subst i0; subst i1; subst i2; subst i3; subst i4; subst i5
        have q0 := hcell 0 (by omega)
        have e0 : (a.add (i * 7)).add 0 = a.add (i * 7) := by unfold Addr.add; split <;> (try split) <;> simp_all
        rw [e0] at q0
        refine ⟨⟨n0, s1, s2, s3, n4, n5, l⟩, ⟨by simpa using q0, by simpa using hcell 1 (by omega), by simpa using hcell 2 (by omega), by simpa using hcell 3 (by omega), by simpa using hcell 4 (by omega), by simpa using hcell 5 (by omega), B, bn, bc, by simpa using hcell 6 (by omega), hrd⟩,
          ⟨(by unfold maxLen at w1; show s1.size < 9223372036854775808; omega), (by unfold maxLen at w2; show s2.size < 9223372036854775808; omega), (by unfold maxLen at w3; show s3.size < 9223372036854775808; omega), ?_⟩⟩
        have hDi : D i = .agg [y0.1, y1.1, y2.1, y3.1, y4.1, y5.1, y6.1] := by
          have := congrArg Prod.fst hxy; simpa using this
        have h3 := hDle i hi
        rw [hDi] at h3
        simp only [Rows.uptoBulk, Rows.uptoBulkAll] at h3
        show l.length ≤ _
        omega
    have each' : ∀ i, ∃ o : FOp, i < n → ((W.cell? (a.add (i * 7)) = some (.int .i64 o.kind) ∧ W.cell? ((a.add (i * 7)).add 1) = some (.string o.name) ∧ W.cell? ((a.add (i * 7)).add 2) = some (.string o.to) ∧
        W.cell? ((a.add (i * 7)).add 3) = some (.string o.data) ∧ W.cell? ((a.add (i * 7)).add 4) = some (.int .i64 o.n) ∧ W.cell? ((a.add (i * 7)).add 5) = some (.int .i64 o.part) ∧
        ∃ B n c, W.cell? ((a.add (i * 7)).add 6) = some (.slice B n c) ∧ Rd W (.slice B n c) (ints o.picks)) ∧ FOp.Fit o (Rows.uptoBulk d)) := fun i => by
      by_cases hi : i < n
      · obtain ⟨o, ho⟩ := each i hi; exact ⟨o, fun _ => ho⟩
      · exact ⟨default, fun h => absurd h hi⟩
    have hq := fun i => (each' i).choose_spec
    refine ⟨some a, c, (List.range n).map fun i => (each' i).choose, by simp, fun j o ho => ?_, fun o ho => ?_, ?_⟩
    · have hj : j < n := by
        have := (List.getElem?_eq_some_iff.1 ho).1; simpa using this
      have : o = (each' j).choose := by simpa [hj] using ho.symm
      subst this
      exact ⟨a, rfl, (hq j hj).1⟩
    · obtain ⟨j, hj, rfl⟩ := List.mem_map.1 ho
      exact (hq j (List.mem_range.1 hj)).2
    · simpa using hnle
end
end Go.Proofs.Ytcljmlgbmjjldaa.Fs
