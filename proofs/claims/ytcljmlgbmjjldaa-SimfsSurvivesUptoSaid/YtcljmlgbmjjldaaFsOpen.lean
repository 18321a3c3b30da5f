/- Rows: scripts and picks opened, of this program's types. -/
import Derived.Test.YtcljmlgbmjjldaaFsRow
namespace Go.Proofs.Ytcljmlgbmjjldaa.Fs
open Go Go.VC Go.RowKit Go.ChangeShapes Go.WideShapes Go.Deep
theorem FOp.Fit.mono {o : FOp} {n m : Nat} (h : FOp.Fit o n) (hm : n ≤ m) : FOp.Fit o m := ⟨h.name, h.to, h.data, Nat.le_trans h.picks hm⟩
theorem fops_open {H : Type} {enc : TypeId × Value → H} {W : World} {v : Value} {d : DataW H} {ps : List MemPlace} (hv : ∃ A n c, v = .slice A n c) (h : DataW.Trod enc Try.prog W 0 (fun _ => true) true 68 v d ps) :
    ∃ A c ops, v = .slice A (List.length ops) c ∧ FOpsAt W A ops ∧ (∀ o ∈ ops, FOp.Fit o (Rows.uptoBulk d)) ∧ ops.length ≤ Rows.uptoBulk d :=
  fops_open' (ti := 3) Try.underlying68 Try.underlying73 (by kernel_rfl) ⟨rfl, rfl, rfl, rfl, rfl, rfl, rfl⟩ ⟨by kernel_rfl, by kernel_rfl, by kernel_rfl, by kernel_rfl, by kernel_rfl, by kernel_rfl, by kernel_rfl⟩ Try.underlying3 Try.underlying9 Try.underlying9 Try.underlying9 Try.underlying3 Try.underlying3 Try.underlying31 Try.underlying3 (by kernel_rfl) h hv
theorem ints_open {H : Type} {enc : TypeId × Value → H} {W : World} {v : Value} {d : DataW H} {ps : List MemPlace} (hv : ∃ A n c, v = .slice A n c) (h : DataW.Trod enc Try.prog W 0 (fun _ => true) true 31 v d ps) :
    ∃ A n c l, v = .slice A n c ∧ Rd W v (ints l) ∧ l.length ≤ Rows.uptoBulk d := by
  obtain ⟨A, n, c, rfl⟩ := hv
  obtain ⟨fuel, hf⟩ := h
  obtain ⟨A', n', c', l, h1, _, h2, h3⟩ := ints_open' (x := (d, ps)) Try.underlying31 Try.underlying3 (by kernel_rfl) hf
  exact ⟨A, n, c, l, rfl, h2, h3⟩
end Go.Proofs.Ytcljmlgbmjjldaa.Fs
