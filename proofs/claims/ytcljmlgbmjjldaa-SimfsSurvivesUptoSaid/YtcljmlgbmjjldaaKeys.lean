/- slices.Sorted(maps.Keys(m)), of a map whose keys are strings. -/
import Derived.Test.YtcljmlgbmjjldaaF0
import Derived.Test.YtcljmlgbmjjldaaAppends
import Derived.Test.YtcljmlgbmjjldaaShelf
import Derived.Shelf.SlIter.Nil
import Derived.Sort.OwnSorted
namespace Go.Proofs.Ytcljmlgbmjjldaa.Fs
open Go Go.VC Go.RowKit Go.Maps Go.Sort Go.Shelf Go.Proofs.Ytcljmlgbmjjldaa.F
set_option linter.unusedVariables false
set_option linter.unusedSimpArgs false
abbrev tS : TypeId := 9
/-- no row is longer -/
abbrev big : Nat := 1099511627776

abbrev kKeys : Nat := 128
abbrev tDir : TypeId := 126
theorem ownBase {w : World} {b : Nat} {e : TypeId} {v : Value} {n : Nat} {xs : List Value} (h : w.ownsRow b e 1 v n xs) : Own w e v n xs := by
  refine ⟨h.1, h.2.imp id ?_⟩
  rintro ⟨g, cap, cur, h1, _, h2⟩
  exact ⟨g, cap, cur, h1, Nat.zero_le _, h2⟩
def sortS (l : List ByteArray) : List ByteArray := ((l.map fun s => s.data.toList).mergeSort fun x y => decide (x ≤ y)).map fun b => ⟨b.toArray⟩
@[simp] theorem sortS_length (l : List ByteArray) : (sortS l).length = l.length := by simp [sortS]
theorem sortS_perm (l : List ByteArray) : (sortS l).Perm l := by
  unfold sortS
  have h := (List.mergeSort_perm (l.map fun s => s.data.toList) fun x y => decide (x ≤ y)).map (fun b => (⟨b.toArray⟩ : ByteArray))
  refine h.trans ?_
  rw [List.map_map]
  have : ((fun b => (⟨b.toArray⟩ : ByteArray)) ∘ fun s : ByteArray => s.data.toList) = id := by funext s; simp
  rw [this, List.map_id]
theorem sortS_nil : sortS [] = [] := by simp [sortS]

/-- slices.Sort's two contracts, at the fence that asks nothing. -/
theorem sorts62 (m : Nat) : AnyZ.SortsIn Try.prog Try.sorted62_ren Fence.wide m :=
  ⟨fun blk off cap ss W hH hblk hsz => callsIn_wide.2 (Try.slices_Sort_string blk off cap ss W hH hblk hsz),
   fun p cap W => callsIn_wide.2 (Try.slices_Sort_string_none p cap W)⟩
theorem rg_of {H : Type} {P : Program} {k : TypeId} {R : Value → Option (DataW H × List MemPlace)} {x : MapEntry} {y : Lit × DataW H} (h : WideElems.rd P k R x = some y) : WideElems.rg P k R x = y := by
  unfold WideElems.rg; rw [h]; rfl
/-- how an element is read where nobody looks at it -/
def rNil : Value → Option (DataW Unit × List MemPlace) := fun _ => some (.nil, [])
def dOf (m : Kvs) : DataW Unit := .map ((m.map fun p => ((Lit.string p.1.data.toList, DataW.nil) : Lit × DataW Unit)).foldr DataW.insert [])
theorem owns_of {w : World} {r : Nat} {m : Kvs} (h : MapAt w r m) (hf : ∀ k ∈ m.map (·.1), k.size < 9223372036854775808) (hl : m.length < big) : w.ownsMap Try.prog 9 rNil r m.length (dOf m) := by
  obtain ⟨es, clk, h1, hst, h2⟩ := h.ex
  have hlen : es.size = m.length := by have := congrArg List.length h2; simpa using this
  have hrd : ∀ (xs : List MapEntry) (ms : Kvs), xs.map entP = ms.map (fun p => (Value.string p.1, p.2)) → (∀ k ∈ ms.map (·.1), k.size < 9223372036854775808) → (∀ x ∈ xs, ∃ y, WideElems.rd Try.prog 9 rNil x = some y) ∧ xs.map (WideElems.rg Try.prog 9 rNil) = ms.map fun p => ((Lit.string p.1.data.toList, DataW.nil) : Lit × DataW Unit) := by
    intro xs
    induction xs with
    | nil => intro ms hm _; have : ms = [] := by cases ms <;> simp_all
             subst this; exact ⟨fun x hx => (by cases hx), rfl⟩
    | cons x xs ih =>
      intro ms hm hfm
      cases ms with
      | nil => simp at hm
      | cons p ms =>
        simp only [List.map_cons, List.cons.injEq] at hm
        obtain ⟨e1, e2⟩ := hm
        have hk : x.key = .string p.1 := congrArg Prod.fst e1
        have hsz : p.1.size ≤ maxLen := by have := hfm p.1 (by simp); unfold maxLen; omega
        have hko : keyOf Try.prog 9 x.key = some (.string p.1.data.toList) := by
          rw [hk]; unfold keyOf mapKey; rw [Try.underlying9]; simp [hsz]
        have hx : WideElems.rd Try.prog 9 rNil x = some (.string p.1.data.toList, .nil) := by unfold WideElems.rd; rw [hko]; rfl
        obtain ⟨i1, i2⟩ := ih ms e2 fun k hk => hfm k (by simp at hk ⊢; exact .inr hk)
        refine ⟨fun y hy => ?_, ?_⟩
        · rcases List.mem_cons.1 hy with rfl | hy
          · exact ⟨_, hx⟩
          · exact i1 y hy
        · have hg : WideElems.rg Try.prog 9 rNil x = (Lit.string p.1.data.toList, DataW.nil) := rg_of hx
          rw [List.map_cons, List.map_cons, i2, hg]
  obtain ⟨r1, r2⟩ := hrd es.toList m h2 hf
  exact ⟨es, clk, h1, ⟨by rw [hlen]; unfold big at hl; unfold maxLen; omega, hst, r1⟩, by omega, by unfold dOf; rw [r2]⟩
theorem dOf_keys (m : Kvs) : (strKeys (dOf m)).Perm ((m.map (·.1)).map fun s => s.data.toList) := by
  unfold dOf strKeys
  refine ((Go.WideShapes.sorted_perm _).map _).trans ?_
  rw [List.map_map, List.map_map]
  exact List.Perm.refl _
theorem dOf_size (m : Kvs) : Maps.size (dOf m) = m.length := by
  unfold dOf Maps.size
  simp only [length_sorted, List.length_map]

theorem sorted_keys_ok {w : World} {r : Nat} {m : Kvs} (h : MapAt w r m) (hf : ∀ k ∈ m.map (·.1), k.size < 9223372036854775808) (hl : m.length < big) :
    Calls Try.prog 62 #[.func (.func kKeys) #[] #[.pointer (some ⟨w.heap.size, 0, none⟩)]] (w.alloc (.cells #[.map (some r)] tDir)) fun e w' => ∃ A c, e = .returned (.slice A m.length c) ∧ Own w' tS (.slice A m.length c) m.length (strs (sortS (m.map (·.1)))) ∧
      (∀ b, (Value.slice A m.length c).ownBlock = some b → w.heap.size ≤ b) ∧ Chg (fun _ => False) w w' := by
  have hown := owns_of h hf hl
  have hbl := hown.lt
  have hseq : SeqGives Fence.wide 2 Try.prog kKeys #[.pointer (some ⟨w.heap.size, 0, none⟩)] encStr (fun ss => ss.Perm (strKeys (dOf m))) (Maps.size (dOf m)) (w.alloc (.cells #[.map (some r)] tDir)) :=
    AnyZ.keys_gives (ρ := Try.keys85_ren) { Try.keys85 with } Fence.wide _ trivial rfl (by omega) w.heap.size r m.length (dOf m) _ (by simp) (by simp) (by
      obtain ⟨es, clock, hb, Ft, hs, hD⟩ := hown
      exact ⟨es, clock, (Below.heap_alloc _ _ r hbl).trans hb, Ft, hs, hD⟩)
  have := AnyZ.sorted_in Try.sorted62 Fence.wide 5 trivial trivial trivial trivial rfl (by omega) (sorts62 _) (enters_of Try.func114 (by kernel_rfl) rfl) kKeys #[.pointer (some ⟨w.heap.size, 0, none⟩)] trivial (enters_of Try.func128 (by kernel_rfl) rfl) _ _ (by rw [dOf_size]; unfold big at hl; unfold maxLen; omega) (by rw [dOf_size]; unfold big at hl; omega) _ hseq
  refine (callsIn_wide.1 this).mono ?_
  rintro e w' ⟨v, ss, rfl, hS, hrow, hnil, hb⟩
  have hperm := hS.trans (dOf_keys m)
  have hsl : ss.length = m.length := by have := hperm.length_eq; simpa using this
  have hms : (ss.mergeSort fun x y => decide (x ≤ y)).map encStr = strs (sortS (m.map (·.1))) := by
    have h1 := mergeSort_of_perm hperm
    unfold strs sortS
    rw [List.map_map]
    show (ss.mergeSort leB).map encStr = _
    rw [h1]; rfl
  rw [hms, hsl] at hrow
  obtain ⟨A, c, rfl⟩ := (ownBase hrow).slice
  refine ⟨A, c, rfl, ownBase hrow, fun b hbb => ?_, ?_⟩
  · have := (World.ownsRow.lt hrow b hbb).1
    simp at this; omega
  · exact (Chg.alloc (fun _ => False) w _).trans' (Chg.of_below hb _)

/-- maps.Keys of a map whose keys are strings -/
theorem keys_ok (r : Nat) (w : World) : Calls Try.prog 85 #[.map (some r)] w fun e w' => e = .returned (.func (.func kKeys) #[] #[.pointer (some ⟨w.heap.size, 0, none⟩)]) ∧ w' = w.alloc (.cells #[.map (some r)] tDir) :=
  callsIn_wide.1 (AnyZ.keys_in Try.keys85 Fence.wide 5 trivial rfl (some r) w)
end Go.Proofs.Ytcljmlgbmjjldaa.Fs
