/- The dict: Keys. -/
import Derived.Test.YtcljmlgbmjjldaaDict10
import Derived.Shelf.SlIter.Nil
namespace Go.Proofs.Ytcljmlgbmjjldaa
open Go Go.VC Go.RowKit Go.Maps Go.Sort Go.Shelf Go.Proofs.Ytcljmlgbmjjldaa.F
set_option linter.unusedVariables false
set_option linter.unusedSimpArgs false

/-- slices.Sort's two contracts, at the fence that asks nothing. -/
theorem sorts62 (m : Nat) : AnyZ.SortsIn Try.prog Try.sorted62_ren Fence.wide m :=
  ⟨fun blk off cap ss W hH hblk hsz => callsIn_wide.2 (Try.slices_Sort_string blk off cap ss W hH hblk hsz),
   fun p cap W => callsIn_wide.2 (Try.slices_Sort_string_none p cap W)⟩
theorem rg_of {H : Type} {P : Program} {k : TypeId} {R : Value → Option (DataW H × List MemPlace)} {x : MapEntry} {y : Lit × DataW H} (h : WideElems.rd P k R x = some y) : WideElems.rg P k R x = y := by
  unfold WideElems.rg; rw [h]; rfl
/-- how an element is read where nobody looks at it -/
def rNil : Value → Option (DataW Unit × List MemPlace) := fun _ => some (.nil, [])
def dOf (m : Kvs) : DataW Unit := .map ((m.map fun p => ((Lit.string p.1.data.toList, DataW.nil) : Lit × DataW Unit)).foldr DataW.insert [])
theorem owns_of {w : World} {r : Nat} {m : Kvs} (h : MapAt w r m) (hf : ∀ k ∈ m.map (·.1), k.size < 9223372036854775808) (hl : m.length < big) : w.ownsMap Try.prog 9 rNil r m.length (dOf m) := by
  obtain ⟨es, clk, h1, hst, h2⟩ := h.ex
  have hlen : es.size = m.length := by have := congrArg List.length h2; simpa using this
  have hrd : ∀ (xs : List MapEntry) (ms : Kvs), xs.map entP = ms.map (fun p => (Value.string p.1, p.2)) → (∀ k ∈ ms.map (·.1), k.size < 9223372036854775808) → (∀ x ∈ xs, ∃ y, WideElems.rd Try.prog 9 rNil x = some y) ∧ xs.map (WideElems.rg Try.prog 9 rNil) = ms.map fun p => ((Lit.string p.1.data.toList, DataW.nil) : Lit × DataW Unit) := by
    intro xs
    induction xs with
    | nil => intro ms hm _; have : ms = [] := by cases ms <;> simp_all
             subst this; exact ⟨fun x hx => (by cases hx), rfl⟩
    | cons x xs ih =>
      intro ms hm hfm
      cases ms with
      | nil => simp at hm
      | cons p ms =>
        simp only [List.map_cons, List.cons.injEq] at hm
        obtain ⟨e1, e2⟩ := hm
        have hk : x.key = .string p.1 := congrArg Prod.fst e1
        have hsz : p.1.size ≤ maxLen := by have := hfm p.1 (by simp); unfold maxLen; omega
        have hko : keyOf Try.prog 9 x.key = some (.string p.1.data.toList) := by
          rw [hk]; unfold keyOf mapKey; rw [Try.underlying9]; simp [hsz]
        have hx : WideElems.rd Try.prog 9 rNil x = some (.string p.1.data.toList, .nil) := by unfold WideElems.rd; rw [hko]; rfl
        obtain ⟨i1, i2⟩ := ih ms e2 fun k hk => hfm k (by simp at hk ⊢; exact .inr hk)
        refine ⟨fun y hy => ?_, ?_⟩
        · rcases List.mem_cons.1 hy with rfl | hy
          · exact ⟨_, hx⟩
          · exact i1 y hy
        · have hg : WideElems.rg Try.prog 9 rNil x = (Lit.string p.1.data.toList, DataW.nil) := rg_of hx
          rw [List.map_cons, List.map_cons, i2, hg]
  obtain ⟨r1, r2⟩ := hrd es.toList m h2 hf
  exact ⟨es, clk, h1, ⟨by rw [hlen]; unfold big at hl; unfold maxLen; omega, hst, r1⟩, by omega, by unfold dOf; rw [r2]⟩
theorem dOf_keys (m : Kvs) : (strKeys (dOf m)).Perm ((m.map (·.1)).map fun s => s.data.toList) := by
  unfold dOf strKeys
  refine ((Go.WideShapes.sorted_perm _).map _).trans ?_
  rw [List.map_map, List.map_map]
  exact List.Perm.refl _
theorem dOf_size (m : Kvs) : Maps.size (dOf m) = m.length := by
  unfold dOf Maps.size
  simp only [length_sorted, List.length_map]

theorem sorted_keys_ok {w : World} {r : Nat} {m : Kvs} (h : MapAt w r m) (hf : ∀ k ∈ m.map (·.1), k.size < 9223372036854775808) (hl : m.length < big) :
    Calls Try.prog 62 #[.func (.func 115) #[] #[.pointer (some ⟨w.heap.size, 0, none⟩)]] (w.alloc (.cells #[.map (some r)] 100)) fun e w' => ∃ A c, e = .returned (.slice A m.length c) ∧ Own w' tS (.slice A m.length c) m.length (strs (sortS (m.map (·.1)))) ∧
      (∀ b, (Value.slice A m.length c).ownBlock = some b → w.heap.size ≤ b) ∧ Chg (fun _ => False) w w' := by
  have hown := owns_of h hf hl
  have hbl := hown.lt
  have hseq : SeqGives Fence.wide 2 Try.prog 115 #[.pointer (some ⟨w.heap.size, 0, none⟩)] encStr (fun ss => ss.Perm (strKeys (dOf m))) (Maps.size (dOf m)) (w.alloc (.cells #[.map (some r)] 100)) :=
    AnyZ.keys_gives (ρ := Try.keys63_ren) { Try.keys63 with } Fence.wide _ trivial rfl (by omega) w.heap.size r m.length (dOf m) _ (by simp) (by simp) (by
      obtain ⟨es, clock, hb, Ft, hs, hD⟩ := hown
      exact ⟨es, clock, (Below.heap_alloc _ _ r hbl).trans hb, Ft, hs, hD⟩)
  have := AnyZ.sorted_in Try.sorted62 Fence.wide 5 trivial trivial trivial trivial rfl (by omega) (sorts62 _) (enters_of Try.func114 (by kernel_rfl) rfl) 115 #[.pointer (some ⟨w.heap.size, 0, none⟩)] trivial (enters_of Try.func115 (by kernel_rfl) rfl) _ _ (by rw [dOf_size]; unfold big at hl; unfold maxLen; omega) (by rw [dOf_size]; unfold big at hl; omega) _ hseq
  refine (callsIn_wide.1 this).mono ?_
  rintro e w' ⟨v, ss, rfl, hS, hrow, hnil, hb⟩
  have hperm := hS.trans (dOf_keys m)
  have hsl : ss.length = m.length := by have := hperm.length_eq; simpa using this
  have hms : (ss.mergeSort fun x y => decide (x ≤ y)).map encStr = strs (sortS (m.map (·.1))) := by
    have h1 := mergeSort_of_perm hperm
    unfold strs sortS
    rw [List.map_map]
    show (ss.mergeSort leB).map encStr = _
    rw [h1]; rfl
  rw [hms, hsl] at hrow
  obtain ⟨A, c, rfl⟩ := (Own.base hrow).slice
  refine ⟨A, c, rfl, Own.base hrow, fun b hbb => ?_, ?_⟩
  · have := (World.ownsRow.lt hrow b hbb).1
    simp at this; omega
  · exact (Chg.alloc (fun _ => False) w _).trans' (Chg.of_below hb _)

theorem keysAll_ok {w : World} {g : Nat} {d : D} {F : Nat → Prop} (h : DictAt w g d F) (hi : D.Inv d) (hl : d.m.length < big) :
    Calls Try.prog 21 #[.pointer (some ⟨g, 0, none⟩)] w fun e w' => ∃ A c, e = .returned (.slice A d.m.length c) ∧ Own w' tS (.slice A d.m.length c) d.m.length (strs (sortS (d.m.map (·.1)))) ∧
      (∀ b, (Value.slice A d.m.length c).ownBlock = some b → w.heap.size ≤ b) ∧ Chg (fun _ => False) w w' := by
  refine v21 _ _ _ ?_
  unfold V21
  obtain ⟨s1, F1, s2, F2, r, k1, k2⟩ := h.ex
  simp only [add_mk, Nat.reduceAdd]
  refine ⟨_, cell_blk k1.blk rfl, ?_⟩
  have hkeys := callsIn_wide.1 (AnyZ.keys_in Try.keys63 Fence.wide 5 trivial rfl (some r) w)
  refine hkeys.mono ?_
  rintro e w1 ⟨rfl, rfl⟩
  refine ⟨_, rfl, ?_⟩
  refine (sorted_keys_ok k1.map hi.fit hl).mono ?_
  rintro e w2 ⟨A, c, rfl, ho, hn, hc⟩
  exact ⟨_, _, _, rfl, A, c, rfl, ho, hn, hc⟩
end Go.Proofs.Ytcljmlgbmjjldaa
