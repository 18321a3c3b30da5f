/- The dict's tables: at, size, join, leave. -/
import Derived.Test.YtcljmlgbmjjldaaF0
import Derived.Test.YtcljmlgbmjjldaaRowsOf
import Derived.Test.YtcljmlgbmjjldaaShelf
namespace Go.Proofs.Ytcljmlgbmjjldaa
open Go Go.VC Go.RowKit Go.Proofs.Ytcljmlgbmjjldaa.F
set_option linter.unusedVariables false
set_option linter.unusedSimpArgs false
abbrev tS : TypeId := 9
abbrev tR : TypeId := 30
abbrev tD : TypeId := 105
/-- no row is longer -/
abbrev big : Nat := 1099511627776

theorem size_ok {w : World} {g o : Nat} {cs : Array Value} {ty : TypeId} {fr : Nat × Nat} {A : Option Addr} {n c : Nat} (hb : w.heap[g]? = some (.cells cs ty fr)) (hs : cs[o]? = some (.slice A n c)) :
    Calls Try.prog 56 #[.pointer (some ⟨g, o, none⟩)] w fun e w' => e = .returned (.int .i64 n) ∧ w = w' :=
  v56 _ _ _ ⟨A, n, c, cell_blk hb hs, rfl, rfl⟩
theorem at_ok {w : World} {g o : Nat} {cs : Array Value} {ty : TypeId} {fr : Nat × Nat} {A : Option Addr} {n c h k : Nat} (hb : w.heap[g]? = some (.cells cs ty fr)) (hs : cs[o]? = some (.slice A n c))
    (hh : h < 9223372036854775808) (hn : n = 2 ^ k) (hk : k < 63) :
    Calls Try.prog 110 #[.pointer (some ⟨g, o, none⟩), .int .i64 h] w fun e w' => e = .returned (.int .i64 ((h % n : Nat) : Int)) ∧ w = w' :=
  v110 _ _ _ _ ⟨A, n, c, cell_blk hb hs, by subst hn; rw [andI_mask hh hk], rfl⟩

noncomputable def inf9 : TypeInfo := (Try.prog.info? tS).getD default
theorem info9 : ∃ i, Try.prog.info? tS = some i ∧ i.zero = some (.string ByteArray.empty) ∧ i.size = 1 ∧ i.bytes = 16 := ⟨inf9, by kernel_rfl, by kernel_rfl, by kernel_rfl, by kernel_rfl⟩

theorem join_ok {w : World} {g o : Nat} {cs : Array Value} {ty : TypeId} {s : Value} {u : Int} {bs : List (List Str)} {F : Nat → Prop} {h k : Nat} (key : Str) {b : List Str}
    (hb : w.heap[g]? = some (.cells cs ty (0, 0))) (h1 : tS ≠ ty) (h2 : tR ≠ ty) (hs : cs[o]? = some s) (hu : cs[o + 1]? = some (.int .i64 u)) (ht : Tab tS tR w s bs F)
    (hh : h < 9223372036854775808) (hn : bs.length = 2 ^ k) (hk : k < 63) (hbk : bs[h % bs.length]? = some b) (hbig : b.length < big) :
    Calls Try.prog 59 #[.pointer (some ⟨g, o, none⟩), .int .i64 h, .string key] w fun e w' => e = .returned (.tuple #[]) ∧
      w'.heap[g]? = some (.cells (cs.setIfInBounds (o + 1) (.int .i64 (IntKind.wrap .i64 (u + 1)))) ty (0, 0)) ∧
      ∃ F', Tab tS tR w' s (bs.set (h % bs.length) (b ++ [key])) F' ∧ (∀ x, F' x → F x ∨ w.heap.size ≤ x) ∧ Chg (fun x => x = g ∨ F x) w w' := by
  obtain ⟨G, c, v, rfl, hG, hcell, hfr, ho, hvF, hput⟩ := ht.at (by decide) hbk
  have hgF : ¬ F g := ht.blk_ne hb h1 h2
  refine v59 _ _ _ _ _ ?_
  unfold V59
  refine (at_ok hb hs hh hn hk).mono ?_
  rintro e w1 ⟨rfl, rfl⟩
  refine ⟨_, rfl, fun w2 d2 => ?_⟩
  have hb2 := d2.blk hb
  obtain ⟨A, c1, rfl⟩ := ho.slice
  have hlt : h % bs.length < bs.length := (List.getElem?_eq_some_iff.1 hbk).1
  have hcell2 : w2.cell? ⟨G, h % bs.length, none⟩ = some (.slice A b.length c1) := by obtain ⟨n, rfl⟩ := d2; exact hcell
  refine ⟨fun x => x = G ∨ (Value.slice A b.length c1).ownBlock = some x, ?_, _, _, _, cell_blk hb2 hs, _, _, _, cell_blk hb2 hs, ?_⟩
  · rintro (rfl | hx)
    · exact hgF hG
    · exact hgF (hvF g hx).1
  refine ⟨by omega, by omega, A, b.length, c1, ?_, fun w3 d3 g4 w4 hg4 hw4 => ?_⟩
  · rw [add_mk, toNatN, Nat.mul_one, Nat.zero_add]; exact hcell2
  have c4 : Chg (fun _ => False) w w4 := by subst hw4; exact ((d2.chg _).trans' (d3.chg _)).trans' (Chg.alloc _ _ _)
  refine ⟨by subst hw4; exact (Chg.alloc (fun _ => False) _ _).ext, fun w5 d5 => ?_⟩
  have c5 : Chg (fun _ => False) w w5 := c4.drawn d5
  have ho5 : Own w5 tS (.slice A b.length c1) b.length (strs b) := ho.chg c5 (fun _ _ h => h)
  have hnew : w5.heap[g4]? = some (.cells #[.string key] 9 (0, 0)) := by
    refine d5.blk ?_
    subst hg4; subst hw4; exact new_blk _ _
  obtain ⟨i, hi1, hi2, hi3, hi4⟩ := info9
  obtain ⟨A', c', w6, hr, ho6, hc6, hn6⟩ := ho5.append (P := Try.prog) (t := 30) (ty := 30) (i := i) (z := .string ByteArray.empty) (a := ⟨g4, 0, none⟩) (m := 1) (c := 1) (news := [.string key]) Try.underlying30 hi1 hi2 hi3 rfl rfl
    (by intro j u hj
        have : j = 0 ∧ u = .string key := by
          match j, hj with
          | 0, hj => simp at hj; exact ⟨rfl, hj.symm⟩
          | j + 1, hj => simp at hj
        obtain ⟨rfl, rfl⟩ := this
        rw [add_mk]; exact cell_blk hnew rfl) (by intro u hu; simp at hu; subst hu; rfl) (by rw [hi4]; unfold big at hbig; omega) (by unfold big at hbig; omega) #[false, false]
  have c6 : Chg (fun x => (Value.slice A b.length c1).ownBlock = some x) w w6 := (c5.mono fun _ h => h.elim).trans' hc6
  refine ⟨_, _, _, w6, hr, (hc6.mono fun _ h => .inr h).extB, by omega, by omega, fun w7 d7 => ?_⟩
  have c7 := c6.drawn d7
  have hcell7 : w7.cell? ⟨G, h % bs.length, none⟩ = some (.slice A b.length c1) := by
    have : w7.heap[G]? = w.heap[G]? := c7.block G (ht.lt hG) fun hx => (hvF G hx).2 rfl
    unfold World.cell?; rw [this]; exact hcell
  have hfr7 : w7.frozen? ⟨G, h % bs.length, none⟩ = false := by
    have : w7.heap[G]? = w.heap[G]? := c7.block G (ht.lt hG) fun hx => (hvF G hx).2 rfl
    unfold World.frozen?; rw [this]; exact hfr
  simp only [add_mk, toNatN, Nat.mul_one, Nat.zero_add]
  refine ⟨⟨_, hcell7⟩, hfr7, fun w8 hw8 => ?_⟩
  obtain ⟨F', htab, hF'⟩ := hput w7 (.slice A' (b.length + 1) c') (b ++ [key]) _ c7 (fun x hx => .inl hx) (by rw [List.length_append, strs_append]; exact (Drawn.own d7 ho6)) (fun x hx => (hn6 x hx).imp id fun h => Nat.le_trans c5.size h)
  rw [← hw8] at htab
  have c78 : Chg (fun x => x = G) w7 w8 := by subst hw8; exact Chg.setCell _ _ _ _
  have c8 : Chg (fun x => x = g ∨ F x) w w8 := (c7.mono fun x hx => .inr (hvF x hx).1).trans' (c78.mono fun x hx => by subst hx; exact .inr hG)
  have c8g : Chg F w w8 := (c7.mono fun x hx => (hvF x hx).1).trans' (c78.mono fun x hx => by subst hx; exact hG)
  refine ⟨(c78.mono fun _ h => .inl h).extB, fun w9 d9 => ?_⟩
  have hb9 := d9.blk (c8g.blk hb hgF)
  refine ⟨u, cell_blk hb9 hu, ⟨_, cell_blk hb9 hu⟩, frozen_blk hb9, fun w10 hw10 => ?_⟩
  obtain ⟨k1, k2⟩ := store_blk hb9 hw10
  have hgF' : ¬ F' g := fun hx => (hF' g hx).elim hgF fun h => by have := lt_blk hb; omega
  refine ⟨trivial, k1, F', (htab.chg (d9.chg (fun _ => False)) fun _ _ h => h).chg k2 fun x hx hxg => by subst hxg; exact hgF' hx, hF', (c8.drawn d9).trans' (k2.mono fun _ h => .inl h)⟩
end Go.Proofs.Ytcljmlgbmjjldaa
