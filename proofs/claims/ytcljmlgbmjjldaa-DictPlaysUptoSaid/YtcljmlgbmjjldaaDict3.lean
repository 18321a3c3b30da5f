/- The dict in memory; hash, New, moves, ends, begins, step. -/
import Derived.Test.YtcljmlgbmjjldaaDict2
import Derived.Test.YtcljmlgbmjjldaaDictI
import Derived.Test.YtcljmlgbmjjldaaF1
namespace Go.Proofs.Ytcljmlgbmjjldaa
open Go Go.VC Go.RowKit Go.Proofs.Ytcljmlgbmjjldaa.F
set_option linter.unusedVariables false
set_option linter.unusedSimpArgs false

theorem hash_loop {seed : Int} {s : Str} (hf : s.size < 9223372036854775808) {w : World} {R : Ending → World → Prop} (hR : R (.returned (.int .i64 (hashOf seed s))) w) : V16 seed s w R := by
  refine ⟨fun h n w1 => w1 = w ∧ ∃ j : Nat, n = j ∧ j ≤ s.size ∧ h = hashN seed s j, fun h n w1 => s.size - n.toNat, ⟨rfl, 0, rfl, by omega, rfl⟩, ?_⟩
  rintro h n w1 ⟨rfl, j, rfl, hj, rfl⟩
  refine ⟨fun hd => ?_, fun hd => ?_⟩
  · simp only [decide_eq_true_eq] at hd
    refine ⟨by omega, hd, ⟨rfl, j + 1, w64s (by omega), by omega, rfl⟩, ?_⟩
    rw [w64s (by omega)]
    show s.size - (((j + 1 : Nat) : Int)).toNat < s.size - ((j : Nat) : Int).toNat
    omega
  · simp only [decide_eq_false_iff_not] at hd
    have : j = s.size := by omega
    subst this
    refine ⟨by decide, by decide, by decide, ?_⟩
    rw [← hashOf_eq] at hR
    exact hR
theorem hash_ok {seed : Int} {s : Str} (hf : s.size < 9223372036854775808) (w : World) : Calls Try.prog 16 #[.int .i64 seed, .string s] w fun e w' => e = .returned (.int .i64 (hashOf seed s)) ∧ w = w' :=
  v16 _ _ _ _ (hash_loop hf ⟨rfl, rfl⟩)
theorem refHash_ok {seed : Int} {s : Str} (hf : s.size < 9223372036854775808) (w : World) : Calls Try.prog 17 #[.int .i64 seed, .string s] w fun e w' => e = .returned (.int .i64 (hashOf seed s)) ∧ w = w' :=
  v17 _ _ _ _ (show V16 seed s w _ from hash_loop (R := fun e w' => e = .returned (.int .i64 (hashOf seed s)) ∧ w = w') hf ⟨rfl, rfl⟩)

/-- a dict's parts in memory -/
structure DW (w : World) (g : Nat) (seed : Int) (s1 : Value) (b1 : Bks) (u1 : Int) (F1 : Nat → Prop) (s2 : Value) (b2 : Bks) (u2 : Int) (F2 : Nat → Prop) (idx : Int) (r : Nat) (m : Kvs) : Prop where
  blk : w.heap[g]? = some (.cells #[.int .i64 seed, s1, .int .i64 u1, s2, .int .i64 u2, .int .i64 idx, .map (some r)] tD (0, 0))
  t1 : Tab tS tR w s1 b1 F1
  t2 : Tab tS tR w s2 b2 F2
  sep : ∀ x, F1 x → ¬ F2 x
  map : MapAt w r m
section
variable {w w' : World} {g r : Nat} {seed u1 u2 idx : Int} {s1 s2 : Value} {b1 b2 : Bks} {F1 F2 G : Nat → Prop} {m : Kvs}
theorem DW.g1 (h : DW w g seed s1 b1 u1 F1 s2 b2 u2 F2 idx r m) : ¬ F1 g := h.t1.blk_ne h.blk (by decide) (by decide)
theorem DW.g2 (h : DW w g seed s1 b1 u1 F1 s2 b2 u2 F2 idx r m) : ¬ F2 g := h.t2.blk_ne h.blk (by decide) (by decide)
theorem DW.r1 (h : DW w g seed s1 b1 u1 F1 s2 b2 u2 F2 idx r m) : ¬ F1 r := by obtain ⟨es, clk, h1, _⟩ := h.map.ex; exact h.t1.map_ne h1
theorem DW.r2 (h : DW w g seed s1 b1 u1 F1 s2 b2 u2 F2 idx r m) : ¬ F2 r := by obtain ⟨es, clk, h1, _⟩ := h.map.ex; exact h.t2.map_ne h1
theorem DW.rg (h : DW w g seed s1 b1 u1 F1 s2 b2 u2 F2 idx r m) : r ≠ g := by
  obtain ⟨es, clk, h1, _⟩ := h.map.ex
  rintro rfl
  rw [h.blk] at h1; injection h1 with h1; cases h1
theorem DW.lt_r (h : DW w g seed s1 b1 u1 F1 s2 b2 u2 F2 idx r m) : r < w.heap.size := by obtain ⟨es, clk, h1, _⟩ := h.map.ex; exact lt_blk h1
theorem DW.chg (h : DW w g seed s1 b1 u1 F1 s2 b2 u2 F2 idx r m) (hc : Chg G w w') (hg : ¬ G g) (hr : ¬ G r) (h1 : ∀ x, F1 x → ¬ G x) (h2 : ∀ x, F2 x → ¬ G x) : DW w' g seed s1 b1 u1 F1 s2 b2 u2 F2 idx r m :=
  ⟨hc.blk h.blk hg, h.t1.chg hc h1, h.t2.chg hc h2, h.sep, h.map.chg hc hr⟩
theorem DW.drawn (h : DW w g seed s1 b1 u1 F1 s2 b2 u2 F2 idx r m) (d : Drawn w w') : DW w' g seed s1 b1 u1 F1 s2 b2 u2 F2 idx r m :=
  h.chg (d.chg (fun _ => False)) id id (fun _ _ h => h) fun _ _ h => h
/-- only its own block is written -/
theorem DW.stored (h : DW w g seed s1 b1 u1 F1 s2 b2 u2 F2 idx r m) (hc : Chg (fun x => x = g) w w') {u1' u2' idx' : Int}
    (hb : w'.heap[g]? = some (.cells #[.int .i64 seed, s1, .int .i64 u1', s2, .int .i64 u2', .int .i64 idx', .map (some r)] tD (0, 0))) : DW w' g seed s1 b1 u1' F1 s2 b2 u2' F2 idx' r m :=
  ⟨hb, h.t1.chg hc fun x hx e => h.g1 (e ▸ hx), h.t2.chg hc fun x hx e => h.g2 (e ▸ hx), h.sep, h.map.chg hc h.rg⟩
theorem moves_dw (h : DW w g seed s1 b1 u1 F1 s2 b2 u2 F2 idx r m) : Calls Try.prog 57 #[.pointer (some ⟨g, 0, none⟩)] w fun e w' => e = .returned (.bool (decide (0 < b2.length))) ∧ w = w' := by
  refine v57 _ _ _ ?_
  unfold V57
  obtain ⟨A, c, rfl⟩ := h.t2.slice
  rw [add_mk]
  refine (size_ok h.blk rfl).mono ?_
  rintro e w' ⟨rfl, rfl⟩
  exact ⟨_, rfl, by congr 3; simp, rfl⟩
end

/-- a dict in memory. F: its blocks -/
structure DictAt (w : World) (g : Nat) (d : D) (F : Nat → Prop) : Prop where
  ex : ∃ s1 F1 s2 F2 r, DW w g d.seed s1 d.b1 (used d.b1) F1 s2 d.b2 (used d.b2) F2 d.idx r d.m ∧ ∀ x, F x ↔ (x = g ∨ x = r ∨ F1 x ∨ F2 x)
/-- the dict d' now; nothing but its blocks was written -/
structure Went (w w' : World) (g : Nat) (F : Nat → Prop) (d' : D) : Prop where
  ex : ∃ F', DictAt w' g d' F' ∧ (∀ x, F' x → F x ∨ w.heap.size ≤ x) ∧ Chg F w w'
theorem DictAt.lt {w : World} {g : Nat} {d : D} {F : Nat → Prop} (h : DictAt w g d F) {x : Nat} (hx : F x) : x < w.heap.size := by
  obtain ⟨s1, F1, s2, F2, r, h1, h2⟩ := h.ex
  rcases (h2 x).1 hx with rfl | rfl | h3 | h3
  · exact lt_blk h1.blk
  · exact h1.lt_r
  · exact h1.t1.lt h3
  · exact h1.t2.lt h3
theorem DictAt.chg {w w' : World} {g : Nat} {d : D} {F G : Nat → Prop} (h : DictAt w g d F) (hc : Chg G w w') (hn : ∀ x, F x → ¬ G x) : DictAt w' g d F := by
  obtain ⟨s1, F1, s2, F2, r, h1, h2⟩ := h.ex
  exact ⟨s1, F1, s2, F2, r, h1.chg hc (hn _ ((h2 _).2 (.inl rfl))) (hn _ ((h2 _).2 (.inr (.inl rfl)))) (fun x hx => hn _ ((h2 _).2 (.inr (.inr (.inl hx))))) (fun x hx => hn _ ((h2 _).2 (.inr (.inr (.inr hx))))), h2⟩
theorem DictAt.drawn {w w' : World} {g : Nat} {d : D} {F : Nat → Prop} (h : DictAt w g d F) (k : Drawn w w') : DictAt w' g d F := h.chg (k.chg (fun _ => False)) fun _ _ h => h
theorem Went.refl {w : World} {g : Nat} {d : D} {F : Nat → Prop} (h : DictAt w g d F) : Went w w g F d := ⟨F, h, fun _ => .inl, Chg.refl _ _⟩
theorem Went.trans {w w1 w2 : World} {g : Nat} {d1 d2 : D} {F : Nat → Prop} (h : Went w w1 g F d1) (k : ∀ F1, DictAt w1 g d1 F1 → Went w1 w2 g F1 d2) : Went w w2 g F d2 := by
  obtain ⟨F1, h1, h2, h3⟩ := h.ex
  obtain ⟨F2, k1, k2, k3⟩ := (k F1 h1).ex
  exact ⟨F2, k1, fun x hx => (k2 x hx).elim (h2 x) fun hle => .inr (Nat.le_trans h3.size hle), h3.trans k3 h2⟩
/-- through a middle whose blocks are known -/
theorem Went.via {w w1 w2 : World} {g : Nat} {d2 : D} {F F1 : Nat → Prop} (h2 : ∀ x, F1 x → F x ∨ w.heap.size ≤ x) (h3 : Chg F w w1) (k : Went w1 w2 g F1 d2) : Went w w2 g F d2 := by
  obtain ⟨F2, k1, k2, k3⟩ := k.ex
  exact ⟨F2, k1, fun x hx => (k2 x hx).elim (h2 x) fun hle => .inr (Nat.le_trans h3.size hle), h3.trans k3 h2⟩
theorem Went.drawn {w w1 w2 : World} {g : Nat} {d : D} {F : Nat → Prop} (h : Went w w1 g F d) (k : Drawn w1 w2) : Went w w2 g F d := by
  obtain ⟨F1, h1, h2, h3⟩ := h.ex
  exact ⟨F1, h1.drawn k, h2, h3.drawn k⟩
theorem Went.of_drawn {w w1 w2 : World} {g : Nat} {d : D} {F : Nat → Prop} (k : Drawn w w1) (h : Went w1 w2 g F d) : Went w w2 g F d := by
  obtain ⟨F1, h1, h2, h3⟩ := h.ex
  exact ⟨F1, h1, fun x hx => (h2 x hx).imp id fun h => by rw [k.heap] at h; exact h, (k.chg F).trans' h3⟩

theorem moves_ok {w : World} {g : Nat} {d : D} {F : Nat → Prop} (h : DictAt w g d F) : Calls Try.prog 57 #[.pointer (some ⟨g, 0, none⟩)] w fun e w' => e = .returned (.bool d.moves) ∧ w = w' := by
  obtain ⟨s1, F1, s2, F2, r, h1, h2⟩ := h.ex
  exact moves_dw h1
theorem size1_ok {w : World} {g : Nat} {d : D} {F : Nat → Prop} (h : DictAt w g d F) : Calls Try.prog 56 #[.pointer (some ⟨g, 1, none⟩)] w fun e w' => e = .returned (.int .i64 d.b1.length) ∧ w = w' := by
  obtain ⟨s1, F1, s2, F2, r, h1, h2⟩ := h.ex
  obtain ⟨A, c, rfl⟩ := h1.t1.slice
  exact size_ok h1.blk rfl
theorem size2_ok {w : World} {g : Nat} {d : D} {F : Nat → Prop} (h : DictAt w g d F) : Calls Try.prog 56 #[.pointer (some ⟨g, 3, none⟩)] w fun e w' => e = .returned (.int .i64 d.b2.length) ∧ w = w' := by
  obtain ⟨s1, F1, s2, F2, r, h1, h2⟩ := h.ex
  obtain ⟨A, c, rfl⟩ := h1.t2.slice
  exact size_ok h1.blk rfl

theorem new_ok (seed : Int) (w : World) : Calls Try.prog 18 #[.int .i64 seed] w fun e w' => ∃ g F, e = .returned (.pointer (some ⟨g, 0, none⟩)) ∧ DictAt w' g (D.new seed) F ∧ (∀ x, F x → w.heap.size ≤ x) ∧ Chg (fun _ => False) w w' := by
  refine v18 _ _ _ ?_
  intro r w1 hr hw1 g w2 hg hw2
  have hb : w2.heap[g]? = some (.cells #[.int .i64 seed, .slice none 0 0, .int .i64 0, .slice none 0 0, .int .i64 0, .int .i64 0, .map (some r)] tD (0, 0)) := by subst hg; subst hw2; exact new_blk _ _
  have c1 : Chg (fun _ => False) w w1 := by subst hw1; exact Chg.alloc _ _ _
  have c2 : Chg (fun _ => False) w1 w2 := by subst hw2; exact Chg.alloc _ _ _
  have hm : MapAt w2 r [] := by
    have : MapAt w1 r [] := by subst hr; subst hw1; exact MapAt.new w
    exact this.chg c2 id
  refine ⟨g, fun x => x = g ∨ x = r, rfl, ⟨_, _, _, _, r, ⟨hb, Tab.nil _ _ _, Tab.nil _ _ _, fun _ h => h.elim, hm⟩, fun x => by simp⟩, ?_, c1.trans' c2⟩
  rintro x (rfl | rfl)
  · rw [hg]; exact c1.size
  · rw [hr]; exact Nat.le_refl _

theorem ends_ok {w : World} {g : Nat} {d : D} {F : Nat → Prop} (h : DictAt w g d F) : Calls Try.prog 61 #[.pointer (some ⟨g, 0, none⟩)] w fun e w' => e = .returned (.tuple #[]) ∧ Went w w' g F d.ends := by
  refine v61 _ _ _ ?_
  unfold V61
  refine (moves_ok h).mono ?_
  rintro e w' ⟨rfl, rfl⟩
  refine ⟨_, rfl, fun hm => ?_, fun hm => ?_⟩
  · obtain ⟨s1, F1, s2, F2, r, h1, h2⟩ := h.ex
    simp only [add_mk, Nat.reduceAdd]
    refine ⟨_, cell_blk h1.blk rfl, fun h0 => ?_, fun h0 => ?_⟩
    · obtain ⟨A, c, hs2⟩ := h1.t2.slice
      simp only [add_mk, Nat.reduceAdd]
      have hu : used d.b1 = 0 := by simpa using h0
      have hends : d.ends = { d with b1 := d.b2, b2 := [], idx := 0 } := by unfold D.ends; rw [if_pos]; simp [hm, hu]
      have k1 := set_blk 1 (.slice A d.b2.length c) h1.blk
      refine ⟨A, _, c, by rw [← hs2]; exact cell_blk h1.blk rfl, _, cell_blk h1.blk rfl, ⟨_, cell_blk h1.blk rfl⟩, frozen_blk h1.blk, ⟨_, cell_blk k1 rfl⟩, frozen_blk k1, fun w3 hw3 => ?_⟩
      have k2 := set_blk 2 (.int .i64 (used d.b2)) k1
      have c2 := (Chg.setCell w g 1 (.slice A d.b2.length c)).trans' (Chg.setCell _ g 2 (.int .i64 (used d.b2)))
      rw [← hw3] at k2 c2
      have k3 := set_blk 3 (.slice none 0 0) k2
      refine ⟨⟨_, cell_blk k2 rfl⟩, frozen_blk k2, ⟨_, cell_blk k3 rfl⟩, frozen_blk k3, fun w4 hw4 => ?_⟩
      have k4 := set_blk 4 (.int .i64 0) k3
      have c4 := (Chg.setCell w3 g 3 (.slice none 0 0)).trans' (Chg.setCell _ g 4 (.int .i64 0))
      rw [← hw4] at k4 c4
      refine ⟨⟨_, cell_blk k4 rfl⟩, frozen_blk k4, fun w5 hw5 => ?_⟩
      obtain ⟨k5, c5⟩ := store_blk k4 hw5
      have c := (c2.trans' c4).trans' c5
      refine ⟨trivial, ⟨fun x => x = g ∨ x = r ∨ F2 x, ⟨s2, F2, .slice none 0 0, fun _ => False, r, ?_, fun x => ?_⟩, ?_, c.mono fun x hx => (h2 x).2 (.inl hx)⟩⟩
      · rw [hends]
        refine ⟨?_, h1.t2.chg c fun x hx e => h1.g2 (e ▸ hx), Tab.nil _ _ _, fun _ _ h => h, h1.map.chg c h1.rg⟩
        rw [hs2]; exact k5
      · simp
      · rintro x (rfl | rfl | hx)
        · exact .inl ((h2 _).2 (.inl rfl))
        · exact .inl ((h2 _).2 (.inr (.inl rfl)))
        · exact .inl ((h2 _).2 (.inr (.inr (.inr hx))))
    · have hends : d.ends = d := by unfold D.ends; rw [if_neg]; simp [hm]; simpa using h0
      exact ⟨rfl, by rw [hends]; exact Went.refl h⟩
  · have hends : d.ends = d := by unfold D.ends; rw [if_neg]; simp [hm]
    exact ⟨fun h => (by cases h), fun _ => ⟨rfl, by rw [hends]; exact Went.refl h⟩⟩

theorem zeroRow_one (v : Value) (n : Nat) : zeroRow #[v] n = (List.replicate n v).toArray := by
  unfold zeroRow
  apply Array.ext
  · simp
  · intro i h1 h2; simp [Nat.mod_one]
/-- a new table of empty buckets -/
theorem Tab.fresh {w w1 : World} {g n : Nat} (hg : g = w.heap.size) (hw : w1 = w.alloc (.cells (zeroRow #[.slice none 0 0] (n * 1)) tR)) (hn : n ≤ maxLen) :
    Tab tS tR w1 (.slice (some ⟨g, 0, none⟩) n n) (List.replicate n []) (fun x => x = g) := by
  have hl : (List.replicate n ([] : List Str)).length = n := by simp
  refine ⟨List.replicate n (.slice none 0 0), by rw [hl]; exact ⟨by simp, .inr ⟨g, n, zeroRow #[.slice none 0 0] (n * 1), rfl, Nat.zero_le _, by subst hg; subst hw; exact new_blk _ _, Nat.le_refl _, hn, by rw [zeroRow_one]; simp, by rw [zeroRow_one]; simp⟩⟩, ⟨by simp, fun i v b hv hb => ?_, fun i j vi vj b hi hj hbi hbj => ?_⟩, fun b => ?_⟩
  · rw [List.getElem?_replicate] at hv hb
    split at hv <;> simp_all
    subst hv; subst hb; exact Own.nil _ _
  · rw [List.getElem?_replicate] at hi
    split at hi
    · injection hi with hi; subst hi; simp [Value.ownBlock] at hbi
    · cases hi
  · simp only [Value.ownBlock, Option.some.injEq]
    constructor
    · intro h; exact .inl h.symm
    · rintro (h | ⟨i, v, hv, hx⟩)
      · exact h.symm
      · rw [List.getElem?_replicate] at hv
        split at hv
        · injection hv with hv; subst hv; simp [Value.ownBlock] at hx
        · cases hv

theorem begins_ok {w : World} {g : Nat} {d : D} {F : Nat → Prop} (h : DictAt w g d F) {n : Nat} (hn : n ≤ big) :
    Calls Try.prog 58 #[.pointer (some ⟨g, 0, none⟩), .int .i64 n] w fun e w' => e = .returned (.tuple #[]) ∧ Went w w' g F (d.begins n) := by
  refine v58 _ _ _ _ ?_
  unfold V58
  obtain ⟨s1, F1, s2, F2, r, h1, h2⟩ := h.ex
  unfold big at hn
  refine ⟨by omega, by omega, by omega, by omega, fun G w1 hG hw1 => ?_⟩
  rw [toNatN] at hw1
  have ht := Tab.fresh hG hw1 (by unfold maxLen; omega)
  have c1 : Chg (fun _ => False) w w1 := by subst hw1; exact Chg.alloc _ _ _
  have h1' := h1.chg c1 id id (fun _ _ h => h) (fun _ _ h => h)
  simp only [add_mk, Nat.reduceAdd, toNatN]
  have k3 := set_blk 3 (.slice (some ⟨G, 0, none⟩) n n) h1'.blk
  refine ⟨⟨_, cell_blk h1'.blk rfl⟩, frozen_blk h1'.blk, ⟨_, cell_blk k3 rfl⟩, frozen_blk k3, fun w2 hw2 => ?_⟩
  have k4 := set_blk 4 (.int .i64 0) k3
  have c4 := (Chg.setCell w1 g 3 (.slice (some ⟨G, 0, none⟩) n n)).trans' (Chg.setCell _ g 4 (.int .i64 0))
  rw [← hw2] at k4 c4
  refine ⟨⟨_, cell_blk k4 rfl⟩, frozen_blk k4, fun w3 hw3 => ?_⟩
  obtain ⟨k5, c5⟩ := store_blk k4 hw3
  have c := c4.trans' c5
  have hgG : G ≠ g := fun e => by have := lt_blk h1.blk; omega
  have hrep : used (List.replicate n []) = 0 := by rw [used_eq, flatten_replicate]; rfl
  have hd : DictAt w3 g { d with b2 := List.replicate n [], idx := 0 } (fun x => x = g ∨ x = r ∨ F1 x ∨ x = G) := by
    refine ⟨s1, F1, .slice (some ⟨G, 0, none⟩) n n, fun x => x = G, r, ⟨?_, h1'.t1.chg c fun x hx e => h1.g1 (e ▸ hx), ht.chg c fun x hx e => hgG (hx ▸ e), fun x hx e => ?_, h1'.map.chg c h1.rg⟩, fun x => Iff.rfl⟩
    · show _ = some (Obj.cells #[_, _, _, _, .int .i64 ((used (List.replicate n []) : Nat) : Int), _, _] _ _)
      rw [hrep]; exact k5
    · have := h1.t1.lt hx; omega
  refine (ends_ok hd).mono ?_
  rintro e w4 ⟨rfl, hw4⟩
  refine ⟨rfl, trivial, ?_⟩
  refine Went.via ?_ ((c1.mono fun _ h => h.elim).trans' (c.mono fun x hx => (h2 x).2 (.inl hx))) hw4
  rintro x (rfl | rfl | hx | rfl)
  · exact .inl ((h2 _).2 (.inl rfl))
  · exact .inl ((h2 _).2 (.inr (.inl rfl)))
  · exact .inl ((h2 _).2 (.inr (.inr (.inl hx))))
  · exact .inr (by omega)
end Go.Proofs.Ytcljmlgbmjjldaa
