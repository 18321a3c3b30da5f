/- The dict: one step of a move. -/
import Derived.Test.YtcljmlgbmjjldaaDict3
namespace Go.Proofs.Ytcljmlgbmjjldaa
open Go Go.VC Go.RowKit Go.Proofs.Ytcljmlgbmjjldaa.F
set_option linter.unusedVariables false
set_option linter.unusedSimpArgs false

theorem hash_quiet {seed : Int} {s : Str} (hf : s.size < 9223372036854775808) (w : World) : Calls Try.prog 16 #[.int .i64 seed, .string s] w fun e w' => e = .returned (.int .i64 (hashOf seed s)) ∧ Drawn w w' :=
  (hash_ok hf w).mono fun e w' h => ⟨h.1, by rw [h.2]; exact Drawn.refl _⟩
/-- a key is joined to a table in a dict -/
theorem join_dw1 {w : World} {g r : Nat} {seed u1 u2 idx : Int} {s1 s2 : Value} {b1 b2 : Bks} {F1 F2 : Nat → Prop} {m : Kvs} (h : DW w g seed s1 b1 u1 F1 s2 b2 u2 F2 idx r m) (key : Str) (hp : D.Pow b1.length) (hbig : used b1 < big) :
    Calls Try.prog 59 #[.pointer (some ⟨g, 1, none⟩), .int .i64 (hashOf seed key), .string key] w fun e w' => e = .returned (.tuple #[]) ∧
      ∃ F1', DW w' g seed s1 (joinB seed b1 key) (IntKind.wrap .i64 (u1 + 1)) F1' s2 b2 u2 F2 idx r m ∧ (∀ x, F1' x → F1 x ∨ w.heap.size ≤ x) ∧ Chg (fun x => x = g ∨ F1 x) w w' := by
  obtain ⟨k, hk1, hk2, hk3⟩ := hp
  have hl : 0 < b1.length := by rw [hk3]; exact Nat.two_pow_pos k
  have hget := bucket_get (slot_lt seed key hl)
  refine (join_ok key h.blk (by decide) (by decide) (o := 1) rfl rfl h.t1 (hashOf_lt seed key) hk3 (by omega) hget (Nat.lt_of_le_of_lt (bucket_le_used _) hbig)).mono ?_
  rintro e w' ⟨rfl, k1, F1', k2, k3, k4⟩
  refine ⟨rfl, F1', ⟨k1, k2, h.t2.chg k4 fun x hx hx2 => ?_, fun x hx hx2 => ?_, h.map.chg k4 ?_⟩, k3, k4⟩
  · rcases hx2 with rfl | hx2
    · exact h.g2 hx
    · exact h.sep x hx2 hx
  · rcases k3 x hx with h1 | h1
    · exact h.sep x h1 hx2
    · have := h.t2.lt hx2; omega
  · rintro (h1 | h1)
    · exact h.rg h1
    · exact h.r1 h1
theorem join_dw2 {w : World} {g r : Nat} {seed u1 u2 idx : Int} {s1 s2 : Value} {b1 b2 : Bks} {F1 F2 : Nat → Prop} {m : Kvs} (h : DW w g seed s1 b1 u1 F1 s2 b2 u2 F2 idx r m) (key : Str) (hp : D.Pow b2.length) (hbig : used b2 < big) :
    Calls Try.prog 59 #[.pointer (some ⟨g, 3, none⟩), .int .i64 (hashOf seed key), .string key] w fun e w' => e = .returned (.tuple #[]) ∧
      ∃ F2', DW w' g seed s1 b1 u1 F1 s2 (joinB seed b2 key) (IntKind.wrap .i64 (u2 + 1)) F2' idx r m ∧ (∀ x, F2' x → F2 x ∨ w.heap.size ≤ x) ∧ Chg (fun x => x = g ∨ F2 x) w w' := by
  obtain ⟨k, hk1, hk2, hk3⟩ := hp
  have hl : 0 < b2.length := by rw [hk3]; exact Nat.two_pow_pos k
  have hget := bucket_get (slot_lt seed key hl)
  refine (join_ok key h.blk (by decide) (by decide) (o := 3) rfl rfl h.t2 (hashOf_lt seed key) hk3 (by omega) hget (Nat.lt_of_le_of_lt (bucket_le_used _) hbig)).mono ?_
  rintro e w' ⟨rfl, k1, F2', k2, k3, k4⟩
  refine ⟨rfl, F2', ⟨k1, h.t1.chg k4 fun x hx hx2 => ?_, k2, fun x hx hx2 => ?_, h.map.chg k4 ?_⟩, k3, k4⟩
  · rcases hx2 with rfl | hx2
    · exact h.g1 hx
    · exact h.sep x hx hx2
  · rcases k3 x hx2 with h1 | h1
    · exact h.sep x hx h1
    · have := h.t1.lt hx; omega
  · rintro (h1 | h1)
    · exact h.rg h1
    · exact h.r2 h1

theorem used_joinB {seed : Int} {b : Bks} {k : Str} (h : 0 < b.length) : used (joinB seed b k) = used b + 1 := by
  rw [used_eq, used_eq, (joinB_perm h).length_eq]; rfl
theorem used_joinAll {seed : Int} {b : Bks} {ks : List Str} (h : 0 < b.length) : used (joinAll seed b ks) = used b + ks.length := by
  rw [used_eq, used_eq, (joinAll_perm h).length_eq, List.length_append]; omega
theorem used_clear {b : Bks} {i : Nat} (h : i < b.length) : used (b.set i []) + (bucket b i).length = used b := by
  rw [used_eq, used_eq, (flatten_out h).length_eq, List.length_append]; omega

theorem full_bound (b : Bks) (n i : Nat) (hn : ∃ j, i ≤ j ∧ j < i + n ∧ bucket b j ≠ []) : ∀ j, i ≤ j → j ≤ D.full b n i → (bucket b j = [] → j < D.full b n i) := fun j h1 h2 h3 => by
  have h := D.full_spec b n i hn
  rcases Nat.lt_or_eq_of_le h2 with h4 | h4
  · exact h4
  · rw [h4] at h3; exact absurd h3 h.2.2.1

/-- where a move stands -/
def placeOf (w : World) (g : Nat) : Nat := match w.cell? ⟨g, 5, none⟩ with
  | some (.int _ i) => i.toNat
  | _ => 0
theorem placeOf_eq {w : World} {g r : Nat} {seed u1 u2 : Int} {i : Nat} {s1 s2 : Value} {b1 b2 : Bks} {F1 F2 : Nat → Prop} {m : Kvs} (h : DW w g seed s1 b1 u1 F1 s2 b2 u2 F2 i r m) : placeOf w g = i := by
  unfold placeOf; rw [cell_blk h.blk (v := .int .i64 i) rfl]; exact toNatN i
theorem step_ok {w : World} {g : Nat} {d : D} {F : Nat → Prop} (h : DictAt w g d F) (hi : D.Inv d) (hbig : d.m.length < big) :
    Calls Try.prog 55 #[.pointer (some ⟨g, 0, none⟩)] w fun e w' => e = .returned (.tuple #[]) ∧ Went w w' g F d.step := by
  refine v55 _ _ _ ?_
  unfold V55
  refine (moves_ok h).mono ?_
  rintro e w' ⟨rfl, rfl⟩
  refine ⟨_, rfl, fun hm => ?_, fun hm => ?_⟩
  · have : d.moves = false := by simpa using hm
    rw [D.step_eq' (D.moves_iff'.1 this)]
    exact ⟨rfl, Went.refl h⟩
  have hm' : d.b2 ≠ [] := D.moves_iff.1 (by simpa using hm)
  rw [D.step_eq hm']
  obtain ⟨hi1, hi2, hi3, hi4⟩ := D.at1_spec hi hm'
  have hp2 := hi.p2.resolve_left hm'
  have hl2 := D.len2_pos hm'
  have hul := hi.used_le
  have hlen1 : d.b1.length ≤ 1099511627776 := by
    rcases hi.p1 with h0 | ⟨j, _, hj, hj2⟩
    · rw [h0]; exact Nat.zero_le _
    · rw [hj2]; exact Nat.le_trans (Nat.pow_le_pow_right (by omega) hj) (by decide)
  obtain ⟨s1, F1, s2, F2, r, h1, h2⟩ := h.ex
  have hFg : ∀ x, x = g → F x := fun x hx => (h2 x).2 (.inl hx)
  refine ⟨fun w1 => ∃ i : Nat, i ≤ d.at1 ∧ DW w1 g d.seed s1 d.b1 (used d.b1) F1 s2 d.b2 (used d.b2) F2 i r d.m ∧ Chg F w w1,
    fun w1 => d.b1.length - placeOf w1 g, ⟨d.idx, hi1, h1, Chg.refl _ _⟩, ?_⟩
  rintro w2 ⟨i, hia, k1, c1⟩ w3 d3
  have k3 := k1.drawn d3
  have c3 := c1.drawn d3
  have hlt : i < d.b1.length := by omega
  obtain ⟨G, c, v, hs1, hG, hcell, hfr, ho, hvF, hput⟩ := k3.t1.at (by decide) (bucket_get hlt)
  obtain ⟨A, cb, rfl⟩ := ho.slice
  simp only [add_mk, Nat.reduceAdd, toNatN, Nat.mul_one, Nat.zero_add]
  refine ⟨some ⟨G, 0, none⟩, _, c, by rw [← hs1]; exact cell_blk k3.blk rfl, _, cell_blk k3.blk rfl, by omega, by omega, A, _, cb, by rw [add_mk, toNatN, Nat.zero_add]; exact hcell, fun w4 d4 => ⟨fun h0 => ?_, fun h0 => ?_⟩⟩
  · -- an empty bucket
    rw [beq0] at h0
    have hemp : bucket d.b1 i = [] := List.eq_nil_of_length_eq_zero h0
    have hne : i ≠ d.at1 := fun e => hi3 (e ▸ hemp)
    have k4 := k3.drawn d4
    refine ⟨_, cell_blk k4.blk rfl, ⟨_, cell_blk k4.blk rfl⟩, frozen_blk k4.blk, fun w5 hw5 => ?_⟩
    obtain ⟨k5, c5⟩ := store_blk k4.blk hw5
    rw [w64s (by omega)] at k5
    refine ⟨⟨i + 1, by omega, k4.stored c5 k5, (c3.drawn d4).trans' (c5.mono hFg)⟩, ?_⟩
    show d.b1.length - placeOf w5 g < d.b1.length - placeOf w2 g
    rw [placeOf_eq (k4.stored c5 k5), placeOf_eq k1]
    omega
  · -- the first one that is not
    rw [beq0'] at h0
    have hai : i = d.at1 := Nat.le_antisymm hia (Nat.le_of_not_lt fun hlt => h0 (by rw [hi4 i hlt]; rfl))
    intro w6 d6
    have d36 := d4.trans d6
    have k6 := k3.drawn d36
    have hcell6 : w6.cell? ⟨G, i, none⟩ = some (.slice A (bucket d.b1 i).length cb) := by obtain ⟨n, rfl⟩ := d36; exact hcell
    refine ⟨some ⟨G, 0, none⟩, _, c, by rw [← hs1]; exact cell_blk k6.blk rfl, _, cell_blk k6.blk rfl, by omega, by omega, A, _, cb, by rw [add_mk, toNatN, Nat.zero_add]; exact hcell6, fun w7 d7 => ?_⟩
    have d37 := d36.trans d7
    have k7 := k3.drawn d37
    have c7 := c3.drawn d37
    generalize hbk : bucket d.b1 i = bk at *
    have hbkl : bk.length ≤ used d.b1 := by rw [← hbk]; exact bucket_le_used _
    have hbkfit : ∀ k ∈ bk, k.size < 9223372036854775808 := fun k hk => by
      refine hi.fit k (hi.keys.mem_iff.1 (List.mem_append_left _ ?_))
      rw [← hbk] at hk
      exact mem_flatten_bucket.2 ⟨i, hlt, hk⟩
    refine ⟨fun n w8 => ∃ j : Nat, n = j ∧ j ≤ bk.length ∧ ∃ F2', DW w8 g d.seed s1 d.b1 ((used d.b1 - j : Nat) : Int) F1 s2 (joinAll d.seed d.b2 (bk.take j)) (used (joinAll d.seed d.b2 (bk.take j))) F2' i r d.m ∧ (∀ x, F2' x → F2 x ∨ w7.heap.size ≤ x) ∧ Chg (fun x => x = g ∨ F2 x) w7 w8,
      fun n w8 => bk.length - n.toNat, ⟨0, rfl, Nat.zero_le _, F2, k7, fun _ => .inl, Chg.refl _ _⟩, ?_⟩
    rintro n w8 ⟨j, rfl, hj, F2', k8, hF2', c8⟩
    have ho8 : Own w8 tS (.slice A bk.length cb) bk.length (strs bk) := Own.chg (Drawn.own d37 ho) c8 fun x hx hx2 => by
      have hx1 := (hvF x hx).1
      rcases hx2 with rfl | hx2
      · exact k1.g1 hx1
      · exact k1.sep x hx1 hx2
    refine ⟨fun hd => ?_, fun hd => ?_⟩
    · simp only [decide_eq_true_eq] at hd
      have hjl : j < bk.length := by omega
      have hjg : bk[j]? = some bk[j] := List.getElem?_eq_getElem hjl
      obtain ⟨g', c', cur', e, _, _, hcellj, _⟩ := ho8.at (strs_get hjg)
      injection e with e1 e2 e3
      subst e1
      refine ⟨by omega, by omega, bk[j], by rw [add_mk, toNatN, Nat.zero_add]; exact hcellj, fun w9 d9 => ?_⟩
      have k9 := k8.drawn d9
      have hfitj := hbkfit _ (List.getElem_mem hjl)
      refine ⟨_, cell_blk k9.blk rfl, _, fun w0 _ => hash_quiet hfitj w0, fun w10 d10 => ?_⟩
      have k10 := k9.drawn d10
      have hlj : 0 < (joinAll d.seed d.b2 (bk.take j)).length := by rw [joinAll_length]; exact hl2
      have huj : used (joinAll d.seed d.b2 (bk.take j)) = used d.b2 + j := by rw [used_joinAll hl2, List.length_take]; omega
      refine (join_dw2 k10 bk[j] (by rw [joinAll_length]; exact hp2) (by omega)).mono ?_
      rintro e w11 ⟨rfl, F3, k11, hF3, c11⟩
      refine ⟨rfl, fun w12 d12 => ?_⟩
      have k12 := k11.drawn d12
      refine ⟨_, cell_blk k12.blk rfl, ⟨_, cell_blk k12.blk rfl⟩, frozen_blk k12.blk, fun w13 hw13 => ?_⟩
      obtain ⟨k13, c13⟩ := store_blk k12.blk hw13
      have hsn : joinB d.seed (joinAll d.seed d.b2 (bk.take j)) bk[j] = joinAll d.seed d.b2 (bk.take (j + 1)) := by
        rw [← joinAll_snoc, List.take_succ_eq_append_getElem hjl]
      have hu1 : IntKind.wrap .i64 (((used d.b1 - j : Nat) : Int) - 1) = ((used d.b1 - (j + 1) : Nat) : Int) := by
        unfold big at hbig
        rw [w64p (by omega) (by omega), Nat.sub_sub]
      have hu2 : IntKind.wrap .i64 (((used (joinAll d.seed d.b2 (bk.take j)) : Nat) : Int) + 1) = ((used (joinAll d.seed d.b2 (bk.take (j + 1))) : Nat) : Int) := by
        unfold big at hbig
        rw [← hsn, used_joinB hlj, w64s (by omega)]
      refine ⟨⟨j + 1, ?_, by omega, F3, ?_, fun x hx => ?_, ?_⟩, ?_⟩
      · unfold big at hbig; exact w64s (by omega)
      · rw [← hu1, ← hu2, ← hsn]
        exact k12.stored c13 k13
      · have hc : w7.heap.size ≤ w10.heap.size := ((c8.drawn d9).drawn d10).size
        rcases hF3 x hx with h' | h'
        · exact hF2' x h'
        · exact .inr (Nat.le_trans hc h')
      · refine ((((c8.drawn d9).drawn d10).trans c11 ?_).drawn d12).trans' (c13.mono fun x hx => .inl hx)
        rintro x (hx | hx)
        · exact .inl (.inl hx)
        · exact (hF2' x hx).imp .inr id
      · show bk.length - (IntKind.wrap .i64 ((j : Int) + 1)).toNat < bk.length - ((j : Nat) : Int).toNat
        unfold big at hbig
        rw [w64s (by omega)]; omega
    · simp only [decide_eq_false_iff_not] at hd
      have hje : j = bk.length := by omega
      subst hje
      rw [List.take_length] at k8
      intro w14 d14
      have k14 := k8.drawn d14
      have c14 := c8.drawn d14
      obtain ⟨G', c', v', hs1', hG', hcell', hfr', ho', hvF', hput'⟩ := k14.t1.at (by decide) (bucket_get hlt)
      have hGG : G' = G := by rw [hs1] at hs1'; injection hs1' with e1; injection e1 with e1; injection e1 with e1; exact e1.symm
      subst hGG
      refine ⟨some ⟨G', 0, none⟩, _, c, by rw [← hs1]; exact cell_blk k14.blk rfl, _, cell_blk k14.blk rfl, by omega, by omega, fun w15 d15 => ?_⟩
      have k15 := k14.drawn d15
      rw [add_mk, toNatN, Nat.zero_add]
      have hcell15 : w15.cell? ⟨G', i, none⟩ = some v' := by obtain ⟨n, rfl⟩ := d15; exact hcell'
      have hfr15 : w15.frozen? ⟨G', i, none⟩ = false := by obtain ⟨n, rfl⟩ := d15; exact hfr'
      refine ⟨⟨_, hcell15⟩, hfr15, fun w16 hw16 => ?_⟩
      obtain ⟨F1', ht1, hF1'⟩ := hput' w15 (.slice none 0 0) [] _ (d15.chg (fun _ => False)) (fun _ h => h.elim) (Own.nil _ _) (fun x hx => by simp [Value.ownBlock] at hx)
      rw [← hw16] at ht1
      have c16 : Chg (fun x => x = G') w15 w16 := by subst hw16; exact Chg.setCell _ _ _ _
      have hGg : G' ≠ g := fun e => k14.g1 (e ▸ hG')
      have hGr : G' ≠ r := fun e => k14.r1 (e ▸ hG')
      have hF1n : ∀ x, F1' x → F1 x ∨ w14.heap.size ≤ x := hF1'
      have k16 : DW w16 g d.seed s1 (d.b1.set i []) ((used d.b1 - bk.length : Nat) : Int) F1' s2 (joinAll d.seed d.b2 bk) (used (joinAll d.seed d.b2 bk)) F2' i r d.m :=
        ⟨c16.blk k15.blk (Ne.symm hGg), ht1, k15.t2.chg c16 fun x hx e => k14.sep G' hG' (e ▸ hx), fun x hx hx2 => (hF1n x hx).elim (fun h' => k14.sep x h' hx2) fun h' => by have := k14.t2.lt hx2; omega, k15.map.chg c16 (Ne.symm hGr)⟩
      intro w17 d17
      have k17 := k16.drawn d17
      refine ⟨_, cell_blk k17.blk rfl, ⟨_, cell_blk k17.blk rfl⟩, frozen_blk k17.blk, fun w18 hw18 => ?_⟩
      obtain ⟨k18, c18⟩ := store_blk k17.blk hw18
      rw [w64s (by omega)] at k18
      have k18' := k17.stored c18 k18
      have hmoved : d.moved = { d with b1 := d.b1.set i [], b2 := joinAll d.seed d.b2 bk, idx := i + 1 } := by unfold D.moved; rw [← hai, hbk]
      have hu : used (d.b1.set i []) = used d.b1 - bk.length := by have := used_clear hlt; rw [hbk] at this; omega
      have hd : DictAt w18 g d.moved (fun x => x = g ∨ x = r ∨ F1' x ∨ F2' x) := by
        rw [hmoved]
        refine ⟨s1, F1', s2, F2', r, ?_, fun x => Iff.rfl⟩
        show DW w18 g d.seed s1 (d.b1.set i []) ((used (d.b1.set i []) : Nat) : Int) F1' s2 _ _ F2' _ r d.m
        rw [hu]; exact k18'
      have hF2x : ∀ x, F2 x → F x := fun x hx => (h2 x).2 (.inr (.inr (.inr hx)))
      have hF1x : ∀ x, F1 x → F x := fun x hx => (h2 x).2 (.inr (.inr (.inl hx)))
      have c78 : Chg F w w14 := c7.trans' (c14.mono fun x hx => hx.elim (hFg x) (hF2x x))
      have cend : Chg F w w18 := ((((c78.drawn d15).trans' (c16.mono fun x hx => hF1x x (hx ▸ hG'))).drawn d17).trans' (c18.mono hFg))
      refine (ends_ok hd).mono ?_
      rintro e w19 ⟨rfl, hw19⟩
      refine ⟨rfl, trivial, Went.via ?_ cend hw19⟩
      have hs14 : w.heap.size ≤ w14.heap.size := c78.size
      rintro x (rfl | rfl | hx | hx)
      · exact .inl (hFg _ rfl)
      · exact .inl ((h2 _).2 (.inr (.inl rfl)))
      · exact (hF1n x hx).imp (hF1x x) fun h' => Nat.le_trans hs14 h'
      · exact (hF2' x hx).imp (hF2x x) fun h' => Nat.le_trans c7.size h'
end Go.Proofs.Ytcljmlgbmjjldaa
