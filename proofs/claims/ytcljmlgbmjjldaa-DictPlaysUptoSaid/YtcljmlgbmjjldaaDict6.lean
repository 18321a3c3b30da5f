/- The dict: Delete, Get, Len, Tables, Step. -/
import Derived.Test.YtcljmlgbmjjldaaDict5
namespace Go.Proofs.Ytcljmlgbmjjldaa
open Go Go.VC Go.RowKit Go.Proofs.Ytcljmlgbmjjldaa.F
set_option linter.unusedVariables false
set_option linter.unusedSimpArgs false

theorem get_ok {w : World} {g : Nat} {d : D} {F : Nat → Prop} (h : DictAt w g d F) (hints : Ints d.m) (key : Str) :
    Calls Try.prog 23 #[.pointer (some ⟨g, 0, none⟩), .string key] w fun e w' => e = .returned (.tuple #[.int .i64 (intOf (kget key d.m)), .bool (kget key d.m).isSome]) ∧ w = w' := by
  refine v23 _ _ _ _ ?_
  unfold V23
  obtain ⟨s1, F1, s2, F2, r, k1, k2⟩ := h.ex
  simp only [add_mk, Nat.reduceAdd]
  exact ⟨_, cell_blk k1.blk rfl, _, _, w, look_int hints k1.map key, rfl, rfl⟩
theorem len_ok {w : World} {g : Nat} {d : D} {F : Nat → Prop} (h : DictAt w g d F) :
    Calls Try.prog 22 #[.pointer (some ⟨g, 0, none⟩)] w fun e w' => e = .returned (.int .i64 d.m.length) ∧ w = w' := by
  refine v22 _ _ _ ?_
  unfold V22
  obtain ⟨s1, F1, s2, F2, r, k1, k2⟩ := h.ex
  simp only [add_mk, Nat.reduceAdd]
  exact ⟨_, cell_blk k1.blk rfl, _, k1.map.len, rfl, trivial⟩
def D.tables (d : D) : Int × Int × Int := if d.moves then (d.b1.length, d.b2.length, d.idx) else (d.b1.length, 0, -1)
theorem tables_ok {w : World} {g : Nat} {d : D} {F : Nat → Prop} (h : DictAt w g d F) :
    Calls Try.prog 26 #[.pointer (some ⟨g, 0, none⟩)] w fun e w' => e = .returned (.tuple #[.int .i64 (D.tables d).1, .int .i64 (D.tables d).2.1, .int .i64 (D.tables d).2.2]) ∧ Drawn w w' := by
  refine v26 _ _ _ ?_
  unfold V26
  refine (moves_ok h).mono ?_
  rintro e w1 ⟨rfl, rfl⟩
  simp only [add_mk, Nat.reduceAdd]
  refine ⟨_, rfl, fun hm => ?_, fun hm w3 d3 => ?_⟩
  · have hm' : d.moves = false := by simpa using hm
    refine (size1_ok h).mono ?_
    rintro e w2 ⟨rfl, rfl⟩
    refine ⟨_, rfl, ?_, Drawn.refl _⟩
    unfold D.tables; rw [if_neg (by simp [hm'])]
  · have hm' : d.moves = true := by simpa using hm
    have h3 := h.drawn d3
    obtain ⟨s1, F1, s2, F2, r, k1, k2⟩ := h3.ex
    refine ⟨_, fun w0 he => quiet_of (size1_ok (h3.ext he)), _, fun w0 he => quiet_of (size2_ok (h3.ext he)), _, cell_blk k1.blk rfl, fun w4 d4 => ⟨?_, d3.trans d4⟩⟩
    unfold D.tables; rw [if_pos hm']

theorem steps_ok {w : World} {g : Nat} {d : D} {F : Nat → Prop} (h : DictAt w g d F) (hi : D.Inv d) (hbig : d.m.length < big) {n : Int} (hn : -9223372036854775808 ≤ n ∧ n < 9223372036854775808) :
    Calls Try.prog 31 #[.pointer (some ⟨g, 0, none⟩), .int .i64 n] w fun e w' => e = .returned (.tuple #[]) ∧ Went w w' g F (d.steps n.toNat) := by
  refine v31 _ _ _ _ ?_
  refine ⟨fun n1 w1 => n1 ≤ n ∧ -9223372036854775808 ≤ n1 ∧ ∃ d1, Went w w1 g F d1 ∧ D.Inv d1 ∧ d1.m = d.m ∧ d.steps n.toNat = d1.steps n1.toNat, fun n1 _ => n1.toNat, ⟨Int.le_refl _, hn.1, d, Went.refl h, hi, rfl, rfl⟩, ?_⟩
  rintro n1 w1 ⟨hle, hge, d1, hw1, hi1, hm1, hs⟩
  obtain ⟨F1, h1, hF1, c1⟩ := hw1.ex
  refine ⟨fun h0 => ?_, fun h0 => ?_⟩
  · have h0' : 0 < n1 := by simpa using h0
    refine (moves_ok h1).mono ?_
    rintro e w2 ⟨rfl, rfl⟩
    have hst : d1.steps n1.toNat = if d1.moves then d1.step.steps (n1 - 1).toNat else d1 := by
      have : n1.toNat = (n1 - 1).toNat + 1 := by omega
      rw [this, D.steps]
    refine ⟨_, rfl, fun hb => ?_, fun hb => ?_⟩
    · refine (step_ok h1 hi1 (by rw [hm1]; exact hbig)).mono ?_
      rintro e w3 ⟨rfl, hw3⟩
      refine ⟨rfl, ?_⟩
      rw [w64 (by omega) (by omega)]
      refine ⟨⟨by omega, by omega, d1.step, Went.via hF1 c1 hw3, hi1.step, by rw [D.step_m]; exact hm1, ?_⟩, by show (n1 - 1).toNat < n1.toNat; omega⟩
      rw [hs, hst, if_pos hb]
    · refine ⟨rfl, ?_⟩
      rw [hs, hst, if_neg (by simp [hb])]; exact hw1
  · have h0' : ¬ 0 < n1 := by simpa using h0
    refine ⟨fun h => (by cases h), fun _ => ⟨rfl, ?_⟩⟩
    have : n1.toNat = 0 := by omega
    rw [hs, this]; exact hw1

/-! ### Delete -/
theorem leave_dw1 {w : World} {g r : Nat} {seed u1 u2 idx : Int} {s1 s2 : Value} {b1 b2 : Bks} {F1 F2 : Nat → Prop} {m : Kvs} (h : DW w g seed s1 b1 u1 F1 s2 b2 u2 F2 idx r m) (key : Str) (hp : D.Pow b1.length) (hbig : used b1 < big)
    (hk : key ∈ bucket b1 (slot seed key b1.length)) :
    Calls Try.prog 60 #[.pointer (some ⟨g, 1, none⟩), .int .i64 (hashOf seed key), .string key] w fun e w' => e = .returned (.bool true) ∧
      ∃ F1', DW w' g seed s1 (leaveB seed b1 key) (IntKind.wrap .i64 (u1 - 1)) F1' s2 b2 u2 F2 idx r m ∧ (∀ x, F1' x → F1 x ∨ w.heap.size ≤ x) ∧ Chg (fun x => x = g ∨ F1 x) w w' := by
  obtain ⟨k, hk1, hk2, hk3⟩ := hp
  have hl : 0 < b1.length := by rw [hk3]; exact Nat.two_pow_pos k
  have hget := bucket_get (slot_lt seed key hl)
  refine (leave_ok key h.blk (by decide) (by decide) (o := 1) rfl rfl h.t1 (hashOf_lt seed key) hk3 (by omega) hget (Nat.lt_of_le_of_lt (bucket_le_used _) hbig) hk).mono ?_
  rintro e w' ⟨rfl, k1, F1', k2, k3, k4⟩
  refine ⟨rfl, F1', ⟨k1, k2, h.t2.chg k4 fun x hx hx2 => ?_, fun x hx hx2 => ?_, h.map.chg k4 ?_⟩, k3, k4⟩
  · rcases hx2 with rfl | hx2
    · exact h.g2 hx
    · exact h.sep x hx2 hx
  · rcases k3 x hx with h1 | h1
    · exact h.sep x h1 hx2
    · have := h.t2.lt hx2; omega
  · rintro (h1 | h1)
    · exact h.rg h1
    · exact h.r1 h1
theorem leave_dw2 {w : World} {g r : Nat} {seed u1 u2 idx : Int} {s1 s2 : Value} {b1 b2 : Bks} {F1 F2 : Nat → Prop} {m : Kvs} (h : DW w g seed s1 b1 u1 F1 s2 b2 u2 F2 idx r m) (key : Str) (hp : D.Pow b2.length) (hbig : used b2 < big)
    (hk : key ∈ bucket b2 (slot seed key b2.length)) :
    Calls Try.prog 60 #[.pointer (some ⟨g, 3, none⟩), .int .i64 (hashOf seed key), .string key] w fun e w' => e = .returned (.bool true) ∧
      ∃ F2', DW w' g seed s1 b1 u1 F1 s2 (leaveB seed b2 key) (IntKind.wrap .i64 (u2 - 1)) F2' idx r m ∧ (∀ x, F2' x → F2 x ∨ w.heap.size ≤ x) ∧ Chg (fun x => x = g ∨ F2 x) w w' := by
  obtain ⟨k, hk1, hk2, hk3⟩ := hp
  have hl : 0 < b2.length := by rw [hk3]; exact Nat.two_pow_pos k
  have hget := bucket_get (slot_lt seed key hl)
  refine (leave_ok key h.blk (by decide) (by decide) (o := 3) rfl rfl h.t2 (hashOf_lt seed key) hk3 (by omega) hget (Nat.lt_of_le_of_lt (bucket_le_used _) hbig) hk).mono ?_
  rintro e w' ⟨rfl, k1, F2', k2, k3, k4⟩
  refine ⟨rfl, F2', ⟨k1, h.t1.chg k4 fun x hx hx2 => ?_, k2, fun x hx hx2 => ?_, h.map.chg k4 ?_⟩, k3, k4⟩
  · rcases hx2 with rfl | hx2
    · exact h.g1 hx
    · exact h.sep x hx hx2
  · rcases k3 x hx2 with h1 | h1
    · exact h.sep x hx h1
    · have := h.t1.lt hx; omega
  · rintro (h1 | h1)
    · exact h.rg h1
    · exact h.r2 h1
theorem used_leaveB {seed : Int} {b : Bks} {k : Str} (h : 0 < b.length) (hk : k ∈ bucket b (slot seed k b.length)) : used (leaveB seed b k) + 1 = used b := by
  rw [used_eq, used_eq, ← (leaveB_perm h hk).length_eq]; rfl

/-- behind the ends of a move -/
theorem shrinks_vc {w w0 : World} {g : Nat} {d : D} {F F0 : Nat → Prop} (h : DictAt w g d F) (hi : D.Inv d) (hF : ∀ x, F x → F0 x ∨ w0.heap.size ≤ x) (hc : Chg F0 w0 w) :
    ∀ w9 : World, Drawn w w9 →
  ∃ (b_4 : Bool), (∀ w0 : World, Ext w9 w0 → Calls Try.prog 57 #[.pointer (some ⟨g, 0, none⟩)] w0 fun e_ w00 => e_ = .returned (.bool b_4) ∧ Drawn w0 w00) ∧
  ((!b_4) = true →
  ∃ (n_4 : Int), (∀ w0 : World, Ext w9 w0 → Calls Try.prog 56 #[.pointer (some ⟨g, 1, none⟩)] w0 fun e_ w00 => e_ = .returned (.int .i64 n_4) ∧ Drawn w0 w00) ∧
  ((decide ((n_4 : Int) > 4)) = true →
  ∃ (n_5 : Int), World.cell? w9 ⟨g, 2, none⟩ = some (.int .i64 n_5) ∧
  ∃ (n_6 : Int), (∀ w0 : World, Ext w9 w0 → Calls Try.prog 56 #[.pointer (some ⟨g, 1, none⟩)] w0 fun e_ w00 => e_ = .returned (.int .i64 n_6) ∧ Drawn w0 w00) ∧
  (8 : Int) ≠ 0 ∧
  ∀ w10 : World, Drawn w9 w10 →
  V20_k2 ⟨g, 0, none⟩ (decide ((n_5 : Int) ≤ (IntKind.wrap .i64 (Int.tdiv n_6 8)))) w10 (fun e w' => e = .returned (.bool true) ∧ Went w0 w' g F0 d.shrinks)) ∧
  ((decide ((n_4 : Int) > 4)) = !true →
  ∀ w14 : World, Drawn w9 w14 →
  V20_k3 ⟨g, 0, none⟩ w14 (fun e w' => e = .returned (.bool true) ∧ Went w0 w' g F0 d.shrinks))) ∧
  ((!b_4) = !true →
  ∀ w18 : World, Drawn w9 w18 →
  V20_k3 ⟨g, 0, none⟩ w18 (fun e w' => e = .returned (.bool true) ∧ Went w0 w' g F0 d.shrinks)) := by
  intro w9 d9
  have h9 := h.drawn d9
  have stay : d.shrinks = d → ∀ w14, Drawn w9 w14 → V20_k3 ⟨g, 0, none⟩ w14 (fun e w' => e = .returned (.bool true) ∧ Went w0 w' g F0 d.shrinks) := by
    intro he w14 d14
    refine ⟨fun h => (by cases h), fun _ => ⟨rfl, ?_⟩⟩
    rw [he]
    exact ⟨F, h.drawn (d9.trans d14), hF, hc.drawn (d9.trans d14)⟩
  have hlen1 : d.b1.length ≤ 1099511627776 := by
    rcases hi.p1 with h0 | ⟨j, _, hj, hj2⟩
    · rw [h0]; exact Nat.zero_le _
    · rw [hj2]; exact Nat.le_trans (Nat.pow_le_pow_right (by omega) hj) (by decide)
  obtain ⟨s1, F1, s2, F2, r, k1, k2⟩ := h9.ex
  refine ⟨_, fun w0 he => quiet_of (moves_ok (h9.ext he)), fun hm => ?_, fun hm => stay ?_⟩
  · have hm' : d.moves = false := by simpa using hm
    refine ⟨_, fun w0 he => quiet_of (size1_ok (h9.ext he)), fun h4 => ?_, fun h4 => stay ?_⟩
    · have h4' : 4 < d.b1.length := by have := of_decide_eq_true h4; omega
      refine ⟨_, cell_blk k1.blk rfl, _, fun w0 he => quiet_of (size1_ok (h9.ext he)), by decide, fun w10 d10 => ?_⟩
      have htd : IntKind.wrap .i64 (Int.tdiv (d.b1.length : Int) 8) = ((d.b1.length / 8 : Nat) : Int) := by
        rw [Int.tdiv_eq_ediv_of_nonneg (by omega), w64 (by omega) (by omega)]; omega
      rw [htd]
      refine ⟨fun hc8 => ?_, fun hc8 => ?_⟩
      · have hle : used d.b1 ≤ d.b1.length / 8 := by have := of_decide_eq_true hc8; omega
        have hsh : d.shrinks = d.begins (D.shrunk (used d.b1) 64 4) := by unfold D.shrinks; rw [if_pos (by simp [hm', h4', hle])]
        have h10 := h9.drawn d10
        have k10 := k1.drawn d10
        refine ⟨fun sz w1 => w1 = w10 ∧ ∃ j f : Nat, sz = ((2 ^ j : Nat) : Int) ∧ 2 ≤ j ∧ j + f = 66 ∧ D.shrunk (used d.b1) 64 4 = D.shrunk (used d.b1) f (2 ^ j) ∧ 2 ^ j ≤ 2199023255552, fun sz _ => 1099511627776 * 8 - sz.toNat, ⟨rfl, 2, 64, rfl, by omega, rfl, rfl, by decide⟩, ?_⟩
        rintro sz w12 ⟨rfl, j, f, rfl, hj2, hjf, hsz, hjb⟩
        refine ⟨_, cell_blk k10.blk rfl, fun hd => ?_, fun hd => ?_⟩
        · have hd' : 2 ^ j < used d.b1 := by simp only [decide_eq_true_eq] at hd; omega
          have hw : IntKind.wrap .i64 (((2 ^ j : Nat) : Int) * 2) = ((2 ^ (j + 1) : Nat) : Int) := by
            have hp0 : 0 < 2 ^ j := Nat.two_pow_pos j
            rw [Nat.pow_succ]
            generalize 2 ^ j = p at *
            rw [w64 (by omega) (by omega)]; omega
          have hj66 : j < 66 := by
            refine Nat.lt_of_not_le fun hle => ?_
            have : 2 ^ 66 ≤ 2 ^ j := Nat.pow_le_pow_right (by omega) hle
            omega
          rw [hw]
          have hpow : 2 ^ (j + 1) = 2 * 2 ^ j := by rw [Nat.pow_succ]; omega
          refine ⟨⟨rfl, j + 1, f - 1, rfl, by omega, by omega, ?_, by omega⟩, ?_⟩
          · rw [hsz]
            obtain ⟨f', rfl⟩ : ∃ f', f = f' + 1 := ⟨f - 1, by omega⟩
            rw [D.shrunk, if_pos hd', Nat.pow_succ]; rfl
          · show 1099511627776 * 8 - (((2 ^ (j + 1) : Nat) : Int)).toNat < 1099511627776 * 8 - (((2 ^ j : Nat) : Int)).toNat
            have hp0 : 0 < 2 ^ j := Nat.two_pow_pos j
            rw [toNatN, toNatN, hpow]
            generalize 2 ^ j = p at *
            omega
        · have hd' : ¬ 2 ^ j < used d.b1 := by simp only [decide_eq_false_iff_not] at hd; omega
          have hfin : D.shrunk (used d.b1) 64 4 = 2 ^ j := by
            rw [hsz]
            cases f with
            | zero => rfl
            | succ f => rw [D.shrunk, if_neg hd']
          have hle2 := D.shrunk_le (used d.b1) 64 4
          refine (begins_ok h10 (n := 2 ^ j) (by unfold big; omega)).mono ?_
          rintro e w13 ⟨rfl, hw13⟩
          refine ⟨rfl, rfl, ?_⟩
          rw [hsh, hfin]
          exact Went.via hF (hc.drawn (d9.trans d10)) hw13
      · have hle : ¬ used d.b1 ≤ d.b1.length / 8 := by have := of_decide_eq_false hc8; omega
        have hsh : d.shrinks = d := by unfold D.shrinks; rw [if_neg (by simp [hle])]
        refine ⟨rfl, ?_⟩
        rw [hsh]
        exact ⟨F, h.drawn (d9.trans d10), hF, hc.drawn (d9.trans d10)⟩
    · have : ¬ 4 < d.b1.length := by have := of_decide_eq_false (show decide _ = false from h4); omega
      unfold D.shrinks; rw [if_neg (by simp [this])]
  · have hm' : d.moves = true := by simpa using hm
    unfold D.shrinks; rw [if_neg (by simp [hm'])]

theorem delete_dict_ok {w : World} {g : Nat} {d : D} {F : Nat → Prop} {key : Str} (h : DictAt w g d F) (hi : D.Inv d) (hints : Ints d.m) (hf : key.size < 9223372036854775808) (hbig : d.m.length < big) :
    Calls Try.prog 20 #[.pointer (some ⟨g, 0, none⟩), .string key] w fun e w' => e = .returned (.bool (d.delete key).2) ∧ Went w w' g F (d.delete key).1 := by
  refine v20 _ _ _ _ ?_
  unfold V20
  refine (step_ok h hi hbig).mono ?_
  rintro e w1 ⟨rfl, hw1⟩
  obtain ⟨F0, h1, hF0, c1⟩ := hw1.ex
  have hsi := hi.step
  obtain ⟨s1, F1, s2, F2, r, k1, k2⟩ := h1.ex
  have hints' : Ints d.step.m := by rw [D.step_m]; exact hints
  have hsbig : d.step.m.length < big := by rw [D.step_m]; exact hbig
  simp only [add_mk, Nat.reduceAdd]
  refine ⟨trivial, _, cell_blk k1.blk rfl, _, _, w1, look_int hints' k1.map key, fun hb => ?_, fun hb => ?_⟩
  · unfold D.delete; rw [if_neg (by simpa using hb)]; exact ⟨rfl, hw1⟩
  have hk : (kget key d.step.m).isSome := by simpa using hb
  have hdel : d.delete key = ((d.step.takes key).ends.shrinks, true) := by unfold D.delete; rw [if_pos hk]
  rw [hdel]
  have hti := D.takes_spec hsi hk
  have hei := hti.ends
  have hfin := hei.1.toInv hei.2
  obtain ⟨w3, hr3, hm3, c3⟩ := run_delete (P := Try.prog) (T := 100) Try.underlying100 Try.underlying9 k1.map key 9 0 #[false, false]
  have k3 : DW w3 g d.step.seed s1 d.step.b1 (used d.step.b1) F1 s2 d.step.b2 (used d.step.b2) F2 d.step.idx r (del key d.step.m) :=
    ⟨c3.blk k1.blk (Ne.symm k1.rg), k1.t1.chg c3 fun x hx e => k1.r1 (e ▸ hx), k1.t2.chg c3 fun x hx e => k1.r2 (e ▸ hx), k1.sep, hm3⟩
  have c3' : Chg F w w3 := c1.trans c3 fun x hx => hF0 x ((k2 x).2 (.inr (.inl hx)))
  refine ⟨_, cell_blk k1.blk rfl, w3, hr3, _, cell_blk k3.blk rfl, ?_⟩
  refine (hash_ok hf w3).mono ?_
  rintro e w4 ⟨rfl, rfl⟩
  refine ⟨_, rfl, ?_⟩
  have hule := hsi.used_le
  -- behind the leaving
  have hk1 : ∀ w7 F7, DictAt w7 g (d.step.takes key) F7 → (∀ x, F7 x → F x ∨ w.heap.size ≤ x) → Chg F w w7 → V20_k1 ⟨g, 0, none⟩ w7 (fun e w' => e = .returned (.bool true) ∧ Went w w' g F (d.step.takes key).ends.shrinks) := by
    intro w7 F7 h7 hF7 c7
    unfold V20_k1
    refine (ends_ok h7).mono ?_
    rintro e w8 ⟨rfl, hw8⟩
    refine ⟨rfl, ?_⟩
    obtain ⟨F8, h8, hF8, c8⟩ := (Went.via hF7 c7 hw8).ex
    have := shrinks_vc h8 hfin hF8 c8
    simpa only [add_mk, Nat.reduceAdd] using this
  by_cases hin : key ∈ bucket d.step.b1 (slot d.step.seed key d.step.b1.length)
  · have hl := D.pos_of_mem hin
    have hp := hsi.p1.resolve_left (List.length_pos_iff.1 hl)
    have htk : d.step.takes key = { d.step with m := del key d.step.m, b1 := leaveB d.step.seed d.step.b1 key } := by unfold D.takes; simp only; rw [if_pos hin]
    refine (leave_dw1 k3 key hp (by omega) hin).mono ?_
    rintro e w5 ⟨rfl, F1', k5, hF1', c5⟩
    refine ⟨_, rfl, fun h => (by cases h), fun _ => hk1 w5 (fun x => x = g ∨ x = r ∨ F1' x ∨ F2 x) ?_ ?_ ?_⟩
    · rw [htk]
      refine ⟨s1, F1', s2, F2, r, ?_, fun x => Iff.rfl⟩
      have hu := used_leaveB hl hin
      have e1 : IntKind.wrap .i64 (((used d.step.b1 : Nat) : Int) - 1) = ((used (leaveB d.step.seed d.step.b1 key) : Nat) : Int) := by
        unfold big at hsbig
        rw [w64p (by omega) (by omega)]; omega
      rw [e1] at k5; exact k5
    · rintro x (rfl | rfl | hx | hx)
      · exact hF0 _ ((k2 _).2 (.inl rfl))
      · exact hF0 _ ((k2 _).2 (.inr (.inl rfl)))
      · exact (hF1' x hx).elim (fun h' => hF0 x ((k2 x).2 (.inr (.inr (.inl h'))))) fun h' => .inr (Nat.le_trans c3'.size h')
      · exact hF0 x ((k2 x).2 (.inr (.inr (.inr hx))))
    · refine c3'.trans c5 ?_
      rintro x (rfl | hx)
      · exact hF0 _ ((k2 _).2 (.inl rfl))
      · exact hF0 x ((k2 x).2 (.inr (.inr (.inl hx))))
  · have hmem : key ∈ d.step.b1.flatten ++ d.step.b2.flatten := by
      refine hsi.keys.mem_iff.2 (Classical.byContradiction fun hn => ?_)
      rw [look_none.2 hn] at hk; cases hk
    have hk2 : key ∈ d.step.b2.flatten := (List.mem_append.1 hmem).resolve_left fun h1 => hin (D.mem_b1 hsi h1)
    have hin2 := D.mem_b2 hsi hk2
    have hl := D.pos_of_mem hin2
    have hb2 : d.step.b2 ≠ [] := List.length_pos_iff.1 hl
    have hb1 : d.step.b1 ≠ [] := fun e => hb2 (hsi.e e)
    have hp := hsi.p2.resolve_left hb2
    obtain ⟨k, hpk1, hpk2, hpk3⟩ := hsi.p1.resolve_left hb1
    have hl1 : 0 < d.step.b1.length := List.length_pos_iff.2 hb1
    have htk : d.step.takes key = { d.step with m := del key d.step.m, b2 := leaveB d.step.seed d.step.b2 key } := by unfold D.takes; simp only; rw [if_neg hin]
    refine (leave_not key k3.blk (o := 1) rfl k3.t1 (hashOf_lt _ _) (.inr ⟨hpk3, by omega, _, bucket_get (slot_lt _ _ hl1), ?_, hin⟩)).mono ?_
    · have := bucket_le_used (b := d.step.b1) (slot d.step.seed key d.step.b1.length)
      unfold slot at this; omega
    rintro e w5 ⟨rfl, rfl⟩
    refine ⟨_, rfl, fun _ => ?_, fun h => (by cases h)⟩
    refine (leave_dw2 k3 key hp (by omega) hin2).mono ?_
    rintro e w6 ⟨rfl, F2', k6, hF2', c6⟩
    refine ⟨_, rfl, hk1 w6 (fun x => x = g ∨ x = r ∨ F1 x ∨ F2' x) ?_ ?_ ?_⟩
    · rw [htk]
      refine ⟨s1, F1, s2, F2', r, ?_, fun x => Iff.rfl⟩
      have hu := used_leaveB hl hin2
      have e1 : IntKind.wrap .i64 (((used d.step.b2 : Nat) : Int) - 1) = ((used (leaveB d.step.seed d.step.b2 key) : Nat) : Int) := by
        unfold big at hsbig
        rw [w64p (by omega) (by omega)]; omega
      rw [e1] at k6; exact k6
    · rintro x (rfl | rfl | hx | hx)
      · exact hF0 _ ((k2 _).2 (.inl rfl))
      · exact hF0 _ ((k2 _).2 (.inr (.inl rfl)))
      · exact hF0 x ((k2 x).2 (.inr (.inr (.inl hx))))
      · exact (hF2' x hx).elim (fun h' => hF0 x ((k2 x).2 (.inr (.inr (.inr h'))))) fun h' => .inr (Nat.le_trans c3'.size h')
    · refine c3'.trans c6 ?_
      rintro x (rfl | hx)
      · exact hF0 _ ((k2 _).2 (.inl rfl))
      · exact hF0 x ((k2 x).2 (.inr (.inr (.inr hx))))
end Go.Proofs.Ytcljmlgbmjjldaa
