/- Rows of operations; DictMeasure's walk. -/
import Derived.Test.YtcljmlgbmjjldaaDict11
import Derived.Test.YtcljmlgbmjjldaaDictB
namespace Go.Proofs.Ytcljmlgbmjjldaa
open Go Go.VC Go.RowKit Go.Proofs.Ytcljmlgbmjjldaa.F
set_option linter.unusedVariables false
set_option linter.unusedSimpArgs false

/-- the operations that stand behind a slice's address -/
def OpsAt (w : World) (A : Option Addr) (ops : List Op) : Prop :=
  ∀ (j : Nat) (o : Op), ops[j]? = some o → ∃ a, A = some a ∧ w.cell? (a.add (j * 3)) = some (.int .i64 o.kind) ∧ w.cell? ((a.add (j * 3)).add 1) = some (.string o.key) ∧ w.cell? ((a.add (j * 3)).add 2) = some (.int .i64 o.n)
theorem cell_later {w w' : World} (hc : Chg (fun x => w.heap.size ≤ x) w w') {a : Addr} {v : Value} (h : w.cell? a = some v) : w'.cell? a = some v := by
  have hlt := World.block_lt_of_cell? w a h
  exact (World.cell?_of_block (hc.block a.block hlt (by omega))).trans h
theorem OpsAt.later {w w' : World} {A : Option Addr} {ops : List Op} (h : OpsAt w A ops) (hc : Chg (fun x => w.heap.size ≤ x) w w') : OpsAt w' A ops := fun j o ho => by
  obtain ⟨a, h1, h2, h3, h4⟩ := h j o ho
  exact ⟨a, h1, cell_later hc h2, cell_later hc h3, cell_later hc h4⟩
theorem rd_nil (w : World) : Rd w (.slice none 0 0) (strs []) := ⟨none, 0, rfl, Nat.le_refl _, .inl ⟨rfl, rfl, rfl⟩⟩
/-- a dict of numbers in new blocks -/
structure Run (w w' : World) (g : Nat) (d : D) (n : Nat) : Prop where
  ex : ∃ F, DictAt w' g d F ∧ (∀ x, F x → w.heap.size ≤ x)
  chg : Chg (fun x => w.heap.size ≤ x) w w'
  good : Good d n
theorem Run.went {w w1 w2 : World} {g : Nat} {d d' : D} {n m : Nat} {F : Nat → Prop} (h : Run w w1 g d n) (hF : ∀ x, F x → w.heap.size ≤ x) (hw : Went w1 w2 g F d') (hg : Good d' m) : Run w w2 g d' m := by
  obtain ⟨F', k1, k2, k3⟩ := hw.ex
  exact ⟨⟨F', k1, fun x hx => (k2 x hx).elim (hF x) fun hle => Nat.le_trans h.chg.size hle⟩, h.chg.trans k3 fun x hx => .inl (hF x hx), hg⟩
theorem Run.chg' {w w1 w2 : World} {g : Nat} {d : D} {n : Nat} (h : Run w w1 g d n) (hc : Chg (fun _ => False) w1 w2) : Run w w2 g d n := by
  obtain ⟨F, h1, h2⟩ := h.ex
  exact ⟨⟨F, h1.chg hc fun _ _ h => h, h2⟩, h.chg.trans hc fun _ h => h.elim, h.good⟩
theorem Run.drawn {w w1 w2 : World} {g : Nat} {d : D} {n : Nat} (h : Run w w1 g d n) (k : Drawn w1 w2) : Run w w2 g d n := h.chg' (k.chg _)
theorem run_changed {w w1 : World} {g : Nat} {d : D} {n : Nat} {o : Op} {v : Value} {stay : List Str} (h : Run w w1 g d n) (hn : n < 549755813888) (ho : o.Ok) (hs : Rd w1 v (strs stay)) (hsl : stay.length < 9223372036854775807) :
    Calls Try.prog 24 #[.pointer (some ⟨g, 0, none⟩), v, .agg #[.int .i64 o.kind, .string o.key, .int .i64 o.n]] w1 fun e w2 => e = .returned (.tuple #[]) ∧ Run w w2 g (changeD d stay o) (n + 1) := by
  obtain ⟨F, h1, h2⟩ := h.ex
  refine (changed_ok h1 h.good hn ho hs hsl).mono ?_
  rintro e w2 ⟨rfl, hw⟩
  exact ⟨rfl, h.went h2 hw (h.good.change hn ho stay)⟩
theorem run_tables {w w1 : World} {g : Nat} {d : D} {n : Nat} (h : Run w w1 g d n) :
    Calls Try.prog 26 #[.pointer (some ⟨g, 0, none⟩)] w1 fun e w2 => e = .returned (.tuple #[.int .i64 (D.tables d).1, .int .i64 (D.tables d).2.1, .int .i64 (D.tables d).2.2]) ∧ Run w w2 g d n := by
  obtain ⟨F, h1, h2⟩ := h.ex
  refine (tables_ok h1).mono ?_
  rintro e w2 ⟨rfl, k⟩
  exact ⟨rfl, h.drawn k⟩
theorem run_len {w w1 : World} {g : Nat} {d : D} {n : Nat} (h : Run w w1 g d n) :
    Calls Try.prog 22 #[.pointer (some ⟨g, 0, none⟩)] w1 fun e w2 => e = .returned (.int .i64 d.m.length) ∧ w1 = w2 := by
  obtain ⟨F, h1, h2⟩ := h.ex
  exact len_ok h1
theorem run_set {w w1 : World} {g : Nat} {d : D} {n : Nat} {k : Str} {v : Int} (h : Run w w1 g d n) (hn : n < 549755813888) (hf : k.size < 9223372036854775808) :
    Calls Try.prog 19 #[.pointer (some ⟨g, 0, none⟩), .string k, .int .i64 v] w1 fun e w2 => e = .returned (.bool (d.set k (.int .i64 v)).2) ∧ Run w w2 g (d.set k (.int .i64 v)).1 (n + 1) := by
  obtain ⟨F, h1, h2⟩ := h.ex
  refine (set_ok h1 h.good.inv h.good.ints hf (by have := h.good.few; omega)).mono ?_
  rintro e w2 ⟨rfl, hw⟩
  exact ⟨rfl, h.went h2 hw (h.good.set hn hf v)⟩
theorem run_keys {w w1 : World} {g : Nat} {d : D} {n : Nat} (h : Run w w1 g d n) (hn : n < 549755813888) :
    Calls Try.prog 21 #[.pointer (some ⟨g, 0, none⟩)] w1 fun e w2 => ∃ A c, e = .returned (.slice A d.m.length c) ∧ Own w2 tS (.slice A d.m.length c) d.m.length (strs (sortS (d.m.map (·.1)))) ∧ (∀ b, (Value.slice A d.m.length c).ownBlock = some b → w1.heap.size ≤ b) ∧ Chg (fun _ => False) w1 w2 ∧ Run w w2 g d n := by
  obtain ⟨F, h1, h2⟩ := h.ex
  refine (keysAll_ok h1 h.good.inv (by have := h.good.few; unfold big; omega)).mono ?_
  rintro e w2 ⟨A, c, rfl, ho, hn, hc⟩
  exact ⟨A, c, rfl, ho, hn, hc, h.chg' hc⟩
/-- the head of the statements: a new dict, works -/
theorem run_new {w : World} (seed : Int) : Calls Try.prog 18 #[.int .i64 seed] w fun e w1 => ∃ g, e = .returned (.pointer (some ⟨g, 0, none⟩)) ∧ Calls Try.prog 15 #[] w1 fun e w2 => e = .returned (.bool true) ∧ Run w w2 g (D.new seed) 0 := by
  refine (new_ok seed w).mono ?_
  rintro e w1 ⟨g, F, rfl, h1, hF, c1⟩
  refine ⟨g, rfl, (works_ok w1).mono ?_⟩
  rintro e w2 ⟨rfl, c2⟩
  exact ⟨rfl, ⟨F, h1.chg c2 fun _ _ h => h, hF⟩, (c1.trans' c2).mono fun _ h => h.elim, Good.new seed⟩
theorem changeD_bal {d : D} {n : Nat} {o : Op} (hb : D.Bal d 0) (hg : Good d n) (hn : n < 549755813888) (ho : o.Ok) : D.Bal (changeD d [] o) 0 := by
  have hf := hg.few
  unfold changeD
  split
  · exact hb.set hg.inv ho.f (by omega)
  · split
    · split
      · exact hb
      · exact hb.delete hg.inv _
    · split
      · exact hb.steps hg.inv _
      · exact hb
theorem Good.set_old {d : D} {n : Nat} (h : Good d n) (hn : n < 549755813888) {k : Str} (hf : k.size < 9223372036854775808) (v : Int) (hk : (kget k d.m).isSome) : Good (d.set k (.int .i64 v)).1 n := by
  have := h.set hn hf v
  refine ⟨this.inv, this.ints, ?_⟩
  rw [set_m, upd_length, if_pos hk]; exact h.few
theorem tables_three (d : D) : (D.tables d).2.2 < 0 ↔ d.b2 = [] := by
  unfold D.tables
  by_cases hm : d.moves = true
  · rw [if_pos hm]
    have := D.moves_iff.1 hm
    constructor
    · intro h; simp at h; omega
    · intro h; exact absurd h this
  · rw [if_neg hm]
    have := D.moves_iff'.1 (by simpa using hm)
    exact ⟨fun _ => this, fun _ => (by show (-1 : Int) < 0; decide)⟩
theorem tables_one (d : D) : (D.tables d).1 = d.b1.length := by unfold D.tables; split <;> rfl
theorem tables_rest {d : D} (h : d.b2 = []) : (D.tables d).2.1 = 0 ∧ (D.tables d).2.2 = -1 := by
  unfold D.tables; rw [if_neg (by simp [D.moves_iff'.2 h])]; exact ⟨rfl, rfl⟩
theorem tables_mv {d : D} (h : d.b2 ≠ []) : (D.tables d).2.1 = d.b2.length ∧ (D.tables d).2.2 = d.idx := by
  unfold D.tables; rw [if_pos (D.moves_iff.2 h)]; exact ⟨rfl, rfl⟩

theorem measure_walk {w : World} {seed : Int} {A : Option Addr} {c : Nat} {ops : List Op} (hops : OpsAt w A ops) (hok : ∀ o ∈ ops, o.Ok) (hl : ops.length ≤ 1048576) :
    Calls Try.prog 8 #[.int .i64 seed, .slice A ops.length c] w fun e w' => e = .returned (.bool true) ∧ Chg (fun _ => False) w w' := by
  refine v8 _ _ _ _ _ _ ?_
  unfold V8
  refine (run_new seed).mono ?_
  rintro e w1 ⟨g, rfl, hw⟩
  refine ⟨_, rfl, hw.mono ?_⟩
  rintro e w2 ⟨rfl, hr⟩
  refine ⟨_, rfl, fun _ => ?_, fun h => (by cases h)⟩
  have fin : ∀ {w' : World}, Chg (fun x => w.heap.size ≤ x) w w' → Chg (fun _ => False) w w' := fun h => h.newer fun x hx => .inr hx
  refine ⟨fun h => (by cases h), fun _ => ?_⟩
  refine ⟨fun i w4 => ∃ (j : Nat) (d : D), i = j ∧ j ≤ ops.length ∧ Run w w4 g d j ∧ D.Bal d 0, fun i _ => ops.length - i.toNat, ⟨0, _, rfl, Nat.zero_le _, hr, D.Bal.new seed⟩, ?_⟩
  rintro i w4 ⟨j, d, rfl, hj, hr4, hbal⟩
  refine ⟨fun hd => ?_, fun hd => ?_⟩
  · have hjl : j < ops.length := by have := of_decide_eq_true hd; omega
    have hget : ops[j]? = some ops[j] := List.getElem?_eq_getElem hjl
    obtain ⟨a, rfl, q1, q2, q3⟩ := hops.later hr4.chg j _ hget
    have hoj := hok _ (List.getElem_mem hjl)
    refine ⟨by omega, by omega, _, by rw [toNatN]; exact q1, _, by rw [toNatN]; exact q2, _, by rw [toNatN]; exact q3, ?_⟩
    refine (run_changed hr4 (by omega) hoj (rd_nil w4) (by decide)).mono ?_
    rintro e w5 ⟨rfl, hr5⟩
    have hbal5 := changeD_bal hbal hr4.good (by omega) hoj
    refine ⟨rfl, (run_tables hr5).mono ?_⟩
    rintro e w6 ⟨rfl, hr6⟩
    have next : ∀ w7, Run w w7 g (changeD d [] ops[j]) (j + 1) → (∃ (j' : Nat) (d : D), IntKind.wrap .i64 ((j : Int) + 1) = j' ∧ j' ≤ ops.length ∧ Run w w7 g d j' ∧ D.Bal d 0) ∧ ops.length - (IntKind.wrap .i64 ((j : Int) + 1)).toNat < ops.length - ((j : Nat) : Int).toNat := by
      intro w7 h7
      rw [w64s (by omega)]
      exact ⟨⟨j + 1, _, rfl, hjl, h7, hbal5⟩, by omega⟩
    refine ⟨_, _, _, rfl, fun h3 => ?_, fun h3 => ⟨fun h => (by cases h), fun _ => next w6 hr6⟩⟩
    have hb2 := (tables_three _).1 (of_decide_eq_true h3)
    refine (run_len hr6).mono ?_
    rintro e w7 ⟨rfl, rfl⟩
    refine ⟨_, rfl, fun h => ?_, fun _ => next w6 hr6⟩
    exfalso
    have hle := hbal5.rest hb2
    have hgt := of_decide_eq_true h
    rw [tables_one] at hgt
    have hlen : (changeD d [] ops[j]).b1.length ≤ 1099511627776 := by
      rcases hr6.good.inv.p1 with h0 | ⟨k, _, hk, hk2⟩
      · rw [h0]; exact Nat.zero_le _
      · rw [hk2]; exact Nat.le_trans (Nat.pow_le_pow_right (by omega) hk) (by decide)
    rw [w64 (by omega) (by omega)] at hgt
    omega
  · refine (run_tables hr4).mono ?_
    rintro e w10 ⟨rfl, hr10⟩
    refine ⟨_, _, _, rfl, fun _ => ⟨rfl, fin hr10.chg⟩, fun h3 => ?_⟩
    have hb2 : d.b2 ≠ [] := fun e => by
      have := (tables_three d).2 e
      have := of_decide_eq_false h3; omega
    have hinv := hr10.good.inv
    have hmpos : 0 < d.m.length := by
      have := (hinv.mv hb2).1
      have := hinv.used_le; omega
    refine (run_keys hr10 (by omega)).mono ?_
    rintro e w11 ⟨B, cB, rfl, hoB, hnB, hcB, hr11⟩
    refine ⟨_, _, _, rfl, ?_⟩
    -- the first key
    obtain ⟨k0, hk0⟩ : ∃ k0, (sortS (d.m.map (·.1)))[0]? = some k0 := by
      refine ⟨_, List.getElem?_eq_getElem (i := 0) (by simpa using hmpos)⟩
    have hk0m : k0 ∈ d.m.map (·.1) := (sortS_perm _).mem_iff.1 (List.mem_of_getElem? hk0)
    obtain ⟨gB, c', cur, eB, hhB, _, hcellB, _⟩ := hoB.at (strs_get hk0)
    injection eB with e1 e2 e3
    subst e1
    have hgBlt := lt_blk hhB
    have hgBge : w10.heap.size ≤ gB := hnB gB rfl
    refine ⟨fun i w12 => ∃ (n : Nat) (d' : D), i = n ∧ n ≤ d.b1.length ∧ Run w w12 g d' j ∧ D.Going d.b1.length d.b2.length n d' ∧ (kget k0 d'.m).isSome ∧ w12.cell? ⟨gB, 0, none⟩ = some (.string k0) ∧ (∃ F, DictAt w12 g d' F ∧ (∀ x, F x → w.heap.size ≤ x) ∧ ¬ F gB) ,
      fun i _ => d.b1.length - i.toNat, ⟨0, d, rfl, Nat.zero_le _, hr11, ⟨fun _ => ⟨rfl, rfl, Nat.zero_le _⟩, fun e => absurd e hb2⟩, ?_, hcellB, ?_⟩, ?_⟩
    · cases hk : kget k0 d.m with
      | none => exact absurd hk0m (look_none.1 hk)
      | some _ => rfl
    · obtain ⟨F, f1, f2⟩ := hr10.ex
      exact ⟨F, f1.chg hcB fun _ _ h => h, f2, fun hx => by have := f1.lt hx; omega⟩
    rintro i w12 ⟨n, d', rfl, hn, hr12, hgo, hkk, hcell, F, f1, f2, f3⟩
    have hlen : d.b1.length ≤ 1099511627776 := by
      rcases hinv.p1 with h0 | ⟨k, _, hk, hk2⟩
      · rw [h0]; exact Nat.zero_le _
      · rw [hk2]; exact Nat.le_trans (Nat.pow_le_pow_right (by omega) hk) (by decide)
    have hgBlt12 : gB < w12.heap.size := World.block_lt_of_cell? w12 ⟨gB, 0, none⟩ hcell
    have hk0f : k0.size < 9223372036854775808 := hinv.fit _ hk0m
    rw [tables_one]
    refine ⟨fun hd => ⟨fun hq => ?_, fun hq => ?_⟩, fun hd => ⟨fun h => (by cases h), fun _ => ?_⟩⟩
    · have hn' : n < d.b1.length := by have := of_decide_eq_true hd; omega
      refine ⟨by decide, by omega, k0, by rw [add_mk]; exact hcell, ?_⟩
      have hgd := hr12.good
      refine (set_ok f1 hgd.inv hgd.ints hk0f (by have := hgd.few; omega)).mono ?_
      rintro e w13 ⟨rfl, hw13⟩
      obtain ⟨F', p1, p2, p3⟩ := hw13.ex
      have hF' : ¬ F' gB := fun hx => (p2 gB hx).elim f3 fun h => by omega
      refine ⟨_, rfl, ?_⟩
      rw [w64s (by omega)]
      refine ⟨⟨n + 1, _, rfl, hn', hr12.went f2 hw13 (hgd.set_old (by omega) hk0f _ hkk), hgo.set hgd.inv hkk, ?_, ?_, F', p1, fun x hx => (p2 x hx).elim (f2 x) fun hle => Nat.le_trans hr12.chg.size hle, hF'⟩, ?_⟩
      · rw [set_m, look_upd_same]; rfl
      · exact (World.cell?_of_block (p3.block gB hgBlt12 f3)).trans hcell
      · show d.b1.length - (((n + 1 : Nat) : Int)).toNat < d.b1.length - ((n : Nat) : Int).toNat
        rw [toNatN, toNatN]; omega
    · exact absurd (of_decide_eq_false hq) (by omega)
    · have hn' : n = d.b1.length := by have := of_decide_eq_false (show decide _ = false from hd); omega
      subst hn'
      obtain ⟨z1, z2⟩ := hgo.done hr12.good.inv
      refine (run_tables hr12).mono ?_
      rintro e w16 ⟨rfl, hr16⟩
      refine ⟨_, _, _, rfl, ?_⟩
      rw [tables_one, (tables_rest z1).1, (tables_rest z1).2, (tables_mv hb2).1, z2]
      exact ⟨fun _ => ⟨fun _ => ⟨rfl, fin hr16.chg⟩, fun h => (by cases h)⟩, fun h => absurd h (by simp)⟩
end Go.Proofs.Ytcljmlgbmjjldaa
