/- The document's dict: Delete, Step, Get, Tables, Len. -/
import Derived.Test.YtcljmlgbmjjldaaRef4
namespace Go.Proofs.Ytcljmlgbmjjldaa
open Go Go.VC Go.RowKit Go.Proofs.Ytcljmlgbmjjldaa.F
set_option linter.unusedVariables false
set_option linter.unusedSimpArgs false
set_option maxHeartbeats 1000000 in
theorem rdelete_ok {w : World} {r : RD} {A1 A2 : Option Addr} {c1 c2 : Nat} {B : Nat → Prop} (h : RAt w (.slice A1 r.l1.length c1) (.slice A2 r.l2.length c2) r B) (hf : Fit r) (hs : Fit r.step) (k : Str) :
    Calls Try.prog 30 #[valR r (.slice A1 r.l1.length c1) (.slice A2 r.l2.length c2), .string k] w fun e w' => ∃ x, e = .returned (.tuple #[x, .bool (r.delete k).2]) ∧ GivesR w w' (r.delete k).1 B x := by
  refine v30 _ _ _ _ _ _ _ _ _ _ _ _ _ ?_
  unfold V30
  intro g w1 hg hw1 g2 w2 hg2 hw2
  have fr := FrR.start h (w' := w) hg hw1 hg2 hw2
  clear hg hw1 hg2 hw2
  refine ld6 fr.blk ((rstep_ok fr.at_ hf).mono ?_)
  rintro e w3 ⟨x, rfl, hx⟩
  refine fr.put hx fun w5 A1 c1 A2 c2 fr => ?_
  clear hx
  have hset : r.delete k = r.step.delete0 k := rfl
  rw [hset]
  generalize r.step = s at *
  have hfew := hs.few
  have tail4 : ∀ {w6 : World} {s' : RD} {A1 A2 : Option Addr} {c1 c2 : Nat}, FrR w w6 g g2 s' A1 c1 A2 c2 B → s.delete0 k = (s', true) →
      V30_k4 ⟨g, 0, none⟩ ⟨g2, 0, none⟩ w6 (fun e w' => ∃ x, e = .returned (.tuple #[x, .bool (s.delete0 k).2]) ∧ GivesR w w' (s.delete0 k).1 B x) := by
    intro w6 s' A1 A2 c1 c2 fr he
    unfold V30_k4
    simp only [add_mk, Nat.reduceAdd]
    exact ld6 fr.blk (ret6 fr.res fun w' hc => gives_tuple (fr.give hc) he)
  have tail3 : ∀ {w6 : World} {s' : RD} {A1 A2 : Option Addr} {c1 c2 : Nat} {b : Bool}, FrR w w6 g g2 s' A1 c1 A2 c2 B → s.delete0 k = (s'.shrinks, true) → s'.l1.length ≤ 1099511627776 → b = decide (¬ 0 < s'.n2 ∧ 4 < s'.n1 ∧ 8 * s'.l1.length ≤ s'.n1) →
      V30_k3 ⟨g, 0, none⟩ ⟨g2, 0, none⟩ ((s'.l1.length : Nat) : Int) b w6 (fun e w' => ∃ x, e = .returned (.tuple #[x, .bool (s.delete0 k).2]) ∧ GivesR w w' (s.delete0 k).1 B x) := by
    intro w6 s' A1 A2 c1 c2 b fr he f1 hb
    unfold V30_k3
    refine ⟨fun h1 => ?_, fun h1 => ?_⟩
    · have hc : ¬ 0 < s'.n2 ∧ 4 < s'.n1 ∧ 8 * s'.l1.length ≤ s'.n1 := of_decide_eq_true (hb.symm.trans h1)
      have hg : s'.shrinks = s'.begins (D.shrunk s'.l1.length 64 4) := by unfold RD.shrinks; rw [if_pos hc]
      simp only [add_mk, Nat.reduceAdd]
      refine ⟨fun sz w1 => w1 = w6 ∧ ∃ s f : Nat, sz = (s : Int) ∧ D.shrunk s'.l1.length 64 4 = D.shrunk s'.l1.length f s ∧ 4 * 2 ^ (64 - f) ≤ s ∧ f ≤ 64 ∧ s ≤ 2199023255552, fun sz _ => 4398046511104 - sz.toNat, ⟨rfl, 4, 64, rfl, rfl, by decide, by omega, by decide⟩, ?_⟩
      rintro sz w7 ⟨rfl, q, f, rfl, hsh, hq, hf64, hq2⟩
      refine ⟨fun hd => ?_, fun hd => ?_⟩
      · have hlt : q < s'.l1.length := by have := of_decide_eq_true hd; omega
        cases f with
        | zero => exfalso; have : (4 : Nat) * 2 ^ (64 - 0) = 73786976294838206464 := by decide
                  omega
        | succ f =>
          have hq0 : 0 < q := Nat.lt_of_lt_of_le (Nat.mul_pos (by decide) (Nat.two_pow_pos _)) hq
          rw [w64 (by omega) (by omega)]
          refine ⟨⟨rfl, q * 2, f, by omega, ?_, ?_, by omega, by omega⟩, by dsimp only; omega⟩
          · rw [hsh, D.shrunk, if_pos hlt]
          · rw [show 64 - f = (64 - (f + 1)) + 1 by omega, Nat.pow_succ]
            generalize 2 ^ (64 - (f + 1)) = t at hq ⊢
            omega
      · have hge : ¬ q < s'.l1.length := by have := of_decide_eq_false hd; omega
        have hfin : D.shrunk s'.l1.length 64 4 = q := by
          rw [hsh]
          cases f with
          | zero => rfl
          | succ f => rw [D.shrunk, if_neg hge]
        refine ld6 fr.blk ((rbegin_ok fr.at_ q).mono ?_)
        rintro e w20 ⟨x, rfl, hx⟩
        exact fr.put hx fun w32 A1 c1 A2 c2 fr => tail4 fr (by rw [he, hg, hfin])
    · have hc : ¬ (¬ 0 < s'.n2 ∧ 4 < s'.n1 ∧ 8 * s'.l1.length ≤ s'.n1) := of_decide_eq_false (hb.symm.trans h1)
      have hg : s'.shrinks = s' := by unfold RD.shrinks; rw [if_neg hc]
      exact tail4 fr (by rw [he, hg])
  have tail2 : ∀ {w6 : World} {s' : RD} {A1 A2 : Option Addr} {c1 c2 : Nat}, FrR w w6 g g2 s' A1 c1 A2 c2 B → s.delete0 k = (s'.over.shrinks, true) → s'.l1.length ≤ 1099511627776 → s'.l2.length ≤ 1099511627776 →
      V30_k2 ⟨g, 0, none⟩ ⟨g2, 0, none⟩ w6 (fun e w' => ∃ x, e = .returned (.tuple #[x, .bool (s.delete0 k).2]) ∧ GivesR w w' (s.delete0 k).1 B x) := by
    intro w6 s' A1 A2 c1 c2 fr he f1 f2
    unfold V30_k2
    simp only [add_mk, Nat.reduceAdd]
    refine ld6 fr.blk ((rover_ok fr.at_).mono ?_)
    rintro e w14 ⟨x, rfl, hx⟩
    refine fr.put hx fun w16 A1 c1 A2 c2 fr => ?_
    have ho : s'.over.l1.length ≤ 1099511627776 := by unfold RD.over; split; exact f2; exact f1
    generalize s'.over = o at *
    refine ⟨_, _, _, cell_blk fr.blk rfl, ld6 fr.blk ((rmoving_ok w16 o).mono ?_)⟩
    rintro e w17 ⟨rfl, ch17⟩
    have fr := fr.chg' ch17
    refine ⟨_, rfl, fun hm => ?_, fun hm => ?_⟩
    · have hm' : ¬ 0 < o.n2 := of_decide_eq_false (by simpa using hm)
      refine ⟨_, cell_blk fr.blk rfl, fun h4 => ?_, fun h4 => ?_⟩
      · have h4' : 4 < o.n1 := by have := of_decide_eq_true h4; omega
        refine ⟨_, cell_blk fr.blk rfl, tail3 fr he ho (decide_eq_decide.2 ?_)⟩
        rw [w64 (by omega) (by omega)]
        constructor
        · intro h; exact ⟨hm', h4', by omega⟩
        · intro h; have := h.2.2; omega
      · have h4' : ¬ 4 < o.n1 := by have := of_decide_eq_false (show decide _ = false from h4); omega
        exact tail3 fr he ho (decide_eq_false (fun h => h4' h.2.1)).symm
    · have hm' : 0 < o.n2 := of_decide_eq_true (by simpa using hm)
      exact tail3 fr he ho (decide_eq_false (fun h => h.1 hm')).symm
  refine ⟨_, cell_blk fr.blk rfl, _, _, _, cell_blk fr.blk rfl, (rat_ok fr.at_.o1 (by omega) k).mono ?_⟩
  rintro e w6 ⟨rfl, ch6⟩
  have fr := fr.chg' ch6
  refine ⟨_, rfl, _, cell_blk fr.blk rfl, _, _, _, cell_blk fr.blk rfl, (rat_ok fr.at_.o2 (by omega) k).mono ?_⟩
  rintro e w7 ⟨rfl, ch7⟩
  have fr := fr.chg' ch7
  have hsz := fr.ch.size
  have k1 : ∀ {b : Bool}, b = decide (¬ (k ∈ RD.kys s.l1 ∨ k ∈ RD.kys s.l2)) → V30_k1 ⟨g, 0, none⟩ ⟨g2, 0, none⟩ (if k ∈ RD.kys s.l1 then (RD.ix s.l1 k : Int) else -1) (if k ∈ RD.kys s.l2 then (RD.ix s.l2 k : Int) else -1) b w7 (fun e w' => ∃ x, e = .returned (.tuple #[x, .bool (s.delete0 k).2]) ∧ GivesR w w' (s.delete0 k).1 B x) := by
    intro b hb
    unfold V30_k1
    simp only [add_mk, Nat.reduceAdd]
    refine ⟨fun h1 => ?_, fun h1 => ?_⟩
    · have hc := of_decide_eq_true (hb.symm.trans h1)
      have he : s.delete0 k = (s, false) := by unfold RD.delete0; rw [if_neg hc]
      exact ld6 fr.blk (ret6 fr.res fun w' hc => gives_tuple (fr.give hc) he)
    · have hc : k ∈ RD.kys s.l1 ∨ k ∈ RD.kys s.l2 := Classical.byContradiction fun hn => (of_decide_eq_false (hb.symm.trans h1)) hn
      have he : s.delete0 k = ((s.takes k).over.shrinks, true) := by unfold RD.delete0; rw [if_pos hc]
      by_cases hk1 : k ∈ RD.kys s.l1
      · obtain ⟨hix, _⟩ := Rel.ix_spec hk1
        have ht : s.takes k = { s with l1 := s.l1.eraseIdx (RD.ix s.l1 k) } := by unfold RD.takes; rw [if_pos hk1]
        rw [if_pos hk1]
        refine ⟨fun _ => ?_, fun h0 => by have := of_decide_eq_false h0; omega⟩
        refine ⟨_, _, _, cell_blk fr.blk rfl, (rwithout_ok fr.at_.o1 (by omega) hix).mono ?_⟩
        rintro e w11 ⟨A, c, rfl, hO, hB, ch11⟩
        have fr := fr.chg' ch11
        refine ⟨_, _, _, rfl, ⟨_, cell_blk fr.blk rfl⟩, frozen_blk fr.blk, fun w12 hw12 => ?_⟩
        refine tail2 (fr.put1 hO (fun b hb => .inr (Nat.le_trans hsz (hB b hb))) hw12) (by rw [he, ht]) ?_ (show s.l2.length ≤ _ by omega)
        have := List.length_eraseIdx_le s.l1 (RD.ix s.l1 k)
        show (s.l1.eraseIdx _).length ≤ _
        omega
      · have hk2 := hc.resolve_left hk1
        obtain ⟨hix, _⟩ := Rel.ix_spec hk2
        have ht : s.takes k = { s with l2 := s.l2.eraseIdx (RD.ix s.l2 k) } := by unfold RD.takes; rw [if_neg hk1]
        rw [if_neg hk1, if_pos hk2]
        refine ⟨fun h0 => by have := of_decide_eq_true h0; omega, fun _ => ?_⟩
        refine ⟨_, _, _, cell_blk fr.blk rfl, (rwithout_ok fr.at_.o2 (by omega) hix).mono ?_⟩
        rintro e w11 ⟨A, c, rfl, hO, hB, ch11⟩
        have fr := fr.chg' ch11
        refine ⟨_, _, _, rfl, ⟨_, cell_blk fr.blk rfl⟩, frozen_blk fr.blk, fun w12 hw12 => ?_⟩
        refine tail2 (fr.put2 hO (fun b hb => .inr (Nat.le_trans hsz (hB b hb))) hw12) (by rw [he, ht]) (show s.l1.length ≤ _ by omega) ?_
        have := List.length_eraseIdx_le s.l2 (RD.ix s.l2 k)
        show (s.l2.eraseIdx _).length ≤ _
        omega
  refine ⟨_, rfl, fun hi => ?_, fun hi => ?_⟩
  · have hk1 : k ∉ RD.kys s.l1 := fun hk => by rw [if_pos hk] at hi; have := of_decide_eq_true hi; omega
    refine k1 (decide_eq_decide.2 ?_)
    constructor
    · rintro hlt (h | h)
      · exact hk1 h
      · rw [if_pos h] at hlt; omega
    · intro hn
      rw [if_neg (fun h => hn (.inr h))]; omega
  · have hk1 : k ∈ RD.kys s.l1 := Classical.byContradiction fun hk => by rw [if_neg hk] at hi; exact absurd hi (by decide)
    exact k1 (decide_eq_false (fun h => h (.inl hk1))).symm

theorem rsteps_ok {w : World} {r : RD} {A1 A2 : Option Addr} {c1 c2 : Nat} {B : Nat → Prop} (h : RAt w (.slice A1 r.l1.length c1) (.slice A2 r.l2.length c2) r B) (hf : ∀ q : Nat, Fit (r.steps q)) {n : Int} (hn : n < 1000) :
    Calls Try.prog 32 #[valR r (.slice A1 r.l1.length c1) (.slice A2 r.l2.length c2), .int .i64 n] w fun e w' => ∃ x, e = .returned x ∧ GivesR w w' (r.steps n.toNat) B x := by
  refine v32 _ _ _ _ _ _ _ _ _ _ _ _ _ ?_
  unfold V32
  intro g w1 hg hw1 g2 w2 hg2 hw2
  have fr := FrR.start h (w' := w) hg hw1 hg2 hw2
  clear hg hw1 hg2 hw2
  have snoc : ∀ (q : Nat) (r : RD), r.steps (q + 1) = if 0 < (r.steps q).n2 then (r.steps q).step else r.steps q := by
    intro q
    induction q with
    | zero => intro r; rfl
    | succ q ih =>
      intro r
      by_cases hm : 0 < r.n2
      · have e1 : r.steps (q + 1 + 1) = r.step.steps (q + 1) := by rw [RD.steps, if_pos hm]
        have e2 : r.steps (q + 1) = r.step.steps q := by rw [RD.steps, if_pos hm]
        rw [e1, e2, ih]
      · have e1 : r.steps (q + 1 + 1) = r := by rw [RD.steps, if_neg hm]
        have e2 : r.steps (q + 1) = r := by rw [RD.steps, if_neg hm]
        rw [e1, e2, if_neg hm]
  have stuck : ∀ (q p : Nat) (r : RD), ¬ 0 < (r.steps q).n2 → r.steps (q + p) = r.steps q := by
    intro q p r hno
    induction p with
    | zero => rfl
    | succ p ih => rw [show q + (p + 1) = (q + p) + 1 by omega, snoc, ih, if_neg hno]
  refine ⟨fun i w' => ∃ (q : Nat) (A1 : Option Addr) (c1 : Nat) (A2 : Option Addr) (c2 : Nat), i = q ∧ (q = 0 ∨ (q : Int) ≤ n) ∧ FrR w w' g g2 (r.steps q) A1 c1 A2 c2 B, fun i _ => n.toNat + 1 - i.toNat, ⟨0, A1, c1, A2, c2, rfl, .inl rfl, fr⟩, ?_⟩
  clear fr
  rintro i w3 ⟨q, A1, c1, A2, c2, rfl, hq, fr⟩
  have k1 : ∀ {b : Bool} {w4 : World}, FrR w w4 g g2 (r.steps q) A1 c1 A2 c2 B → b = decide ((q : Int) < n ∧ 0 < (r.steps q).n2) → V32_k1 (fun i w' => ∃ (q : Nat) (A1 : Option Addr) (c1 : Nat) (A2 : Option Addr) (c2 : Nat), i = q ∧ (q = 0 ∨ (q : Int) ≤ n) ∧ FrR w w' g g2 (r.steps q) A1 c1 A2 c2 B) (fun i _ => n.toNat + 1 - i.toNat) q w3 n ⟨g, 0, none⟩ ⟨g2, 0, none⟩ q b w4 (fun e w' => ∃ x, e = .returned x ∧ GivesR w w' (r.steps n.toNat) B x) := by
    intro b w4 fr hb
    unfold V32_k1
    simp only [add_mk, Nat.reduceAdd]
    refine ⟨fun h1 => ?_, fun h1 => ?_⟩
    · obtain ⟨h2, h3⟩ := of_decide_eq_true (hb.symm.trans h1)
      refine ld6 fr.blk ((rstep_ok fr.at_ (hf q)).mono ?_)
      rintro e w6 ⟨x, rfl, hx⟩
      refine fr.put hx fun w8 A1 c1 A2 c2 fr => ?_
      rw [w64s (by omega)]
      have hsn := snoc q r
      rw [if_pos h3] at hsn
      exact ⟨⟨q + 1, A1, c1, A2, c2, rfl, .inr (by omega), by rw [hsn]; exact fr⟩, by omega⟩
    · have hno := of_decide_eq_false (hb.symm.trans h1)
      have he : r.steps n.toNat = r.steps q := by
        by_cases hlt : (q : Int) < n
        · have := stuck q (n.toNat - q) r fun hm => hno ⟨hlt, hm⟩
          rw [show q + (n.toNat - q) = n.toNat by omega] at this
          exact this
        · rcases hq with h0 | h0
          · subst h0; rw [show n.toNat = 0 by omega]
          · rw [show n.toNat = q by omega]
      rw [he]
      exact ld6 fr.blk (ret6 fr.res fun w' hc => ⟨_, rfl, fr.give hc⟩)
  refine ⟨fun hlt => ?_, fun hlt => ?_⟩
  · have hlt' := of_decide_eq_true hlt
    refine ld6 fr.blk ((rmoving_ok w3 (r.steps q)).mono ?_)
    rintro e w4 ⟨rfl, ch4⟩
    exact ⟨_, rfl, k1 (fr.chg' ch4) (decide_eq_decide.2 ⟨fun h => ⟨hlt', h⟩, fun h => h.2⟩)⟩
  · have hlt' := of_decide_eq_false (show decide _ = false from hlt)
    exact k1 fr (decide_eq_false (fun h => hlt' h.1)).symm

theorem rget_ok {w : World} {r : RD} {A1 A2 : Option Addr} {c1 c2 : Nat} {B : Nat → Prop} (h : RAt w (.slice A1 r.l1.length c1) (.slice A2 r.l2.length c2) r B) (hf : Fit r) (k : Str) :
    Calls Try.prog 36 #[valR r (.slice A1 r.l1.length c1) (.slice A2 r.l2.length c2), .string k] w fun e w' => e = .returned (.tuple #[.int .i64 (r.get k).1, .bool (r.get k).2]) ∧ Chg (fun _ => False) w w' := by
  have hfew := hf.few
  refine v36 _ _ _ _ _ _ _ _ _ _ _ _ _ ?_
  unfold V36
  intro g w1 hg hw1
  obtain ⟨b1, ch1, s1⟩ := blk_alloc hg hw1
  have h1 := h.chg' ch1
  refine ⟨_, cell_blk b1 rfl, _, _, _, cell_blk b1 rfl, (rat_ok h1.o1 (by omega) k).mono ?_⟩
  rintro e w2 ⟨rfl, ch2⟩
  have b2 := ch2.blk b1 id
  have h2 := h1.chg' ch2
  by_cases hk1 : k ∈ RD.kys r.l1
  · obtain ⟨hix, v0, hv0⟩ := Rel.ix_spec hk1
    rw [if_pos hk1]
    have he : r.get k = (v0, true) := by unfold RD.get; rw [if_pos hk1, List.getD_eq_getElem?_getD, hv0]; rfl
    obtain ⟨q, rfl, _, hc⟩ := item_at h2.o1 hix
    refine ⟨_, rfl, fun _ => ⟨_, _, _, cell_blk b2 rfl, by omega, by omega, _, hc, ?_, ch1.trans' ch2⟩, fun h0 => by have := of_decide_eq_false h0; omega⟩
    rw [he]
    have : r.l1[RD.ix r.l1 k] = (k, v0) := by rw [List.getElem?_eq_getElem hix] at hv0; injection hv0
    rw [this]
  · rw [if_neg hk1]
    refine ⟨_, rfl, fun h0 => by have := of_decide_eq_true h0; omega, fun _ => ?_⟩
    refine ⟨_, cell_blk b2 rfl, _, _, _, cell_blk b2 rfl, (rat_ok h2.o2 (by omega) k).mono ?_⟩
    rintro e w3 ⟨rfl, ch3⟩
    have b3 := ch3.blk b2 id
    have h3 := h2.chg' ch3
    by_cases hk2 : k ∈ RD.kys r.l2
    · obtain ⟨hix, v0, hv0⟩ := Rel.ix_spec hk2
      rw [if_pos hk2]
      have he : r.get k = (v0, true) := by unfold RD.get; rw [if_neg hk1, if_pos hk2, List.getD_eq_getElem?_getD, hv0]; rfl
      obtain ⟨q, rfl, _, hc⟩ := item_at h3.o2 hix
      refine ⟨_, rfl, fun _ => ⟨_, _, _, cell_blk b3 rfl, by omega, by omega, _, hc, ?_, (ch1.trans' ch2).trans' ch3⟩, fun h0 => by have := of_decide_eq_false h0; omega⟩
      rw [he]
      have : r.l2[RD.ix r.l2 k] = (k, v0) := by rw [List.getElem?_eq_getElem hix] at hv0; injection hv0
      rw [this]
    · rw [if_neg hk2]
      have he : r.get k = (0, false) := by unfold RD.get; rw [if_neg hk1, if_neg hk2]
      exact ⟨_, rfl, fun h0 => by (have := of_decide_eq_true h0; omega), fun _ => ⟨by rw [he], (ch1.trans' ch2).trans' ch3⟩⟩
theorem rtables_ok {w : World} {r : RD} {A1 A2 : Option Addr} {m1 m2 c1 c2 : Nat} :
    Calls Try.prog 75 #[valR r (.slice A1 m1 c1) (.slice A2 m2 c2)] w fun e w' => e = .returned (.tuple #[.int .i64 r.tables.1, .int .i64 r.tables.2.1, .int .i64 r.tables.2.2]) ∧ Chg (fun _ => False) w w' := by
  refine v75 _ _ _ _ _ _ _ _ _ _ _ _ ?_
  unfold V75
  intro g w1 hg hw1
  obtain ⟨b1, ch1, s1⟩ := blk_alloc hg hw1
  refine ld6 b1 ((rmoving_ok w1 r).mono ?_)
  rintro e w2 ⟨rfl, ch2⟩
  have b2 := ch2.blk b1 id
  refine ⟨_, rfl, fun hm w3 d3 => ?_, fun hm => ?_⟩
  · have hm' : 0 < r.n2 := of_decide_eq_true hm
    have b3 := d3.blk b2
    refine ⟨_, cell_blk b3 rfl, _, cell_blk b3 rfl, _, cell_blk b3 rfl, fun w4 d4 => ⟨?_, (((ch1.trans' ch2).drawn d3).drawn d4)⟩⟩
    unfold RD.tables; rw [if_pos hm']
  · have hm' : ¬ 0 < r.n2 := of_decide_eq_false hm
    refine ⟨_, cell_blk b2 rfl, ?_, ch1.trans' ch2⟩
    unfold RD.tables; rw [if_neg hm']
theorem rlen_ok {w : World} {r : RD} {A1 A2 : Option Addr} {c1 c2 : Nat} (hf : Fit r) :
    Calls Try.prog 76 #[valR r (.slice A1 r.l1.length c1) (.slice A2 r.l2.length c2)] w fun e w' => e = .returned (.int .i64 ((r.l1.length + r.l2.length : Nat) : Int)) ∧ Chg (fun _ => False) w w' := by
  have hfew := hf.few
  refine v76 _ _ _ _ _ _ _ _ _ _ _ _ ?_
  unfold V76
  intro g w1 hg hw1
  obtain ⟨b1, ch1, s1⟩ := blk_alloc hg hw1
  refine ⟨_, _, _, cell_blk b1 rfl, _, _, _, cell_blk b1 rfl, ?_, ch1⟩
  rw [w64 (by omega) (by omega)]
  rfl
end Go.Proofs.Ytcljmlgbmjjldaa
