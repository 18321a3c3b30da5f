/- The document's dict: Set, Delete, Step, Get, Tables, Len. -/
import Derived.Test.YtcljmlgbmjjldaaRef3
namespace Go.Proofs.Ytcljmlgbmjjldaa
open Go Go.VC Go.RowKit Go.Proofs.Ytcljmlgbmjjldaa.F
set_option linter.unusedVariables false
set_option linter.unusedSimpArgs false
/-- a function's own copy of a dict, and its result's block -/
structure FrR (w w' : World) (g g2 : Nat) (r : RD) (A1 : Option Addr) (c1 : Nat) (A2 : Option Addr) (c2 : Nat) (B : Nat → Prop) : Prop where
  blk : w'.heap[g]? = some (.cells (cR r (.slice A1 r.l1.length c1) (.slice A2 r.l2.length c2)) 55 (0, 0))
  res : w'.heap[g2]? = some (.cells zeroR 55 (0, 0))
  ch : Chg (fun _ => False) w w'
  at_ : RAt w' (.slice A1 r.l1.length c1) (.slice A2 r.l2.length c2) r (fun b => B b ∨ w.heap.size ≤ b)
  gw : w.heap.size ≤ g
  g2w : w.heap.size ≤ g2
  ne : g2 ≠ g
section
variable {w w1 w2 : World} {g g2 : Nat} {r r' : RD} {A1 A2 : Option Addr} {c1 c2 : Nat} {B : Nat → Prop}
theorem FrR.chg' (h : FrR w w1 g g2 r A1 c1 A2 c2 B) (hc : Chg (fun _ => False) w1 w2) : FrR w w2 g g2 r A1 c1 A2 c2 B :=
  ⟨hc.blk h.blk id, hc.blk h.res id, h.ch.trans' hc, h.at_.chg' hc, h.gw, h.g2w, h.ne⟩
theorem FrR.start (h : RAt w (.slice A1 r.l1.length c1) (.slice A2 r.l2.length c2) r B) {w' : World} (hg : g = w.heap.size) (hw1 : w1 = w.alloc (.cells (cR r (.slice A1 r.l1.length c1) (.slice A2 r.l2.length c2)) 55)) (hg2 : g2 = w1.heap.size) (hw2 : w2 = w1.alloc (.cells zeroR 55)) :
    FrR w w2 g g2 r A1 c1 A2 c2 B := by
  obtain ⟨b1, ch1, s1⟩ := blk_alloc hg hw1
  obtain ⟨b2, ch2, s2⟩ := blk_alloc hg2 hw2
  exact ⟨ch2.blk b1 id, b2, ch1.trans' ch2, (h.chg' (ch1.trans' ch2)).mono fun _ => .inl, by omega, by omega, by omega⟩
/-- a call's result is laid over it -/
theorem FrR.put (h : FrR w w1 g g2 r A1 c1 A2 c2 B) {v : Value} (hv : GivesR w1 w2 r' (fun b => B b ∨ w.heap.size ≤ b) v) {K : World → Prop} (hK : ∀ w5 A1' c1' A2' c2', FrR w w5 g g2 r' A1' c1' A2' c2' B → K w5) :
    ∃ (n5 n6 : Int) (q3 : Option Addr) (q3n q3c : Nat) (n7 : Int) (q4 : Option Addr) (q4n q4c : Nat) (n8 : Int), Ending.returned v = .returned (.agg #[.int .i64 n5, .int .i64 n6, .slice q3 q3n q3c, .int .i64 n7, .slice q4 q4n q4c, .int .i64 n8]) ∧
      storeN ⟨g, 0, none⟩ [(.int .i64 n5 : Value), .int .i64 n6, .slice q3 q3n q3c, .int .i64 n7, .slice q4 q4n q4c, .int .i64 n8] 0 w2 fun w4 => ∀ w5 : World, w5 = w4 → K w5 := by
  obtain ⟨A3, c3, A4, c4, rfl, h2, ch2⟩ := hv
  have h' := h.chg' ch2
  refine ⟨_, _, _, _, _, _, _, _, _, _, rfl, storeN_blk h'.blk (by simp) rfl fun w4 b4 ch4 w5 e => ?_⟩
  subst e
  exact hK _ A3 c3 A4 c4 ⟨b4, ch4.blk h'.res h.ne, h'.ch.trans ch4 fun x hx => .inr (hx ▸ h.gw), (h2.other h'.blk ch4).mono fun b hb => hb.elim id fun hle => .inr (Nat.le_trans h.ch.size hle), h.gw, h.g2w, h.ne⟩
/-- its result -/
theorem FrR.give (h : FrR w w1 g g2 r A1 c1 A2 c2 B) (hc : Chg (fun b => b = g2) w1 w2) : GivesR w w2 r B (valR r (.slice A1 r.l1.length c1) (.slice A2 r.l2.length c2)) :=
  ⟨A1, c1, A2, c2, rfl, h.at_.other h.res hc, h.ch.trans hc fun x hx => .inr (hx ▸ h.g2w)⟩
/-- its second row is another one now -/
theorem FrR.put2 (h : FrR w w1 g g2 r A1 c1 A2 c2 B) {l : List It} {A : Option Addr} {c : Nat} (ho : OwnI w1 (.slice A l.length c) l) (hb : ∀ b, (Value.slice A l.length c).ownBlock = some b → B b ∨ w.heap.size ≤ b) (hw : w2 = w1.setCell ⟨g, 4, none⟩ (.slice A l.length c)) :
    FrR w w2 g g2 { r with l2 := l } A1 c1 A c B := by
  obtain ⟨b2, ch2⟩ := store_blk h.blk hw
  exact ⟨b2, ch2.blk h.res h.ne, h.ch.trans ch2 fun x hx => .inr (hx ▸ h.gw), ⟨(h.at_.other h.blk ch2).o1, ho.chg ch2 fun x hx e => OwnW.blk_ne ho h.blk (by decide) (e ▸ hx), h.at_.b1, hb⟩, h.gw, h.g2w, h.ne⟩
theorem FrR.put1 (h : FrR w w1 g g2 r A1 c1 A2 c2 B) {l : List It} {A : Option Addr} {c : Nat} (ho : OwnI w1 (.slice A l.length c) l) (hb : ∀ b, (Value.slice A l.length c).ownBlock = some b → B b ∨ w.heap.size ≤ b) (hw : w2 = w1.setCell ⟨g, 2, none⟩ (.slice A l.length c)) :
    FrR w w2 g g2 { r with l1 := l } A c A2 c2 B := by
  obtain ⟨b2, ch2⟩ := store_blk h.blk hw
  exact ⟨b2, ch2.blk h.res h.ne, h.ch.trans ch2 fun x hx => .inr (hx ▸ h.gw), ⟨ho.chg ch2 fun x hx e => OwnW.blk_ne ho h.blk (by decide) (e ▸ hx), (h.at_.other h.blk ch2).o2, hb, h.at_.b2⟩, h.gw, h.g2w, h.ne⟩
/-- a copy of a row, one value of it another -/
theorem copy_set {w : World} {A : Option Addr} {c : Nat} {l : List It} (h : OwnI w (.slice A l.length c) l) (hl : l.length ≤ 1099511627776) {k : Str} (hk : k ∈ RD.kys l) (v : Int) :
    ∃ q c' w1, Sem.run Try.prog (builtin .append #[51, 51] 51 #[false, false] #[.slice none 0 0, .slice A l.length c]) w = .ok (.value (.slice (some ⟨q, 0, none⟩) l.length c')) w1 ∧ Chg (fun _ => False) w w1 ∧ w.heap.size ≤ q ∧
      (∃ v0, w1.cell? ⟨q, RD.ix l k * 2 + 1, none⟩ = some v0) ∧ w1.frozen? ⟨q, RD.ix l k * 2 + 1, none⟩ = false ∧
      ∀ w2, w2 = w1.setCell ⟨q, RD.ix l k * 2 + 1, none⟩ (.int .i64 v) → OwnI w2 (.slice (some ⟨q, 0, none⟩) (l.set (RD.ix l k) (k, v)).length c') (l.set (RD.ix l k) (k, v)) ∧ Chg (fun b => b = q) w1 w2 := by
  obtain ⟨hix, v0, hv0⟩ := Rel.ix_spec hk
  obtain ⟨A2, c', w1, hr, ho, hc, hn⟩ := (OwnI.nil w).app (OwnI.src h) rfl (by simp; omega)
  rw [List.nil_append] at hr ho hn
  obtain ⟨_, h2⟩ := flatI_get hv0
  obtain ⟨q, c'', e, hcell, hfr⟩ := OwnW.at ho h2
  injection e with e1 _ e3
  subst e1; subst e3
  refine ⟨q, c', w1, hr, hc.mono fun b hb => by simp [Value.ownBlock] at hb, (hn q rfl).elim (fun h => by simp [Value.ownBlock] at h) id, ⟨_, hcell⟩, hfr, fun w2 hw2 => ?_⟩
  obtain ⟨h3, h4⟩ := OwnW.set ho (by omega) hw2
  refine ⟨?_, h4⟩
  rw [flatI_set hv0] at h3
  unfold OwnI
  rw [List.length_set]; exact h3
end
theorem gives_tuple {w w' : World} {r : RD} {B : Nat → Prop} {A1 A2 : Option Addr} {c1 c2 : Nat} {b : Bool} {p : RD × Bool} (h : GivesR w w' r B (valR r (.slice A1 r.l1.length c1) (.slice A2 r.l2.length c2))) (e : p = (r, b)) :
    ∃ v, Ending.returned (.tuple #[valR r (.slice A1 r.l1.length c1) (.slice A2 r.l2.length c2), .bool b]) = .returned (.tuple #[v, .bool p.2]) ∧ GivesR w w' p.1 B v := by
  subst e; exact ⟨_, rfl, h⟩

set_option maxHeartbeats 1000000 in
theorem rset_ok {w : World} {r : RD} {A1 A2 : Option Addr} {c1 c2 : Nat} {B : Nat → Prop} (h : RAt w (.slice A1 r.l1.length c1) (.slice A2 r.l2.length c2) r B) (hf : Fit r) (hs : Fit r.step) (k : Str) (v : Int) :
    Calls Try.prog 29 #[valR r (.slice A1 r.l1.length c1) (.slice A2 r.l2.length c2), .string k, .int .i64 v] w fun e w' => ∃ x, e = .returned (.tuple #[x, .bool (r.set k v).2]) ∧ GivesR w w' (r.set k v).1 B x := by
  refine v29 _ _ _ _ _ _ _ _ _ _ _ _ _ _ ?_
  unfold V29
  intro g w1 hg hw1 g2 w2 hg2 hw2
  have fr := FrR.start h (w' := w) hg hw1 hg2 hw2
  clear hg hw1 hg2 hw2
  refine ld6 fr.blk ((rstep_ok fr.at_ hf).mono ?_)
  rintro e w3 ⟨x, rfl, hx⟩
  refine fr.put hx fun w5 A1 c1 A2 c2 fr => ?_
  clear hx
  have hset : r.set k v = r.step.set0 k v := rfl
  rw [hset]
  generalize r.step = s at *
  have hfew := hs.few
  -- the way to the end, where the key is new
  have tail2 : ∀ {w6 : World} {s' : RD} {A1 A2 : Option Addr} {c1 c2 : Nat}, FrR w w6 g g2 s' A1 c1 A2 c2 B → s.set0 k v = (s', true) →
      V29_k2 ⟨g, 0, none⟩ ⟨g2, 0, none⟩ w6 (fun e w' => ∃ x, e = .returned (.tuple #[x, .bool (s.set0 k v).2]) ∧ GivesR w w' (s.set0 k v).1 B x) := by
    intro w6 s' A1 A2 c1 c2 fr he
    unfold V29_k2
    simp only [add_mk, Nat.reduceAdd]
    exact ld6 fr.blk (ret6 fr.res fun w' hc => gives_tuple (fr.give hc) he)
  have tail1 : ∀ {w6 : World} {s' : RD} {A1 A2 : Option Addr} {c1 c2 : Nat}, FrR w w6 g g2 s' A1 c1 A2 c2 B → s.set0 k v = (s'.joins k v, true) → s'.l1.length ≤ 1099511627776 → s'.l2.length ≤ 1099511627776 →
      V29_k1 k v ⟨g, 0, none⟩ ⟨g2, 0, none⟩ w6 (fun e w' => ∃ x, e = .returned (.tuple #[x, .bool (s.set0 k v).2]) ∧ GivesR w w' (s.set0 k v).1 B x) := by
    intro w6 s' A1 A2 c1 c2 fr he f1 f2
    unfold V29_k1
    simp only [add_mk, Nat.reduceAdd]
    refine ld6 fr.blk ((rmoving_ok w6 s').mono ?_)
    rintro e w7 ⟨rfl, ch7⟩
    have fr := fr.chg' ch7
    have hsz := fr.ch.size
    refine ⟨_, rfl, fun hm => ?_, fun hm => ?_⟩
    · have hm' : 0 < s'.n2 := of_decide_eq_true hm
      have hj : s'.joins k v = { s' with l2 := s'.l2 ++ [(k, v)] } := by unfold RD.joins; rw [if_pos hm']
      refine ⟨_, _, _, cell_blk fr.blk rfl, (rwith_ok fr.at_.o2 f2 (k, v)).mono ?_⟩
      rintro e w8 ⟨A, c, rfl, hO, hB, ch8⟩
      have fr := fr.chg' ch8
      refine ⟨_, _, _, rfl, ⟨_, cell_blk fr.blk rfl⟩, frozen_blk fr.blk, fun w9 hw9 => ?_⟩
      exact tail2 (fr.put2 hO (fun b hb => .inr (Nat.le_trans hsz (hB b hb))) hw9) (by rw [he, hj])
    · have hm' : ¬ 0 < s'.n2 := of_decide_eq_false hm
      have hj : s'.joins k v = { s' with l1 := s'.l1 ++ [(k, v)] } := by unfold RD.joins; rw [if_neg hm']
      refine ⟨_, _, _, cell_blk fr.blk rfl, (rwith_ok fr.at_.o1 f1 (k, v)).mono ?_⟩
      rintro e w8 ⟨A, c, rfl, hO, hB, ch8⟩
      have fr := fr.chg' ch8
      refine ⟨_, _, _, rfl, ⟨_, cell_blk fr.blk rfl⟩, frozen_blk fr.blk, fun w9 hw9 => ?_⟩
      exact tail2 (fr.put1 hO (fun b hb => .inr (Nat.le_trans hsz (hB b hb))) hw9) (by rw [he, hj])
  refine ⟨_, cell_blk fr.blk rfl, _, _, _, cell_blk fr.blk rfl, (rat_ok fr.at_.o1 (by omega) k).mono ?_⟩
  rintro e w6 ⟨rfl, ch6⟩
  have fr := fr.chg' ch6
  by_cases hk1 : k ∈ RD.kys s.l1
  · obtain ⟨hix, v0, hv0⟩ := Rel.ix_spec hk1
    rw [if_pos hk1]
    have he : s.set0 k v = ({ s with l1 := s.l1.set (RD.ix s.l1 k) (k, v) }, false) := by unfold RD.set0; rw [if_pos hk1]
    refine ⟨_, rfl, fun _ => ?_, fun h0 => by have := of_decide_eq_false h0; omega⟩
    obtain ⟨q, c', w7, hr7, ch7, hq7, hc7, hf7, hput⟩ := copy_set fr.at_.o1 (by omega) hk1 v
    refine ⟨_, _, _, cell_blk fr.blk rfl, _, _, _, w7, hr7, by omega, by omega, ?_⟩
    rw [toNatN]
    simp only [add_mk, Nat.zero_add]
    refine ⟨hc7, hf7, fun w8 hw8 => ?_⟩
    obtain ⟨hO8, ch8⟩ := hput w8 hw8
    have hsz := fr.ch.size
    have fr := fr.chg' (ch7.trans ch8 fun x hx => .inr (hx ▸ hq7))
    rw [List.length_set] at hO8
    refine ⟨⟨_, cell_blk fr.blk rfl⟩, frozen_blk fr.blk, fun w9 hw9 => ?_⟩
    have fr := fr.put1 (w2 := w9) (l := s.l1.set (RD.ix s.l1 k) (k, v)) (by rw [List.length_set]; exact hO8) (fun b hb => by
      simp only [Value.ownBlock, Option.some.injEq] at hb
      exact .inr (by omega)) (by rw [List.length_set]; exact hw9)
    exact ld6 fr.blk (ret6 fr.res fun w' hc => gives_tuple (fr.give hc) he)
  · rw [if_neg hk1]
    refine ⟨_, rfl, fun h0 => by have := of_decide_eq_true h0; omega, fun _ => ?_⟩
    refine ⟨_, cell_blk fr.blk rfl, _, _, _, cell_blk fr.blk rfl, (rat_ok fr.at_.o2 (by omega) k).mono ?_⟩
    rintro e w12 ⟨rfl, ch12⟩
    have fr := fr.chg' ch12
    by_cases hk2 : k ∈ RD.kys s.l2
    · obtain ⟨hix, v0, hv0⟩ := Rel.ix_spec hk2
      rw [if_pos hk2]
      have he : s.set0 k v = ({ s with l2 := s.l2.set (RD.ix s.l2 k) (k, v) }, false) := by unfold RD.set0; rw [if_neg hk1, if_pos hk2]
      refine ⟨_, rfl, fun _ => ?_, fun h0 => by have := of_decide_eq_false h0; omega⟩
      obtain ⟨q, c', w7, hr7, ch7, hq7, hc7, hf7, hput⟩ := copy_set fr.at_.o2 (by omega) hk2 v
      refine ⟨_, _, _, cell_blk fr.blk rfl, _, _, _, w7, hr7, by omega, by omega, ?_⟩
      rw [toNatN]
      simp only [add_mk, Nat.zero_add]
      refine ⟨hc7, hf7, fun w8 hw8 => ?_⟩
      obtain ⟨hO8, ch8⟩ := hput w8 hw8
      have hsz := fr.ch.size
      have fr := fr.chg' (ch7.trans ch8 fun x hx => .inr (hx ▸ hq7))
      rw [List.length_set] at hO8
      refine ⟨⟨_, cell_blk fr.blk rfl⟩, frozen_blk fr.blk, fun w9 hw9 => ?_⟩
      have fr := fr.put2 (w2 := w9) (l := s.l2.set (RD.ix s.l2 k) (k, v)) (by rw [List.length_set]; exact hO8) (fun b hb => by
        simp only [Value.ownBlock, Option.some.injEq] at hb
        exact .inr (by omega)) (by rw [List.length_set]; exact hw9)
      exact ld6 fr.blk (ret6 fr.res fun w' hc => gives_tuple (fr.give hc) he)
    · rw [if_neg hk2]
      refine ⟨_, rfl, fun h0 => by have := of_decide_eq_true h0; omega, fun _ => ?_⟩
      have he : s.set0 k v = (s.grows.joins k v, true) := by unfold RD.set0; rw [if_neg hk1, if_neg hk2]
      refine ⟨_, cell_blk fr.blk rfl, fun h0 => ?_, fun h0 => ?_⟩
      · have h0' : s.n1 = 0 := beq0.1 h0
        have hg : s.grows = { s with n1 := 4 } := by unfold RD.grows; rw [if_pos h0']
        refine ⟨⟨_, cell_blk fr.blk rfl⟩, frozen_blk fr.blk, fun w18 hw18 => ?_⟩
        obtain ⟨b18, ch18⟩ := store_blk fr.blk hw18
        have fr : FrR w w18 g g2 { s with n1 := 4 } A1 c1 A2 c2 B := ⟨b18, ch18.blk fr.res fr.ne, fr.ch.trans ch18 fun x hx => .inr (hx ▸ fr.gw), ⟨(fr.at_.other fr.blk ch18).o1, (fr.at_.other fr.blk ch18).o2, fr.at_.b1, fr.at_.b2⟩, fr.gw, fr.g2w, fr.ne⟩
        exact tail1 fr (by rw [he, hg]) (show s.l1.length ≤ _ by omega) (show s.l2.length ≤ _ by omega)
      · have h0' : s.n1 ≠ 0 := beq0'.1 h0
        refine ld6 fr.blk ((rmoving_ok w12 s).mono ?_)
        rintro e w28 ⟨rfl, ch28⟩
        have fr := fr.chg' ch28
        have k3 : ∀ {b : Bool}, b = decide (¬ 0 < s.n2 ∧ s.n1 ≤ s.l1.length) → V29_k3 k v ⟨g, 0, none⟩ ⟨g2, 0, none⟩ b w28 (fun e w' => ∃ x, e = .returned (.tuple #[x, .bool (s.set0 k v).2]) ∧ GivesR w w' (s.set0 k v).1 B x) := by
          intro b hb
          unfold V29_k3
          simp only [add_mk, Nat.reduceAdd]
          refine ⟨fun h1 => ?_, fun h1 => ?_⟩
          · have hc : ¬ 0 < s.n2 ∧ s.n1 ≤ s.l1.length := of_decide_eq_true (hb.symm.trans h1)
            have hg : s.grows = s.begins (2 * s.n1) := by unfold RD.grows; rw [if_neg h0', if_pos hc]
            refine ld6 fr.blk ⟨_, cell_blk fr.blk rfl, ?_⟩
            have hw2 : IntKind.wrap .i64 (2 * (s.n1 : Int)) = ((2 * s.n1 : Nat) : Int) := by have := hs.n1; rw [w64 (by omega) (by omega)]; omega
            rw [hw2]
            refine (rbegin_ok fr.at_ (2 * s.n1)).mono ?_
            rintro e w30 ⟨x, rfl, hx⟩
            have hl0 : (s.begins (2 * s.n1)).l1.length ≤ 1099511627776 ∧ (s.begins (2 * s.n1)).l2.length ≤ 1099511627776 := by
              unfold RD.begins RD.over
              split
              · simp
              · simp; omega
            exact fr.put hx fun w32 A1 c1 A2 c2 fr => tail1 fr (by rw [he, hg]) hl0.1 hl0.2
          · have hc : ¬ (¬ 0 < s.n2 ∧ s.n1 ≤ s.l1.length) := of_decide_eq_false (hb.symm.trans h1)
            have hg : s.grows = s := by unfold RD.grows; rw [if_neg h0', if_neg hc]
            exact tail1 fr (by rw [he, hg]) (by omega) (by omega)
        refine ⟨_, rfl, fun hm => ?_, fun hm => ?_⟩
        · have hm' : ¬ 0 < s.n2 := of_decide_eq_false (by simpa using hm)
          refine ⟨_, _, _, cell_blk fr.blk rfl, _, cell_blk fr.blk rfl, k3 (decide_eq_decide.2 ?_)⟩
          constructor
          · intro h; exact ⟨hm', by omega⟩
          · intro h; have := h.2; omega
        · have hm' : 0 < s.n2 := of_decide_eq_true (by simpa using hm)
          exact k3 (decide_eq_false (fun h => h.1 hm')).symm
end Go.Proofs.Ytcljmlgbmjjldaa
