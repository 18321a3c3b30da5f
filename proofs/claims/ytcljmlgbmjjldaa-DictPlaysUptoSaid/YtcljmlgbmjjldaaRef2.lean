/- The document's dict: over, begin, step, Set, Delete, Step, Get, Tables, Len. -/
import Derived.Test.YtcljmlgbmjjldaaRef1
namespace Go.Proofs.Ytcljmlgbmjjldaa
open Go Go.VC Go.RowKit Go.Proofs.Ytcljmlgbmjjldaa.F
set_option linter.unusedVariables false
set_option linter.unusedSimpArgs false
theorem RAt.other {w w' : World} {s1 s2 : Value} {r : RD} {B : Nat → Prop} {g : Nat} {cs : Array Value} {fr : Nat × Nat} (h : RAt w s1 s2 r B) (hb : w.heap[g]? = some (.cells cs 55 fr)) (hc : Chg (fun b => b = g) w w') : RAt w' s1 s2 r B :=
  ⟨h.o1.chg hc fun b hx e => OwnW.blk_ne h.o1 hb (by decide) (e ▸ hx), h.o2.chg hc fun b hx e => OwnW.blk_ne h.o2 hb (by decide) (e ▸ hx), h.b1, h.b2⟩
/-- a function's result: this dict; nothing old was written -/
def GivesR (w w' : World) (r' : RD) (B : Nat → Prop) (v : Value) : Prop := ∃ A1 c1 A2 c2, v = valR r' (.slice A1 r'.l1.length c1) (.slice A2 r'.l2.length c2) ∧ RAt w' (.slice A1 r'.l1.length c1) (.slice A2 r'.l2.length c2) r' (fun b => B b ∨ w.heap.size ≤ b) ∧ Chg (fun _ => False) w w'
theorem rover_ok {w : World} {r : RD} {A1 A2 : Option Addr} {c1 c2 : Nat} {B : Nat → Prop} (h : RAt w (.slice A1 r.l1.length c1) (.slice A2 r.l2.length c2) r B) :
    Calls Try.prog 71 #[valR r (.slice A1 r.l1.length c1) (.slice A2 r.l2.length c2)] w fun e w' => ∃ v, e = .returned v ∧ GivesR w w' r.over B v := by
  refine v71 _ _ _ _ _ _ _ _ _ _ _ _ ?_
  unfold V71
  intro g w1 hg hw1
  obtain ⟨b1, ch1, s1⟩ := blk_alloc hg hw1
  intro g2 w2 hg2 hw2
  obtain ⟨b2, ch2, s2⟩ := blk_alloc hg2 hw2
  have b1 := ch2.blk b1 id
  refine ld6 b1 ((rmoving_ok w2 r).mono ?_)
  rintro e w3 ⟨rfl, ch3⟩
  have b1 := ch3.blk b1 id
  have b2 := ch3.blk b2 id
  have ch : Chg (fun _ => False) w w3 := (ch1.trans' ch2).trans' ch3
  have ret : ∀ {w4 : World} {r' : RD} {A1 A2 : Option Addr} {c1 c2 : Nat}, w4.heap[g]? = some (.cells (cR r' (.slice A1 r'.l1.length c1) (.slice A2 r'.l2.length c2)) 55 (0, 0)) → w4.heap[g2]? = some (.cells #[.int .i64 0, .int .i64 0, .slice none 0 0, .int .i64 0, .slice none 0 0, .int .i64 0] 55 (0, 0)) →
      Chg (fun _ => False) w w4 → RAt w (.slice A1 r'.l1.length c1) (.slice A2 r'.l2.length c2) r' B → r' = r.over → V71_k2 ⟨g, 0, none⟩ ⟨g2, 0, none⟩ w4 (fun e w' => ∃ v, e = .returned v ∧ GivesR w w' r.over B v) := by
    intro w4 r' A1 A2 c1 c2 k1 k2 k3 k4 e
    subst e
    unfold V71_k2
    simp only [add_mk, Nat.reduceAdd]
    refine ld6 k1 (ret6 k2 fun w5 hc => ⟨_, rfl, _, _, _, _, rfl, ?_, ?_⟩)
    · exact ((k4.chg' k3).other k2 hc).mono fun _ => .inl
    · exact k3.trans hc fun x hx => .inr (by omega)
  refine ⟨_, rfl, fun hm => ?_, fun hm => ?_⟩
  · refine ⟨_, _, _, cell_blk b1 rfl, ?_⟩
    unfold V71_k1
    have hm' : 0 < r.n2 := of_decide_eq_true hm
    simp only [add_mk, Nat.reduceAdd]
    refine ⟨fun h0 => ?_, fun h0 => ?_⟩
    · have h0' : r.l1.length = 0 := beq0.1 h0
      refine ⟨_, cell_blk b1 rfl, _, _, _, cell_blk b1 rfl, ?_⟩
      refine storeN_blk b1 (by simp) rfl fun w4 b4 ch4 w5 e => ?_
      subst e
      refine storeN_blk b4 (by simp [putN]) rfl fun w6 b6 ch6 w7 e => ?_
      subst e
      refine ⟨⟨_, cell_blk b6 rfl⟩, frozen_blk b6, fun w8 hw8 => ?_⟩
      obtain ⟨b8, ch8⟩ := store_blk b6 hw8
      have hch : Chg (fun b => b = g) w3 w8 := (ch4.trans' ch6).trans' ch8
      refine ret (r' := r.over) (A1 := A2) (c1 := c2) (A2 := none) (c2 := 0) ?_ (hch.blk b2 (by omega)) (ch.trans hch fun x hx => .inr (by omega)) ?_ rfl
      · unfold RD.over; rw [if_pos ⟨hm', h0'⟩]; exact b8
      · unfold RD.over; rw [if_pos ⟨hm', h0'⟩]; exact ⟨h.o2, OwnI.nil _, h.b2, fun b hb => by simp [Value.ownBlock] at hb⟩
    · have h0' : r.l1.length ≠ 0 := beq0'.1 h0
      have he : r.over = r := by unfold RD.over; rw [if_neg (fun hh => h0' hh.2)]
      exact ret b1 b2 ch h he.symm
  · have hm' : ¬ 0 < r.n2 := of_decide_eq_false (by simpa using hm)
    have he : r.over = r := by unfold RD.over; rw [if_neg (fun hh => hm' hh.1)]
    unfold V71_k1
    exact ⟨fun h => (by cases h), fun _ => ret b1 b2 ch h he.symm⟩
theorem GivesR.mk' {w w0 w' : World} {r' : RD} {B : Nat → Prop} {v : Value} (hc : Chg (fun _ => False) w w0) (h : GivesR w0 w' r' B v) : GivesR w w' r' B v := by
  obtain ⟨A1, c1, A2, c2, e, h1, h2⟩ := h
  exact ⟨A1, c1, A2, c2, e, h1.mono fun b hb => hb.imp id fun h => Nat.le_trans hc.size h, hc.trans' h2⟩
theorem rbegin_ok {w : World} {r : RD} {A1 A2 : Option Addr} {c1 c2 : Nat} {B : Nat → Prop} (h : RAt w (.slice A1 r.l1.length c1) (.slice A2 r.l2.length c2) r B) (n : Nat) :
    Calls Try.prog 68 #[valR r (.slice A1 r.l1.length c1) (.slice A2 r.l2.length c2), .int .i64 n] w fun e w' => ∃ v, e = .returned v ∧ GivesR w w' (r.begins n) B v := by
  refine v68 _ _ _ _ _ _ _ _ _ _ _ _ _ ?_
  unfold V68
  intro g w1 hg hw1
  obtain ⟨b1, ch1, s1⟩ := blk_alloc hg hw1
  intro g2 w2 hg2 hw2
  obtain ⟨b2, ch2, s2⟩ := blk_alloc hg2 hw2
  have b1 := ch2.blk b1 id
  refine storeN_blk b1 (by simp) rfl fun w3 b3 ch3 w4 e => ?_
  subst e
  refine ⟨⟨_, cell_blk b3 rfl⟩, frozen_blk b3, fun w5 hw5 => ?_⟩
  obtain ⟨b5, ch5⟩ := store_blk b3 hw5
  have hch : Chg (fun b => b = g) w2 w5 := ch3.trans' ch5
  have ch : Chg (fun _ => False) w w5 := (ch1.trans' ch2).trans hch fun x hx => .inr (by omega)
  have b2 := hch.blk b2 (by omega)
  have hr : RAt w5 (.slice A1 r.l1.length c1) (.slice none 0 0) { r with n2 := n, l2 := [], idx := 0 } B := ⟨(h.chg' ch).o1, OwnI.nil _, h.b1, fun b hb => by simp [Value.ownBlock] at hb⟩
  refine ld6 b5 ((rover_ok (r := { r with n2 := n, l2 := [], idx := 0 }) hr).mono ?_)
  rintro e w6 ⟨v, rfl, A3, c3, A4, c4, rfl, h6, ch6⟩
  refine ⟨_, _, _, _, _, _, _, _, _, _, rfl, ?_⟩
  have b2 := ch6.blk b2 id
  refine ret6 b2 fun w7 hc => ⟨_, rfl, A3, c3, A4, c4, rfl, ?_, ?_⟩
  · exact (h6.other b2 hc).mono fun b hb => hb.imp id fun h => Nat.le_trans ch.size h
  · exact (ch.trans' ch6).trans hc fun x hx => .inr (by omega)
end Go.Proofs.Ytcljmlgbmjjldaa
