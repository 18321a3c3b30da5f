/- The dict's statements' head: works. -/
import Derived.Test.YtcljmlgbmjjldaaDict9
import Derived.Test.YtcljmlgbmjjldaaDictC
import Derived.KernelRfl
namespace Go.Proofs.Ytcljmlgbmjjldaa
open Go Go.VC Go.RowKit Go.Proofs.Ytcljmlgbmjjldaa.F
set_option linter.unusedVariables false
set_option linter.unusedSimpArgs false

theorem scan_ok' {w : World} {g : Nat} {d : D} {F : Nat → Prop} {c n : Int} (h : DictAt w g d F) (hi : D.Inv d) (hc : c < 9223372036854775808) (hn : n < 9223372036854775808) (hm : d.m.length < big) (hbig : (d.scan c n).1.length < big) :
    Calls Try.prog 25 #[.pointer (some ⟨g, 0, none⟩), .int .i64 c, .int .i64 n] w fun e w' => ∃ A cp, e = .returned (.tuple #[.slice A (d.scan c n).1.length cp, .int .i64 ((d.scan c n).2 : Nat)]) ∧ Own w' tS (.slice A (d.scan c n).1.length cp) (d.scan c n).1.length (strs (d.scan c n).1) ∧
      (∀ b, (Value.slice A (d.scan c n).1.length cp).ownBlock = some b → w.heap.size ≤ b) ∧ Chg (fun _ => False) w w' := by
  by_cases hb : d.b1 = []
  · refine v25 _ _ _ _ _ ?_
    unfold V25
    simp only [add_mk, Nat.reduceAdd]
    refine (size1_ok h).mono ?_
    rintro e w1 ⟨rfl, rfl⟩
    refine ⟨_, rfl, fun h0 => ?_, fun h0 => ?_⟩
    · have hs : d.scan c n = ([], 0) := by unfold D.scan; rw [if_pos (by rw [hb]; rfl)]
      rw [hs]
      exact ⟨none, 0, rfl, Own.nil _ _, fun b hb => by simp [Value.ownBlock] at hb, Chg.refl _ _⟩
    · rw [beq0', hb] at h0; exact absurd rfl h0
  · refine scan_ok h hi hc hn hm hbig d.rest (fun c _ hne => ?_) (fun c => ?_) (fun c => ?_) d.rest_pos
    · have := D.rest_next hi hb hne; omega
    · have := (D.visit_pos hi hb c).2.2.2
      exact Nat.le_trans (Nat.sub_le _ _) this
    · obtain ⟨h1, _, h2, _⟩ := D.visit_pos hi hb c
      have : 2 ^ d.bits ≤ 2 ^ 40 := Nat.pow_le_pow_right (by omega) h2
      omega

def keyA : Str := ByteArray.mk #[97]
theorem d1_eq (v : Value) : (D.new 0).set keyA v = (⟨0, [[], [keyA], [], []], [], 0, [(keyA, v)]⟩, true) := by kernel_rfl
theorem d2_eq (v u : Value) : (⟨0, [[], [keyA], [], []], [], 0, [(keyA, v)]⟩ : D).set keyA u = (⟨0, [[], [keyA], [], []], [], 0, [(keyA, u)]⟩, false) := by kernel_rfl
theorem d3_eq (v : Value) : (⟨0, [[], [keyA], [], []], [], 0, [(keyA, v)]⟩ : D).delete keyA = (⟨0, [[], [], [], []], [], 0, []⟩, true) := by kernel_rfl
theorem s_eq (v : Value) : (⟨0, [[], [keyA], [], []], [], 0, [(keyA, v)]⟩ : D).scan 0 10 = ([keyA], 0) := by
  have h0 : nextCur 0 2 = 2 := by decide
  have h1 : nextCur 2 2 = 1 := by decide
  have h2 : nextCur 1 2 = 3 := by decide
  have h3 : nextCur 3 2 = 0 := by decide
  have hl : Nat.log2 4 = 2 := by decide
  have hs : sortS [keyA] = [keyA] := List.perm_singleton.1 (sortS_perm [keyA])
  have e0 : ¬ ((max 1 10 : Int) ≤ 0) := by decide
  have e1 : ¬ ((max 1 10 : Int) ≤ 1) := by decide
  simp [D.scan, D.scanL, D.visit, D.moves, hl, h0, h1, h2, h3, hs, sortS_nil, bucket, e0, e1]
theorem ints_nil : Ints [] := fun k v h => by cases h
theorem ints_one (k : Str) (n : Int) : Ints [(k, .int .i64 n)] := by
  have := ints_nil.upd k n; exact this

theorem works_ok (w : World) : Calls Try.prog 15 #[] w fun e w' => e = .returned (.bool true) ∧ Chg (fun _ => False) w w' := by
  refine v15 _ _ ?_
  unfold V15
  have hA : keyA.size < 9223372036854775808 := by decide
  refine (new_ok 0 w).mono ?_
  rintro e w1 ⟨g, F1, rfl, h1, hF1, c1⟩
  refine ⟨_, rfl, fun _ => ?_, fun h => (by cases h)⟩
  have hi1 := D.Inv.new 0
  refine (set_ok (key := keyA) (v := 7) h1 hi1 ints_nil hA (by decide)).mono ?_
  rintro e w2 ⟨rfl, hw2⟩
  have hi2 := hi1.set (k := keyA) (v := .int .i64 7) hA (by decide)
  rw [d1_eq] at hw2 hi2 ⊢
  obtain ⟨F2, h2, hF2, c2⟩ := hw2.ex
  refine ⟨_, rfl, fun _ => ?_, fun h => (by cases h)⟩
  refine (set_ok (key := keyA) (v := 8) h2 hi2 (ints_one _ _) hA (by simp)).mono ?_
  rintro e w3 ⟨rfl, hw3⟩
  have hi3 := hi2.set (k := keyA) (v := .int .i64 8) hA (by simp)
  rw [d2_eq] at hw3 hi3 ⊢
  obtain ⟨F3, h3, hF3, c3⟩ := hw3.ex
  refine ⟨_, rfl, fun h => (by cases h), fun _ => ?_⟩
  refine (get_ok h3 (ints_one _ _) keyA).mono ?_
  rintro e w4 ⟨rfl, rfl⟩
  have hg : kget keyA [(keyA, Value.int .i64 8)] = some (.int .i64 8) := by simp [kget]
  simp only [hg]
  refine ⟨_, _, rfl, ?_⟩
  refine (scan_ok' (c := 0) (n := 10) h3 hi3 (by decide) (by decide) (by simp [big]) (by rw [s_eq]; simp [big])).mono ?_
  rintro e w5 ⟨A, cp, rfl, ho5, hn5, c5⟩
  rw [s_eq] at ho5 hn5 ⊢
  refine ⟨_, _, _, _, rfl, ?_⟩
  have h5 : DictAt w5 g _ F3 := h3.chg c5 fun _ _ h => h
  refine (tables_ok h5).mono ?_
  rintro e w6 ⟨rfl, d6⟩
  have h6 := h5.drawn d6
  have ho6 := Drawn.own d6 ho5
  refine ⟨_, _, _, rfl, fun _ => ⟨fun _ => ?_, fun h => (by cases h)⟩, fun h => (by cases h)⟩
  refine (len_ok h6).mono ?_
  rintro e w7 ⟨rfl, rfl⟩
  obtain ⟨gA, cA, cur, eA, _, _, hcell, _⟩ := Own.at (i := 0) (x := .string keyA) ho6 rfl
  injection eA with e1 e2 e3
  subst e1
  have hchain : Chg (fun x => w.heap.size ≤ x) w w6 := by
    refine Chg.drawn ?_ d6
    refine ((((c1.mono fun _ h => h.elim).trans c2 fun x hx => .inl (hF1 x hx)).trans c3 fun x hx => .inl ?_).trans c5 fun x hx => hx.elim)
    exact (hF2 x hx).elim (hF1 x) fun h => Nat.le_trans c1.size h
  refine ⟨_, rfl, fun _ => ⟨fun _ => ⟨by decide, by decide, keyA, by rw [add_mk]; exact hcell, fun _ => ⟨fun _ => ⟨fun _ => ⟨fun _ => ⟨fun _ => ?_, fun h => (by cases h)⟩, fun h => (by cases h)⟩, fun h => (by cases h)⟩, fun h => (by cases h)⟩, fun h => ?_⟩, fun h => (by cases h)⟩, fun h => (by cases h)⟩
  · refine (delete_dict_ok h6 hi3 (ints_one _ _) hA (by simp [big])).mono ?_
    rintro e w8 ⟨rfl, hw8⟩
    rw [d3_eq] at hw8 ⊢
    obtain ⟨F8, h8, hF8, c8⟩ := hw8.ex
    refine ⟨_, rfl, fun _ => ?_, fun h => (by cases h)⟩
    refine (len_ok h8).mono ?_
    rintro e w9 ⟨rfl, rfl⟩
    refine ⟨_, rfl, rfl, ?_⟩
    have hF3' : ∀ x, F3 x → w.heap.size ≤ x := fun x hx => (hF3 x hx).elim (fun h => (hF2 x h).elim (hF1 x) fun h => Nat.le_trans c1.size h) fun h => Nat.le_trans c1.size (Nat.le_trans c2.size h)
    exact (hchain.trans c8 fun x hx => .inl (hF3' x hx)).newer fun x hx => .inr hx
  · exact absurd h (by rw [show (ByteArray.mk #[97]) = keyA from rfl, strEq_self]; decide)
end Go.Proofs.Ytcljmlgbmjjldaa
