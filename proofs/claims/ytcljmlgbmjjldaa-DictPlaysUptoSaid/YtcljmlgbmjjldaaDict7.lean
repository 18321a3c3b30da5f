/- The dict: slices.Clone, slices.Sort; a bucket's keys; the cursor. -/
import Derived.Test.YtcljmlgbmjjldaaDict6
import Derived.Test.YtcljmlgbmjjldaaAppends
import Derived.Test.YtcljmlgbmjjldaaDictV
import Derived.Sort.OwnSorted
namespace Go.Proofs.Ytcljmlgbmjjldaa
open Go Go.VC Go.RowKit Go.Proofs.Ytcljmlgbmjjldaa.F
set_option linter.unusedVariables false
set_option linter.unusedSimpArgs false

theorem Own.base {w : World} {b : Nat} {e : TypeId} {v : Value} {n : Nat} {xs : List Value} (h : w.ownsRow b e 1 v n xs) : Own w e v n xs := by
  refine ⟨h.1, h.2.imp id ?_⟩
  rintro ⟨g, cap, cur, h1, _, h2⟩
  exact ⟨g, cap, cur, h1, Nat.zero_le _, h2⟩
theorem clone_ok {w : World} {v : Value} {l : List Str} (ho : Own w tS v l.length (strs l)) (hbig : l.length < big) :
    Calls Try.prog 121 #[v] w fun e w' => ∃ A c, e = .returned (.slice A l.length c) ∧ Own w' tS (.slice A l.length c) l.length (strs l) ∧ (∀ b, (Value.slice A l.length c).ownBlock = some b → w.heap.size ≤ b) ∧ Chg (fun _ => False) w w' := by
  rcases ho.2 with ⟨rfl, h0⟩ | ⟨g, cap, cur, rfl, hb, hh, h1, h2, h3, h4⟩
  · have : l = [] := List.eq_nil_of_length_eq_zero h0
    subst this
    refine (Try.slices_Clone_string_nil 0 0 w).mono ?_
    rintro e w' ⟨rfl, rfl⟩
    exact ⟨none, 0, rfl, Own.nil _ _, fun b hb => by simp [Value.ownBlock] at hb, Chg.refl _ _⟩
  · refine (Try.slices_Clone_string g 0 l.length cap l w (Nat.le_refl _) (by unfold big at hbig; omega) (fun j hj => ?_)).mono ?_
    · have hc : (strs l)[j]? = some (.string (l.getD j ByteArray.empty)) := strs_get (by rw [List.getD_eq_getElem?_getD, List.getElem?_eq_getElem hj]; rfl)
      obtain ⟨g', c', cur', e, _, _, hcell, _⟩ := ho.at hc
      injection e with e1 e2 e3
      injection e1 with e1
      injection e1 with e1
      subst e1
      rw [Nat.zero_add]; exact hcell
    · rintro e w' ⟨v', rfl, hown, hne, hbel⟩
      rw [List.take_length] at hown
      obtain ⟨A, c, rfl⟩ := (Own.base hown).slice
      exact ⟨A, c, rfl, Own.base hown, fun b hb => (World.ownsRow.lt hown b hb).1, Chg.of_below hbel _⟩
theorem sort_ok {w : World} {v : Value} {l : List Str} (ho : Own w tS v l.length (strs l)) (hbig : l.length < big) :
    Calls Try.prog 114 #[v] w fun e w' => e = .returned (.tuple #[]) ∧ Own w' tS v l.length (strs (sortS l)) ∧ Chg (fun b => v.ownBlock = some b) w w' := by
  rcases ho.2 with ⟨rfl, h0⟩ | ⟨g, cap, cur, rfl, hb, hh, h1, h2, h3, h4⟩
  · have : l = [] := List.eq_nil_of_length_eq_zero h0
    subst this
    refine (Try.slices_Sort_string_none none 0 w).mono ?_
    rintro e w' ⟨rfl, rfl⟩
    refine ⟨rfl, ?_, Chg.refl _ _⟩
    rw [sortS_nil]; exact Own.nil _ _
  · have hss : (l.map fun s => s.data.toList).map encStr = strs l := by
      rw [List.map_map]; unfold strs
      congr 1
    have hH := holds_of_block hh (ss := l.map fun s => s.data.toList) (by rw [hss, List.length_map]; simpa using h4)
    have := Try.slices_Sort_string g 0 cap (l.map fun s => s.data.toList) w hH (lt_blk hh) (by unfold big at hbig; simp; omega)
    rw [List.length_map] at this
    refine this.mono ?_
    rintro e w' ⟨rfl, n, os, rfl⟩
    refine ⟨rfl, ?_, Chg.of_grown (grownBy_sorted _) |>.mono fun b hb => by simpa [Value.ownBlock] using hb⟩
    have hl : ((l.map fun s => s.data.toList).mergeSort fun x y => decide (x ≤ y)).length = (l.map fun s : Str => s.data.toList).length := by simp
    have hw := ownsRow_sorted (n := n) (os := os) (ss := l.map fun s => s.data.toList) hl hb hh (by simpa using h1) h2 h3
    rw [List.length_map] at hw
    have he : ((l.map fun s => s.data.toList).mergeSort fun x y => decide (x ≤ y)).map encStr = strs (sortS l) := by
      unfold strs sortS; rw [List.map_map]; rfl
    rw [he] at hw; exact hw

/-- a bucket's keys -/
theorem keys_ok {w : World} {g o : Nat} {cs : Array Value} {ty : TypeId} {s : Value} {bs : Bks} {F : Nat → Prop} {i : Nat}
    (hb : w.heap[g]? = some (.cells cs ty (0, 0))) (hs : cs[o]? = some s) (ht : Tab tS tR w s bs F) (hi : i < bs.length) (hbig : (bucket bs i).length < big) :
    Calls Try.prog 116 #[.pointer (some ⟨g, o, none⟩), .int .i64 i] w fun e w' => ∃ A, e = .returned (.slice A (bucket bs i).length (bucket bs i).length) ∧ Rd w' (.slice A (bucket bs i).length (bucket bs i).length) (strs (sortS (bucket bs i))) ∧
      (∀ b, (Value.slice A (bucket bs i).length (bucket bs i).length).ownBlock = some b → w.heap.size ≤ b) ∧ Chg (fun _ => False) w w' := by
  refine v116 _ _ _ _ ?_
  unfold V116
  obtain ⟨G, c, v, rfl, hG, hcell, hfr, ho, hvF, hput⟩ := ht.at (by decide) (bucket_get hi)
  obtain ⟨A, c1, rfl⟩ := ho.slice
  refine ⟨_, _, _, cell_blk hb hs, by omega, by omega, A, _, c1, by rw [add_mk, toNatN, Nat.zero_add, Nat.mul_one]; exact hcell, ?_⟩
  generalize bucket bs i = l at *
  refine (clone_ok ho hbig).mono ?_
  rintro e w1 ⟨A1, c2, rfl, ho1, hn1, hc1⟩
  refine ⟨_, _, _, rfl, ?_⟩
  refine (sort_ok ho1 hbig).mono ?_
  rintro e w2 ⟨rfl, ho2, hc2⟩
  have hcap : l.length ≤ c2 := by
    rcases ho2.2 with ⟨e, h0⟩ | ⟨g', cap', cur', e, _, _, h1, _⟩
    · omega
    · injection e with _ _ e3; omega
  refine ⟨rfl, by omega, by omega, by omega, by rw [toNatN]; omega, A1, ?_⟩
  rw [toNatN, Nat.sub_zero]
  have hcut : cutA A1 0 l.length 1 = A1 := by
    unfold cutA
    split
    · rfl
    · cases A1 with
      | none => rfl
      | some a =>
        rcases ho2.2 with ⟨e, h0⟩ | ⟨g', cap', cur', e, _⟩
        · cases e
        · injection e with e1
          injection e1 with e1
          subst e1
          simp [add_mk]
  rw [hcut]
  refine ⟨rfl, ?_, fun b hb => hn1 b (by cases A1 with | none => simp [Value.ownBlock] at hb | some a => exact hb), hc1.trans hc2 fun x hx => .inr (hn1 x hx)⟩
  obtain ⟨A3, c3, e3, hc3, h3⟩ := ho2.rd.ex
  rw [strs_length, sortS_length] at e3 hc3
  injection e3 with e1 e2 e3
  subst e1; subst e3
  refine ⟨A1, l.length, by simp, by simp, h3.imp (fun h => ⟨h.1, h.2.1, ?_⟩) id⟩
  have := h.2.1
  have hl := congrArg List.length this
  simpa using hl

/-! ### The cursor behind another one -/
theorem next_ok {c k : Nat} (hc : c < 9223372036854775808) (hk : k < 63) (w : World) :
    Calls Try.prog 117 #[.int .i64 c, .int .i64 ((2 ^ k : Nat) : Int)] w fun e w' => e = .returned (.int .i64 (nextCur c k)) ∧ w = w' := by
  refine v117 _ _ _ _ ?_
  have hp : 2 ^ k ≤ 2 ^ 62 := Nat.pow_le_pow_right (by omega) (by omega)
  refine ⟨by decide, fun c1 b1 w1 => w1 = w ∧ ∃ c2 b2 f : Nat, c1 = c2 ∧ b1 = b2 ∧ c2 < 9223372036854775808 ∧ b2 < 9223372036854775808 ∧ b2 < 2 ^ f ∧ nextU f c2 b2 = nextCur c k, fun c1 b1 _ => b1.toNat, ⟨rfl, c % 2 ^ k, 2 ^ k / 2, 64, andI_mask hc hk, shr1 (by omega), ?_, by omega, by omega, rfl⟩, ?_⟩
  · exact Nat.lt_of_le_of_lt (Nat.mod_le _ _) hc
  rintro c1 b1 w1 ⟨rfl, c2, b2, f, rfl, rfl, hc2, hb2, hf, hn⟩
  refine ⟨fun h0 => ?_, fun h0 => ?_⟩
  · have h0' : 0 < b2 := by have := of_decide_eq_true h0; omega
    obtain ⟨f', rfl⟩ : ∃ f', f = f' + 1 := by
      cases f with
      | zero => simp at hf; omega
      | succ f => exact ⟨f, rfl⟩
    rw [andI_nat hc2 hb2]
    rw [nextU, if_neg (by omega)] at hn
    refine ⟨fun h1 => ?_, fun h1 => ⟨by decide, ?_⟩⟩
    · rw [beq0] at h1
      rw [if_pos h1] at hn
      rw [orI_nat hc2 hb2, hn]; exact ⟨rfl, rfl⟩
    · rw [beq0'] at h1
      rw [if_neg h1] at hn
      rw [andNotI_nat hc2 hb2, shr1 hb2]
      refine ⟨⟨rfl, _, _, f', rfl, rfl, ?_, by omega, by rw [Nat.pow_succ] at hf; omega, hn⟩, ?_⟩
      · exact Nat.xor_lt_two_pow (n := 63) hc2 (Nat.lt_of_le_of_lt Nat.and_le_left hc2)
      · show ((b2 / 2 : Nat) : Int).toNat < ((b2 : Nat) : Int).toNat
        rw [toNatN, toNatN]; omega
  · have h0' : b2 = 0 := by have := of_decide_eq_false h0; omega
    subst h0'
    have : nextU f c2 0 = 0 := by cases f <;> simp [nextU]
    rw [← hn, this]; exact ⟨rfl, rfl⟩
end Go.Proofs.Ytcljmlgbmjjldaa
