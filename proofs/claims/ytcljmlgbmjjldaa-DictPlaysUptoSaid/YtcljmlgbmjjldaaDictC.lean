/- The dict in plain words: the clock of a scan. -/
import Derived.Test.YtcljmlgbmjjldaaDictV
namespace Go.VC
open Go
set_option linter.unusedVariables false
set_option linter.unusedSimpArgs false

theorem visitL_pos (lg : Bks) {kS n : Nat} (hk : kS + n < 64) : ∀ (f c : Nat), left kS n c ≤ f → (visitL lg (kS + n) kS f c).2 < 2 ^ kS ∧ pos kS (visitL lg (kS + n) kS f c).2 = (pos kS c + 1) % 2 ^ kS
  | 0, c, h => by have := left_pos kS n c; omega
  | f + 1, c, h => by
    have hp := pow_pos' n
    have hd : 2 ^ (kS + n) = 2 ^ n * 2 ^ kS := by rw [Nat.pow_add, Nat.mul_comm]
    have h1 := pos_next hk c
    have h2 := @pos_split kS n c
    have h3 := @pos_split kS n (nextCur c (kS + n))
    have hr := rv_lt n (c % 2 ^ (kS + n) / 2 ^ kS)
    have hc := pos_lt kS c
    have hc' := pos_lt kS (nextCur c (kS + n))
    have hnl := nextCur_lt hk c
    have hz := high_zero_iff hnl
    simp only [visitL]
    by_cases hlt : nextCur c (kS + n) < 2 ^ kS
    · rw [if_pos hlt]
      refine ⟨hlt, ?_⟩
      have h0 := hz.1 hlt
      rw [h3, Nat.add_mul_mod_self_left, Nat.mod_eq_of_lt (rv_lt n _)] at h0
      rw [h0, Nat.zero_add] at h3
      rw [h3, hd] at h1
      rw [h2] at h1
      generalize rv n (c % 2 ^ (kS + n) / 2 ^ kS) = a at *
      have ha : a + 1 = 2 ^ n := by
        have h4 := congrArg (· % 2 ^ n) h1
        simp only [Nat.mul_mod_right, Nat.mod_mul_right_mod] at h4
        rw [show a + 2 ^ n * pos kS c + 1 = (a + 1) + 2 ^ n * pos kS c by omega, Nat.add_mul_mod_self_left] at h4
        refine Classical.byContradiction fun hn => ?_
        rw [Nat.mod_eq_of_lt (by omega)] at h4; omega
      rw [show a + 2 ^ n * pos kS c + 1 = 2 ^ n * (pos kS c + 1) by rw [Nat.mul_add]; omega, Nat.mul_mod_mul_left] at h1
      exact Nat.eq_of_mul_eq_mul_left hp h1
    · rw [if_neg hlt]
      have hln := left_next hk c hlt
      have ih := visitL_pos lg hk f (nextCur c (kS + n)) (by omega)
      refine ⟨ih.1, ?_⟩
      rw [ih.2]
      have hne := mt hz.2 hlt
      rw [h1, hd, Nat.mod_mul_right_mod, h2, show rv n (c % 2 ^ (kS + n) / 2 ^ kS) + 2 ^ n * pos kS c + 1 = (rv n (c % 2 ^ (kS + n) / 2 ^ kS) + 1) + 2 ^ n * pos kS c by omega, Nat.add_mul_mod_self_left] at hne
      rw [h2, h3] at h1
      have hb := rv_lt n (nextCur c (kS + n) % 2 ^ (kS + n) / 2 ^ kS)
      generalize rv n (c % 2 ^ (kS + n) / 2 ^ kS) = a at *
      generalize rv n (nextCur c (kS + n) % 2 ^ (kS + n) / 2 ^ kS) = b at *
      rw [hd] at h1
      have ha : a + 1 < 2 ^ n := by
        refine Nat.lt_of_le_of_ne (by omega) fun e => ?_
        rw [e, Nat.mod_self] at hne; exact hne rfl
      have hm : a + 2 ^ n * pos kS c + 1 < 2 ^ n * 2 ^ kS := by
        have : 2 ^ n * (pos kS c + 1) ≤ 2 ^ n * 2 ^ kS := Nat.mul_le_mul_left _ (by omega)
        rw [Nat.mul_add] at this; omega
      rw [Nat.mod_eq_of_lt hm] at h1
      have h5 := congrArg (· / 2 ^ n) h1
      rw [Nat.add_mul_div_left _ _ hp, Nat.div_eq_of_lt hb, show a + 2 ^ n * pos kS c + 1 = (a + 1) + 2 ^ n * pos kS c by omega, Nat.add_mul_div_left _ _ hp, Nat.div_eq_of_lt ha] at h5
      congr 2; omega

namespace D
/-- how many bits a scan counts -/
def bits (d : D) : Nat := if d.moves then min (Nat.log2 d.b1.length) (Nat.log2 d.b2.length) else Nat.log2 d.b1.length
theorem visit_pos {d : D} (hi : Inv d) (hb : d.b1 ≠ []) (c : Nat) : (d.visit c).2 < 2 ^ d.bits ∧ pos d.bits (d.visit c).2 = (pos d.bits c + 1) % 2 ^ d.bits ∧ d.bits ≤ 40 ∧ 2 ^ d.bits ≤ d.b1.length := by
  obtain ⟨k1, hk1, hk2, hk3⟩ := hi.p1.resolve_left hb
  have hl1 : Nat.log2 d.b1.length = k1 := by rw [hk3, log2_pow]
  unfold visit bits
  by_cases hm : d.moves = true
  · rw [if_pos hm, if_pos hm]
    obtain ⟨k2, hk4, hk5, hk6⟩ := hi.p2.resolve_left (moves_iff.1 hm)
    have hl2 : Nat.log2 d.b2.length = k2 := by rw [hk6, log2_pow]
    rw [hl1, hl2]
    split
    · rename_i hlt
      have hle : k2 ≤ k1 := Nat.le_of_not_lt fun hh => by
        have : 2 ^ k1 ≤ 2 ^ k2 := Nat.pow_le_pow_right (by omega) (by omega)
        omega
      obtain ⟨n, rfl⟩ : ∃ n, k1 = k2 + n := ⟨k1 - k2, by omega⟩
      rw [Nat.min_eq_right (by omega)]
      have hleft : left k2 n c ≤ d.b1.length := by
        rw [hk3, Nat.pow_add]
        exact Nat.le_trans (Nat.sub_le _ _) (Nat.le_mul_of_pos_left _ (pow_pos' k2))
      have := visitL_pos d.b1 (kS := k2) (n := n) (by omega) d.b1.length c hleft
      unfold two
      rw [hl1, hl2]
      exact ⟨this.1, this.2, by omega, by omega⟩
    · rename_i hlt
      have hle : k1 ≤ k2 := Nat.le_of_not_lt fun hh => by
        have : 2 ^ k2 < 2 ^ k1 := Nat.pow_lt_pow_right (by omega) hh
        omega
      obtain ⟨n, rfl⟩ : ∃ n, k2 = k1 + n := ⟨k2 - k1, by omega⟩
      rw [Nat.min_eq_left (by omega)]
      have hleft : left k1 n c ≤ d.b2.length := by
        rw [hk6, Nat.pow_add]
        exact Nat.le_trans (Nat.sub_le _ _) (Nat.le_mul_of_pos_left _ (pow_pos' k1))
      have := visitL_pos d.b2 (kS := k1) (n := n) (by omega) d.b2.length c hleft
      unfold two
      rw [hl1, hl2]
      exact ⟨this.1, this.2, by omega, by omega⟩
  · rw [if_neg hm, if_neg hm, hl1]
    exact ⟨nextCur_lt (by omega) c, pos_next (by omega) c, by omega, by omega⟩
/-- what is left of a scan -/
def rest (d : D) (c : Nat) : Nat := 2 ^ d.bits - pos d.bits c
theorem rest_pos (d : D) (c : Nat) : 0 < d.rest c := by
  unfold rest; have := pos_lt d.bits c; omega
theorem rest_next {d : D} (hi : Inv d) (hb : d.b1 ≠ []) {c : Nat} (h : (d.visit c).2 ≠ 0) : d.rest (d.visit c).2 + 1 = d.rest c := by
  obtain ⟨h1, h2, h3, h4⟩ := visit_pos hi hb c
  unfold rest
  have hlt := pos_lt d.bits c
  have hne : pos d.bits (d.visit c).2 ≠ 0 := fun e => by
    unfold pos at e
    rw [Nat.mod_eq_of_lt h1] at e
    exact h (rv_inj d.bits _ _ h1 (pow_pos' _) (by rw [e, rv_zero]))
  rw [h2] at hne ⊢
  have : pos d.bits c + 1 ≠ 2 ^ d.bits := fun e => by rw [e, Nat.mod_self] at hne; exact hne rfl
  rw [Nat.mod_eq_of_lt (by omega)]; omega
end D
end Go.VC
