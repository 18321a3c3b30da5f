/- The dict in plain words: which keys a visit yields. -/
import Derived.Test.YtcljmlgbmjjldaaDictC
namespace Go.VC
open Go
set_option linter.unusedVariables false
set_option linter.unusedSimpArgs false

/-- turned twice, a number is itself -/
theorem rv_rv : ∀ (k c : Nat), c < 2 ^ k → rv k (rv k c) = c
  | 0, c, h => by simp at h; simp [rv, h]
  | k + 1, c, h => by
    have hp := pow_pos' k
    have e2 : (2 : Nat) ^ (k + 1) = 2 ^ k * 2 := Nat.pow_succ ..
    rw [e2] at h
    have hr := rv_lt k (c % 2 ^ k)
    have hlt : rv (k + 1) c < 2 ^ (1 + k) := by rw [Nat.add_comm 1 k]; exact rv_lt _ _
    have hs := rv_split 1 k (rv (k + 1) c) hlt
    rw [Nat.add_comm 1 k] at hs
    rw [hs]
    simp only [rv, Nat.pow_one]
    have h1 : c / 2 ^ k % 2 = c / 2 ^ k := Nat.mod_eq_of_lt (Nat.div_lt_of_lt_mul h)
    have h2 : (2 * rv k (c % 2 ^ k) + c / 2 ^ k % 2) / 2 = rv k (c % 2 ^ k) := by omega
    have h3 : (2 * rv k (c % 2 ^ k) + c / 2 ^ k % 2) % 2 = c / 2 ^ k := by omega
    rw [h2, h3, rv_rv k _ (Nat.mod_lt _ hp)]
    have h4 : 2 * 0 + c / 2 ^ k / 2 ^ 0 % 2 = c / 2 ^ k := by simp; omega
    rw [h4, Nat.add_comm]
    exact Nat.div_add_mod c (2 ^ k)
/-- the keys of the places from r on, ahead of s -/
def seg (b : Bks) (k r s : Nat) : List ByteArray := (List.range' r (s - r)).flatMap fun t => sortS (bucket b (rv k t))
theorem seg_one (b : Bks) (k r : Nat) : seg b k r (r + 1) = sortS (bucket b (rv k r)) := by
  unfold seg
  rw [show r + 1 - r = 1 by omega]
  simp [List.range']
theorem seg_split (b : Bks) (k : Nat) {r s t : Nat} (h1 : r ≤ s) (h2 : s ≤ t) : seg b k r s ++ seg b k s t = seg b k r t := by
  unfold seg
  rw [← List.flatMap_append]
  congr 1
  have := List.range'_append (s := r) (m := s - r) (n := t - s) (step := 1)
  rw [show r + 1 * (s - r) = s by omega, show s - r + (t - s) = t - r by omega] at this
  exact this
theorem mem_seg {b : Bks} {k r s : Nat} {x : ByteArray} : x ∈ seg b k r s ↔ ∃ t, r ≤ t ∧ t < s ∧ x ∈ bucket b (rv k t) := by
  unfold seg
  rw [List.mem_flatMap]
  constructor
  · rintro ⟨t, ht, hx⟩
    rw [List.mem_range'_1] at ht
    exact ⟨t, ht.1, by omega, (sortS_perm _).mem_iff.1 hx⟩
  · rintro ⟨t, h1, h2, hx⟩
    exact ⟨t, by rw [List.mem_range'_1]; omega, (sortS_perm _).mem_iff.2 hx⟩
theorem mem_seg_placed {seed : Int} {b : Bks} {k r s : Nat} {x : ByteArray} (hl : b.length = 2 ^ k) (hp : D.Placed seed b) (hs : s ≤ 2 ^ k) :
    x ∈ seg b k r s ↔ x ∈ b.flatten ∧ r ≤ pos k (hashOf seed x) ∧ pos k (hashOf seed x) < s := by
  rw [mem_seg]
  constructor
  · rintro ⟨t, h1, h2, hx⟩
    have hlt : rv k t < b.length := by rw [hl]; exact rv_lt k t
    have hsl := hp _ x hx
    unfold slot at hsl
    rw [hl] at hsl
    have ht : pos k (hashOf seed x) = t := by
      unfold pos; rw [hsl, rv_rv k t (by omega)]
    rw [ht]
    exact ⟨mem_flatten_bucket.2 ⟨_, hlt, hx⟩, h1, h2⟩
  · rintro ⟨hx, h1, h2⟩
    obtain ⟨i, hi, hxi⟩ := mem_flatten_bucket.1 hx
    have hsl := hp i x hxi
    unfold slot at hsl
    rw [hl] at hsl
    refine ⟨_, h1, h2, ?_⟩
    unfold pos
    rw [rv_rv k _ (Nat.mod_lt _ (pow_pos' k)), hsl]; exact hxi
/-- a place in fewer bits -/
theorem pos_div (k n c : Nat) : pos k c = pos (k + n) c / 2 ^ n := by
  rw [@pos_split k n c, Nat.add_mul_div_left _ _ (pow_pos' n), Nat.div_eq_of_lt (rv_lt n _), Nat.zero_add]
theorem bucket_pos {b : Bks} {k c : Nat} : bucket b (c % 2 ^ k) = bucket b (rv k (pos k c)) := by
  unfold pos; rw [rv_rv k _ (Nat.mod_lt _ (pow_pos' k))]
theorem visitL_seg (lg : Bks) {kS n : Nat} (hk : kS + n < 64) : ∀ (f c : Nat), left kS n c ≤ f → (visitL lg (kS + n) kS f c).1 = seg lg (kS + n) (pos (kS + n) c) ((pos kS c + 1) * 2 ^ n)
  | 0, c, h => by have := left_pos kS n c; omega
  | f + 1, c, h => by
    have hp := pow_pos' n
    have hd : 2 ^ (kS + n) = 2 ^ n * 2 ^ kS := by rw [Nat.pow_add, Nat.mul_comm]
    have h1 := pos_next hk c
    have h2 := @pos_split kS n c
    have hr := rv_lt n (c % 2 ^ (kS + n) / 2 ^ kS)
    have hc := pos_lt kS c
    have hcL := pos_lt (kS + n) c
    have hz := high_zero_iff (nextCur_lt hk c)
    have hle : 2 ^ n * (pos kS c + 1) ≤ 2 ^ n * 2 ^ kS := Nat.mul_le_mul_left _ (by omega)
    have hmul : (pos kS c + 1) * 2 ^ n = 2 ^ n * pos kS c + 2 ^ n := by rw [Nat.mul_comm, Nat.mul_add, Nat.mul_one]
    rw [Nat.mul_add, Nat.mul_one] at hle
    have hmod : pos (kS + n) c % 2 ^ n = rv n (c % 2 ^ (kS + n) / 2 ^ kS) := by
      rw [h2, Nat.add_mul_mod_self_left, Nat.mod_eq_of_lt hr]
    simp only [visitL]
    by_cases hlt : nextCur c (kS + n) < 2 ^ kS
    · rw [if_pos hlt]
      have h0 := hz.1 hlt
      rw [h1, hd, Nat.mod_mul_right_mod, Nat.add_mod, hmod] at h0
      have ha : rv n (c % 2 ^ (kS + n) / 2 ^ kS) + 1 = 2 ^ n := by
        by_cases hn1 : 2 ^ n = 1
        · omega
        · rw [Nat.mod_eq_of_lt (show 1 < 2 ^ n by omega)] at h0
          refine Classical.byContradiction fun hne => ?_
          rw [Nat.mod_eq_of_lt (by omega)] at h0; omega
      rw [show (pos kS c + 1) * 2 ^ n = pos (kS + n) c + 1 by omega, seg_one, bucket_pos]
    · rw [if_neg hlt]
      have hln := left_next hk c hlt
      have ih := visitL_seg lg hk f (nextCur c (kS + n)) (by omega)
      have hne := mt hz.2 hlt
      rw [h1, hd, Nat.mod_mul_right_mod, Nat.add_mod, hmod] at hne
      have ha : rv n (c % 2 ^ (kS + n) / 2 ^ kS) + 1 < 2 ^ n := by
        refine Nat.lt_of_le_of_ne (by omega) fun e => ?_
        by_cases hn1 : 2 ^ n = 1
        · rw [hn1] at hne; simp [Nat.mod_one] at hne
        · rw [Nat.mod_eq_of_lt (show 1 < 2 ^ n by omega), e, Nat.mod_self] at hne; exact hne rfl
      have hP : pos (kS + n) (nextCur c (kS + n)) = pos (kS + n) c + 1 := by rw [h1, Nat.mod_eq_of_lt (by omega)]
      have hpS : pos kS (nextCur c (kS + n)) = pos kS c := by
        rw [pos_div kS n, hP, pos_div kS n c, h2]
        rw [show rv n (c % 2 ^ (kS + n) / 2 ^ kS) + 2 ^ n * pos kS c + 1 = (rv n (c % 2 ^ (kS + n) / 2 ^ kS) + 1) + 2 ^ n * pos kS c by omega, Nat.add_mul_div_left _ _ hp, Nat.div_eq_of_lt ha, Nat.add_mul_div_left _ _ hp, Nat.div_eq_of_lt hr]
      rw [ih, hP, hpS, bucket_pos, ← seg_one, seg_split _ _ (by omega) (by omega)]
end Go.VC
