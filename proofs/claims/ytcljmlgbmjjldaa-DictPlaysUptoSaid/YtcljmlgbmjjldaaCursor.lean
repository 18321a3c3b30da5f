/- The scan's cursor: a number of k bits that is counted from its highest bit down. -/
namespace Go.VC
set_option linter.unusedVariables false
set_option linter.unusedSimpArgs false
def nx : Nat → Nat → Nat
  | 0, _ => 0
  | k + 1, c => if c < 2 ^ k then c + 2 ^ k else nx k (c - 2 ^ k)
def rv : Nat → Nat → Nat
  | 0, _ => 0
  | k + 1, c => 2 * rv k (c % 2 ^ k) + c / 2 ^ k % 2
theorem pow_pos' (k : Nat) : 0 < 2 ^ k := Nat.two_pow_pos k
theorem nx_lt : ∀ (k c : Nat), c < 2 ^ k → nx k c < 2 ^ k
  | 0, c, h => by simp [nx]
  | k + 1, c, h => by
    have hp := pow_pos' k
    rw [Nat.pow_succ] at h ⊢
    simp only [nx]
    split
    · omega
    · have := nx_lt k (c - 2 ^ k) (by omega); omega
theorem rv_lt : ∀ (k c : Nat), rv k c < 2 ^ k
  | 0, c => by simp [rv]
  | k + 1, c => by
    have := rv_lt k (c % 2 ^ k)
    have hp := pow_pos' k
    rw [Nat.pow_succ]; simp only [rv]; omega
theorem rv_low {k c : Nat} (h : c < 2 ^ k) : rv (k + 1) c = 2 * rv k c := by
  simp only [rv]; rw [Nat.mod_eq_of_lt h, Nat.div_eq_of_lt h]; simp
theorem rv_high {k c : Nat} (h : c < 2 ^ k) : rv (k + 1) (c + 2 ^ k) = 2 * rv k c + 1 := by
  have hp := pow_pos' k
  simp only [rv]
  rw [Nat.add_mod_right, Nat.mod_eq_of_lt h, Nat.add_div_right _ hp, Nat.div_eq_of_lt h]
theorem rv_nx : ∀ (k c : Nat), c < 2 ^ k → rv k (nx k c) = (rv k c + 1) % 2 ^ k
  | 0, c, h => by simp [rv, Nat.mod_one]
  | k + 1, c, h => by
    have hp := pow_pos' k
    have hr := rv_lt k c
    rw [Nat.pow_succ] at h ⊢
    simp only [nx]
    split
    · rename_i h1
      rw [rv_high h1, rv_low h1, Nat.mod_eq_of_lt (by omega)]
    · rename_i h1
      have h2 : c - 2 ^ k < 2 ^ k := by omega
      have ih := rv_nx k (c - 2 ^ k) h2
      have hl := nx_lt k (c - 2 ^ k) h2
      have hc : rv (k + 1) c = 2 * rv k (c - 2 ^ k) + 1 := by
        have := rv_high h2
        rwa [Nat.sub_add_cancel (by omega)] at this
      rw [rv_low hl, ih, hc]
      have hr' := rv_lt k (c - 2 ^ k)
      generalize rv k (c - 2 ^ k) = a at *
      generalize 2 ^ k = p at *
      by_cases h3 : a + 1 = p
      · rw [h3, Nat.mod_self, show 2 * a + 1 + 1 = p * 2 by omega, Nat.mod_self]
      · rw [Nat.mod_eq_of_lt (show a + 1 < p by omega), Nat.mod_eq_of_lt (by omega)]; omega
theorem rv_inj : ∀ (k a b : Nat), a < 2 ^ k → b < 2 ^ k → rv k a = rv k b → a = b
  | 0, a, b, ha, hb, _ => by simp at ha hb; omega
  | k + 1, a, b, ha, hb, h => by
    have hp := pow_pos' k
    rw [Nat.pow_succ] at ha hb
    have cut : ∀ x, x < 2 ^ k * 2 → (x < 2 ^ k ∧ rv (k + 1) x = 2 * rv k x) ∨ (¬ x < 2 ^ k ∧ rv (k + 1) x = 2 * rv k (x - 2 ^ k) + 1) := fun x hx => by
      by_cases h1 : x < 2 ^ k
      · exact .inl ⟨h1, rv_low h1⟩
      · refine .inr ⟨h1, ?_⟩
        have := rv_high (k := k) (c := x - 2 ^ k) (by omega)
        rwa [Nat.sub_add_cancel (by omega)] at this
    rcases cut a ha with ⟨h1, e1⟩ | ⟨h1, e1⟩ <;> rcases cut b hb with ⟨h2, e2⟩ | ⟨h2, e2⟩
    · exact rv_inj k a b h1 h2 (by omega)
    · omega
    · omega
    · have := rv_inj k (a - 2 ^ k) (b - 2 ^ k) (by omega) (by omega) (by omega); omega
theorem rv_zero (k : Nat) : rv k 0 = 0 := by
  induction k with
  | zero => rfl
  | succ k ih => simp [rv, ih]
theorem nx_zero_iff {k c : Nat} (h : c < 2 ^ k) : nx k c = 0 ↔ rv k c + 1 = 2 ^ k := by
  have h1 := rv_nx k c h
  have h2 := rv_lt k c
  constructor
  · intro e
    rw [e, rv_zero] at h1
    refine Classical.byContradiction fun hn => ?_
    rw [Nat.mod_eq_of_lt (by omega)] at h1; omega
  · intro e
    rw [e, Nat.mod_self] at h1
    exact rv_inj k _ _ (nx_lt k c h) (pow_pos' k) (by rw [h1, rv_zero])
/-- the low j bits stand highest -/
theorem rv_split (j : Nat) : ∀ (n c : Nat), c < 2 ^ (j + n) → rv (j + n) c = rv n (c / 2 ^ j) + 2 ^ n * rv j (c % 2 ^ j)
  | 0, c, h => by
    rw [Nat.add_zero] at h ⊢
    rw [Nat.mod_eq_of_lt h]; simp [rv]
  | n + 1, c, h => by
    have hp := pow_pos' (j + n)
    have hj := pow_pos' j
    have e : (2 : Nat) ^ (j + (n + 1)) = 2 ^ (j + n) * 2 := by rw [← Nat.add_assoc, Nat.pow_succ]
    rw [e] at h
    have ejn : (2 : Nat) ^ (j + n) = 2 ^ j * 2 ^ n := Nat.pow_add 2 j n
    by_cases h1 : c < 2 ^ (j + n)
    · rw [show j + (n + 1) = (j + n) + 1 by omega, rv_low h1, rv_split j n c h1]
      have h2 : c / 2 ^ j < 2 ^ n := Nat.div_lt_of_lt_mul (by rw [← ejn]; exact h1)
      rw [rv_low h2, Nat.pow_succ]
      generalize rv j (c % 2 ^ j) = a
      generalize rv n (c / 2 ^ j) = b
      rw [Nat.mul_add, ← Nat.mul_assoc, Nat.mul_comm 2 (2 ^ n)]
    · obtain ⟨r, rfl⟩ : ∃ r, c = r + 2 ^ (j + n) := ⟨c - 2 ^ (j + n), by omega⟩
      have h3 : r < 2 ^ (j + n) := by omega
      rw [show j + (n + 1) = (j + n) + 1 by omega, rv_high h3, rv_split j n r h3]
      have h2 : r / 2 ^ j < 2 ^ n := Nat.div_lt_of_lt_mul (by rw [← ejn]; exact h3)
      have h4 : (r + 2 ^ (j + n)) / 2 ^ j = r / 2 ^ j + 2 ^ n := by rw [ejn, Nat.add_mul_div_left _ _ hj]
      have h5 : (r + 2 ^ (j + n)) % 2 ^ j = r % 2 ^ j := by rw [ejn, Nat.add_mul_mod_self_left]
      rw [h4, h5, rv_high h2, Nat.pow_succ]
      generalize rv j (r % 2 ^ j) = a
      generalize rv n (r / 2 ^ j) = b
      rw [Nat.mul_add, ← Nat.mul_assoc, Nat.mul_comm 2 (2 ^ n)]; omega

/-! ### As the code reckons it -/
def nextU : Nat → Nat → Nat → Nat
  | 0, c, bit => 0
  | f + 1, c, bit => if bit = 0 then 0 else if c &&& bit = 0 then c ||| bit else nextU f (c ^^^ (c &&& bit)) (bit / 2)
def nextCur (c k : Nat) : Nat := nextU 64 (c % 2 ^ k) (2 ^ k / 2)
theorem and_pow {k c : Nat} (h : c < 2 ^ k * 2) : c &&& 2 ^ k = if c < 2 ^ k then 0 else 2 ^ k := by
  apply Nat.eq_of_testBit_eq
  intro i
  rw [Nat.testBit_and, Nat.testBit_two_pow]
  by_cases hi : k = i
  · subst hi
    split
    · rename_i h1; rw [Nat.testBit_lt_two_pow h1]; simp
    · rename_i h1
      obtain ⟨r, rfl⟩ : ∃ r, c = 2 ^ k + r := ⟨c - 2 ^ k, by omega⟩
      rw [Nat.testBit_two_pow_add_eq, Nat.testBit_lt_two_pow (by omega), Nat.testBit_two_pow]; simp
  · split
    · simp [hi]
    · rw [Nat.testBit_two_pow]; simp [hi]
theorem or_pow {k c : Nat} (h : c < 2 ^ k) : c ||| 2 ^ k = c + 2 ^ k := by
  have := Nat.two_pow_add_eq_or_of_lt h 1
  rw [Nat.mul_one] at this
  rw [Nat.or_comm, ← this, Nat.add_comm]
theorem xor_pow {k c : Nat} (h : c < 2 ^ k) : (c + 2 ^ k) ^^^ 2 ^ k = c := by
  rw [← or_pow h]
  apply Nat.eq_of_testBit_eq
  intro i
  rw [Nat.testBit_xor, Nat.testBit_or, Nat.testBit_two_pow]
  by_cases hi : k = i
  · subst hi; rw [Nat.testBit_lt_two_pow h]; simp
  · simp [hi]
theorem nextU_nx : ∀ (k f c : Nat), k < f → c < 2 ^ k → nextU f c (2 ^ k / 2) = nx k c
  | 0, f, c, hf, h => by cases f <;> simp [nextU, nx]
  | k + 1, f, c, hf, h => by
    obtain ⟨f', rfl⟩ : ∃ f', f = f' + 1 := ⟨f - 1, by omega⟩
    have hp := pow_pos' k
    rw [Nat.pow_succ] at h ⊢
    rw [Nat.mul_div_cancel _ (by omega)]
    simp only [nextU, nx]
    rw [if_neg (by omega), and_pow h]
    by_cases h1 : c < 2 ^ k
    · rw [if_pos h1, if_pos rfl, if_pos h1, or_pow h1]
    · rw [if_neg h1, if_neg (by omega), if_neg h1]
      have h2 : c - 2 ^ k < 2 ^ k := by omega
      have := xor_pow h2
      rw [Nat.sub_add_cancel (by omega)] at this
      rw [this]
      exact nextU_nx k f' _ (by omega) h2
theorem nextCur_nx {k : Nat} (hk : k < 64) (c : Nat) : nextCur c k = nx k (c % 2 ^ k) := nextU_nx k 64 _ hk (Nat.mod_lt _ (pow_pos' k))
theorem nextCur_lt {k : Nat} (hk : k < 64) (c : Nat) : nextCur c k < 2 ^ k := by rw [nextCur_nx hk]; exact nx_lt k _ (Nat.mod_lt _ (pow_pos' k))
end Go.VC
