/- The dict in plain words: visits and scans. -/
import Derived.Test.YtcljmlgbmjjldaaDictI
import Derived.Test.YtcljmlgbmjjldaaCursor
namespace Go.VC
open Go
set_option linter.unusedVariables false
set_option linter.unusedSimpArgs false

/-- the texts, rising -/
def sortS (l : List ByteArray) : List ByteArray := ((l.map fun s => s.data.toList).mergeSort fun x y => decide (x ≤ y)).map fun b => ⟨b.toArray⟩
@[simp] theorem sortS_length (l : List ByteArray) : (sortS l).length = l.length := by simp [sortS]
theorem sortS_perm (l : List ByteArray) : (sortS l).Perm l := by
  unfold sortS
  have h := (List.mergeSort_perm (l.map fun s => s.data.toList) fun x y => decide (x ≤ y)).map (fun b => (⟨b.toArray⟩ : ByteArray))
  refine h.trans ?_
  rw [List.map_map]
  have : ((fun b => (⟨b.toArray⟩ : ByteArray)) ∘ fun s : ByteArray => s.data.toList) = id := by funext s; simp
  rw [this, List.map_id]
theorem sortS_nil : sortS [] = [] := by simp [sortS]

/-- the larger table's part of a visit -/
def visitL (lg : Bks) (kL kS : Nat) : Nat → Nat → List ByteArray × Nat
  | 0, c => ([], c)
  | f + 1, c => if nextCur c kL < 2 ^ kS then (sortS (bucket lg (c % 2 ^ kL)), nextCur c kL) else (sortS (bucket lg (c % 2 ^ kL)) ++ (visitL lg kL kS f (nextCur c kL)).1, (visitL lg kL kS f (nextCur c kL)).2)
def two (sm lg : Bks) (c : Nat) : List ByteArray × Nat :=
  (sortS (bucket sm (c % sm.length)) ++ (visitL lg (Nat.log2 lg.length) (Nat.log2 sm.length) lg.length c).1, (visitL lg (Nat.log2 lg.length) (Nat.log2 sm.length) lg.length c).2)
namespace D
def visit (d : D) (c : Nat) : List ByteArray × Nat :=
  if d.moves then (if d.b2.length < d.b1.length then two d.b2 d.b1 c else two d.b1 d.b2 c)
  else (sortS (bucket d.b1 (c % d.b1.length)), nextCur c (Nat.log2 d.b1.length))
def scanL (d : D) (n : Int) : Nat → Nat → List ByteArray → List ByteArray × Nat
  | 0, c, out => (out, c)
  | f + 1, c, out => if (d.visit c).2 = 0 ∨ max 1 n ≤ (out ++ (d.visit c).1).length then (out ++ (d.visit c).1, (d.visit c).2) else scanL d n f (d.visit c).2 (out ++ (d.visit c).1)
def scan (d : D) (c n : Int) : List ByteArray × Nat := if d.b1.length = 0 then ([], 0) else d.scanL n d.b1.length (max 0 c).toNat []
end D
theorem log2_pow (k : Nat) : Nat.log2 (2 ^ k) = k := Nat.log2_two_pow
/-- where a cursor stands in a table of 2^k buckets -/
def pos (k c : Nat) : Nat := rv k (c % 2 ^ k)
theorem pos_next {k : Nat} (hk : k < 64) (c : Nat) : pos k (nextCur c k) = (pos k c + 1) % 2 ^ k := by
  unfold pos
  rw [nextCur_nx hk, Nat.mod_eq_of_lt (nx_lt k _ (Nat.mod_lt _ (pow_pos' k))), rv_nx k _ (Nat.mod_lt _ (pow_pos' k))]
theorem pos_lt (k c : Nat) : pos k c < 2 ^ k := rv_lt k _
/-- the high bits count modulo 2^(kL - kS); the low ones beyond -/
theorem pos_split {kS n c : Nat} : pos (kS + n) c = rv n (c % 2 ^ (kS + n) / 2 ^ kS) + 2 ^ n * pos kS c := by
  unfold pos
  rw [rv_split kS n _ (Nat.mod_lt _ (pow_pos' _))]
  congr 3
  rw [Nat.pow_add, Nat.mod_mul_right_mod]
theorem high_zero_iff {kS n c : Nat} (h : c < 2 ^ (kS + n)) : c < 2 ^ kS ↔ pos (kS + n) c % 2 ^ n = 0 := by
  rw [pos_split, Nat.add_mul_mod_self_left, Nat.mod_eq_of_lt (rv_lt n _), Nat.mod_eq_of_lt h]
  have hdiv : c / 2 ^ kS < 2 ^ n := Nat.div_lt_of_lt_mul (by rw [← Nat.pow_add]; exact h)
  constructor
  · intro h1; rw [Nat.div_eq_of_lt h1, rv_zero]
  · intro h1
    have h2 : c / 2 ^ kS = 0 := rv_inj n _ _ hdiv (pow_pos' n) (by rw [h1, rv_zero])
    exact (Nat.div_eq_zero_iff.1 h2).resolve_left (by have := pow_pos' kS; omega)
/-- what is left of a visit -/
def left (kS n c : Nat) : Nat := 2 ^ n - pos (kS + n) c % 2 ^ n
theorem left_pos (kS n c : Nat) : 0 < left kS n c := by
  unfold left
  have := Nat.mod_lt (pos (kS + n) c) (pow_pos' n); omega
theorem left_next {kS n : Nat} (hk : kS + n < 64) (c : Nat) (h : ¬ nextCur c (kS + n) < 2 ^ kS) : left kS n (nextCur c (kS + n)) + 1 = left kS n c := by
  have h1 := mt (high_zero_iff (nextCur_lt hk c)).2 h
  rw [pos_next hk] at h1
  unfold left
  rw [pos_next hk]
  have hd : 2 ^ (kS + n) = 2 ^ n * 2 ^ kS := by rw [Nat.pow_add, Nat.mul_comm]
  rw [hd, Nat.mod_mul_right_mod] at h1 ⊢
  have hp := pow_pos' n
  have hlt := Nat.mod_lt (pos (kS + n) c) hp
  rw [Nat.add_mod] at h1 ⊢
  generalize pos (kS + n) c % 2 ^ n = a at *
  generalize 2 ^ n = p at *
  by_cases hp1 : p = 1
  · subst hp1; omega
  · rw [Nat.mod_eq_of_lt (show 1 < p by omega)] at h1 ⊢
    by_cases h2 : a + 1 = p
    · rw [h2, Nat.mod_self] at h1; omega
    · rw [Nat.mod_eq_of_lt (by omega)]; omega
theorem visitL_fuel (lg : Bks) {kS n : Nat} (hk : kS + n < 64) : ∀ (f c : Nat), left kS n c ≤ f → ∀ f', f ≤ f' → visitL lg (kS + n) kS f' c = visitL lg (kS + n) kS f c
  | 0, c, h, f', hf => by have := left_pos kS n c; omega
  | f + 1, c, h, f', hf => by
    obtain ⟨f'', rfl⟩ : ∃ f'', f' = f'' + 1 := ⟨f' - 1, by omega⟩
    simp only [visitL]
    split
    · rfl
    · rename_i h1
      have := left_next hk c h1
      rw [visitL_fuel lg hk f _ (by omega) f'' (by omega)]
end Go.VC
