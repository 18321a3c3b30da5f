/- The dict in plain words: a scan misses nothing. -/
import Derived.Test.YtcljmlgbmjjldaaDictE
namespace Go.VC
open Go
set_option linter.unusedVariables false
set_option linter.unusedSimpArgs false
/-- a cursor's place, or a hash's, counted in 62 bits -/
abbrev place (c : Nat) : Nat := pos 62 c
theorem place_lt (c : Nat) : place c < 4611686018427387904 := pos_lt 62 c
theorem pos_place {k : Nat} (hk : k ≤ 62) (c : Nat) : pos k c = place c / 2 ^ (62 - k) := by
  have := pos_div k (62 - k) c
  rwa [show k + (62 - k) = 62 by omega] at this
theorem place_small {k c : Nat} (hk : k ≤ 62) (hc : c < 2 ^ k) : place c = 2 ^ (62 - k) * pos k c := by
  have h := @pos_split k (62 - k) c
  rw [show k + (62 - k) = 62 by omega] at h
  have h62 : c < 2 ^ 62 := Nat.lt_of_lt_of_le hc (Nat.pow_le_pow_right (by omega) hk)
  rw [Nat.mod_eq_of_lt h62, Nat.div_eq_of_lt hc, rv_zero, Nat.zero_add] at h
  exact h
theorem place_zero : place 0 = 0 := by unfold place pos; rw [Nat.zero_mod, rv_zero]
namespace D
/-- both tables, the smaller one first -/
structure Two (d : D) (sm lg : Bks) (kS n : Nat) : Prop where
  hS : sm.length = 2 ^ kS
  hL : lg.length = 2 ^ (kS + n)
  hk : kS + n ≤ 40
  wS : Placed d.seed sm
  wL : Placed d.seed lg
  keys : (sm.flatten ++ lg.flatten).Perm (d.m.map (·.1))
  bits : d.bits = kS
  vis : ∀ c, d.visit c = two sm lg c
theorem visit_two {d : D} (hi : Inv d) (hm : d.b2 ≠ []) : ∃ sm lg kS n, Two d sm lg kS n := by
  have hb1 : d.b1 ≠ [] := fun e => hm (hi.e e)
  obtain ⟨k1, hk1, hk2, hk3⟩ := hi.p1.resolve_left hb1
  obtain ⟨k2, hk4, hk5, hk6⟩ := hi.p2.resolve_left hm
  have hl1 : Nat.log2 d.b1.length = k1 := by rw [hk3, log2_pow]
  have hl2 : Nat.log2 d.b2.length = k2 := by rw [hk6, log2_pow]
  have hmv := moves_iff.2 hm
  by_cases hlt : d.b2.length < d.b1.length
  · have hle : k2 ≤ k1 := Nat.le_of_not_lt fun hh => by
      have : 2 ^ k1 ≤ 2 ^ k2 := Nat.pow_le_pow_right (by omega) (by omega)
      omega
    obtain ⟨n, rfl⟩ : ∃ n, k1 = k2 + n := ⟨k1 - k2, by omega⟩
    refine ⟨d.b2, d.b1, k2, n, hk6, hk3, hk2, hi.w2, hi.w1, List.perm_append_comm.trans hi.keys, ?_, fun c => ?_⟩
    · unfold bits; rw [if_pos hmv, hl1, hl2]; exact Nat.min_eq_right (by omega)
    · unfold visit; rw [if_pos hmv, if_pos hlt]
  · have hle : k1 ≤ k2 := Nat.le_of_not_lt fun hh => by
      have : 2 ^ k2 < 2 ^ k1 := Nat.pow_lt_pow_right (by omega) hh
      omega
    obtain ⟨n, rfl⟩ : ∃ n, k2 = k1 + n := ⟨k2 - k1, by omega⟩
    refine ⟨d.b1, d.b2, k1, n, hk3, hk6, hk5, hi.w1, hi.w2, hi.keys, ?_, fun c => ?_⟩
    · unfold bits; rw [if_pos hmv, hl1, hl2]; exact Nat.min_eq_left (by omega)
    · unfold visit; rw [if_pos hmv, if_neg hlt]
theorem Two.seg {d : D} {sm lg : Bks} {kS n : Nat} (h : Two d sm lg kS n) (c : Nat) : (d.visit c).1 = VC.seg sm kS (pos kS c) (pos kS c + 1) ++ VC.seg lg (kS + n) (pos (kS + n) c) ((pos kS c + 1) * 2 ^ n) := by
  have hleft : left kS n c ≤ lg.length := by
    rw [h.hL, Nat.pow_add]
    exact Nat.le_trans (Nat.sub_le _ _) (Nat.le_mul_of_pos_left _ (pow_pos' kS))
  have h40 := h.hk
  rw [h.vis]
  unfold two
  rw [show Nat.log2 lg.length = kS + n by rw [h.hL, log2_pow], show Nat.log2 sm.length = kS by rw [h.hS, log2_pow]]
  simp only
  rw [visitL_seg lg (by omega) _ _ hleft, seg_one, h.hS, bucket_pos]
theorem visit_one {d : D} (hi : Inv d) (hb : d.b1 ≠ []) (hm : d.b2 = []) : ∃ k, d.b1.length = 2 ^ k ∧ k ≤ 40 ∧ d.bits = k ∧ ∀ c, (d.visit c).1 = VC.seg d.b1 k (pos k c) (pos k c + 1) := by
  obtain ⟨k, hk1, hk2, hk3⟩ := hi.p1.resolve_left hb
  refine ⟨k, hk3, hk2, ?_, fun c => ?_⟩
  · unfold bits; rw [if_neg (by simp [moves_iff'.2 hm]), hk3, log2_pow]
  · unfold visit; rw [if_neg (by simp [moves_iff'.2 hm])]
    simp only
    rw [seg_one, hk3, bucket_pos]
theorem visit_sound {d : D} (hi : Inv d) (hb : d.b1 ≠ []) {c : Nat} {x : ByteArray} (hx : x ∈ (d.visit c).1) : x ∈ d.m.map (·.1) := by
  by_cases hm : d.b2 = []
  · obtain ⟨k, h1, h2, h3, h4⟩ := visit_one hi hb hm
    rw [h4] at hx
    have := (mem_seg_placed h1 hi.w1 (by have := pos_lt k c; omega)).1 hx
    exact hi.keys.mem_iff.1 (List.mem_append_left _ this.1)
  · obtain ⟨sm, lg, kS, n, h⟩ := visit_two hi hm
    have hp := pos_lt kS c
    have hle : (pos kS c + 1) * 2 ^ n ≤ 2 ^ (kS + n) := by rw [Nat.pow_add]; exact Nat.mul_le_mul_right _ hp
    rw [h.seg] at hx
    rcases List.mem_append.1 hx with hx | hx
    · exact h.keys.mem_iff.1 (List.mem_append_left _ ((mem_seg_placed h.hS h.wS (by omega)).1 hx).1)
    · exact h.keys.mem_iff.1 (List.mem_append_right _ ((mem_seg_placed h.hL h.wL hle).1 hx).1)
theorem visit_complete {d : D} (hi : Inv d) (hb : d.b1 ≠ []) {c : Nat} {x : ByteArray} (hx : x ∈ d.m.map (·.1)) (h1 : place c ≤ place (hashOf d.seed x)) (h2 : place (hashOf d.seed x) < (pos d.bits c + 1) * 2 ^ (62 - d.bits)) : x ∈ (d.visit c).1 := by
  have lo : ∀ {k}, k ≤ 62 → pos k c ≤ pos k (hashOf d.seed x) := fun hk => by
    rw [pos_place hk, pos_place hk]; exact Nat.div_le_div_right h1
  have hbits : d.bits ≤ 40 := (visit_pos hi hb c).2.2.1
  have hi2 : pos d.bits (hashOf d.seed x) < pos d.bits c + 1 := by
    rw [pos_place (by omega) (hashOf d.seed x)]
    exact Nat.div_lt_of_lt_mul (by rw [Nat.mul_comm]; exact h2)
  by_cases hm : d.b2 = []
  · obtain ⟨k, k1, k2, k3, k4⟩ := visit_one hi hb hm
    rw [k3] at hi2
    rw [k4]
    refine (mem_seg_placed k1 hi.w1 (by have := pos_lt k c; omega)).2 ⟨?_, lo (by omega), hi2⟩
    have := hi.keys.mem_iff.2 hx
    rw [hm] at this
    simpa using this
  · obtain ⟨sm, lg, kS, n, h⟩ := visit_two hi hm
    have h40 := h.hk
    have hp := pos_lt kS c
    have hle : (pos kS c + 1) * 2 ^ n ≤ 2 ^ (kS + n) := by rw [Nat.pow_add]; exact Nat.mul_le_mul_right _ hp
    rw [h.bits] at hi2
    rw [h.seg]
    rcases List.mem_append.1 (h.keys.mem_iff.2 hx) with hf | hf
    · exact List.mem_append_left _ ((mem_seg_placed h.hS h.wS (by omega)).2 ⟨hf, lo (by omega), hi2⟩)
    · refine List.mem_append_right _ ((mem_seg_placed h.hL h.wL hle).2 ⟨hf, lo (by omega), ?_⟩)
      have := pos_div kS n (hashOf d.seed x)
      rw [this] at hi2
      exact (Nat.div_lt_iff_lt_mul (pow_pos' n)).1 hi2
/-- the next cursor stands where the visit has ended -/
theorem visit_next {d : D} (hi : Inv d) (hb : d.b1 ≠ []) (c : Nat) :
    ((d.visit c).2 = 0 ∧ (pos d.bits c + 1) * 2 ^ (62 - d.bits) = 4611686018427387904) ∨ ((d.visit c).2 ≠ 0 ∧ place (d.visit c).2 = (pos d.bits c + 1) * 2 ^ (62 - d.bits)) := by
  obtain ⟨h1, h2, h3, h4⟩ := visit_pos hi hb c
  have hlt := pos_lt d.bits c
  have hpl := place_small (by omega) h1
  by_cases he : pos d.bits c + 1 = 2 ^ d.bits
  · left
    rw [he, Nat.mod_self] at h2
    have hz : (d.visit c).2 = 0 := by
      unfold pos at h2
      rw [Nat.mod_eq_of_lt h1] at h2
      exact rv_inj d.bits _ _ h1 (pow_pos' _) (by rw [h2, rv_zero])
    refine ⟨hz, ?_⟩
    rw [he, ← Nat.pow_add, show d.bits + (62 - d.bits) = 62 by omega]
  · right
    rw [Nat.mod_eq_of_lt (by omega)] at h2
    refine ⟨fun e => ?_, by rw [hpl, h2, Nat.mul_comm]⟩
    rw [e] at h2
    unfold pos at h2
    rw [Nat.zero_mod, rv_zero] at h2
    omega
end D
end Go.VC
