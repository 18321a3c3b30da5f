/- The dict in plain words: what holds of every dict. -/
import Derived.Test.YtcljmlgbmjjldaaDictM
namespace Go.VC
open Go
set_option linter.unusedVariables false
set_option linter.unusedSimpArgs false

theorem joinB_perm {seed : Int} {b : Bks} {k : ByteArray} (h : 0 < b.length) : (joinB seed b k).flatten.Perm (k :: b.flatten) := by
  have hs := slot_lt seed k h
  unfold joinB
  refine (flatten_set hs).trans ?_
  refine List.Perm.trans ?_ (List.Perm.cons k (flatten_out hs).symm)
  rw [List.append_assoc]
  exact List.perm_middle
theorem joinB_placed {seed : Int} {b : Bks} {k : ByteArray} (h : 0 < b.length) (hp : D.Placed seed b) : D.Placed seed (joinB seed b k) := by
  have hs := slot_lt seed k h
  intro i x hx
  rw [joinB_length]
  unfold joinB at hx
  rw [bucket_set hs] at hx
  split at hx
  · rename_i e
    rcases List.mem_append.1 hx with h1 | h1
    · rw [← e]; exact hp _ x h1
    · rw [List.mem_singleton.1 h1]; exact e
  · exact hp i x hx
theorem joinAll_perm {seed : Int} {ks : List ByteArray} : ∀ {b : Bks}, 0 < b.length → (joinAll seed b ks).flatten.Perm (ks ++ b.flatten) := by
  induction ks with
  | nil => intro b h; exact List.Perm.refl _
  | cons k ks ih =>
    intro b h
    have h1 : (joinAll seed (joinB seed b k) ks).flatten.Perm (ks ++ (joinB seed b k).flatten) := ih (by simpa using h)
    refine h1.trans ((List.Perm.append_left ks (joinB_perm h)).trans ?_)
    exact List.perm_middle
theorem joinAll_placed {seed : Int} {ks : List ByteArray} : ∀ {b : Bks}, 0 < b.length → D.Placed seed b → D.Placed seed (joinAll seed b ks) := by
  induction ks with
  | nil => intro b h hp; exact hp
  | cons k ks ih => intro b h hp; exact ih (b := joinB seed b k) (by simpa using h) (joinB_placed h hp)
theorem leaveB_perm {seed : Int} {b : Bks} {k : ByteArray} (h : 0 < b.length) (hk : k ∈ bucket b (slot seed k b.length)) : (k :: (leaveB seed b k).flatten).Perm b.flatten := by
  have hs := slot_lt seed k h
  unfold leaveB
  refine (List.Perm.cons k (flatten_set hs)).trans ?_
  refine List.Perm.trans ?_ (flatten_out hs).symm
  rw [← List.cons_append]
  refine List.Perm.append_right _ ?_
  generalize bucket b (slot seed k b.length) = l at hk
  rw [← List.erase_eq_eraseIdx_of_idxOf rfl]
  exact (List.perm_cons_erase hk).symm
theorem leaveB_placed {seed : Int} {b : Bks} {k : ByteArray} (h : 0 < b.length) (hp : D.Placed seed b) : D.Placed seed (leaveB seed b k) := by
  have hs := slot_lt seed k h
  intro i x hx
  rw [leaveB_length]
  unfold leaveB at hx
  rw [bucket_set hs] at hx
  split at hx
  · rename_i e
    rw [← e]
    exact hp _ x (List.mem_of_mem_eraseIdx hx)
  · exact hp i x hx
theorem clear_placed {seed : Int} {b : Bks} {i : Nat} (h : i < b.length) (hp : D.Placed seed b) : D.Placed seed (b.set i []) := by
  intro j x hx
  rw [List.length_set]
  rw [bucket_set h] at hx
  split at hx
  · cases hx
  · exact hp j x hx
theorem bucket_replicate (n i : Nat) : bucket (List.replicate n ([] : List ByteArray)) i = [] := by
  unfold bucket
  rw [List.getD_eq_getElem?_getD, List.getElem?_replicate]
  split <;> rfl
theorem replicate_placed (seed : Int) (n : Nat) : D.Placed seed (List.replicate n []) := by
  intro i x hx; rw [bucket_replicate] at hx; cases hx
theorem flatten_replicate (n : Nat) : (List.replicate n ([] : List ByteArray)).flatten = [] := by induction n <;> simp_all [List.replicate_succ]
theorem used_zero {b : Bks} (h : used b = 0) : b.flatten = [] := List.eq_nil_of_length_eq_zero (by rw [← used_eq]; exact h)

namespace D
/-- the same where ks are keys that stand in no table yet, and a move may have nothing left to move -/
structure Inv' (d : D) (ks : List ByteArray) : Prop where
  p1 : d.b1 = [] ∨ Pow d.b1.length
  p2 : d.b2 = [] ∨ Pow d.b2.length
  e : d.b1 = [] → d.b2 = []
  w1 : Placed d.seed d.b1
  w2 : Placed d.seed d.b2
  keys : (ks ++ (d.b1.flatten ++ d.b2.flatten)).Perm (d.m.map (·.1))
  nd : NodupK d.m
  mv : d.b2 ≠ [] → ∀ i, i < d.idx → bucket d.b1 i = []
  st : d.b2 = [] → d.idx = 0
  fit : ∀ k ∈ d.m.map (·.1), k.size < 9223372036854775808
theorem Inv.toInv' {d : D} (h : Inv d) : Inv' d [] := ⟨h.p1, h.p2, h.e, h.w1, h.w2, h.keys, h.nd, fun h2 => (h.mv h2).2, h.st, h.fit⟩
theorem Inv'.toInv {d : D} (h : Inv' d []) (hm : d.b2 ≠ [] → 0 < used d.b1) : Inv d := ⟨h.p1, h.p2, h.e, h.w1, h.w2, h.keys, h.nd, fun h2 => ⟨hm h2, h.mv h2⟩, h.st, h.fit⟩
theorem moves_iff {d : D} : d.moves = true ↔ d.b2 ≠ [] := by simp [moves, List.length_pos_iff]
theorem moves_iff' {d : D} : d.moves = false ↔ d.b2 = [] := by
  cases h : d.moves with
  | true => simp [moves_iff.1 h]
  | false =>
    refine ⟨fun _ => Classical.byContradiction fun hn => ?_, fun _ => rfl⟩
    rw [moves_iff.2 hn] at h; cases h
theorem Inv'.ends {d : D} {ks : List ByteArray} (h : Inv' d ks) : Inv' d.ends ks ∧ (d.ends.b2 ≠ [] → 0 < used d.ends.b1) := by
  unfold D.ends
  split
  · rename_i hc
    simp only [Bool.and_eq_true, beq_iff_eq] at hc
    have h2 := moves_iff.1 hc.1
    have h1 := used_zero hc.2
    refine ⟨⟨h.p2, .inl rfl, fun _ => rfl, h.w2, fun i k hk => ?_, ?_, h.nd, fun hn => absurd rfl hn, fun _ => rfl, h.fit⟩, fun hn => absurd rfl hn⟩
    · simp [bucket] at hk
    · have := h.keys
      rw [h1, List.nil_append] at this
      simpa using this
  · rename_i hc
    refine ⟨h, fun h2 => ?_⟩
    simp only [moves_iff.2 h2, Bool.true_and, beq_iff_eq] at hc
    omega
theorem Inv'.begins {d : D} {ks : List ByteArray} (h : Inv' d ks) (hm : d.b2 = []) (hb : d.b1 ≠ []) {n : Nat} (hn : Pow n) : Inv' (d.begins n) ks ∧ ((d.begins n).b2 ≠ [] → 0 < used (d.begins n).b1) := by
  have hpos : 0 < n := by obtain ⟨k, _, _, rfl⟩ := hn; exact Nat.two_pow_pos k
  refine Inv'.ends ⟨h.p1, .inr (by simpa using hn), fun e => absurd e hb, h.w1, replicate_placed _ _, ?_, h.nd, fun _ i hi => absurd hi (Nat.not_lt_zero _), fun e => ?_, h.fit⟩
  · have := h.keys
    rw [hm] at this
    simp only [flatten_replicate]
    simpa using this
  · have := congrArg List.length e
    simp at this; omega

theorem full_spec (b : Bks) : ∀ (n i : Nat), (∃ j, i ≤ j ∧ j < i + n ∧ bucket b j ≠ []) → i ≤ full b n i ∧ full b n i < i + n ∧ bucket b (full b n i) ≠ [] ∧ ∀ j, i ≤ j → j < full b n i → bucket b j = []
  | 0, i, ⟨j, h1, h2, _⟩ => by omega
  | n + 1, i, ⟨j, h1, h2, h3⟩ => by
    simp only [full]
    split
    · rename_i he
      have hji : j ≠ i := by rintro rfl; exact h3 he
      obtain ⟨k1, k2, k3, k4⟩ := full_spec b n (i + 1) ⟨j, by omega, by omega, h3⟩
      refine ⟨by omega, by omega, k3, fun x hx hy => ?_⟩
      by_cases hxi : x = i
      · subst hxi; exact he
      · exact k4 x (by omega) hy
    · rename_i he
      exact ⟨Nat.le_refl _, by omega, he, fun x hx hy => by omega⟩
theorem exists_full {b : Bks} (h : 0 < used b) : ∃ j, j < b.length ∧ bucket b j ≠ [] := by
  refine Classical.byContradiction fun hn => ?_
  have : b.flatten = [] := by
    cases hf : b.flatten with
    | nil => rfl
    | cons k l =>
      obtain ⟨i, hi, hk⟩ := mem_flatten_bucket.1 (show k ∈ b.flatten by rw [hf]; exact List.mem_cons_self)
      exact absurd ⟨i, hi, fun e => by rw [e] at hk; cases hk⟩ hn
  rw [used_eq, this] at h; exact absurd h (by simp)
theorem at1_spec {d : D} (h : Inv d) (hm : d.b2 ≠ []) : d.idx ≤ d.at1 ∧ d.at1 < d.b1.length ∧ bucket d.b1 d.at1 ≠ [] ∧ ∀ j, j < d.at1 → bucket d.b1 j = [] := by
  obtain ⟨h1, h2⟩ := h.mv hm
  obtain ⟨j, hj, hb⟩ := exists_full h1
  have hij : d.idx ≤ j := Nat.le_of_not_lt fun hlt => hb (h2 j hlt)
  obtain ⟨k1, k2, k3, k4⟩ := full_spec d.b1 (d.b1.length - d.idx) d.idx ⟨j, hij, by omega, hb⟩
  refine ⟨k1, by unfold at1; omega, k3, fun x hx => ?_⟩
  by_cases hxi : x < d.idx
  · exact h2 x hxi
  · exact k4 x (by omega) hx
theorem len2_pos {d : D} (h : d.b2 ≠ []) : 0 < d.b2.length := List.length_pos_iff.2 h
/-- one step of a move, ahead of its end -/
def moved (d : D) : D := { d with b1 := d.b1.set d.at1 [], b2 := joinAll d.seed d.b2 (bucket d.b1 d.at1), idx := d.at1 + 1 }
theorem Inv.moved {d : D} (h : Inv d) (hm : d.b2 ≠ []) : Inv' d.moved [] := by
  obtain ⟨h1, h2, h3, h4⟩ := at1_spec h hm
  have hb2 := len2_pos hm
  refine ⟨?_, ?_, fun e => ?_, clear_placed h2 h.w1, joinAll_placed hb2 h.w2, ?_, h.nd, fun _ i hi => ?_, fun e => ?_, h.fit⟩
  · rcases h.p1 with e | hp
    · rw [e] at h2; simp at h2
    · exact .inr (by simpa [D.moved] using hp)
  · exact .inr (by simpa [D.moved] using h.p2.resolve_left hm)
  · have := congrArg List.length e; simp [D.moved] at this; rw [this] at h2; simp at h2
  · refine List.Perm.trans ?_ h.keys
    show (([] : List ByteArray) ++ ((d.b1.set d.at1 []).flatten ++ (joinAll d.seed d.b2 (bucket d.b1 d.at1)).flatten)).Perm _
    rw [List.nil_append]
    refine (List.Perm.append_left _ (joinAll_perm hb2)).trans ?_
    refine List.Perm.trans ?_ (List.Perm.append_right _ (flatten_out h2).symm)
    rw [← List.append_assoc]
    exact List.Perm.append_right _ List.perm_append_comm
  · show bucket (d.b1.set d.at1 []) i = []
    rw [bucket_set h2]
    split
    · rfl
    · rename_i hne
      have : i < d.at1 + 1 := hi
      exact h4 i (by omega)
  · have : d.moved.b2.length = d.b2.length := by simp [D.moved]
    rw [e] at this; simp at this; omega
theorem step_eq {d : D} (h : d.b2 ≠ []) : d.step = d.moved.ends := by
  unfold step; rw [if_pos (moves_iff.2 h)]; rfl
theorem step_eq' {d : D} (h : d.b2 = []) : d.step = d := by
  unfold step; rw [if_neg]; simp [moves_iff'.2 h]
theorem Inv.step {d : D} (h : Inv d) : Inv d.step := by
  by_cases hm : d.b2 = []
  · rw [step_eq' hm]; exact h
  · rw [step_eq hm]
    have := (h.moved hm).ends
    exact this.1.toInv this.2
theorem ends_m (d : D) : d.ends.m = d.m := by unfold ends; split <;> rfl
theorem ends_seed (d : D) : d.ends.seed = d.seed := by unfold ends; split <;> rfl
theorem step_m (d : D) : d.step.m = d.m := by unfold step; split; rw [ends_m]; rfl
theorem step_seed (d : D) : d.step.seed = d.seed := by unfold step; split; rw [ends_seed]; rfl
theorem Inv.used_le {d : D} (h : Inv d) : used d.b1 + used d.b2 = d.m.length := by
  have := h.keys.length_eq
  simp at this
  rw [used_eq, used_eq, List.length_flatten, List.length_flatten]; omega
theorem Inv'.used_le {d : D} {ks : List ByteArray} (h : Inv' d ks) : ks.length + (used d.b1 + used d.b2) = d.m.length := by
  have := h.keys.length_eq
  simp at this
  rw [used_eq, used_eq, List.length_flatten, List.length_flatten]; omega
theorem Inv.puts_old {d : D} (h : Inv d) {k : ByteArray} {v : Value} (hk : (kget k d.m).isSome) : Inv (d.puts k v) := by
  have hmap : ((upd k v d.m).map (·.1)) = d.m.map (·.1) := by
    have hg : ∀ m : Kvs, (kget k m).isSome → (upd k v m).map (·.1) = m.map (·.1) := by
      intro m
      induction m with
      | nil => simp [kget]
      | cons p r ih =>
        intro hs
        simp only [upd]
        by_cases e : p.1 = k
        · rw [if_pos e]; simp [e]
        · rw [if_neg e]; simp only [kget, if_neg e] at hs; simp [ih hs]
    exact hg _ hk
  refine ⟨h.p1, h.p2, h.e, h.w1, h.w2, ?_, ?_, h.mv, h.st, ?_⟩
  · show List.Perm _ ((upd k v d.m).map (·.1)); rw [hmap]; exact h.keys
  · exact upd_nodup h.nd
  · intro x hx
    have : x ∈ (upd k v d.m).map (·.1) := hx
    rw [hmap] at this; exact h.fit x this
theorem Inv.puts_new {d : D} (h : Inv d) {k : ByteArray} {v : Value} (hk : kget k d.m = none) (hf : k.size < 9223372036854775808) : Inv' (d.puts k v) [k] := by
  refine ⟨h.p1, h.p2, h.e, h.w1, h.w2, ?_, upd_nodup h.nd, fun hm => (h.mv hm).2, h.st, fun x hx => ?_⟩
  · show List.Perm _ ((upd k v d.m).map (·.1))
    rw [upd_none hk, List.map_append]
    refine (List.Perm.append_left _ h.keys).trans ?_
    exact List.perm_append_comm
  · rcases keys_upd.1 hx with rfl | h1
    · exact hf
    · exact h.fit x h1
theorem grows_spec {d : D} {ks : List ByteArray} (h : Inv' d ks) (hmv : d.b2 ≠ [] → 0 < used d.b1) (hbig : d.m.length ≤ 549755813888) : Inv' d.grows ks ∧ d.grows.b1 ≠ [] ∧ (d.grows.b2 ≠ [] → 0 < used d.grows.b1) := by
  unfold grows
  split
  · rename_i h0
    have h1 : d.b1 = [] := List.eq_nil_of_length_eq_zero h0
    have h2 := h.e h1
    refine ⟨⟨.inr ⟨2, by omega, by omega, by simp⟩, h.p2, fun _ => h2, replicate_placed _ _, h.w2, ?_, h.nd, fun hn => absurd h2 hn, h.st, h.fit⟩, by simp, fun hn => absurd h2 hn⟩
    have := h.keys
    rw [h1] at this
    simp only [flatten_replicate]
    simpa using this
  · rename_i h0
    have hb : d.b1 ≠ [] := fun e => h0 (by rw [e]; rfl)
    split
    · rename_i hc
      simp only [Bool.and_eq_true, Bool.not_eq_true', decide_eq_true_eq] at hc
      have hm := moves_iff'.1 hc.1
      have hle := h.used_le
      obtain ⟨j, hj1, hj2, hj3⟩ := h.p1.resolve_left hb
      have hj : j ≤ 39 := Nat.le_of_not_lt fun hlt => by
        have : 2 ^ 40 ≤ 2 ^ j := Nat.pow_le_pow_right (by omega) hlt
        omega
      have := h.begins hm hb (n := 2 * d.b1.length) ⟨j + 1, by omega, by omega, by rw [hj3, Nat.pow_succ]; omega⟩
      refine ⟨this.1, ?_, this.2⟩
      unfold D.begins D.ends
      split
      · intro e
        have := congrArg List.length e
        simp at this; exact hb (List.eq_nil_of_length_eq_zero (by omega))
      · exact hb
    · exact ⟨h, hb, hmv⟩
theorem joins_spec {d : D} {k : ByteArray} (h : Inv' d [k]) (hb : d.b1 ≠ []) (hmv : d.b2 ≠ [] → 0 < used d.b1) : Inv (d.joins k) := by
  unfold joins
  split
  · rename_i hm
    have h2 := moves_iff.1 hm
    have hl := len2_pos h2
    refine ⟨h.p1, .inr (by simpa using h.p2.resolve_left h2), fun e => absurd e hb, h.w1, joinB_placed hl h.w2, ?_, h.nd, fun _ => ⟨hmv h2, h.mv h2⟩, fun e => ?_, h.fit⟩
    · refine List.Perm.trans ?_ h.keys
      refine (List.Perm.append_left _ (joinB_perm hl)).trans ?_
      exact List.perm_middle
    · have := congrArg List.length e; simp at this; exact absurd this h2
  · rename_i hm
    have h2 := moves_iff'.1 (by simpa using hm)
    have hl : 0 < d.b1.length := List.length_pos_iff.2 hb
    refine ⟨.inr (by simpa using h.p1.resolve_left hb), h.p2, fun _ => h2, joinB_placed hl h.w1, h.w2, ?_, h.nd, fun hn => absurd h2 hn, h.st, h.fit⟩
    refine List.Perm.trans ?_ h.keys
    exact List.Perm.append_right _ (joinB_perm hl)
theorem Inv.set {d : D} (h : Inv d) {k : ByteArray} {v : Value} (hf : k.size < 9223372036854775808) (hbig : d.m.length < 549755813888) : Inv (d.set k v).1 := by
  unfold D.set
  split
  · rename_i hk; exact h.step.puts_old hk
  · rename_i hk
    have hn : kget k d.step.m = none := by simpa using hk
    have h1 := h.step.puts_new (v := v) hn hf
    have hlen : (d.step.puts k v).m.length ≤ 549755813888 := by
      show (upd k v d.step.m).length ≤ _
      rw [upd_none hn, step_m]; simp; omega
    obtain ⟨h2, h3, h4⟩ := grows_spec h1 (fun hm => (h.step.mv hm).1) hlen
    exact joins_spec h2 h3 h4
theorem shrunk_spec (n : Nat) : ∀ (f j : Nat), n ≤ 2 ^ (j + f) → ∃ i, j ≤ i ∧ i ≤ j + f ∧ shrunk n f (2 ^ j) = 2 ^ i ∧ n ≤ 2 ^ i
  | 0, j, h => ⟨j, by omega, by omega, rfl, h⟩
  | f + 1, j, h => by
    simp only [shrunk]
    split
    · obtain ⟨i, h1, h2, h3, h4⟩ := shrunk_spec n f (j + 1) (by rw [show j + 1 + f = j + (f + 1) by omega]; exact h)
      refine ⟨i, by omega, by omega, by rw [← Nat.pow_succ]; exact h3, h4⟩
    · exact ⟨j, by omega, by omega, rfl, by omega⟩
/-- no more than twice as great -/
theorem shrunk_le (n : Nat) : ∀ (f j : Nat), shrunk n f j ≤ max j (2 * n)
  | 0, j => by simp only [shrunk]; omega
  | f + 1, j => by
    simp only [shrunk]
    split
    · have := shrunk_le n f (j * 2); omega
    · omega
theorem shrinks_spec {d : D} (h : Inv d) : Inv d.shrinks := by
  unfold shrinks
  split
  · rename_i hc
    simp only [Bool.and_eq_true, Bool.not_eq_true', decide_eq_true_eq] at hc
    have hm := moves_iff'.1 hc.1.1
    have hb : d.b1 ≠ [] := fun e => by rw [e] at hc; simp at hc
    obtain ⟨j, hj1, hj2, hj3⟩ := h.p1.resolve_left hb
    have hle : 2 ^ j ≤ 2 ^ 40 := Nat.pow_le_pow_right (by omega) hj2
    obtain ⟨i, h1, h2, h3, h4⟩ := shrunk_spec (used d.b1) 64 2 (by
      have : (2 : Nat) ^ 40 ≤ 2 ^ (2 + 64) := Nat.pow_le_pow_right (by omega) (by omega)
      omega)
    have h5 := shrunk_le (used d.b1) 64 4
    have h6 : i ≤ 40 := Nat.le_of_not_lt fun hlt => by
      have : 2 ^ 41 ≤ 2 ^ i := Nat.pow_le_pow_right (by omega) hlt
      rw [show (4 : Nat) = 2 ^ 2 from rfl, h3] at h5
      omega
    have := h.toInv'.begins hm hb (n := shrunk (used d.b1) 64 4) ⟨i, h1, h6, h3⟩
    exact this.1.toInv this.2
  · exact h
theorem mem_b1 {d : D} (h : Inv d) {k : ByteArray} (hk : k ∈ d.b1.flatten) : k ∈ bucket d.b1 (slot d.seed k d.b1.length) := by
  obtain ⟨i, hi, hx⟩ := mem_flatten_bucket.1 hk
  rw [h.w1 i k hx]; exact hx
theorem mem_b2 {d : D} (h : Inv d) {k : ByteArray} (hk : k ∈ d.b2.flatten) : k ∈ bucket d.b2 (slot d.seed k d.b2.length) := by
  obtain ⟨i, hi, hx⟩ := mem_flatten_bucket.1 hk
  rw [h.w2 i k hx]; exact hx
theorem pos_of_mem {b : Bks} {i : Nat} {k : ByteArray} (h : k ∈ bucket b i) : 0 < b.length := Nat.pos_of_ne_zero fun e => by
  rw [bucket_out (by omega)] at h; cases h
theorem del_perm {k : ByteArray} : ∀ {m : Kvs}, (kget k m).isSome → (k :: (del k m).map (·.1)).Perm (m.map (·.1))
  | [], h => by simp [kget] at h
  | p :: r, h => by
    simp only [del]
    by_cases e : p.1 = k
    · rw [if_pos e]; simp [e]
    · rw [if_neg e]
      simp only [kget, if_neg e] at h
      simp only [List.map_cons]
      exact (List.Perm.swap _ _ _).trans ((del_perm h).cons _)
theorem takes_spec {d : D} (h : Inv d) {k : ByteArray} (hk : (kget k d.m).isSome) : Inv' (d.takes k) [] := by
  have hmem : k ∈ d.b1.flatten ++ d.b2.flatten := by
    refine h.keys.mem_iff.2 (Classical.byContradiction fun hn => ?_)
    rw [look_none.2 hn] at hk; cases hk
  have hfit : ∀ x ∈ (del k d.m).map (·.1), x.size < 9223372036854775808 := fun x hx => h.fit x ((del_sub.map _).subset hx)
  have hp := del_perm hk
  unfold takes
  simp only
  split
  · rename_i hb
    have hl := pos_of_mem hb
    have hb1 : d.b1 ≠ [] := List.length_pos_iff.1 hl
    refine ⟨.inr (by simpa using h.p1.resolve_left hb1), h.p2, fun e => ?_, leaveB_placed hl h.w1, h.w2, ?_, del_nodup h.nd, fun hm i hi => ?_, h.st, hfit⟩
    · have := congrArg List.length e; simp at this; exact absurd this hb1
    · rw [List.nil_append]
      refine List.Perm.cons_inv (a := k) (List.Perm.trans ?_ (h.keys.trans hp.symm))
      exact List.Perm.append_right _ (leaveB_perm hl hb)
    · have h0 := (h.mv hm).2 i hi
      show bucket (leaveB d.seed d.b1 k) i = []
      unfold leaveB
      rw [bucket_set (slot_lt _ _ hl)]
      split
      · rename_i e; rw [e, h0]; rfl
      · exact h0
  · rename_i hb
    have hk2 : k ∈ d.b2.flatten := (List.mem_append.1 hmem).resolve_left fun h1 => hb (mem_b1 h h1)
    have hx := mem_b2 h hk2
    have hl := pos_of_mem hx
    have hb2 : d.b2 ≠ [] := List.length_pos_iff.1 hl
    refine ⟨h.p1, .inr (by simpa using h.p2.resolve_left hb2), fun e => absurd (h.e e) hb2, h.w1, leaveB_placed hl h.w2, ?_, del_nodup h.nd, fun _ => (h.mv hb2).2, fun e => ?_, hfit⟩
    · rw [List.nil_append]
      refine List.Perm.cons_inv (a := k) (List.Perm.trans ?_ (h.keys.trans hp.symm))
      refine List.Perm.trans ?_ (List.Perm.append_left _ (leaveB_perm hl hx))
      exact List.perm_middle.symm
    · have := congrArg List.length e; simp at this; exact absurd this hb2
theorem Inv.delete {d : D} (h : Inv d) (k : ByteArray) : Inv (d.delete k).1 := by
  unfold D.delete
  split
  · rename_i hk
    have := (takes_spec h.step hk).ends
    exact shrinks_spec (this.1.toInv this.2)
  · exact h.step
theorem Inv.steps {d : D} (h : Inv d) (n : Nat) : Inv (d.steps n) := by
  induction n generalizing d with
  | zero => exact h
  | succ n ih =>
    unfold D.steps
    split
    · exact ih h.step
    · exact h
theorem Inv.new (seed : Int) : Inv (D.new seed) :=
  ⟨.inl rfl, .inl rfl, fun _ => rfl, fun i k hk => by simp [D.new, bucket] at hk, fun i k hk => by simp [D.new, bucket] at hk, by simp [D.new], by simp [D.new, NodupK], fun hn => absurd rfl hn, fun _ => rfl, fun k hk => by simp [D.new] at hk⟩
end D
end Go.VC
