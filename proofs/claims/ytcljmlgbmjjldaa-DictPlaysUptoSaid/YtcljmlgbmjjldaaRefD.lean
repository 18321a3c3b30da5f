/- The document's dict in plain words, and that it answers as the program's does. -/
import Derived.Test.YtcljmlgbmjjldaaDictG
namespace Go.VC
open Go
set_option linter.unusedVariables false
set_option linter.unusedSimpArgs false
abbrev It := ByteArray × Int
structure RD where
  seed : Int
  n1 : Nat
  l1 : List It
  n2 : Nat
  l2 : List It
  idx : Nat
namespace RD
abbrev kys (l : List It) : List ByteArray := l.map (·.1)
def ix (l : List It) (k : ByteArray) : Nat := (kys l).idxOf k
def over (r : RD) : RD := if 0 < r.n2 ∧ r.l1.length = 0 then { r with n1 := r.n2, l1 := r.l2, n2 := 0, l2 := [], idx := 0 } else r
def begins (r : RD) (n : Nat) : RD := over { r with n2 := n, l2 := [], idx := 0 }
def stay (seed : Int) (n b : Nat) (l : List It) : List It := l.filter fun p => slot seed p.1 n != b
def goes (seed : Int) (n b : Nat) (l : List It) : List It := l.filter fun p => slot seed p.1 n == b
def stepL (r : RD) : Nat → Nat → RD
  | 0, _ => r
  | f + 1, b => if (stay r.seed r.n1 b r.l1).length = r.l1.length then stepL r f (b + 1)
    else over { r with l1 := stay r.seed r.n1 b r.l1, l2 := r.l2 ++ goes r.seed r.n1 b r.l1, idx := b + 1 }
theorem stepL_succ (r : RD) (f b : Nat) : r.stepL (f + 1) b = if (stay r.seed r.n1 b r.l1).length = r.l1.length then stepL r f (b + 1) else over { r with l1 := stay r.seed r.n1 b r.l1, l2 := r.l2 ++ goes r.seed r.n1 b r.l1, idx := b + 1 } := rfl
def step (r : RD) : RD := if 0 < r.n2 then stepL r (r.n1 - r.idx) r.idx else r
def grows (r : RD) : RD := if r.n1 = 0 then { r with n1 := 4 } else if ¬ 0 < r.n2 ∧ r.n1 ≤ r.l1.length then r.begins (2 * r.n1) else r
def joins (r : RD) (k : ByteArray) (v : Int) : RD := if 0 < r.n2 then { r with l2 := r.l2 ++ [(k, v)] } else { r with l1 := r.l1 ++ [(k, v)] }
def set0 (r : RD) (k : ByteArray) (v : Int) : RD × Bool :=
  if k ∈ kys r.l1 then ({ r with l1 := r.l1.set (ix r.l1 k) (k, v) }, false)
  else if k ∈ kys r.l2 then ({ r with l2 := r.l2.set (ix r.l2 k) (k, v) }, false)
  else (r.grows.joins k v, true)
def set (r : RD) (k : ByteArray) (v : Int) : RD × Bool := set0 r.step k v
def shrinks (r : RD) : RD := if ¬ 0 < r.n2 ∧ 4 < r.n1 ∧ 8 * r.l1.length ≤ r.n1 then r.begins (D.shrunk r.l1.length 64 4) else r
def takes (r : RD) (k : ByteArray) : RD := if k ∈ kys r.l1 then { r with l1 := r.l1.eraseIdx (ix r.l1 k) } else { r with l2 := r.l2.eraseIdx (ix r.l2 k) }
def delete0 (r : RD) (k : ByteArray) : RD × Bool := if k ∈ kys r.l1 ∨ k ∈ kys r.l2 then ((r.takes k).over.shrinks, true) else (r, false)
def delete (r : RD) (k : ByteArray) : RD × Bool := delete0 r.step k
def steps (r : RD) : Nat → RD
  | 0 => r
  | n + 1 => if 0 < r.n2 then steps r.step n else r
def get (r : RD) (k : ByteArray) : Int × Bool :=
  if k ∈ kys r.l1 then ((r.l1.getD (ix r.l1 k) (k, 0)).2, true) else if k ∈ kys r.l2 then ((r.l2.getD (ix r.l2 k) (k, 0)).2, true) else (0, false)
def keys (r : RD) : List ByteArray := sortS (kys (r.l1 ++ r.l2))
def tables (r : RD) : Int × Int × Int := if 0 < r.n2 then (r.n1, r.n2, r.idx) else (r.n1, 0, -1)
def new (seed : Int) : RD := ⟨seed, 0, [], 0, [], 0⟩
def inB (r : RD) (l : List It) (n b : Nat) : List ByteArray := sortS (kys (goes r.seed n b l))
/-- the document's next cursor in tables of 2^k buckets -/
def next (k c : Nat) : Nat := rv k ((rv k (c % 2 ^ k) + 1) % 2 ^ k)
theorem next_eq {k : Nat} (hk : k < 64) (c : Nat) : next k c = nextCur c k := by
  have h := pos_next hk c
  have hlt := nextCur_lt hk c
  unfold pos at h
  rw [Nat.mod_eq_of_lt hlt] at h
  unfold next
  rw [← h, rv_rv k _ hlt]
def visitL (r : RD) (lg : List It) (kL kS : Nat) : Nat → Nat → List ByteArray × Nat
  | 0, c => ([], c)
  | f + 1, c => if nextCur c kL < 2 ^ kS then (r.inB lg (2 ^ kL) (c % 2 ^ kL), nextCur c kL) else (r.inB lg (2 ^ kL) (c % 2 ^ kL) ++ (visitL r lg kL kS f (nextCur c kL)).1, (visitL r lg kL kS f (nextCur c kL)).2)
def two (r : RD) (sn : Nat) (sm : List It) (ln : Nat) (lg : List It) (c : Nat) : List ByteArray × Nat :=
  (r.inB sm sn (c % sn) ++ (visitL r lg (Nat.log2 ln) (Nat.log2 sn) ln c).1, (visitL r lg (Nat.log2 ln) (Nat.log2 sn) ln c).2)
def visit (r : RD) (c : Nat) : List ByteArray × Nat :=
  if 0 < r.n2 then (if r.n2 < r.n1 then two r r.n2 r.l2 r.n1 r.l1 c else two r r.n1 r.l1 r.n2 r.l2 c) else (r.inB r.l1 r.n1 (c % r.n1), nextCur c (Nat.log2 r.n1))
end RD

/-- the document's dict is this one -/
structure Rel (d : D) (r : RD) : Prop where
  seed : r.seed = d.seed
  n1 : r.n1 = d.b1.length
  n2 : r.n2 = d.b2.length
  idx : r.idx = d.idx
  k1 : (RD.kys r.l1).Perm d.b1.flatten
  k2 : (RD.kys r.l2).Perm d.b2.flatten
  vals : ∀ p ∈ r.l1 ++ r.l2, kget p.1 d.m = some (.int .i64 p.2)
theorem sortS_eq {l m : List ByteArray} (h : l.Perm m) : sortS l = sortS m := by
  unfold sortS
  congr 1
  have tr : ∀ a b c : List UInt8, (decide (a ≤ b)) = true → (decide (b ≤ c)) = true → (decide (a ≤ c)) = true := fun a b c h1 h2 => by simp only [decide_eq_true_eq] at *; exact List.le_trans h1 h2
  have to : ∀ a b : List UInt8, ((decide (a ≤ b)) || (decide (b ≤ a))) = true := fun a b => by simp only [Bool.or_eq_true, decide_eq_true_eq]; exact List.le_total a b
  refine List.Perm.eq_of_pairwise (le := fun a b => decide (a ≤ b) = true) (fun a b _ _ h1 h2 => ?_) (List.pairwise_mergeSort tr to _) (List.pairwise_mergeSort tr to _) (((List.mergeSort_perm _ _).trans (h.map _)).trans (List.mergeSort_perm _ _).symm)
  simp only [decide_eq_true_eq] at h1 h2
  exact List.le_antisymm h1 h2
namespace Rel
variable {d : D} {r : RD}
theorem len1 (h : Rel d r) : r.l1.length = used d.b1 := by rw [used_eq, ← h.k1.length_eq]; simp
theorem len2 (h : Rel d r) : r.l2.length = used d.b2 := by rw [used_eq, ← h.k2.length_eq]; simp
theorem new (seed : Int) : Rel (D.new seed) (RD.new seed) := ⟨rfl, rfl, rfl, rfl, List.Perm.refl _, List.Perm.refl _, fun p hp => by simp [RD.new] at hp⟩
theorem over (h : Rel d r) : Rel d.ends r.over := by
  have hl := h.len1
  unfold RD.over D.ends
  by_cases hc : 0 < r.n2 ∧ r.l1.length = 0
  · rw [if_pos hc, if_pos (by rw [← hl, hc.2]; simp [D.moves, ← h.n2, hc.1])]
    exact ⟨h.seed, h.n2, rfl, rfl, h.k2, List.Perm.refl _, fun p hp => h.vals p (by simp at hp ⊢; exact .inr hp)⟩
  · rw [if_neg hc, if_neg]
    · exact h
    · intro hb
      simp only [Bool.and_eq_true, D.moves, decide_eq_true_eq, beq_iff_eq] at hb
      exact hc ⟨by rw [h.n2]; exact hb.1, by rw [hl]; exact hb.2⟩
theorem begins (h : Rel d r) (hm : d.b2 = []) (n : Nat) : Rel (d.begins n) (r.begins n) := by
  unfold D.begins RD.begins
  refine over ⟨h.seed, h.n1, by simp, rfl, h.k1, by rw [flatten_replicate]; exact List.Perm.refl _, fun p hp => h.vals p (by simp at hp ⊢; exact .inl hp)⟩
theorem stay_len {seed : Int} {n b : Nat} {l : List It} : (RD.stay seed n b l).length = l.length ↔ ∀ p ∈ l, slot seed p.1 n ≠ b := by
  unfold RD.stay
  rw [List.length_filter_eq_length_iff]
  simp
/-- the keys of a bucket -/
theorem goes_perm {seed : Int} {b : Bks} {l : List It} (hk : (RD.kys l).Perm b.flatten) (hp : D.Placed seed b) {i : Nat} (hi : i < b.length) : (RD.kys (RD.goes seed b.length i l)).Perm (bucket b i) := by
  have h1 : RD.kys (RD.goes seed b.length i l) = (RD.kys l).filter fun k => slot seed k b.length == i := by
    unfold RD.goes RD.kys; rw [List.filter_map]; rfl
  rw [h1]
  refine (hk.filter _).trans ?_
  refine ((flatten_out hi).filter _).trans ?_
  rw [List.filter_append, List.filter_eq_self.2 (fun k hk => by simpa using hp i k hk), List.filter_eq_nil_iff.2 (fun k hk => ?_), List.append_nil]
  obtain ⟨j, hj, hkj⟩ := mem_flatten_bucket.1 hk
  rw [bucket_set hi] at hkj
  split at hkj
  · cases hkj
  · rename_i hne
    simp only [beq_iff_eq]
    rw [hp j k hkj]; exact fun e => hne e.symm
theorem stay_perm {seed : Int} {b : Bks} {l : List It} (hk : (RD.kys l).Perm b.flatten) (hp : D.Placed seed b) {i : Nat} (hi : i < b.length) : (RD.kys (RD.stay seed b.length i l)).Perm (b.set i []).flatten := by
  have h1 : RD.kys (RD.stay seed b.length i l) = (RD.kys l).filter fun k => slot seed k b.length != i := by
    unfold RD.stay RD.kys; rw [List.filter_map]; rfl
  rw [h1]
  refine (hk.filter _).trans ?_
  refine ((flatten_out hi).filter _).trans ?_
  rw [List.filter_append, List.filter_eq_nil_iff.2 (fun k hk => by simpa using hp i k hk), List.nil_append, List.filter_eq_self.2 (fun k hk => ?_)]
  obtain ⟨j, hj, hkj⟩ := mem_flatten_bucket.1 hk
  rw [bucket_set hi] at hkj
  split at hkj
  · cases hkj
  · rename_i hne
    simp only [bne_iff_ne, ne_eq]
    rw [hp j k hkj]; exact fun e => hne e.symm
theorem stepL_skip (r : RD) : ∀ (n f b : Nat), (∀ j, b ≤ j → j < b + n → ∀ p ∈ r.l1, slot r.seed p.1 r.n1 ≠ j) → r.stepL (n + f) b = r.stepL f (b + n)
  | 0, f, b, _ => by simp
  | n + 1, f, b, h => by
    rw [show n + 1 + f = (n + f) + 1 by omega]
    rw [RD.stepL_succ, if_pos (stay_len.2 (h b (Nat.le_refl _) (by omega))), stepL_skip r n f (b + 1) fun j h1 h2 => h j (by omega) (by omega), show b + 1 + n = b + (n + 1) by omega]
theorem step (h : Rel d r) (hi : D.Inv d) : Rel d.step r.step := by
  by_cases hm : d.b2 = []
  · have h0 : ¬ 0 < r.n2 := by rw [h.n2, hm]; decide
    rw [D.step_eq' hm]; unfold RD.step; rw [if_neg h0]; exact h
  · have h0 : 0 < r.n2 := by rw [h.n2]; exact List.length_pos_iff.2 hm
    obtain ⟨a1, a2, a3, a4⟩ := D.at1_spec hi hm
    have hskip : ∀ j, r.idx ≤ j → j < r.idx + (d.at1 - d.idx) → ∀ p ∈ r.l1, slot r.seed p.1 r.n1 ≠ j := fun j h1 h2 p hp e => by
      have hk : p.1 ∈ d.b1.flatten := h.k1.mem_iff.1 (List.mem_map.2 ⟨p, hp, rfl⟩)
      have hb := D.mem_b1 hi hk
      rw [← h.n1, ← h.seed, e, a4 j (by rw [h.idx] at h2; omega)] at hb
      cases hb
    have hlen : r.n1 - r.idx = (d.at1 - d.idx) + ((d.b1.length - d.at1 - 1) + 1) := by rw [h.n1, h.idx]; omega
    have hidx : r.idx + (d.at1 - d.idx) = d.at1 := by rw [h.idx]; omega
    rw [D.step_eq hm]
    unfold RD.step
    rw [if_pos h0, hlen, stepL_skip r _ _ _ hskip, hidx, RD.stepL_succ]
    have hne : ¬ (RD.stay r.seed r.n1 d.at1 r.l1).length = r.l1.length := fun e => by
      have hall := stay_len.1 e
      obtain ⟨k, hk⟩ := List.exists_mem_of_ne_nil _ a3
      have hk1 : k ∈ RD.kys r.l1 := h.k1.mem_iff.2 (mem_flatten_bucket.2 ⟨_, a2, hk⟩)
      obtain ⟨p, hp, rfl⟩ := List.mem_map.1 hk1
      exact hall p hp (by rw [h.seed, h.n1]; exact hi.w1 _ _ hk)
    rw [if_neg hne]
    refine over ⟨h.seed, ?_, ?_, rfl, ?_, ?_, fun p hp => ?_⟩
    · show r.n1 = (d.b1.set d.at1 []).length
      rw [List.length_set]; exact h.n1
    · show r.n2 = (joinAll d.seed d.b2 (bucket d.b1 d.at1)).length
      rw [joinAll_length]; exact h.n2
    · show (RD.kys (RD.stay r.seed r.n1 d.at1 r.l1)).Perm _
      rw [h.seed, h.n1]; exact stay_perm h.k1 hi.w1 a2
    · show (RD.kys (r.l2 ++ RD.goes r.seed r.n1 d.at1 r.l1)).Perm _
      rw [h.seed, h.n1]
      refine List.Perm.trans ?_ (joinAll_perm (List.length_pos_iff.2 hm)).symm
      unfold RD.kys
      rw [List.map_append]
      exact List.perm_append_comm.trans ((goes_perm h.k1 hi.w1 a2).append h.k2)
    · refine h.vals p ?_
      simp only [List.mem_append] at hp ⊢
      rcases hp with hp | hp | hp
      · exact .inl ((List.mem_filter.1 hp).1)
      · exact .inr hp
      · exact .inl ((List.mem_filter.1 hp).1)
theorem steps (h : Rel d r) (hi : D.Inv d) : ∀ n, Rel (d.steps n) (r.steps n) := by
  intro n
  induction n generalizing d r with
  | zero => exact h
  | succ n ih =>
    unfold D.steps RD.steps
    by_cases hm : d.b2 = []
    · rw [if_neg (by rw [D.moves_iff'.2 hm]; decide), if_neg (by rw [h.n2, hm]; decide)]; exact h
    · rw [if_pos (D.moves_iff.2 hm), if_pos (by rw [h.n2]; exact List.length_pos_iff.2 hm)]
      exact ih (h.step hi) hi.step
/-- a key is there just where it is in the map -/
theorem mem (h : Rel d r) (hi : D.Inv d) (k : ByteArray) : (k ∈ RD.kys r.l1 ∨ k ∈ RD.kys r.l2) ↔ (kget k d.m).isSome = true := by
  rw [h.k1.mem_iff, h.k2.mem_iff, ← List.mem_append, hi.keys.mem_iff]
  constructor
  · intro hk
    cases hs : kget k d.m with
    | none => exact absurd hk (look_none.1 hs)
    | some _ => rfl
  · intro hk
    refine Classical.byContradiction fun hn => ?_
    rw [look_none.2 hn] at hk; cases hk
theorem nodup (h : Rel d r) (hi : D.Inv d) : (RD.kys r.l1 ++ RD.kys r.l2).Nodup :=
  ((h.k1.append h.k2).trans hi.keys).nodup_iff.2 hi.nd
theorem ix_spec {l : List It} {k : ByteArray} (hk : k ∈ RD.kys l) : RD.ix l k < l.length ∧ ∃ v, l[RD.ix l k]? = some (k, v) := by
  have h1 : RD.ix l k < (RD.kys l).length := List.idxOf_lt_length_iff.2 hk
  have h1' : RD.ix l k < l.length := by simpa using h1
  refine ⟨h1', l[RD.ix l k].2, ?_⟩
  rw [List.getElem?_eq_getElem h1']
  congr 1
  have h2 : (RD.kys l)[RD.ix l k] = k := List.getElem_idxOf h1
  have h3 : (RD.kys l)[RD.ix l k] = l[RD.ix l k].1 := by simp
  exact Prod.ext (h3.symm.trans h2) rfl
theorem set_keys {l : List It} {k : ByteArray} (hk : k ∈ RD.kys l) (v : Int) : RD.kys (l.set (RD.ix l k) (k, v)) = RD.kys l := by
  obtain ⟨h1, v0, h2⟩ := ix_spec hk
  unfold RD.kys
  rw [List.map_set]
  apply List.ext_getElem?
  intro j
  rw [List.getElem?_set]
  split
  · rename_i e; subst e
    rw [if_pos (by simpa using h1), List.getElem?_map, h2]; rfl
  · rfl
theorem grows (h : Rel d r) : Rel d.grows r.grows := by
  unfold D.grows RD.grows
  by_cases h0 : d.b1.length = 0
  · rw [if_pos h0, if_pos (by rw [h.n1]; exact h0)]
    refine ⟨h.seed, by simp, h.n2, h.idx, ?_, h.k2, h.vals⟩
    have : d.b1 = [] := List.eq_nil_of_length_eq_zero h0
    have h1 := h.k1
    rw [this] at h1
    rw [flatten_replicate]; exact h1
  · rw [if_neg h0, if_neg (show ¬ r.n1 = 0 by rw [h.n1]; exact h0)]
    by_cases hc : ¬ 0 < r.n2 ∧ r.n1 ≤ r.l1.length
    · have hm : d.b2 = [] := List.eq_nil_of_length_eq_zero (by rw [← h.n2]; omega)
      rw [if_pos hc, if_pos (show (!d.moves && decide (d.b1.length ≤ used d.b1)) = true by rw [← h.len1, ← h.n1]; simp [D.moves_iff'.2 hm, hc.2]), h.n1]
      exact h.begins hm _
    · rw [if_neg hc, if_neg (show ¬ (!d.moves && decide (d.b1.length ≤ used d.b1)) = true from fun hb => ?_)]
      · exact h
      · simp only [Bool.and_eq_true, Bool.not_eq_true', decide_eq_true_eq] at hb
        refine hc ⟨?_, by rw [h.n1, h.len1]; exact hb.2⟩
        rw [h.n2, D.moves_iff'.1 hb.1]; decide

theorem joins (h : Rel d r) {k : ByteArray} {v : Int} (hk : kget k d.m = some (.int .i64 v)) (hb : d.b1 ≠ []) : Rel (d.joins k) (r.joins k v) := by
  have hv : ∀ p ∈ (r.l1 ++ r.l2) ++ [(k, v)], kget p.1 d.m = some (.int .i64 p.2) := fun p hp => by
    rcases List.mem_append.1 hp with hp | hp
    · exact h.vals p hp
    · rw [List.mem_singleton.1 hp]; exact hk
  unfold D.joins RD.joins
  by_cases hm : d.b2 = []
  · rw [if_neg (by rw [D.moves_iff'.2 hm]; decide), if_neg (show ¬ 0 < r.n2 by rw [h.n2, hm]; decide)]
    refine ⟨h.seed, by simp [h.n1], h.n2, h.idx, ?_, h.k2, fun p hp => hv p ?_⟩
    · show (RD.kys (r.l1 ++ [(k, v)])).Perm _
      unfold RD.kys
      rw [List.map_append]
      exact (List.perm_append_comm.trans (h.k1.cons k)).trans (joinB_perm (List.length_pos_iff.2 hb)).symm
    · simp only [List.mem_append] at hp ⊢
      rcases hp with (hp | hp) | hp
      · exact .inl (.inl hp)
      · exact .inr hp
      · exact .inl (.inr hp)
  · rw [if_pos (D.moves_iff.2 hm), if_pos (show 0 < r.n2 by rw [h.n2]; exact List.length_pos_iff.2 hm)]
    refine ⟨h.seed, h.n1, by simp [h.n2], h.idx, h.k1, ?_, fun p hp => hv p ?_⟩
    · show (RD.kys (r.l2 ++ [(k, v)])).Perm _
      unfold RD.kys
      rw [List.map_append]
      exact (List.perm_append_comm.trans (h.k2.cons k)).trans (joinB_perm (List.length_pos_iff.2 hm)).symm
    · simp only [List.mem_append] at hp ⊢
      rcases hp with hp | hp | hp
      · exact .inl (.inl hp)
      · exact .inl (.inr hp)
      · exact .inr hp
/-- keys that stand once: the pairs are told apart by them -/
theorem key_inj (h : Rel d r) (hi : D.Inv d) {p q : It} (hp : p ∈ r.l1 ++ r.l2) (hq : q ∈ r.l1 ++ r.l2) (e : p.1 = q.1) : p = q := by
  have h1 := h.vals p hp
  have h2 := h.vals q hq
  rw [e, h2] at h1
  injection h1 with h1
  injection h1 with _ h1
  exact Prod.ext e h1.symm
theorem vals_set {l : List It} {k : ByteArray} {v : Int} {m : Kvs} (hn : (RD.kys l).Nodup) (hv : ∀ p ∈ l, kget p.1 m = some (.int .i64 p.2)) : ∀ p ∈ l.set (RD.ix l k) (k, v), kget p.1 (upd k (.int .i64 v) m) = some (.int .i64 p.2) := by
  intro p hp
  obtain ⟨j, hj⟩ := List.mem_iff_getElem?.1 hp
  rw [List.getElem?_set] at hj
  split at hj
  · rename_i e
    split at hj
    · injection hj with hj; subst hj; exact look_upd_same _ _ _
    · cases hj
  · rename_i e
    have hpl : p ∈ l := List.mem_of_getElem? hj
    have hne : k ≠ p.1 := fun ek => by
      have hk : k ∈ RD.kys l := List.mem_map.2 ⟨p, hpl, ek.symm⟩
      obtain ⟨h1, v0, h2⟩ := ix_spec hk
      have e1 : (RD.kys l)[RD.ix l k]? = some k := by rw [List.getElem?_map, h2]; rfl
      have e2 : (RD.kys l)[j]? = some k := by rw [List.getElem?_map, hj, ek]; rfl
      have hj' := (List.getElem?_eq_some_iff.1 e2).1
      exact e ((List.getElem?_inj (by simpa using h1) hn).1 (e1.trans e2.symm))
    rw [look_upd_ne hne]; exact hv p hpl
theorem vals_upd {l : List It} {k : ByteArray} {v : Int} {m : Kvs} (hk : k ∉ RD.kys l) (hv : ∀ p ∈ l, kget p.1 m = some (.int .i64 p.2)) : ∀ p ∈ l, kget p.1 (upd k (.int .i64 v) m) = some (.int .i64 p.2) := by
  intro p hp
  have hne : k ≠ p.1 := fun ek => hk (List.mem_map.2 ⟨p, hp, ek.symm⟩)
  rw [look_upd_ne hne]; exact hv p hp
theorem set0 (h : Rel d r) (hi : D.Inv d) (k : ByteArray) (v : Int) (hbig : d.m.length < 549755813888) :
    Rel (if (kget k d.m).isSome then (d.puts k (.int .i64 v), false) else (((d.puts k (.int .i64 v)).grows).joins k, true)).1 (r.set0 k v).1 ∧
    (if (kget k d.m).isSome then (d.puts k (.int .i64 v), false) else (((d.puts k (.int .i64 v)).grows).joins k, true)).2 = (r.set0 k v).2 := by
  have hm := h.mem hi k
  have hnd := h.nodup hi
  have v1 : ∀ p ∈ r.l1, kget p.1 d.m = some (.int .i64 p.2) := fun p hp => h.vals p (List.mem_append_left _ hp)
  have v2 : ∀ p ∈ r.l2, kget p.1 d.m = some (.int .i64 p.2) := fun p hp => h.vals p (List.mem_append_right _ hp)
  rw [List.nodup_append] at hnd
  unfold RD.set0
  by_cases h1 : k ∈ RD.kys r.l1
  · rw [if_pos (hm.1 (.inl h1)), if_pos h1]
    have h2 : k ∉ RD.kys r.l2 := fun h2 => hnd.2.2 k h1 k h2 rfl
    refine ⟨⟨h.seed, h.n1, h.n2, h.idx, by rw [set_keys h1]; exact h.k1, h.k2, fun p hp => ?_⟩, rfl⟩
    rcases List.mem_append.1 hp with hp | hp
    · exact vals_set hnd.1 v1 p hp
    · exact vals_upd h2 v2 p hp
  · by_cases h2 : k ∈ RD.kys r.l2
    · rw [if_pos (hm.1 (.inr h2)), if_neg h1, if_pos h2]
      refine ⟨⟨h.seed, h.n1, h.n2, h.idx, h.k1, by rw [set_keys h2]; exact h.k2, fun p hp => ?_⟩, rfl⟩
      rcases List.mem_append.1 hp with hp | hp
      · exact vals_upd h1 v1 p hp
      · exact vals_set hnd.2.1 v2 p hp
    · have hno : ¬ (kget k d.m).isSome = true := fun hs => (hm.2 hs).elim h1 h2
      rw [if_neg hno, if_neg h1, if_neg h2]
      have hnone : kget k d.m = none := by
        cases hs : kget k d.m with
        | none => rfl
        | some _ => rw [hs] at hno; exact absurd rfl hno
      have hp : Rel (d.puts k (.int .i64 v)) r := ⟨h.seed, h.n1, h.n2, h.idx, h.k1, h.k2, fun p hp => by
        rcases List.mem_append.1 hp with hp | hp
        · exact vals_upd h1 v1 p hp
        · exact vals_upd h2 v2 p hp⟩
      have hg := hp.grows
      refine ⟨hg.joins ?_ ?_, rfl⟩
      · have : (d.puts k (.int .i64 v)).grows.m = upd k (.int .i64 v) d.m := by
          unfold D.grows; split; rfl; split
          · unfold D.begins; rw [D.ends_m]; rfl
          · rfl
        rw [this]; exact look_upd_same _ _ _
      · -- behind growing there is a table
        unfold D.grows
        by_cases h0 : (d.puts k (.int .i64 v)).b1.length = 0
        · rw [if_pos h0]; simp
        · rw [if_neg h0]
          split
          · unfold D.begins D.ends
            split
            · simp only; intro e
              have hl := congrArg List.length e
              simp only [List.length_replicate, List.length_nil] at hl
              exact h0 (by omega)
            · simp only; intro e; exact h0 (by rw [e]; rfl)
          · intro e; exact h0 (by rw [e]; rfl)
theorem set (h : Rel d r) (hi : D.Inv d) (k : ByteArray) (v : Int) (hbig : d.m.length < 549755813888) : Rel (d.set k (.int .i64 v)).1 (r.set k v).1 ∧ (d.set k (.int .i64 v)).2 = (r.set k v).2 := by
  have h1 := h.step hi
  exact h1.set0 hi.step k v (by rw [D.step_m]; exact hbig)
theorem get (h : Rel d r) (hi : D.Inv d) (k : ByteArray) : r.get k = ((match kget k d.m with | some (.int _ n) => n | _ => 0), (kget k d.m).isSome) := by
  have hm := h.mem hi k
  unfold RD.get
  by_cases h1 : k ∈ RD.kys r.l1
  · obtain ⟨a1, v0, a2⟩ := ix_spec h1
    rw [if_pos h1, hm.1 (.inl h1), List.getD_eq_getElem?_getD, a2, h.vals (k, v0) (List.mem_append_left _ (List.mem_of_getElem? a2))]; rfl
  · by_cases h2 : k ∈ RD.kys r.l2
    · obtain ⟨a1, v0, a2⟩ := ix_spec h2
      rw [if_neg h1, if_pos h2, hm.1 (.inr h2), List.getD_eq_getElem?_getD, a2, h.vals (k, v0) (List.mem_append_right _ (List.mem_of_getElem? a2))]; rfl
    · rw [if_neg h1, if_neg h2]
      have : kget k d.m = none := by
        cases hs : kget k d.m with
        | none => rfl
        | some _ => exact ((hm.2 (by rw [hs]; rfl)).elim h1 h2).elim
      rw [this]; rfl
theorem map_erase' {α β : Type} (f : α → β) : ∀ (l : List α) (i : Nat), (l.eraseIdx i).map f = (l.map f).eraseIdx i
  | [], _ => rfl
  | _ :: _, 0 => rfl
  | x :: l, i + 1 => by simp only [List.eraseIdx_cons_succ, List.map_cons]; rw [map_erase' f l i]
theorem erase_keys {l : List It} {k : ByteArray} (hk : k ∈ RD.kys l) : (k :: RD.kys (l.eraseIdx (RD.ix l k))).Perm (RD.kys l) := by
  unfold RD.kys
  rw [map_erase']
  unfold RD.ix RD.kys
  rw [← List.erase_eq_eraseIdx_of_idxOf rfl]
  exact (List.perm_cons_erase hk).symm
theorem vals_del {l l' : List It} {k : ByteArray} {m : Kvs} (hs : ∀ p ∈ l', p ∈ l) (hk : k ∉ RD.kys l') (hv : ∀ p ∈ l, kget p.1 m = some (.int .i64 p.2)) : ∀ p ∈ l', kget p.1 (del k m) = some (.int .i64 p.2) := by
  intro p hp
  have hne : k ≠ p.1 := fun ek => hk (List.mem_map.2 ⟨p, hp, ek.symm⟩)
  rw [look_del_ne hne]; exact hv p (hs p hp)
theorem takes (h : Rel d r) (hi : D.Inv d) {k : ByteArray} (hk : (kget k d.m).isSome = true) : Rel (d.takes k) (r.takes k) := by
  have hm := (h.mem hi k).2 hk
  have hnd := h.nodup hi
  rw [List.nodup_append] at hnd
  have v1 : ∀ p ∈ r.l1, kget p.1 d.m = some (.int .i64 p.2) := fun p hp => h.vals p (List.mem_append_left _ hp)
  have v2 : ∀ p ∈ r.l2, kget p.1 d.m = some (.int .i64 p.2) := fun p hp => h.vals p (List.mem_append_right _ hp)
  unfold RD.takes D.takes
  simp only
  by_cases h1 : k ∈ RD.kys r.l1
  · have hb := D.mem_b1 hi (h.k1.mem_iff.1 h1)
    have hpos := D.pos_of_mem hb
    have h2 : k ∉ RD.kys r.l2 := fun h2 => hnd.2.2 k h1 k h2 rfl
    rw [if_pos h1, if_pos hb]
    have hp := erase_keys h1
    have hn1 : k ∉ RD.kys (r.l1.eraseIdx (RD.ix r.l1 k)) := (List.nodup_cons.1 (hp.nodup_iff.2 hnd.1)).1
    refine ⟨h.seed, by simp [h.n1], h.n2, h.idx, ?_, h.k2, fun p hp => ?_⟩
    · exact List.Perm.cons_inv ((hp.trans h.k1).trans (leaveB_perm hpos hb).symm)
    · rcases List.mem_append.1 hp with hp | hp
      · exact vals_del (fun p hp => List.mem_of_mem_eraseIdx hp) hn1 v1 p hp
      · exact vals_del (fun p hp => hp) h2 v2 p hp
  · have h2 := hm.resolve_left h1
    have hb := D.mem_b2 hi (h.k2.mem_iff.1 h2)
    have hpos := D.pos_of_mem hb
    have hno : k ∉ bucket d.b1 (slot d.seed k d.b1.length) := fun hb1 => h1 (h.k1.mem_iff.2 (mem_flatten_bucket.2 ⟨_, slot_lt _ _ (D.pos_of_mem hb1), hb1⟩))
    rw [if_neg h1, if_neg hno]
    have hp := erase_keys h2
    have hn2 : k ∉ RD.kys (r.l2.eraseIdx (RD.ix r.l2 k)) := (List.nodup_cons.1 (hp.nodup_iff.2 hnd.2.1)).1
    refine ⟨h.seed, h.n1, by simp [h.n2], h.idx, h.k1, ?_, fun p hp => ?_⟩
    · exact List.Perm.cons_inv ((hp.trans h.k2).trans (leaveB_perm hpos hb).symm)
    · rcases List.mem_append.1 hp with hp | hp
      · exact vals_del (fun p hp => hp) h1 v1 p hp
      · exact vals_del (fun p hp => List.mem_of_mem_eraseIdx hp) hn2 v2 p hp
theorem shrinks (h : Rel d r) : Rel d.shrinks r.shrinks := by
  have hl := h.len1
  unfold D.shrinks RD.shrinks
  by_cases hc : ¬ 0 < r.n2 ∧ 4 < r.n1 ∧ 8 * r.l1.length ≤ r.n1
  · have hm : d.b2 = [] := List.eq_nil_of_length_eq_zero (by rw [← h.n2]; omega)
    rw [if_pos hc, if_pos (show (!d.moves && decide (4 < d.b1.length) && decide (used d.b1 ≤ d.b1.length / 8)) = true by
      rw [D.moves_iff'.2 hm, ← h.n1, ← hl]
      have := hc.2
      simp only [Bool.not_false, Bool.true_and, Bool.and_eq_true, decide_eq_true_eq]
      omega), hl]
    exact h.begins hm _
  · rw [if_neg hc, if_neg (show ¬ (!d.moves && decide (4 < d.b1.length) && decide (used d.b1 ≤ d.b1.length / 8)) = true from fun hb => hc ?_)]
    · exact h
    · simp only [Bool.and_eq_true, Bool.not_eq_true', decide_eq_true_eq] at hb
      obtain ⟨⟨b1, b2⟩, b3⟩ := hb
      rw [← h.n1] at b2 b3
      rw [← hl] at b3
      refine ⟨?_, b2, by omega⟩
      rw [h.n2, D.moves_iff'.1 b1]; decide
theorem delete (h : Rel d r) (hi : D.Inv d) (k : ByteArray) : Rel (d.delete k).1 (r.delete k).1 ∧ (d.delete k).2 = (r.delete k).2 := by
  have h1 := h.step hi
  have hm := h1.mem hi.step k
  unfold D.delete RD.delete RD.delete0
  by_cases hk : (kget k d.step.m).isSome = true
  · rw [if_pos hk, if_pos (hm.2 hk)]
    exact ⟨((h1.takes hi.step hk).over).shrinks, rfl⟩
  · rw [if_neg hk, if_neg (fun hh => hk (hm.1 hh))]
    exact ⟨h1, rfl⟩
theorem keys (h : Rel d r) (hi : D.Inv d) : r.keys = sortS (d.m.map (·.1)) := by
  unfold RD.keys RD.kys
  rw [List.map_append]
  exact sortS_eq ((h.k1.append h.k2).trans hi.keys)
theorem len (h : Rel d r) (hi : D.Inv d) : r.l1.length + r.l2.length = d.m.length := by
  rw [h.len1, h.len2]; exact hi.used_le
theorem tables (h : Rel d r) : r.tables = if d.moves then ((d.b1.length : Int), (d.b2.length : Int), (d.idx : Int)) else (d.b1.length, 0, -1) := by
  unfold RD.tables D.moves
  rw [h.n1, h.n2, h.idx]
  by_cases hc : 0 < d.b2.length
  · rw [if_pos hc, if_pos (by simpa using hc)]
  · rw [if_neg hc, if_neg (by simpa using hc)]
theorem inB (h : Rel d r) {b : Bks} {l : List It} (hk : (RD.kys l).Perm b.flatten) (hp : D.Placed d.seed b) {i : Nat} (hi : i < b.length) : r.inB l b.length i = sortS (bucket b i) := by
  unfold RD.inB
  rw [h.seed]
  exact sortS_eq (goes_perm hk hp hi)
theorem visitL (h : Rel d r) {lg : Bks} {l : List It} {kL kS : Nat} (hlen : lg.length = 2 ^ kL) (hk : (RD.kys l).Perm lg.flatten) (hp : D.Placed d.seed lg) : ∀ (f c : Nat), r.visitL l kL kS f c = VC.visitL lg kL kS f c
  | 0, c => rfl
  | f + 1, c => by
    unfold RD.visitL VC.visitL
    have := h.inB hk hp (i := c % 2 ^ kL) (by rw [hlen]; exact Nat.mod_lt _ (pow_pos' kL))
    rw [hlen] at this
    rw [this, visitL h hlen hk hp f]
theorem two (h : Rel d r) {sm lg : Bks} {ls ll : List It} {kL kS : Nat} (hS : sm.length = 2 ^ kS) (hL : lg.length = 2 ^ kL) (k1 : (RD.kys ls).Perm sm.flatten) (k2 : (RD.kys ll).Perm lg.flatten) (p1 : D.Placed d.seed sm) (p2 : D.Placed d.seed lg) (c : Nat) :
    r.two sm.length ls lg.length ll c = VC.two sm lg c := by
  unfold RD.two VC.two
  rw [h.inB k1 p1 (Nat.mod_lt _ (by rw [hS]; exact pow_pos' kS))]
  rw [visitL h (lg := lg) (kL := Nat.log2 lg.length) (by rw [hL, log2_pow]) k2 p2]
theorem visit (h : Rel d r) (hi : D.Inv d) (hb : d.b1 ≠ []) (c : Nat) : r.visit c = d.visit c := by
  obtain ⟨k1, _, _, hk1⟩ := hi.p1.resolve_left hb
  unfold RD.visit D.visit
  by_cases hm : d.b2 = []
  · rw [if_neg (show ¬ 0 < r.n2 by rw [h.n2, hm]; decide), if_neg (by rw [D.moves_iff'.2 hm]; decide), h.n1, h.inB h.k1 hi.w1 (Nat.mod_lt _ (by rw [hk1]; exact pow_pos' k1))]
  · obtain ⟨k2, _, _, hk2⟩ := hi.p2.resolve_left hm
    rw [if_pos (show 0 < r.n2 by rw [h.n2]; exact List.length_pos_iff.2 hm), if_pos (D.moves_iff.2 hm), h.n1, h.n2]
    split
    · exact h.two hk2 hk1 h.k2 h.k1 hi.w2 hi.w1 c
    · exact h.two hk1 hk2 h.k1 h.k2 hi.w1 hi.w2 c
end Rel
end Go.VC
