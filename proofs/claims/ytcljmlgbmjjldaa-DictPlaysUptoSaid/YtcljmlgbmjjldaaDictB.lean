/- The dict in plain words: how full the tables are; how long a move lasts. -/
import Derived.Test.YtcljmlgbmjjldaaDictI
namespace Go.VC
open Go
set_option linter.unusedVariables false
set_option linter.unusedSimpArgs false
/-- how many buckets hold a key -/
def fulls (b : Bks) : Nat := (b.filter fun x => !x.isEmpty).length
theorem fulls_le (b : Bks) : fulls b ≤ b.length := List.length_filter_le _ _
theorem fulls_le_used (b : Bks) : fulls b ≤ used b := by
  induction b with
  | nil => exact Nat.le_refl _
  | cons x b ih =>
    unfold fulls used at *
    simp only [List.filter_cons, List.map_cons, List.sum_cons]
    cases x with
    | nil => simpa using ih
    | cons y x => simp; omega
theorem fulls_clear {b : Bks} {i : Nat} (h : i < b.length) (hne : bucket b i ≠ []) : fulls (b.set i []) + 1 = fulls b := by
  induction b generalizing i with
  | nil => simp at h
  | cons x b ih =>
    cases i with
    | zero =>
      have hx : x ≠ [] := by simpa [bucket] using hne
      unfold fulls
      cases x with
      | nil => exact absurd rfl hx
      | cons y x => simp
    | succ i =>
      have := ih (i := i) (by simpa using h) (by simpa [bucket] using hne)
      unfold fulls at *
      simp only [List.set_cons_succ, List.filter_cons]
      split <;> simp_all
theorem fulls_set_le {b : Bks} {i : Nat} {x : List ByteArray} (hx : bucket b i = [] → x = []) : fulls (b.set i x) ≤ fulls b := by
  induction b generalizing i with
  | nil => simp [fulls]
  | cons y b ih =>
    cases i with
    | zero =>
      unfold fulls
      simp only [List.set_cons_zero, List.filter_cons]
      cases y with
      | nil => rw [hx (by simp [bucket])]; exact Nat.le_refl _
      | cons z y => cases x <;> simp
    | succ i =>
      have := ih (i := i) (fun h => hx (by simpa [bucket] using h))
      unfold fulls at *
      simp only [List.set_cons_succ, List.filter_cons]
      split <;> simp_all
theorem fulls_pos {b : Bks} (h : 0 < used b) : 0 < fulls b := by
  obtain ⟨j, hj, hb⟩ := D.exists_full h
  have := fulls_clear hj hb
  omega
theorem fulls_replicate (n : Nat) : fulls (List.replicate n []) = 0 := by
  unfold fulls; rw [List.length_eq_zero_iff, List.filter_eq_nil_iff]
  intro x hx; rw [List.eq_of_mem_replicate hx]; simp
namespace D
/-- s keys may still be set -/
structure Bal (d : D) (s : Nat) : Prop where
  rest : d.b2 = [] → d.m.length + s ≤ 2 * d.b1.length + s * 1
  mv : d.b2 ≠ [] → d.m.length + fulls d.b1 + s ≤ 2 * d.b2.length
theorem Bal.ends {d : D} {s : Nat} (h : Bal d s) : Bal d.ends 0 ∧ (d.ends.b2 ≠ [] → Bal d.ends s) := by
  unfold D.ends
  split
  · rename_i hc
    simp only [Bool.and_eq_true, beq_iff_eq] at hc
    have h2 := moves_iff.1 hc.1
    have := h.mv h2
    exact ⟨⟨fun _ => by simp; omega, fun hn => absurd rfl hn⟩, fun hn => absurd rfl hn⟩
  · exact ⟨⟨fun e => by have := h.rest e; omega, fun e => by have := h.mv e; omega⟩, fun _ => h⟩
theorem Bal.step {d : D} (h : Bal d 0) (hi : Inv d) : Bal d.step 0 ∧ (d.step.b2 ≠ [] → Bal d.step 1) := by
  by_cases hm : d.b2 = []
  · rw [step_eq' hm]; exact ⟨h, fun e => absurd hm e⟩
  · rw [step_eq hm]
    obtain ⟨h1, h2, h3, h4⟩ := at1_spec hi hm
    have hc := fulls_clear h2 h3
    have hb := h.mv hm
    have hm2 : d.moved.b2.length = d.b2.length := by simp [D.moved]
    refine Bal.ends ⟨fun e => ?_, fun e => ?_⟩
    · rw [e] at hm2; exact absurd (List.eq_nil_of_length_eq_zero hm2.symm) hm
    · rw [hm2]; show d.m.length + fulls (d.b1.set d.at1 []) + 1 ≤ _; omega
theorem Bal.steps {d : D} (h : Bal d 0) (hi : Inv d) (n : Nat) : Bal (d.steps n) 0 := by
  induction n generalizing d with
  | zero => exact h
  | succ n ih =>
    unfold D.steps
    split
    · exact ih (h.step hi).1 hi.step
    · exact h
theorem pow_pos4 {n : Nat} (h : Pow n) : 4 ≤ n := by
  obtain ⟨k, h1, _, rfl⟩ := h
  exact Nat.le_trans (by decide) (Nat.pow_le_pow_right (n := 2) (by omega) h1)
theorem Bal.set {d : D} (h : Bal d 0) (hi : Inv d) {k : ByteArray} {v : Value} (hf : k.size < 9223372036854775808) (hbig : d.m.length < 549755813888) : Bal (d.set k v).1 0 := by
  have hs := h.step hi
  have his := hi.step
  unfold D.set
  split
  · rename_i hk
    have hl : (upd k v d.step.m).length = d.step.m.length := by rw [upd_length, if_pos hk]
    exact ⟨fun e => by show (upd k v d.step.m).length + 0 ≤ _; rw [hl]; exact hs.1.rest e, fun e => by show (upd k v d.step.m).length + _ + 0 ≤ _; rw [hl]; exact hs.1.mv e⟩
  · rename_i hk
    have hn : kget k d.step.m = none := by simpa using hk
    have hl : (d.step.puts k v).m.length = d.step.m.length + 1 := by show (upd k v d.step.m).length = _; rw [upd_none hn]; simp
    have hI := his.puts_new (v := v) hn hf
    have hul := hI.used_le
    have hb1 : (d.step.puts k v).b1 = d.step.b1 := rfl
    have hb2 : (d.step.puts k v).b2 = d.step.b2 := rfl
    have hr := hs.1.rest
    have hmv : d.step.b2 ≠ [] → (d.step.m.length + fulls d.step.b1 + 1 ≤ 2 * d.step.b2.length) := fun e => (hs.2 e).mv e
    have key : ∀ d2 : D, d2.m.length = d.step.m.length + 1 → (d2.b2 = [] → d2.b1 ≠ [] ∧ d2.m.length ≤ 2 * d2.b1.length) → (d2.b2 ≠ [] → d2.m.length + fulls d2.b1 ≤ 2 * d2.b2.length) → Bal (d2.joins k) 0 := by
      intro d2 e1 e2 e3
      unfold joins
      split
      · rename_i hm
        have hm' := moves_iff.1 hm
        refine ⟨fun e => ?_, fun _ => ?_⟩
        · have := congrArg List.length e; simp at this; exact absurd this hm'
        · have := e3 hm'; simpa using this
      · rename_i hm
        have hm' := moves_iff'.1 (by simpa using hm)
        refine ⟨fun _ => ?_, fun e => absurd hm' e⟩
        have := (e2 hm').2; simpa using this
    refine key _ (by
      have : ∀ d : D, d.grows.m = d.m := fun d => by unfold grows; split; rfl; split; exact ends_m _; rfl
      rw [this, hl]) ?_ ?_
    all_goals unfold grows
    all_goals split
    · rename_i h0
      intro _
      have h1 : d.step.b1 = [] := List.eq_nil_of_length_eq_zero h0
      have := hr (his.e h1)
      have h0' : d.step.m.length ≤ 0 := by rw [h1] at this; exact this
      refine ⟨by simp, ?_⟩
      show (d.step.puts k v).m.length ≤ 2 * (List.replicate 4 ([] : List ByteArray)).length
      rw [hl, List.length_replicate]; omega
    · rename_i h0
      have hne : d.step.b1 ≠ [] := fun e => h0 (by rw [hb1, e]; rfl)
      have h4 := pow_pos4 (his.p1.resolve_left hne)
      split
      · rename_i hc
        simp only [Bool.and_eq_true, Bool.not_eq_true', decide_eq_true_eq] at hc
        intro e
        exfalso
        have hu : ¬ used (d.step.puts k v).b1 = 0 := by omega
        unfold D.begins D.ends at e
        rw [if_neg (by simp [moves]; omega)] at e
        have := congrArg List.length e
        simp at this; rw [hb1] at this; exact hne (List.eq_nil_of_length_eq_zero (by omega))
      · rename_i hc
        intro e
        simp only [moves_iff'.2 e, Bool.not_false, Bool.true_and, decide_eq_true_eq] at hc
        refine ⟨hne, ?_⟩
        have h2 : used (d.step.puts k v).b2 = 0 := by rw [e]; rfl
        simp at hul
        omega
    · rename_i h0
      intro e
      have h1 : d.step.b1 = [] := List.eq_nil_of_length_eq_zero h0
      exact absurd (his.e h1) e
    · rename_i h0
      have hne : d.step.b1 ≠ [] := fun e => h0 (by rw [hb1, e]; rfl)
      have h4 := pow_pos4 (his.p1.resolve_left hne)
      split
      · rename_i hc
        simp only [Bool.and_eq_true, Bool.not_eq_true', decide_eq_true_eq] at hc
        intro _
        have hm := moves_iff'.1 hc.1
        have := hr (by rw [← hb2]; exact hm)
        have hfl := fulls_le (d.step.puts k v).b1
        unfold D.begins D.ends
        rw [if_neg (by simp [moves]; omega)]
        show (d.step.puts k v).m.length + fulls (d.step.puts k v).b1 ≤ 2 * (List.replicate (2 * (d.step.puts k v).b1.length) []).length
        rw [hl, List.length_replicate]
        rw [hb1] at hfl ⊢
        omega
      · intro e
        have := hmv e
        rw [hl, hb1, hb2]; omega
theorem Bal.delete {d : D} (h : Bal d 0) (hi : Inv d) (k : ByteArray) : Bal (d.delete k).1 0 := by
  have hs := h.step hi
  unfold D.delete
  split
  · rename_i hk
    have hti := takes_spec hi.step hk
    have hlen : (del k d.step.m).length ≤ d.step.m.length := del_sub.length_le
    have ht : Bal (d.step.takes k) 0 := by
      unfold takes
      simp only
      split
      · refine ⟨fun e => ?_, fun e => ?_⟩
        · have := hs.1.rest e; simp only [leaveB_length]; omega
        · have := hs.1.mv e
          have hfl : fulls (leaveB d.step.seed d.step.b1 k) ≤ fulls d.step.b1 := fulls_set_le fun e => by rw [e]; rfl
          simp only; omega
      · refine ⟨fun e => ?_, fun e => ?_⟩
        · have e2 : d.step.b2 = [] := by
            have := congrArg List.length e; simp at this; exact this
          have := hs.1.rest e2; simp only; omega
        · have e2 : d.step.b2 ≠ [] := fun e2 => e (by simp [e2, leaveB])
          have := hs.1.mv e2; simp only [leaveB_length]; omega
    have he := ht.ends.1
    have hei := hti.ends
    have hfin := hei.1.toInv hei.2
    generalize (d.step.takes k).ends = d2 at he hfin
    unfold shrinks
    split
    · rename_i hc
      simp only [Bool.and_eq_true, Bool.not_eq_true', decide_eq_true_eq] at hc
      have hm := moves_iff'.1 hc.1.1
      have hul := hfin.used_le
      have h2 : used d2.b2 = 0 := by rw [hm]; rfl
      have hb : d2.b1 ≠ [] := fun e => by rw [e] at hc; simp at hc
      obtain ⟨j, hj1, hj2, hj3⟩ := hfin.p1.resolve_left hb
      have hle : 2 ^ j ≤ 2 ^ 40 := Nat.pow_le_pow_right (by omega) hj2
      obtain ⟨i, i1, i2, i3, i4⟩ := shrunk_spec (used d2.b1) 64 2 (by
        have : (2 : Nat) ^ 40 ≤ 2 ^ (2 + 64) := Nat.pow_le_pow_right (by omega) (by omega)
        omega)
      have i5 : used d2.b1 ≤ shrunk (used d2.b1) 64 4 := by rw [show (4 : Nat) = 2 ^ 2 from rfl, i3]; exact i4
      have hfl := fulls_le_used d2.b1
      refine (Bal.ends (d := { d2 with b2 := List.replicate (shrunk (used d2.b1) 64 4) [], idx := 0 }) (s := 0) ⟨fun e => ?_, fun _ => ?_⟩).1
      · have := he.rest hm; exact this
      · simp only [List.length_replicate]; omega
    · exact he
  · exact hs.1
/-- a Set of a key that is there goes one step on -/
theorem set_there {d : D} {k : ByteArray} {v : Value} (hk : (kget k d.m).isSome) : (d.set k v).1 = d.step.puts k v := by
  unfold D.set; rw [if_pos (by rw [step_m]; exact hk)]
/-- behind i Sets of a key that is there, where a move has begun: it goes on, or has ended -/
structure Going (a b i : Nat) (d : D) : Prop where
  on : d.b2 ≠ [] → d.b1.length = a ∧ d.b2.length = b ∧ i ≤ d.idx
  off : d.b2 = [] → d.b1.length = b
theorem Going.set {a b i : Nat} {d : D} (h : Going a b i d) (hi : Inv d) {k : ByteArray} {v : Value} (hk : (kget k d.m).isSome) : Going a b (i + 1) (d.set k v).1 := by
  rw [set_there hk]
  by_cases hm : d.b2 = []
  · rw [step_eq' hm]
    exact ⟨fun e => absurd hm e, fun _ => h.off hm⟩
  · obtain ⟨h1, h2, h3⟩ := h.on hm
    obtain ⟨g1, g2, g3, g4⟩ := at1_spec hi hm
    rw [step_eq hm]
    have hm2 : d.moved.b2.length = d.b2.length := by simp [D.moved]
    have hm1 : d.moved.b1.length = d.b1.length := by simp [D.moved]
    unfold D.ends
    split
    · exact ⟨fun e => absurd rfl e, fun _ => by show d.moved.b2.length = b; omega⟩
    · refine ⟨fun _ => ⟨by show d.moved.b1.length = a; omega, by show d.moved.b2.length = b; omega, by show i + 1 ≤ d.at1 + 1; omega⟩, fun e => ?_⟩
      have e' : d.moved.b2 = [] := e
      rw [e'] at hm2; exact absurd (List.eq_nil_of_length_eq_zero hm2.symm) hm
/-- a move has ended behind as many Sets as its first table had buckets -/
theorem Going.done {a b : Nat} {d : D} (h : Going a b a d) (hi : Inv d) : d.b2 = [] ∧ d.b1.length = b := by
  refine Classical.byContradiction fun hn => ?_
  have hm : d.b2 ≠ [] := fun e => hn ⟨e, h.off e⟩
  obtain ⟨h1, h2, h3⟩ := h.on hm
  obtain ⟨g1, g2, g3, g4⟩ := at1_spec hi hm
  omega
theorem Bal.new (seed : Int) : Bal (D.new seed) 0 := ⟨fun _ => by simp [D.new], fun e => absurd rfl e⟩
end D
end Go.VC
