/- The dict in plain words: chains of visits. -/
import Derived.Test.YtcljmlgbmjjldaaDictG
namespace Go.VC
open Go
set_option linter.unusedVariables false
set_option linter.unusedSimpArgs false
theorem nodup_len {α : Type} [BEq α] [LawfulBEq α] : ∀ {l m : List α}, l.Nodup → (∀ x ∈ l, x ∈ m) → l.length ≤ m.length
  | [], m, _, _ => Nat.zero_le _
  | x :: l, m, hn, hs => by
    rw [List.nodup_cons] at hn
    have hx := hs x (List.mem_cons_self ..)
    have h1 := nodup_len (m := m.erase x) hn.2 fun y hy => by
      have hne : y ≠ x := fun e => hn.1 (e ▸ hy)
      exact (List.mem_erase_of_ne hne).2 (hs y (List.mem_cons_of_mem _ hy))
    rw [List.length_erase_of_mem hx] at h1
    have := List.length_pos_of_mem hx
    simp only [List.length_cons]; omega
theorem nodup_app {α : Type} {l m : List α} (h1 : l.Nodup) (h2 : m.Nodup) (h : ∀ x ∈ l, x ∉ m) : (l ++ m).Nodup := by
  rw [List.nodup_append]
  exact ⟨h1, h2, fun a ha b hb e => h a ha (e ▸ hb)⟩
theorem bucket_nodup {b : Bks} (hn : b.flatten.Nodup) (i : Nat) : (bucket b i).Nodup := by
  by_cases hi : i < b.length
  · exact List.Nodup.sublist (List.sublist_flatten_of_mem (List.mem_of_getElem? (bucket_get hi))) hn
  · rw [bucket_out (by omega)]; exact List.nodup_nil
theorem seg_nodup {seed : Int} {b : Bks} {k : Nat} (hl : b.length = 2 ^ k) (hp : D.Placed seed b) (hn : b.flatten.Nodup) : ∀ (n r : Nat), r + n ≤ 2 ^ k → (seg b k r (r + n)).Nodup
  | 0, r, _ => by unfold seg; simp
  | n + 1, r, h => by
    rw [show r + (n + 1) = (r + n) + 1 by omega, ← seg_split b k (show r ≤ r + n by omega) (show r + n ≤ r + n + 1 by omega), seg_one]
    refine nodup_app (seg_nodup hl hp hn n r (by omega)) ((sortS_perm _).nodup_iff.2 (bucket_nodup hn _)) fun x hx hy => ?_
    have h1 := (mem_seg_placed hl hp (by omega)).1 hx
    rw [← seg_one] at hy
    have h2 := (mem_seg_placed hl hp (by omega)).1 hy
    omega
namespace D
/-- the keys of a dict -/
abbrev ks (d : D) : List ByteArray := d.m.map (·.1)
theorem visit_nodup {d : D} (hi : Inv d) (hb : d.b1 ≠ []) (c : Nat) : (d.visit c).1.Nodup := by
  have hall : (d.b1.flatten ++ d.b2.flatten).Nodup := hi.keys.nodup_iff.2 hi.nd
  by_cases hm : d.b2 = []
  · obtain ⟨k, k1, k2, k3, k4⟩ := visit_one hi hb hm
    rw [k4]
    exact seg_nodup k1 hi.w1 (List.nodup_append.1 hall).1 1 _ (by have := pos_lt k c; omega)
  · obtain ⟨sm, lg, kS, n, h⟩ := visit_two hi hm
    have hp := pos_lt kS c
    have hle : (pos kS c + 1) * 2 ^ n ≤ 2 ^ (kS + n) := by rw [Nat.pow_add]; exact Nat.mul_le_mul_right _ hp
    have hall2 : (sm.flatten ++ lg.flatten).Nodup := h.keys.nodup_iff.2 hi.nd
    rw [List.nodup_append] at hall2
    rw [h.seg]
    refine nodup_app (seg_nodup h.hS h.wS hall2.1 1 _ (by omega)) ?_ fun x hx hy => ?_
    · by_cases hlt : pos (kS + n) c ≤ (pos kS c + 1) * 2 ^ n
      · obtain ⟨e, he⟩ := Nat.le.dest hlt
        rw [← he]
        exact seg_nodup h.hL h.wL hall2.2.1 e _ (by omega)
      · unfold VC.seg; rw [Nat.sub_eq_zero_of_le (by omega)]; simp
    · exact hall2.2.2 x ((mem_seg_placed h.hS h.wS (by omega)).1 hx).1 x ((mem_seg_placed h.hL h.wL hle).1 hy).1 rfl
theorem visit_at {d : D} (hi : Inv d) (hb : d.b1 ≠ []) {c : Nat} {x : ByteArray} (hx : x ∈ (d.visit c).1) : pos d.bits (hashOf d.seed x) = pos d.bits c := by
  by_cases hm : d.b2 = []
  · obtain ⟨k, k1, k2, k3, k4⟩ := visit_one hi hb hm
    rw [k4] at hx
    have := (mem_seg_placed k1 hi.w1 (by have := pos_lt k c; omega)).1 hx
    rw [k3]; omega
  · obtain ⟨sm, lg, kS, n, h⟩ := visit_two hi hm
    have hp := pos_lt kS c
    have hle : (pos kS c + 1) * 2 ^ n ≤ 2 ^ (kS + n) := by rw [Nat.pow_add]; exact Nat.mul_le_mul_right _ hp
    rw [h.seg] at hx
    rw [h.bits]
    rcases List.mem_append.1 hx with hx | hx
    · have := (mem_seg_placed h.hS h.wS (by omega)).1 hx
      omega
    · obtain ⟨_, h1, h2⟩ := (mem_seg_placed h.hL h.wL hle).1 hx
      rw [pos_div kS n (hashOf d.seed x)]
      have h3 := pos_div kS n c
      have h4 : pos (kS + n) c / 2 ^ n ≤ pos (kS + n) (hashOf d.seed x) / 2 ^ n := Nat.div_le_div_right h1
      have h5 : pos (kS + n) (hashOf d.seed x) / 2 ^ n < pos kS c + 1 := (Nat.div_lt_iff_lt_mul (pow_pos' n)).2 h2
      omega
/-- visits, one behind the other -/
inductive Scanned (d : D) : Nat → List ByteArray → Nat → Prop
  | one (c : Nat) : Scanned d c (d.visit c).1 (d.visit c).2
  | more {c : Nat} {ks : List ByteArray} {c' : Nat} (h0 : (d.visit c).2 ≠ 0) (h : Scanned d (d.visit c).2 ks c') : Scanned d c ((d.visit c).1 ++ ks) c'
theorem pos_next0 {d : D} (hi : Inv d) (hb : d.b1 ≠ []) {c : Nat} (h : (d.visit c).2 ≠ 0) : pos d.bits (d.visit c).2 = pos d.bits c + 1 := by
  have h1 := rest_next hi hb h
  unfold rest at h1
  have := pos_lt d.bits c
  have := pos_lt d.bits (d.visit c).2
  omega
theorem scanL_scanned {d : D} (hi : Inv d) (hb : d.b1 ≠ []) {n : Int} : ∀ (f c : Nat) (out : List ByteArray), d.rest c ≤ f → ∃ ks c', d.scanL n f c out = (out ++ ks, c') ∧ Scanned d c ks c'
  | 0, c, out, h => by have := rest_pos d c; omega
  | f + 1, c, out, h => by
    unfold scanL
    split
    · exact ⟨_, _, rfl, .one c⟩
    · rename_i hn
      have h0 : (d.visit c).2 ≠ 0 := fun e => hn (.inl e)
      have hr := rest_next hi hb h0
      obtain ⟨ks, c', e, hs⟩ := scanL_scanned hi hb f (d.visit c).2 (out ++ (d.visit c).1) (by omega)
      exact ⟨(d.visit c).1 ++ ks, c', by rw [e, List.append_assoc], .more h0 hs⟩
theorem scan_scanned {d : D} (hi : Inv d) (hb : d.b1 ≠ []) (c n : Int) : Scanned d (max 0 c).toNat (d.scan c n).1 (d.scan c n).2 := by
  unfold scan
  rw [if_neg (by simpa using hb)]
  have hle : d.rest (max 0 c).toNat ≤ d.b1.length := by
    have h1 := (visit_pos hi hb 0).2.2.2
    unfold rest; omega
  obtain ⟨ks, c', e, hs⟩ := scanL_scanned hi hb (n := n) d.b1.length (max 0 c).toNat [] hle
  rw [e]; simpa using hs
theorem Scanned.spec {d : D} (hi : Inv d) (hb : d.b1 ≠ []) {c : Nat} {l : List ByteArray} {c' : Nat} (h : Scanned d c l c') :
    l.Nodup ∧ (∀ x ∈ l, x ∈ d.ks ∧ pos d.bits c ≤ pos d.bits (hashOf d.seed x) ∧ (c' = 0 ∨ pos d.bits (hashOf d.seed x) < pos d.bits c')) ∧ c' < 2 ^ d.bits ∧ (c' = 0 ∨ pos d.bits c < pos d.bits c') := by
  induction h with
  | one c =>
    refine ⟨visit_nodup hi hb c, fun x hx => ⟨visit_sound hi hb hx, by rw [visit_at hi hb hx]; exact Nat.le_refl _, ?_⟩, (visit_pos hi hb c).1, ?_⟩
    · by_cases h0 : (d.visit c).2 = 0
      · exact .inl h0
      · right; rw [visit_at hi hb hx, pos_next0 hi hb h0]; omega
    · by_cases h0 : (d.visit c).2 = 0
      · exact .inl h0
      · right; rw [pos_next0 hi hb h0]; omega
  | @more c ks c' h0 h ih =>
    obtain ⟨i1, i2, i3, i4⟩ := ih
    have hp := pos_next0 hi hb h0
    refine ⟨nodup_app (visit_nodup hi hb c) i1 fun x hx hy => ?_, fun x hx => ?_, i3, i4.imp id fun h => by omega⟩
    · have := (i2 x hy).2.1
      have := visit_at hi hb hx
      omega
    · rcases List.mem_append.1 hx with hx | hx
      · have := visit_at hi hb hx
        exact ⟨visit_sound hi hb hx, by omega, i4.imp id fun h => by omega⟩
      · obtain ⟨j1, j2, j3⟩ := i2 x hx
        exact ⟨j1, by omega, j3⟩
theorem Scanned.all {d : D} (hi : Inv d) (hb : d.b1 ≠ []) {c : Nat} {l : List ByteArray} {c' : Nat} (h : Scanned d c l c') {x : ByteArray} (hx : x ∈ d.ks) :
    place c ≤ place (hashOf d.seed x) → (c' = 0 ∨ place (hashOf d.seed x) < place c') → x ∈ l := by
  have hlt := place_lt (hashOf d.seed x)
  induction h with
  | one c =>
    intro h1 h2
    refine visit_complete hi hb hx h1 ?_
    rcases visit_next hi hb c with ⟨e1, e2⟩ | ⟨e1, e2⟩
    · omega
    · rw [← e2]; exact h2.resolve_left e1
  | @more c ks c' h0 h ih =>
    intro h1 h2
    rcases visit_next hi hb c with ⟨e1, e2⟩ | ⟨e1, e2⟩
    · exact absurd e1 h0
    · by_cases hl : place (hashOf d.seed x) < place (d.visit c).2
      · exact List.mem_append_left _ (visit_complete hi hb hx h1 (by rw [← e2]; exact hl))
      · exact List.mem_append_right _ (ih (by omega) h2)
theorem Scanned.len {d : D} (hi : Inv d) (hb : d.b1 ≠ []) {c : Nat} {l : List ByteArray} {c' : Nat} (h : Scanned d c l c') : l.length ≤ d.m.length := by
  obtain ⟨h1, h2, _⟩ := h.spec hi hb
  have := nodup_len h1 fun x hx => (h2 x hx).1
  simpa using this
theorem scan_len {d : D} (hi : Inv d) (c n : Int) : (d.scan c n).1.length ≤ d.m.length := by
  by_cases hb : d.b1 = []
  · unfold scan; rw [if_pos (by simp [hb])]; exact Nat.zero_le _
  · exact (scan_scanned hi hb c n).len hi hb

/-- what has been met of a dict that does not change -/
structure Part (d : D) (c : Nat) (met : List ByteArray) : Prop where
  nd : met.Nodup
  old : ∀ x ∈ met, x ∈ d.ks ∧ pos d.bits (hashOf d.seed x) < pos d.bits c
  all : ∀ x ∈ d.ks, place (hashOf d.seed x) < place c → x ∈ met
theorem Part.start (d : D) : Part d 0 [] := ⟨List.nodup_nil, fun x hx => by (cases hx), fun x _ h => by rw [place_zero] at h; omega⟩
theorem Part.len {d : D} {c : Nat} {met : List ByteArray} (h : Part d c met) : met.length ≤ d.m.length := by
  have := nodup_len h.nd fun x hx => (h.old x hx).1
  simpa using this
theorem Part.whole {d : D} (hi : Inv d) (hb : d.b1 ≠ []) {c : Nat} {met l : List ByteArray} (h : Part d c met) (hs : Scanned d c l 0) : (met ++ l).length = d.m.length ∧ ∀ x ∈ d.ks, x ∈ met ++ l := by
  obtain ⟨h1, h2, _, _⟩ := hs.spec hi hb
  have hall : ∀ x ∈ d.ks, x ∈ met ++ l := fun x hx => by
    by_cases hp : place (hashOf d.seed x) < place c
    · exact List.mem_append_left _ (h.all x hx hp)
    · exact List.mem_append_right _ (hs.all hi hb hx (by omega) (.inl rfl))
  have hnd : (met ++ l).Nodup := nodup_app h.nd h1 fun x hx hy => by
    have := (h.old x hx).2
    have := (h2 x hy).2.1
    omega
  have hle := nodup_len hnd fun x hx => (List.mem_append.1 hx).elim (fun hx => (h.old x hx).1) fun hx => (h2 x hx).1
  have hge := nodup_len hi.nd hall
  simp only [List.length_map] at hle hge
  exact ⟨by omega, hall⟩
theorem Part.next {d : D} (hi : Inv d) (hb : d.b1 ≠ []) {c : Nat} {met l : List ByteArray} {c' : Nat} (h : Part d c met) (hs : Scanned d c l c') (h0 : c' ≠ 0) : Part d c' (met ++ l) ∧ pos d.bits c < pos d.bits c' := by
  obtain ⟨h1, h2, _, h4⟩ := hs.spec hi hb
  have h4 := h4.resolve_left h0
  refine ⟨⟨nodup_app h.nd h1 fun x hx hy => ?_, fun x hx => ?_, fun x hx hp => ?_⟩, h4⟩
  · have := (h.old x hx).2
    have := (h2 x hy).2.1
    omega
  · rcases List.mem_append.1 hx with hx | hx
    · obtain ⟨j1, j2⟩ := h.old x hx
      exact ⟨j1, by omega⟩
    · obtain ⟨j1, j2, j3⟩ := h2 x hx
      exact ⟨j1, j3.resolve_left h0⟩
  · by_cases hp' : place (hashOf d.seed x) < place c
    · exact List.mem_append_left _ (h.all x hx hp')
    · exact List.mem_append_right _ (hs.all hi hb hx (by omega) (.inr hp))
end D
end Go.VC
