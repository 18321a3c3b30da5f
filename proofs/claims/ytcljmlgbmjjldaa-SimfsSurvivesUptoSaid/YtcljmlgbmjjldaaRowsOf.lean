/- Rows of rows of strings, in memory of the program's own; over any program. -/
import Derived.Test.YtcljmlgbmjjldaaMaps
import Derived.Test.YtcljmlgbmjjldaaWords
import Derived.Sort.EncStr
import Derived.Laws.IdiomCopy
namespace Go.VC
open Go Go.RowKit
set_option linter.unusedVariables false
set_option linter.unusedSimpArgs false

abbrev Str := ByteArray
def strs (l : List Str) : List Value := l.map Value.string
@[simp] theorem strs_length (l : List Str) : (strs l).length = l.length := by simp [strs]
theorem strs_append (a b : List Str) : strs (a ++ b) = strs a ++ strs b := by simp [strs]
theorem strs_get {l : List Str} {i : Nat} {s : Str} (h : l[i]? = some s) : (strs l)[i]? = some (.string s) := by simp [strs, h]

/-- fewer cells of a row -/
theorem Own.shrink {w : World} {e : TypeId} {A : Option Addr} {n c m : Nat} {xs : List Value} (h : Own w e (.slice A n c) n xs) (hm : m ≤ n) : Own w e (.slice A m c) m (xs.take m) := by
  have hl := h.len
  refine ⟨by simp; omega, ?_⟩
  rcases h.2 with ⟨h0, hn⟩ | ⟨g, cap, cur, hv, hb, hh, h1, h2, h3, h4⟩
  · injection h0 with e1 e2 e3
    subst e1; subst e3
    exact .inl ⟨by rw [show m = 0 by omega], by omega⟩
  · injection hv with e1 e2 e3
    subst e1; subst e3
    exact .inr ⟨g, c, cur, rfl, hb, hh, by omega, h2, h3, by rw [← h4, List.take_take]; congr 1; omega⟩
/-- a row that is written over from its head on -/
theorem Own.setCells {e : TypeId} {g c : Nat} : ∀ (vs : List Value) (o : Nat) (w : World) (xs : List Value) (n : Nat), Own w e (.slice (some ⟨g, 0, none⟩) n c) n xs → o + vs.length ≤ n →
    Own (w.setCells g o vs) e (.slice (some ⟨g, 0, none⟩) n c) n (xs.take o ++ vs ++ xs.drop (o + vs.length)) ∧ Chg (fun b => b = g) w (w.setCells g o vs)
  | [], o, w, xs, n, h, hn => by
    simp only [World.setCells, List.append_nil, List.length_nil, Nat.add_zero, List.take_append_drop]
    exact ⟨h, Chg.refl _ w⟩
  | v :: vs, o, w, xs, n, h, hn => by
    simp only [List.length_cons] at hn
    obtain ⟨h1, h2⟩ := h.set (i := o) (x := v) (by omega) rfl
    obtain ⟨h3, h4⟩ := Own.setCells vs (o + 1) _ _ n h1 (by omega)
    have hl := h.len
    refine ⟨?_, h2.trans' h4⟩
    have he : (xs.set o v).take (o + 1) ++ vs ++ (xs.set o v).drop (o + 1 + vs.length) = xs.take o ++ v :: vs ++ xs.drop (o + (v :: vs).length) := by
      rw [List.drop_set_of_lt (by omega), List.take_set, List.take_succ_eq_append_getElem (by omega)]
      rw [List.set_append_right _ _ (by simp; omega)]
      simp only [List.length_take, List.append_assoc, List.length_cons]
      rw [Nat.min_eq_left (by omega)]
      simp [Nat.add_comm, Nat.add_left_comm]
    rw [← he]; exact h3
theorem Own.over {e : TypeId} {g c n : Nat} {w : World} {xs vs : List Value} (h : Own w e (.slice (some ⟨g, 0, none⟩) n c) n xs) (hl : vs.length = n) :
    Own (w.setCells g 0 vs) e (.slice (some ⟨g, 0, none⟩) n c) n vs ∧ Chg (fun b => b = g) w (w.setCells g 0 vs) := by
  have := Own.setCells vs 0 w xs n h (by omega)
  have hx := h.len
  rwa [List.take_zero, List.nil_append, List.drop_eq_nil_of_le (by omega), List.append_nil] at this

/-! ### Rows of rows -/
/-- eS: the type of a cell of an inner row -/
structure RowsAt (eS : TypeId) (w : World) (vs : List Value) (bs : List (List Str)) : Prop where
  len : vs.length = bs.length
  own : ∀ (i : Nat) (v : Value) (b : List Str), vs[i]? = some v → bs[i]? = some b → Own w eS v b.length (strs b)
  sep : ∀ (i j : Nat) (vi vj : Value) (b : Nat), vs[i]? = some vi → vs[j]? = some vj → vi.ownBlock = some b → vj.ownBlock = some b → i = j
def blks (vs : List Value) (b : Nat) : Prop := ∃ (i : Nat) (v : Value), vs[i]? = some v ∧ v.ownBlock = some b
theorem RowsAt.chg {eS : TypeId} {F : Nat → Prop} {w w' : World} {vs : List Value} {bs : List (List Str)} (h : RowsAt eS w vs bs) (hc : Chg F w w') (hn : ∀ b, blks vs b → ¬ F b) : RowsAt eS w' vs bs :=
  ⟨h.len, fun i v b hv hb => (h.own i v b hv hb).chg hc fun x hx => hn x ⟨i, v, hv, hx⟩, h.sep⟩
theorem RowsAt.get {eS : TypeId} {w : World} {vs : List Value} {bs : List (List Str)} (h : RowsAt eS w vs bs) {i : Nat} {b : List Str} (hb : bs[i]? = some b) : ∃ v, vs[i]? = some v ∧ Own w eS v b.length (strs b) := by
  have hi : i < vs.length := by rw [h.len]; exact (List.getElem?_eq_some_iff.1 hb).1
  exact ⟨vs[i], List.getElem?_eq_getElem hi, h.own i _ b (List.getElem?_eq_getElem hi) hb⟩
/-- one of the rows is another one now -/
theorem RowsAt.put {eS : TypeId} {w w' : World} {vs : List Value} {bs : List (List Str)} (h : RowsAt eS w vs bs) {F : Nat → Prop} (hc : Chg F w w') {i : Nat} {v v' : Value} {b' : List Str} (hv : vs[i]? = some v)
    (hF : ∀ b, F b → v.ownBlock = some b ∨ ¬ blks vs b) (ho : Own w' eS v' b'.length (strs b')) (hn : ∀ b, v'.ownBlock = some b → v.ownBlock = some b ∨ w.heap.size ≤ b) :
    RowsAt eS w' (vs.set i v') (bs.set i b') := by
  have hi : i < vs.length := (List.getElem?_eq_some_iff.1 hv).1
  have hlt : ∀ (j : Nat) (u : Value) (x : Nat), vs[j]? = some u → u.ownBlock = some x → x < w.heap.size := fun j u x hu hx => by
    have hj : j < bs.length := by rw [← h.len]; exact (List.getElem?_eq_some_iff.1 hu).1
    exact (h.own j u _ hu (List.getElem?_eq_getElem hj)).lt hx
  refine ⟨by simp [h.len], fun j u b hu hb => ?_, fun j k uj uk b hj hk hbj hbk => ?_⟩
  · rw [List.getElem?_set] at hu hb
    by_cases hij : i = j
    · subst hij
      simp only [if_true, hi, show i < bs.length by rw [← h.len]; exact hi, Option.some.injEq] at hu hb
      subst hu; subst hb; exact ho
    · simp only [if_neg hij] at hu hb
      refine (h.own j u b hu hb).chg hc fun x hx hfx => ?_
      rcases hF x hfx with h1 | h1
      · exact hij (h.sep i j v u x hv hu h1 hx)
      · exact h1 ⟨j, u, hu, hx⟩
  · rw [List.getElem?_set] at hj hk
    by_cases hij : i = j
    · by_cases hik : i = k
      · exact hij ▸ hik ▸ rfl
      · subst hij
        simp only [if_true, hi, Option.some.injEq] at hj
        simp only [if_neg hik] at hk
        subst hj
        rcases hn b hbj with h1 | h1
        · exact absurd (h.sep i k v uk b hv hk h1 hbk) hik
        · have := hlt k uk b hk hbk; omega
    · by_cases hik : i = k
      · subst hik
        simp only [if_neg hij] at hj
        simp only [if_true, hi, Option.some.injEq] at hk
        subst hk
        rcases hn b hbk with h1 | h1
        · exact absurd (h.sep i j v uj b hv hj h1 hbj) hij
        · have := hlt j uj b hj hbj; omega
      · simp only [if_neg hij] at hj
        simp only [if_neg hik] at hk
        exact h.sep j k uj uk b hj hk hbj hbk
theorem blks_put {vs : List Value} {i : Nat} {v v' : Value} {w : World} (hv : vs[i]? = some v) (hn : ∀ b, v'.ownBlock = some b → v.ownBlock = some b ∨ w.heap.size ≤ b) {b : Nat} (h : blks (vs.set i v') b) : blks vs b ∨ w.heap.size ≤ b := by
  obtain ⟨j, u, hu, hx⟩ := h
  rw [List.getElem?_set] at hu
  by_cases hij : i = j
  · subst hij
    have hi : i < vs.length := (List.getElem?_eq_some_iff.1 hv).1
    simp only [if_true, hi, Option.some.injEq] at hu
    subst hu
    exact (hn b hx).imp (fun h1 => ⟨i, v, hv, h1⟩) id
  · simp only [if_neg hij] at hu
    exact .inl ⟨j, u, hu, hx⟩

/-- a table: a row of rows, all in blocks of its own. F: these blocks -/
structure Tab (eS eR : TypeId) (w : World) (s : Value) (bs : List (List Str)) (F : Nat → Prop) : Prop where
  ex : ∃ vs, Own w eR s bs.length vs ∧ RowsAt eS w vs bs ∧ ∀ b, F b ↔ (s.ownBlock = some b ∨ blks vs b)
theorem Tab.nil (eS eR : TypeId) (w : World) : Tab eS eR w (.slice none 0 0) [] (fun _ => False) :=
  ⟨[], Own.nil w eR, ⟨rfl, fun i v b h => by simp at h, fun i j vi vj b h => by simp at h⟩, fun b => by simp [Value.ownBlock, blks]⟩
theorem Tab.chg {eS eR : TypeId} {w w' : World} {s : Value} {bs : List (List Str)} {F G : Nat → Prop} (h : Tab eS eR w s bs F) (hc : Chg G w w') (hn : ∀ b, F b → ¬ G b) : Tab eS eR w' s bs F := by
  obtain ⟨vs, h1, h2, h3⟩ := h.ex
  exact ⟨vs, h1.chg hc fun b hb => hn b ((h3 b).2 (.inl hb)), h2.chg hc fun b hb => hn b ((h3 b).2 (.inr hb)), h3⟩
theorem Tab.lt {eS eR : TypeId} {w : World} {s : Value} {bs : List (List Str)} {F : Nat → Prop} (h : Tab eS eR w s bs F) {b : Nat} (hb : F b) : b < w.heap.size := by
  obtain ⟨vs, h1, h2, h3⟩ := h.ex
  rcases (h3 b).1 hb with h4 | ⟨i, v, hv, hx⟩
  · exact h1.lt h4
  · exact (h2.own i v _ hv (List.getElem?_eq_getElem (by rw [← h2.len]; exact (List.getElem?_eq_some_iff.1 hv).1))).lt hx
theorem Tab.slice {eS eR : TypeId} {w : World} {s : Value} {bs : List (List Str)} {F : Nat → Prop} (h : Tab eS eR w s bs F) : ∃ A c, s = .slice A bs.length c := by
  obtain ⟨vs, h1, h2, h3⟩ := h.ex
  exact h1.slice
theorem Tab.blk_ne {eS eR t : TypeId} {w : World} {s : Value} {bs : List (List Str)} {F : Nat → Prop} {g : Nat} {cs : Array Value} {fr : Nat × Nat} (h : Tab eS eR w s bs F) (hb : w.heap[g]? = some (.cells cs t fr)) (h1 : eS ≠ t) (h2 : eR ≠ t) : ¬ F g := by
  intro hf
  obtain ⟨vs, k1, k2, k3⟩ := h.ex
  rcases (k3 g).1 hf with h4 | ⟨i, v, hv, hx⟩
  · exact k1.blk_ne hb h2 h4
  · exact (k2.own i v _ hv (List.getElem?_eq_getElem (by rw [← k2.len]; exact (List.getElem?_eq_some_iff.1 hv).1))).blk_ne hb h1 hx
theorem Tab.map_ne {eS eR : TypeId} {w : World} {s : Value} {bs : List (List Str)} {F : Nat → Prop} {r : Nat} {es : Array MapEntry} {c : Nat} (h : Tab eS eR w s bs F) (hb : w.heap[r]? = some (.map es c)) : ¬ F r := by
  intro hf
  obtain ⟨vs, k1, k2, k3⟩ := h.ex
  rcases (k3 r).1 hf with h4 | ⟨i, v, hv, hx⟩
  · exact k1.map_ne hb h4
  · exact (k2.own i v _ hv (List.getElem?_eq_getElem (by rw [← k2.len]; exact (List.getElem?_eq_some_iff.1 hv).1))).map_ne hb hx
/-- a bucket of a table -/
theorem Tab.at {eS eR : TypeId} (hne : eS ≠ eR) {w : World} {s : Value} {bs : List (List Str)} {F : Nat → Prop} (h : Tab eS eR w s bs F) {i : Nat} {b : List Str} (hb : bs[i]? = some b) :
    ∃ G c v, s = .slice (some ⟨G, 0, none⟩) bs.length c ∧ F G ∧ w.cell? ⟨G, i, none⟩ = some v ∧ w.frozen? ⟨G, i, none⟩ = false ∧ Own w eS v b.length (strs b) ∧ (∀ x, v.ownBlock = some x → F x ∧ x ≠ G) ∧
      ∀ (w' : World) (v' : Value) (b' : List Str) (H : Nat → Prop), Chg H w w' → (∀ x, H x → v.ownBlock = some x ∨ ¬ F x) → Own w' eS v' b'.length (strs b') → (∀ x, v'.ownBlock = some x → v.ownBlock = some x ∨ w.heap.size ≤ x) →
        ∃ F', Tab eS eR (w'.setCell ⟨G, i, none⟩ v') s (bs.set i b') F' ∧ (∀ x, F' x → F x ∨ w.heap.size ≤ x) := by
  obtain ⟨vs, k1, k2, k3⟩ := h.ex
  obtain ⟨v, hv, ho⟩ := k2.get hb
  obtain ⟨G, c, cur, hs, hh, hc, hcell, hfr⟩ := k1.at hv
  have hG : F G := (k3 G).2 (.inl (by rw [hs]; rfl))
  have hvG : ∀ x, v.ownBlock = some x → F x ∧ x ≠ G := fun x hx => ⟨(k3 x).2 (.inr ⟨i, v, hv, hx⟩), fun e => by
    subst e; exact ho.type_ne k1 hne hx (by rw [hs]; rfl)⟩
  refine ⟨G, c, v, hs, hG, hcell, hfr, ho, hvG, fun w' v' b' H hH hHF ho' hn => ?_⟩
  have hnH : ∀ x, F x → v.ownBlock ≠ some x → ¬ H x := fun x hx hne hxh => (hHF x hxh).elim hne fun h1 => h1 hx
  have k1' : Own w' eR s bs.length vs := k1.chg hH fun x hx => hnH x ((k3 x).2 (.inl hx)) fun e => ho.type_ne k1 hne e hx
  have hrow : RowsAt eS w' (vs.set i v') (bs.set i b') := k2.put hH hv (fun x hx => (hHF x hx).imp id fun h1 h2 => h1 ((k3 x).2 (.inr h2))) ho' hn
  have hi : i < bs.length := (List.getElem?_eq_some_iff.1 hb).1
  rw [hs] at k1'
  obtain ⟨k4, k5⟩ := k1'.set (i := i) (x := v') hi rfl
  refine ⟨fun x => x = G ∨ blks (vs.set i v') x, ⟨vs.set i v', ?_, ?_, fun x => ?_⟩, fun x hx => ?_⟩
  · rw [hs]; simpa using k4
  · refine hrow.chg k5 fun x hx hxe => ?_
    subst hxe
    obtain ⟨j, u, hu, hux⟩ := hx
    have hj : j < (bs.set i b').length := by rw [← hrow.len]; exact (List.getElem?_eq_some_iff.1 hu).1
    exact (hrow.own j u _ hu (List.getElem?_eq_getElem hj)).type_ne k1' hne hux rfl
  · rw [hs]; simp only [Value.ownBlock, Option.some.injEq]; exact or_congr_left eq_comm
  · rcases hx with rfl | hx
    · exact .inl hG
    · exact (blks_put hv hn hx).imp (fun h1 => (k3 x).2 (.inr h1)) id
end Go.VC
