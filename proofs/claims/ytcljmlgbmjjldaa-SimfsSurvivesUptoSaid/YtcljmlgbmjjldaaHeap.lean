/- Worlds that differ in some blocks alone; struct blocks, rows, appends, look-ups: lemmas over any program. -/
import Derived.Test.YtcljmlgbmjjldaaVC
import Derived.Below
import Derived.Laws.AppendOwn
import Derived.Deep.AppendSrc
namespace Go.VC
open Go Go.RowKit
set_option linter.unusedVariables false
set_option linter.unusedSimpArgs false

/-- the blocks of F may have been written; the rest is as it was -/
structure Chg (F : Nat → Prop) (w w' : World) : Prop where
  os : w'.os = w.os
  tape : w'.tape = w.tape
  output : w'.output = w.output
  size : w.heap.size ≤ w'.heap.size
  block : ∀ b, b < w.heap.size → ¬ F b → w'.heap[b]? = w.heap[b]?

theorem Chg.refl (F : Nat → Prop) (w : World) : Chg F w w := ⟨rfl, rfl, rfl, Nat.le_refl _, fun _ _ _ => rfl⟩
theorem Chg.trans {F G : Nat → Prop} {a b c : World} (h : Chg F a b) (k : Chg G b c) (hg : ∀ x, G x → F x ∨ a.heap.size ≤ x) : Chg F a c :=
  ⟨k.os.trans h.os, k.tape.trans h.tape, k.output.trans h.output, Nat.le_trans h.size k.size, fun x hx hn =>
    (k.block x (Nat.lt_of_lt_of_le hx h.size) (fun hgx => (hg x hgx).elim hn (fun hle => by omega))).trans (h.block x hx hn)⟩
theorem Chg.trans' {F : Nat → Prop} {a b c : World} (h : Chg F a b) (k : Chg F b c) : Chg F a c := h.trans k fun _ => .inl
theorem Chg.mono {F G : Nat → Prop} {a b : World} (h : Chg F a b) (hg : ∀ x, F x → G x) : Chg G a b :=
  ⟨h.os, h.tape, h.output, h.size, fun x hx hn => h.block x hx fun hf => hn (hg x hf)⟩
/-- what is written was not there at the start -/
theorem Chg.newer {F G : Nat → Prop} {a b : World} (h : Chg F a b) (hg : ∀ x, F x → G x ∨ a.heap.size ≤ x) : Chg G a b :=
  ⟨h.os, h.tape, h.output, h.size, fun x hx hn => h.block x hx fun hf => (hg x hf).elim hn (fun hle => by omega)⟩
theorem Chg.drawn {F : Nat → Prop} {a b c : World} (h : Chg F a b) (k : Drawn b c) : Chg F a c := by
  obtain ⟨n, rfl⟩ := k; exact ⟨h.os, h.tape, h.output, h.size, h.block⟩
theorem Drawn.chg {a b : World} (F : Nat → Prop) (k : Drawn a b) : Chg F a b := (Chg.refl F a).drawn k
theorem Chg.blk {F : Nat → Prop} {w w' : World} (h : Chg F w w') {g : Nat} {o : Obj} (hb : w.heap[g]? = some o) (hn : ¬ F g) : w'.heap[g]? = some o :=
  (h.block g (Array.getElem?_eq_some_iff.1 hb).1 hn).trans hb
theorem Chg.ext {w w' : World} (h : Chg (fun _ => False) w w') : Ext w w' := ⟨h.size, fun b hb => h.block b hb id⟩
theorem Chg.extB {F : Nat → Prop} {w w' : World} (h : Chg F w w') : ExtB F w w' := ⟨h.size, fun b hb hn => h.block b hb hn⟩
theorem Chg.below {w w' : World} (h : Chg (fun _ => False) w w') : Below w.heap.size w w' := ⟨h.os, h.tape, h.output, h.size, fun b hb => h.block b hb id⟩
theorem Chg.of_below {w w' : World} (h : Below w.heap.size w w') (F : Nat → Prop) : Chg F w w' := ⟨h.os, h.tape, h.output, h.size, fun b hb _ => h.block b hb⟩
theorem Chg.of_grown {w w' : World} {row : Option Nat} (h : w.grownBy w' row) : Chg (fun b => row = some b) w w' :=
  ⟨h.os, h.tape, h.output, h.size, fun b hb hn => h.block b hb fun e => hn e.symm⟩
theorem Chg.alloc (F : Nat → Prop) (w : World) (o : Obj) : Chg F w (w.alloc o) := ⟨rfl, rfl, rfl, by simp, fun b hb _ => Below.heap_alloc _ _ _ hb⟩
theorem Chg.setCell (w : World) (g i : Nat) (v : Value) : Chg (fun b => b = g) w (w.setCell ⟨g, i, none⟩ v) :=
  ⟨rfl, rfl, rfl, by simp [World.setCell], fun b _ hn => Below.heap_setCell _ _ _ _ hn⟩
theorem Drawn.heap {w w' : World} (h : Drawn w w') : w'.heap = w.heap := by obtain ⟨n, rfl⟩ := h; rfl
theorem Drawn.blk {w w' : World} (h : Drawn w w') {g : Nat} {o : Obj} (hb : w.heap[g]? = some o) : w'.heap[g]? = some o := by rw [h.heap]; exact hb
theorem Drawn.own {w w' : World} (h : Drawn w w') {base : Nat} {e : TypeId} {size : Nat} {v : Value} {n : Nat} {xs : List Value} (ho : w.ownsRow base e size v n xs) : w'.ownsRow base e size v n xs := by
  obtain ⟨n, rfl⟩ := h; exact ho

/-! ### Blocks of cells -/
theorem add_mk (b o n : Nat) : (⟨b, o, none⟩ : Addr).add n = ⟨b, o + n, none⟩ := by
  unfold Addr.add; split
  · rename_i h; subst h; rfl
  · rfl
theorem cell_blk {w : World} {g i : Nat} {cs : Array Value} {t : TypeId} {fr : Nat × Nat} {v : Value} (hb : w.heap[g]? = some (.cells cs t fr)) (hi : cs[i]? = some v) : w.cell? ⟨g, i, none⟩ = some v := by
  simp [World.cell?, hb, hi]
theorem frozen_blk {w : World} {g i : Nat} {cs : Array Value} {t : TypeId} (hb : w.heap[g]? = some (.cells cs t (0, 0))) : w.frozen? ⟨g, i, none⟩ = false := by
  simp [World.frozen?, hb]
theorem set_blk {w : World} {g : Nat} {cs : Array Value} {t : TypeId} {fr : Nat × Nat} (i : Nat) (v : Value) (hb : w.heap[g]? = some (.cells cs t fr)) :
    (w.setCell ⟨g, i, none⟩ v).heap[g]? = some (.cells (cs.setIfInBounds i v) t fr) := by
  simp [World.setCell, Array.getElem?_modify, hb]
theorem new_blk (w : World) (o : Obj) : (w.alloc o).heap[w.heap.size]? = some o := by
  show (w.heap.push o)[w.heap.size]? = _
  simp
theorem lt_blk {w : World} {g : Nat} {o : Obj} (hb : w.heap[g]? = some o) : g < w.heap.size := (Array.getElem?_eq_some_iff.1 hb).1

/-- a store into a struct's block -/
theorem store_blk {w w1 : World} {g i : Nat} {cs : Array Value} {t : TypeId} {v : Value} (hb : w.heap[g]? = some (.cells cs t (0, 0))) (hw : w1 = w.setCell ⟨g, i, none⟩ v) :
    w1.heap[g]? = some (.cells (cs.setIfInBounds i v) t (0, 0)) ∧ Chg (fun b => b = g) w w1 := by
  subst hw; exact ⟨set_blk i v hb, Chg.setCell w g i v⟩

/-! ### Rows of the program's own -/
/-- the cells of a row: nil, or a block from its head on -/
abbrev Own (w : World) (e : TypeId) (v : Value) (n : Nat) (xs : List Value) : Prop := w.ownsRow 0 e 1 v n xs
theorem Own.len {w : World} {e : TypeId} {v : Value} {n : Nat} {xs : List Value} (h : Own w e v n xs) : xs.length = n := by simpa using h.1
theorem Own.slice {w : World} {e : TypeId} {v : Value} {n : Nat} {xs : List Value} (h : Own w e v n xs) : ∃ A c, v = .slice A n c := by
  rcases h.2 with ⟨rfl, rfl⟩ | ⟨g, cap, cur, rfl, _⟩
  · exact ⟨none, 0, rfl⟩
  · exact ⟨_, _, rfl⟩
theorem Own.nil (w : World) (e : TypeId) : Own w e (.slice none 0 0) 0 [] := World.ownsRow_nil w 0 e 1
theorem Own.chg {F : Nat → Prop} {w w' : World} {e : TypeId} {v : Value} {n : Nat} {xs : List Value} (h : Own w e v n xs) (hc : Chg F w w') (hn : ∀ b, v.ownBlock = some b → ¬ F b) : Own w' e v n xs := by
  obtain ⟨h1, h2⟩ := h
  refine ⟨h1, ?_⟩
  rcases h2 with h2 | ⟨g, cap, cur, rfl, hb, hh, r⟩
  · exact .inl h2
  · exact .inr ⟨g, cap, cur, rfl, hb, hc.blk hh (hn g rfl), r⟩
theorem Own.type_ne {w : World} {e e' : TypeId} {v v' : Value} {n n' : Nat} {xs xs' : List Value} (h : Own w e v n xs) (h' : Own w e' v' n' xs') (hne : e ≠ e') {b : Nat} (hb : v.ownBlock = some b) : v'.ownBlock ≠ some b := by
  intro hb'
  rcases h.2 with ⟨rfl, _⟩ | ⟨g, cap, cur, rfl, _, hh, _⟩
  · simp [Value.ownBlock] at hb
  · rcases h'.2 with ⟨rfl, _⟩ | ⟨g', cap', cur', rfl, _, hh', _⟩
    · simp [Value.ownBlock] at hb'
    · simp only [Value.ownBlock, Option.some.injEq] at hb hb'
      subst hb; subst hb'
      rw [hh] at hh'
      injection hh' with hh'
      injection hh' with _ ht
      exact hne ht
theorem Own.blk_ne {w : World} {e t : TypeId} {v : Value} {n : Nat} {xs : List Value} {g : Nat} {cs : Array Value} {fr : Nat × Nat} (h : Own w e v n xs) (hb : w.heap[g]? = some (.cells cs t fr)) (hne : e ≠ t) : v.ownBlock ≠ some g := by
  intro hb'
  rcases h.2 with ⟨rfl, _⟩ | ⟨g', cap, cur, rfl, _, hh, _⟩
  · simp [Value.ownBlock] at hb'
  · simp only [Value.ownBlock, Option.some.injEq] at hb'
    subst hb'
    rw [hh] at hb
    injection hb with hb
    injection hb with _ ht
    exact hne ht
theorem Own.map_ne {w : World} {e : TypeId} {v : Value} {n : Nat} {xs : List Value} {r : Nat} {es : Array MapEntry} {c : Nat} (h : Own w e v n xs) (hb : w.heap[r]? = some (.map es c)) : v.ownBlock ≠ some r := by
  intro hb'
  rcases h.2 with ⟨rfl, _⟩ | ⟨g', cap, cur, rfl, _, hh, _⟩
  · simp [Value.ownBlock] at hb'
  · simp only [Value.ownBlock, Option.some.injEq] at hb'
    subst hb'
    rw [hh] at hb
    injection hb with hb
    cases hb
theorem Own.lt {w : World} {e : TypeId} {v : Value} {n : Nat} {xs : List Value} (h : Own w e v n xs) {b : Nat} (hb : v.ownBlock = some b) : b < w.heap.size := (World.ownsRow.lt h b hb).2
/-- an element of a row, where the row is not empty -/
theorem Own.at {w : World} {e : TypeId} {v : Value} {n : Nat} {xs : List Value} (h : Own w e v n xs) {i : Nat} {x : Value} (hi : xs[i]? = some x) :
    ∃ g c cur, v = .slice (some ⟨g, 0, none⟩) n c ∧ w.heap[g]? = some (.cells cur e (0, 0)) ∧ cur[i]? = some x ∧ w.cell? ⟨g, i, none⟩ = some x ∧ w.frozen? ⟨g, i, none⟩ = false := by
  have hl := h.len
  have hlt : i < xs.length := (List.getElem?_eq_some_iff.1 hi).1
  rcases h.2 with ⟨rfl, h0⟩ | ⟨g, cap, cur, rfl, _, hh, h1, h2, h3, h4⟩
  · omega
  · have hc : cur[i]? = some x := by
      rw [← h4] at hi
      rw [List.getElem?_take] at hi
      split at hi
      · simpa using hi
      · cases hi
    exact ⟨g, cap, cur, rfl, hh, hc, cell_blk hh hc, frozen_blk hh⟩
theorem take_set {α : Type} (l : List α) (n i : Nat) (x : α) : (l.set i x).take n = (l.take n).set i x := by
  induction l generalizing n i with
  | nil => simp
  | cons a l ih => cases n <;> cases i <;> simp [ih]
/-- a store into a row -/
theorem Own.set {w w1 : World} {e : TypeId} {g n c : Nat} {xs : List Value} (h : Own w e (.slice (some ⟨g, 0, none⟩) n c) n xs) {i : Nat} {x : Value} (hi : i < n) (hw : w1 = w.setCell ⟨g, i, none⟩ x) :
    Own w1 e (.slice (some ⟨g, 0, none⟩) n c) n (xs.set i x) ∧ Chg (fun b => b = g) w w1 := by
  subst hw
  refine ⟨⟨by simpa using h.1, ?_⟩, Chg.setCell w g i x⟩
  rcases h.2 with ⟨h0, _⟩ | ⟨g', cap, cur, hv, hb, hh, h1, h2, h3, h4⟩
  · cases h0
  · injection hv with e1 e2 e3
    injection e1 with e1
    injection e1 with e1
    subst e1; subst e3
    refine .inr ⟨g, c, _, rfl, hb, set_blk i x hh, h1, h2, by simpa using h3, ?_⟩
    rw [← h4]
    simp [take_set]
/-- append -/
theorem Own.append {P : Program} {w : World} {t ty e : TypeId} {i : TypeInfo} {z : Value} (ht : P.underlying t = some (.slice e)) (hi : P.info? e = some i) (hz : i.zero = some z) (hs : i.size = 1) (hzs : z.cells.size = 1)
    {v : Value} {n : Nat} {xs : List Value} (h : Own w e v n xs) {a : Addr} {m c : Nat} {news : List Value} (hl : news.length = m) (hnews : ∀ j u, news[j]? = some u → w.cell? (a.add j) = some u) (h1 : ∀ u ∈ news, u.oneCell' = true)
    (hb' : (n + m) * i.bytes ≤ 140737488355328) (h63 : n + m ≤ 1152921504606846976) (cs : Array Bool) :
    ∃ A' c' w', (builtin .append #[t, t] ty cs #[v, .slice (some a) m c]).run P w = .ok (.value (.slice A' (n + m) c')) w' ∧ Own w' e (.slice A' (n + m) c') (n + m) (xs ++ news) ∧ Chg (fun b => v.ownBlock = some b) w w' ∧
      (∀ b, (Value.slice A' (n + m) c').ownBlock = some b → v.ownBlock = some b ∨ w.heap.size ≤ b) := by
  obtain ⟨v', w', hr, ho, hg, hn⟩ := run_append_own (P := P) w 0 t ty e i z 1 i.bytes ht hi hz hs rfl hzs (by omega) v n xs h a m c news (by omega) hnews h1 (by unfold maxLen; omega) hb' (Nat.zero_le _)
  obtain ⟨A', c', rfl⟩ := Own.slice ho
  refine ⟨A', c', w', by simp only [builtin]; exact run_v hr, ho, Chg.of_grown hg, fun b hb => ?_⟩
  rcases h.2 with ⟨rfl, rfl⟩ | ⟨g, cap, cur, rfl, hbg, hg', hnc, hcm, hcs, htake⟩
  · have hx : xs = [] := List.eq_nil_of_length_eq_zero (by simpa using h.1)
    subst hx
    obtain ⟨v2, w2, hr2, ho2, _, _⟩ := run_append_own (P := P) w w.heap.size t ty e i z 1 i.bytes ht hi hz hs rfl hzs (by omega) (.slice none 0 0) 0 [] (World.ownsRow_nil w _ e 1) a m c news (by omega) hnews h1 (by unfold maxLen; omega) hb' (Nat.le_refl _)
    rw [hr] at hr2
    injection hr2 with e1 e2
    subst e1; subst e2
    exact .inr (World.ownsRow.lt ho2 b hb).1
  · by_cases hroom : n + m ≤ cap
    · have hfit : n * i.size + news.length ≤ cur.size := by rw [hs]; omega
      have hr2 := run_append_room (P := P) w t ty e i ht hi g n cap cur hg' a m c news (by rw [hs]; omega) hnews h1 hroom hfit
      rw [hr] at hr2
      injection hr2 with e1 e2
      injection e1 with e1 _ _
      subst e1
      exact .inl hb
    · have holds : ∀ j u, xs[j]? = some u → w.cell? ((⟨g, 0, none⟩ : Addr).add j) = some u := World.ownsRow.cells h (g := g) rfl
      have hr2 := run_append_grow (P := P) w t ty e i z ht hi hz ⟨g, 0, none⟩ n cap xs (by rw [hs]; exact h.1) holds a m c news (by rw [hs]; omega) hnews (by omega) (by omega) (growslice_fits (by omega) hb')
      rw [hr] at hr2
      injection hr2 with e1 e2
      injection e1 with e1 _ _
      subst e1
      simp only [Value.ownBlock, Option.some.injEq] at hb
      exact .inr (by omega)
end Go.VC
