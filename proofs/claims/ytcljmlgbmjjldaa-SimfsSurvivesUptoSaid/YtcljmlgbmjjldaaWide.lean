/- Rows whose elements have several cells; stores of several cells: lemmas over any program. -/
import Derived.Test.YtcljmlgbmjjldaaAppends
namespace Go.VC
open Go Go.RowKit
set_option linter.unusedVariables false
set_option linter.unusedSimpArgs false
/-! ### Stores of several cells -/
def putN (cs : Array Value) (o : Nat) : List Value → Array Value
  | [] => cs
  | v :: vs => putN (cs.setIfInBounds o v) (o + 1) vs
theorem putN_size (vs : List Value) : ∀ (cs : Array Value) (o : Nat), (putN cs o vs).size = cs.size := by
  induction vs with
  | nil => intro cs o; rfl
  | cons v vs ih => intro cs o; simp only [putN]; rw [ih]; simp
theorem notAgg_of {v : Value} {p : Prop} (h : v.oneCell' = true) (hp : p) : notAgg v p := by
  cases v <;> first | exact hp | simp [Value.oneCell'] at h
theorem storeN_at {g : Nat} {t : TypeId} {o : Nat} : ∀ (vs : List Value) (i : Nat) (w : World) (cs : Array Value) (K : World → Prop), w.heap[g]? = some (.cells cs t (0, 0)) → o + i + vs.length ≤ cs.size → (∀ v ∈ vs, v.oneCell' = true) →
    (∀ w', w'.heap[g]? = some (.cells (putN cs (o + i) vs) t (0, 0)) → Chg (fun b => b = g) w w' → K w') → storeN ⟨g, o, none⟩ vs i w K
  | [], i, w, cs, K, hb, _, _, hK => hK w hb (Chg.refl _ _)
  | v :: vs, i, w, cs, K, hb, hl, h1, hK => by
    simp only [List.length_cons] at hl
    have hi : o + i < cs.size := by omega
    unfold storeN
    rw [add_mk]
    refine notAgg_of (h1 v (List.mem_cons_self ..)) ⟨⟨_, cell_blk hb (Array.getElem?_eq_getElem hi)⟩, frozen_blk hb, ?_⟩
    obtain ⟨k1, k2⟩ := store_blk (i := o + i) (v := v) hb rfl
    refine storeN_at vs (i + 1) _ _ K k1 (by simp; omega) (fun u hu => h1 u (List.mem_cons_of_mem _ hu)) fun w' h2 h3 => hK w' ?_ (k2.trans' h3)
    rw [show o + (i + 1) = o + i + 1 by omega] at h2; exact h2
theorem storeN_blk {w : World} {g o : Nat} {cs : Array Value} {t : TypeId} {vs : List Value} {K : World → Prop} (hb : w.heap[g]? = some (.cells cs t (0, 0))) (hl : o + vs.length ≤ cs.size) (h1 : (vs.all fun v => v.oneCell') = true)
    (hK : ∀ w', w'.heap[g]? = some (.cells (putN cs o vs) t (0, 0)) → Chg (fun b => b = g) w w' → K w') : storeN ⟨g, o, none⟩ vs 0 w K :=
  storeN_at vs 0 w cs K hb (by omega) (fun v hv => List.all_eq_true.1 h1 v hv) hK

/-! ### Rows -/
abbrev OwnW (w : World) (e : TypeId) (z : Nat) (v : Value) (n : Nat) (xs : List Value) : Prop := w.ownsRow 0 e z v n xs
section
variable {w : World} {e : TypeId} {z : Nat} {v : Value} {n : Nat} {xs : List Value}
theorem OwnW.len (h : OwnW w e z v n xs) : xs.length = n * z := h.1
theorem OwnW.slice (h : OwnW w e z v n xs) : ∃ A c, v = .slice A n c := by
  rcases h.2 with ⟨rfl, rfl⟩ | ⟨g, cap, cur, rfl, _⟩
  · exact ⟨none, 0, rfl⟩
  · exact ⟨_, _, rfl⟩
theorem OwnW.nil (w : World) (e : TypeId) (z : Nat) : OwnW w e z (.slice none 0 0) 0 [] := World.ownsRow_nil w 0 e z
theorem OwnW.chg {F : Nat → Prop} {w' : World} (h : OwnW w e z v n xs) (hc : Chg F w w') (hn : ∀ b, v.ownBlock = some b → ¬ F b) : OwnW w' e z v n xs := by
  obtain ⟨h1, h2⟩ := h
  refine ⟨h1, ?_⟩
  rcases h2 with h2 | ⟨g, cap, cur, rfl, hb, hh, r⟩
  · exact .inl h2
  · exact .inr ⟨g, cap, cur, rfl, hb, hc.blk hh (hn g rfl), r⟩
theorem OwnW.lt (h : OwnW w e z v n xs) {b : Nat} (hb : v.ownBlock = some b) : b < w.heap.size := (World.ownsRow.lt h b hb).2
theorem OwnW.blk_ne {t : TypeId} {g : Nat} {cs : Array Value} {fr : Nat × Nat} (h : OwnW w e z v n xs) (hb : w.heap[g]? = some (.cells cs t fr)) (hne : e ≠ t) : v.ownBlock ≠ some g := by
  intro hb'
  rcases h.2 with ⟨rfl, _⟩ | ⟨g', cap, cur, rfl, _, hh, _⟩
  · simp [Value.ownBlock] at hb'
  · simp only [Value.ownBlock, Option.some.injEq] at hb'
    subst hb'
    rw [hh] at hb
    injection hb with hb
    injection hb with _ ht
    exact hne ht
theorem OwnW.at (h : OwnW w e z v n xs) {i : Nat} {x : Value} (hi : xs[i]? = some x) :
    ∃ g c, v = .slice (some ⟨g, 0, none⟩) n c ∧ w.cell? ⟨g, i, none⟩ = some x ∧ w.frozen? ⟨g, i, none⟩ = false := by
  have hl := h.len
  have hlt : i < xs.length := (List.getElem?_eq_some_iff.1 hi).1
  rcases h.2 with ⟨rfl, h0⟩ | ⟨g, cap, cur, rfl, _, hh, h1, h2, h3, h4⟩
  · subst h0; omega
  · have hc : cur[i]? = some x := by
      rw [← h4] at hi
      rw [List.getElem?_take] at hi
      split at hi
      · simpa using hi
      · cases hi
    exact ⟨g, cap, rfl, cell_blk hh hc, frozen_blk hh⟩
theorem OwnW.set {w1 : World} {g c : Nat} (h : OwnW w e z (.slice (some ⟨g, 0, none⟩) n c) n xs) {i : Nat} {x : Value} (hi : i < n * z) (hw : w1 = w.setCell ⟨g, i, none⟩ x) :
    OwnW w1 e z (.slice (some ⟨g, 0, none⟩) n c) n (xs.set i x) ∧ Chg (fun b => b = g) w w1 := by
  subst hw
  refine ⟨⟨by simpa using h.1, ?_⟩, Chg.setCell w g i x⟩
  rcases h.2 with ⟨h0, _⟩ | ⟨g', cap, cur, hv, hb, hh, h1, h2, h3, h4⟩
  · cases h0
  · injection hv with e1 e2 e3
    injection e1 with e1
    injection e1 with e1
    subst e1; subst e3
    refine .inr ⟨g, c, _, rfl, hb, set_blk i x hh, h1, h2, by simpa using h3, ?_⟩
    rw [← h4]
    simp [take_set]
theorem OwnW.setCells {g c : Nat} : ∀ (vs : List Value) (o : Nat) (w : World) (xs : List Value), OwnW w e z (.slice (some ⟨g, 0, none⟩) n c) n xs → o + vs.length ≤ n * z →
    OwnW (w.setCells g o vs) e z (.slice (some ⟨g, 0, none⟩) n c) n (xs.take o ++ vs ++ xs.drop (o + vs.length)) ∧ Chg (fun b => b = g) w (w.setCells g o vs)
  | [], o, w, xs, h, hn => by
    simp only [World.setCells, List.append_nil, List.length_nil, Nat.add_zero, List.take_append_drop]
    exact ⟨h, Chg.refl _ w⟩
  | v :: vs, o, w, xs, h, hn => by
    simp only [List.length_cons] at hn
    obtain ⟨h1, h2⟩ := h.set (i := o) (x := v) (by omega) rfl
    obtain ⟨h3, h4⟩ := OwnW.setCells vs (o + 1) _ _ h1 (by omega)
    have hl := h.len
    refine ⟨?_, h2.trans' h4⟩
    have he : (xs.set o v).take (o + 1) ++ vs ++ (xs.set o v).drop (o + 1 + vs.length) = xs.take o ++ v :: vs ++ xs.drop (o + (v :: vs).length) := by
      rw [List.drop_set_of_lt (by omega), List.take_set, List.take_succ_eq_append_getElem (by omega)]
      rw [List.set_append_right _ _ (by simp; omega)]
      simp only [List.length_take, List.append_assoc, List.length_cons]
      rw [Nat.min_eq_left (by omega)]
      simp [Nat.add_comm, Nat.add_left_comm]
    rw [← he]; exact h3
end
section
variable {P : Program} {w : World} {t tx ty e : TypeId} {i : TypeInfo} {z : Value} {k : Nat}
theorem grown_ownW {olds news : List Value} {n m old : Nat} (ho : olds.length = n * k) (hm : news.length = m * k) (hzs : z.cells.size = k) (h63 : n + m ≤ 1152921504606846976) :
    OwnW (w.drew.alloc (.cells ((olds ++ news).toArray ++ Builtin.zeroCells z.cells (grownCap w (n + m) old e - (n + m))) e)) e k (.slice (some ⟨w.heap.size, 0, none⟩) (n + m) (grownCap w (n + m) old e)) (n + m) (olds ++ news) ∧
    Chg (fun _ => False) w (w.drew.alloc (.cells ((olds ++ news).toArray ++ Builtin.zeroCells z.cells (grownCap w (n + m) old e - (n + m))) e)) := by
  have hge := grownCap_ge w (n + m) old e
  have hmul : n * k + m * k = (n + m) * k := (Nat.add_mul ..).symm
  refine ⟨⟨by simp [ho, hm, hmul], .inr ⟨w.heap.size, _, _, rfl, Nat.zero_le _, new_blk w.drew _, hge, grownCap_le_maxLen w _ _ _ (by unfold maxLen; omega), ?_, ?_⟩⟩, ⟨rfl, rfl, rfl, by show w.heap.size ≤ (w.heap.push _).size; simp, fun b hb _ => Below.heap_alloc w.drew _ _ hb⟩⟩
  · simp only [Array.size_append, List.size_toArray, List.length_append, size_zeroCells, hzs, ho, hm]
    rw [hmul, ← Nat.add_mul]; congr 1; omega
  · rw [Array.toList_append, List.take_append_of_le_length (by simp [ho, hm, hmul]), List.take_of_length_le (by simp [ho, hm, hmul])]
/-- append to a row of the program's own -/
theorem OwnW.app (ht : P.underlying t = some (.slice e)) (hi : P.info? e = some i) (hz : i.zero = some z) (hs : i.size = k) (hzs : z.cells.size = k)
    {v : Value} {n : Nat} {xs : List Value} (h : OwnW w e k v n xs) {x : Value} {m : Nat} {news : List Value} (hx : Src P k tx x m news w)
    (hb' : (n + m) * i.bytes ≤ 140737488355328) (h63 : n + m ≤ 1152921504606846976) (cs : Array Bool) :
    ∃ A' c' w', (builtin .append #[t, tx] ty cs #[v, x]).run P w = .ok (.value (.slice A' (n + m) c')) w' ∧ OwnW w' e k (.slice A' (n + m) c') (n + m) (xs ++ news) ∧ Chg (fun b => v.ownBlock = some b) w w' ∧
      (∀ b, (Value.slice A' (n + m) c').ownBlock = some b → v.ownBlock = some b ∨ w.heap.size ≤ b) := by
  have hl := h.len
  have hm : news.length = m * k := hx.newsLen
  have hmul : n * k + m * k = (n + m) * k := (Nat.add_mul ..).symm
  have go : ∀ {A c w'}, (Builtin.append_ #[t, tx] ty #[v, x]).run P w = .ok (.slice A (n + m) c) w' → (builtin .append #[t, tx] ty cs #[v, x]).run P w = .ok (.value (.slice A (n + m) c)) w' := fun h => by simp only [builtin]; exact run_v h
  rcases h.2 with ⟨rfl, rfl⟩ | ⟨g, cap, cur, rfl, hbg, hg', hnc, hcm, hcs, htake⟩
  · have hxs : xs = [] := List.eq_nil_of_length_eq_zero (by simpa using hl)
    subst hxs
    by_cases hm0 : m = 0
    · subst hm0
      have hn0 : news = [] := List.eq_nil_of_length_eq_zero (by simpa using hm)
      subst hn0
      refine ⟨none, 0, w, go ?_, OwnW.nil w e k, Chg.refl _ _, fun b hb => by simp [Value.ownBlock] at hb⟩
      have hxc := hx.cells
      rw [← hs] at hxc
      rcases hx.kind with ⟨e', hk⟩ | hk <;> simp [Builtin.append_, run_underlying ht, run_underlying hk, sizeOf, typeInfo, hi, hx.len, hxc]
    · have hr := run_append_grow_src (P := P) w t tx ty e i z ht hi hz none 0 0 [] (run_firstCells_none _ _ _ _ _) x m news (by rw [hs]; exact hx) (by omega) (by omega) (growslice_fits (by omega) hb')
      obtain ⟨k1, k2⟩ := grown_ownW (w := w) (e := e) (z := z) (k := k) (olds := []) (news := news) (n := 0) (m := m) (old := 0) (by simp) hm hzs h63
      refine ⟨_, _, _, go hr, k1, k2.mono fun _ h => h.elim, fun b hb => .inr ?_⟩
      simp only [Value.ownBlock, Option.some.injEq] at hb; omega
  · by_cases hroom : n + m ≤ cap
    · have hle : (n + m) * k ≤ cap * k := Nat.mul_le_mul_right _ hroom
      have hr := run_append_room_src (P := P) w t tx ty e i ht hi g 0 n cap x m news (by rw [hs]; exact hx) hroom
        (fun j hj => by
          have : (0 + n * i.size + j) < cur.size := by rw [hs]; omega
          rw [cell_blk hg' (v := cur[0 + n * i.size + j]) (Array.getElem?_eq_getElem this)]; rfl) (fun j hj => frozen_blk hg')
      rw [hs, Nat.zero_add] at hr
      have h0 : OwnW w e k (.slice (some ⟨g, 0, none⟩) (n + m) cap) (n + m) (cur.toList.take ((n + m) * k)) :=
        ⟨by simp; omega, .inr ⟨g, cap, cur, rfl, hbg, hg', hroom, hcm, hcs, rfl⟩⟩
      obtain ⟨k1, k2⟩ := OwnW.setCells news (n * k) w _ h0 (by omega)
      have htl : (cur.toList.take ((n + m) * k)).take (n * k) ++ news ++ (cur.toList.take ((n + m) * k)).drop (n * k + news.length) = xs ++ news := by
        rw [List.take_take, Nat.min_eq_left (by omega), List.drop_eq_nil_of_le (by simp; omega), List.append_nil, htake]
      rw [htl] at k1
      exact ⟨_, _, _, go hr, k1, k2.mono fun b hb => by rw [hb]; rfl, fun b hb => .inl hb⟩
    · have hold : (Builtin.firstCells i.size n (.slice (some ⟨g, 0, none⟩) n cap)).run P w.drew = .ok xs.toArray w.drew :=
        run_firstCells_some w.drew i.size n ⟨g, 0, none⟩ n cap xs (by rw [hs]; exact h.1) (fun j u hj => (World.ownsRow.cells h (g := g) rfl j u hj))
      have hr := run_append_grow_src (P := P) w t tx ty e i z ht hi hz (some ⟨g, 0, none⟩) n cap xs hold x m news (by rw [hs]; exact hx) (by omega) (by omega) (growslice_fits (by omega) hb')
      obtain ⟨k1, k2⟩ := grown_ownW (w := w) (e := e) (z := z) (k := k) (olds := xs) (news := news) (n := n) (m := m) (old := cap) hl hm hzs h63
      refine ⟨_, _, _, go hr, k1, k2.mono fun _ h => h.elim, fun b hb => .inr ?_⟩
      simp only [Value.ownBlock, Option.some.injEq] at hb; omega
theorem OwnW.src {e' : TypeId} {v : Value} {n : Nat} {xs : List Value} (h : OwnW w e k v n xs) (hk : P.underlying tx = some (.slice e')) (h1 : ∀ u ∈ xs, u.oneCell' = true) : Src P k tx v n xs w := by
  rcases h.2 with ⟨rfl, rfl⟩ | ⟨g, cap, cur, rfl, _⟩
  · have hx : xs = [] := List.eq_nil_of_length_eq_zero (by simpa using h.len)
    subst hx
    exact Src.ofNil w hk 0
  · exact Src.ofSlice w hk _ _ _ xs h.len (fun j u hj => World.ownsRow.cells h (g := g) rfl j u hj) h1
/-- a part of a row, as what is appended -/
theorem OwnW.srcPart {e' : TypeId} {g n c : Nat} {xs : List Value} (h : OwnW w e k (.slice (some ⟨g, 0, none⟩) n c) n xs) (hk : P.underlying tx = some (.slice e')) (h1 : ∀ u ∈ xs, u.oneCell' = true) {l m c' : Nat} (hl : l + m ≤ n) :
    Src P k tx (.slice (some ⟨g, l * k, none⟩) m c') m ((xs.drop (l * k)).take (m * k)) w := by
  have hlen := h.len
  have hmul : l * k + m * k = (l + m) * k := (Nat.add_mul ..).symm
  have hle : (l + m) * k ≤ n * k := Nat.mul_le_mul_right _ hl
  refine Src.ofSlice w hk _ _ _ _ (by simp; omega) (fun j u hj => ?_) fun u hu => h1 u (List.mem_of_mem_drop (List.mem_of_mem_take hu))
  rw [List.getElem?_take] at hj
  split at hj
  · rw [List.getElem?_drop] at hj
    have := World.ownsRow.cells h (g := g) rfl _ u hj
    rw [add_mk] at this ⊢
    rwa [Nat.zero_add] at this
  · cases hj
end
end Go.VC
