/- append, of whatever source; rows that are only read; over any program. -/
import Derived.Test.YtcljmlgbmjjldaaRowsOf
namespace Go.VC
open Go Go.RowKit
set_option linter.unusedVariables false
set_option linter.unusedSimpArgs false

/-- cells that are read from a slice of whatever capacity -/
structure Rd (w : World) (v : Value) (xs : List Value) : Prop where
  ex : ∃ A c, v = .slice A xs.length c ∧ xs.length ≤ c ∧ ((A = none ∧ xs = [] ∧ c = 0) ∨ ∃ a, A = some a ∧ ∀ (j : Nat) (u : Value), xs[j]? = some u → w.cell? (a.add j) = some u)
theorem Own.rd {w : World} {e : TypeId} {v : Value} {n : Nat} {xs : List Value} (h : Own w e v n xs) : Rd w v xs := by
  have hl := h.len
  rcases h.2 with ⟨rfl, rfl⟩ | ⟨g, cap, cur, rfl, hb, hh, h1, h2, h3, h4⟩
  · have : xs = [] := List.eq_nil_of_length_eq_zero hl
    subst this
    exact ⟨none, 0, rfl, Nat.le_refl _, .inl ⟨rfl, rfl, rfl⟩⟩
  · refine ⟨some ⟨g, 0, none⟩, cap, by rw [hl], by omega, .inr ⟨_, rfl, fun j u hj => ?_⟩⟩
    obtain ⟨g', c', cur', e', _, _, hcell, _⟩ := h.at hj
    injection e' with e1 e2 e3
    injection e1 with e1
    injection e1 with e1
    subst e1
    rw [add_mk, Nat.zero_add]; exact hcell
theorem Rd.of {w w' : World} {v : Value} {xs : List Value} (h : Rd w v xs) (hk : ∀ a u, v.ownBlock = some a.block → w.cell? a = some u → w'.cell? a = some u) : Rd w' v xs := by
  obtain ⟨A, c, rfl, hc, h1⟩ := h.ex
  refine ⟨A, c, rfl, hc, h1.imp id ?_⟩
  rintro ⟨a, rfl, ha⟩
  refine ⟨a, rfl, fun j u hj => hk _ u ?_ (ha j u hj)⟩
  rw [add_block]; rfl
theorem Rd.chg {F : Nat → Prop} {w w' : World} {v : Value} {xs : List Value} (h : Rd w v xs) (hc : Chg F w w') (hn : ∀ b, v.ownBlock = some b → ¬ F b) : Rd w' v xs := by
  refine h.of fun a u hb ha => ?_
  have hlt := World.block_lt_of_cell? w a ha
  exact (World.cell?_of_block (hc.block a.block hlt (hn _ hb))).trans ha
theorem Rd.ext {w w' : World} {v : Value} {xs : List Value} (h : Rd w v xs) (he : Ext w w') : Rd w' v xs := h.of fun a u _ ha => he.cell ha
theorem Rd.src {P : Program} {w : World} {v : Value} {xs : List Value} {tx e : TypeId} (h : Rd w v xs) (hk : P.underlying tx = some (.slice e)) (h1 : ∀ u ∈ xs, u.oneCell' = true) : Src P 1 tx v xs.length xs w := by
  obtain ⟨A, c, rfl, hc, h⟩ := h.ex
  rcases h with ⟨rfl, rfl, rfl⟩ | ⟨a, rfl, ha⟩
  · exact Src.ofNil w hk 0
  · exact Src.ofSlice w hk a _ c xs (by simp) ha h1

section
variable {P : Program} {w : World} {t tx ty e : TypeId} {i : TypeInfo} {z : Value}
/-- a new row -/
theorem grown_own {olds news : List Value} {n m old : Nat} (ho : olds.length = n) (hm : news.length = m) (hzs : z.cells.size = 1) (h63 : n + m ≤ 1152921504606846976) :
    Own (w.drew.alloc (.cells ((olds ++ news).toArray ++ Builtin.zeroCells z.cells (grownCap w (n + m) old e - (n + m))) e)) e (.slice (some ⟨w.heap.size, 0, none⟩) (n + m) (grownCap w (n + m) old e)) (n + m) (olds ++ news) ∧
    Chg (fun _ => False) w (w.drew.alloc (.cells ((olds ++ news).toArray ++ Builtin.zeroCells z.cells (grownCap w (n + m) old e - (n + m))) e)) := by
  have hge := grownCap_ge w (n + m) old e
  refine ⟨⟨by simp [ho, hm], .inr ⟨w.heap.size, _, _, rfl, Nat.zero_le _, new_blk w.drew _, hge, grownCap_le_maxLen w _ _ _ (by unfold maxLen; omega), ?_, ?_⟩⟩, ⟨rfl, rfl, rfl, by show w.heap.size ≤ (w.heap.push _).size; simp, fun b hb _ => Below.heap_alloc w.drew _ _ hb⟩⟩
  · simp [size_zeroCells, hzs, ho, hm]; omega
  · rw [Nat.mul_one, Array.toList_append, List.take_append_of_le_length (by simp [ho, hm]), List.take_of_length_le (by simp [ho, hm])]
/-- append to a row of the program's own -/
theorem Own.appendS (ht : P.underlying t = some (.slice e)) (hi : P.info? e = some i) (hz : i.zero = some z) (hs : i.size = 1) (hzs : z.cells.size = 1)
    {v : Value} {n : Nat} {xs : List Value} (h : Own w e v n xs) {x : Value} {m : Nat} {news : List Value} (hx : Src P 1 tx x m news w)
    (hb' : (n + m) * i.bytes ≤ 140737488355328) (h63 : n + m ≤ 1152921504606846976) (cs : Array Bool) :
    ∃ A' c' w', (builtin .append #[t, tx] ty cs #[v, x]).run P w = .ok (.value (.slice A' (n + m) c')) w' ∧ Own w' e (.slice A' (n + m) c') (n + m) (xs ++ news) ∧ Chg (fun b => v.ownBlock = some b) w w' ∧
      (∀ b, (Value.slice A' (n + m) c').ownBlock = some b → v.ownBlock = some b ∨ w.heap.size ≤ b) := by
  have hl := h.len
  have hm : news.length = m := by simpa using hx.newsLen
  have go : ∀ {A c w'}, (Builtin.append_ #[t, tx] ty #[v, x]).run P w = .ok (.slice A (n + m) c) w' → (builtin .append #[t, tx] ty cs #[v, x]).run P w = .ok (.value (.slice A (n + m) c)) w' := fun h => by simp only [builtin]; exact run_v h
  rcases h.2 with ⟨rfl, rfl⟩ | ⟨g, cap, cur, rfl, hbg, hg', hnc, hcm, hcs, htake⟩
  · have hxs : xs = [] := List.eq_nil_of_length_eq_zero (by simpa using hl)
    subst hxs
    by_cases hm0 : m = 0
    · subst hm0
      have hn0 : news = [] := List.eq_nil_of_length_eq_zero hm
      subst hn0
      refine ⟨none, 0, w, go ?_, Own.nil w e, Chg.refl _ _, fun b hb => by simp [Value.ownBlock] at hb⟩
      rcases hx.kind with ⟨e', hk⟩ | hk <;> simp [Builtin.append_, run_underlying ht, run_underlying hk, sizeOf, typeInfo, hi, hx.len, hs, hx.cells]
    · have hr := run_append_grow_src (P := P) w t tx ty e i z ht hi hz none 0 0 [] (run_firstCells_none _ _ _ _ _) x m news (by rw [hs]; exact hx) (by omega) (by omega) (growslice_fits (by omega) hb')
      obtain ⟨k1, k2⟩ := grown_own (w := w) (e := e) (z := z) (olds := []) (news := news) (n := 0) (m := m) (old := 0) rfl hm hzs h63
      refine ⟨_, _, _, go hr, k1, k2.mono fun _ h => h.elim, fun b hb => .inr ?_⟩
      simp only [Value.ownBlock, Option.some.injEq] at hb; omega
  · by_cases hroom : n + m ≤ cap
    · have hsz : cur.size = cap := by omega
      have hr := run_append_room_src (P := P) w t tx ty e i ht hi g 0 n cap x m news (by rw [hs]; exact hx) hroom
        (fun j hj => by
          have : (0 + n * i.size + j) < cur.size := by rw [hs]; omega
          rw [cell_blk hg' (v := cur[0 + n * i.size + j]) (Array.getElem?_eq_getElem this)]; rfl) (fun j hj => frozen_blk hg')
      rw [hs, Nat.zero_add, Nat.mul_one] at hr
      have h0 : Own w e (.slice (some ⟨g, 0, none⟩) (n + m) cap) (n + m) (cur.toList.take (n + m)) :=
        ⟨by simp; omega, .inr ⟨g, cap, cur, rfl, hbg, hg', hroom, hcm, hcs, by rw [Nat.mul_one]⟩⟩
      obtain ⟨k1, k2⟩ := Own.setCells news n w _ _ h0 (by omega)
      have htl : (cur.toList.take (n + m)).take n ++ news ++ (cur.toList.take (n + m)).drop (n + news.length) = xs ++ news := by
        rw [List.take_take, Nat.min_eq_left (by omega), List.drop_eq_nil_of_le (by simp; omega), List.append_nil]
        rw [Nat.mul_one] at htake; rw [htake]
      rw [htl] at k1
      exact ⟨_, _, _, go hr, k1, k2.mono fun b hb => by rw [hb]; rfl, fun b hb => .inl hb⟩
    · have hold : (Builtin.firstCells i.size n (.slice (some ⟨g, 0, none⟩) n cap)).run P w.drew = .ok xs.toArray w.drew :=
        run_firstCells_some w.drew i.size n ⟨g, 0, none⟩ n cap xs (by rw [hs]; exact h.1) (fun j u hj => (World.ownsRow.cells h (g := g) rfl j u hj))
      have hr := run_append_grow_src (P := P) w t tx ty e i z ht hi hz (some ⟨g, 0, none⟩) n cap xs hold x m news (by rw [hs]; exact hx) (by omega) (by omega) (growslice_fits (by omega) hb')
      obtain ⟨k1, k2⟩ := grown_own (w := w) (e := e) (z := z) (olds := xs) (news := news) (n := n) (m := m) (old := cap) (by simpa using hl) hm hzs h63
      refine ⟨_, _, _, go hr, k1, k2.mono fun _ h => h.elim, fun b hb => .inr ?_⟩
      simp only [Value.ownBlock, Option.some.injEq] at hb; omega
/-- append to a slice without room -/
theorem Rd.append (ht : P.underlying t = some (.slice e)) (hi : P.info? e = some i) (hz : i.zero = some z) (hs : i.size = 1) (hzs : z.cells.size = 1)
    {A : Option Addr} {n : Nat} {xs : List Value} (h : Rd w (.slice A n n) xs) {x : Value} {m : Nat} {news : List Value} (hx : Src P 1 tx x m news w)
    (hb' : (n + m) * i.bytes ≤ 140737488355328) (h63 : n + m ≤ 1152921504606846976) (cs : Array Bool) :
    ∃ A' c' w', (builtin .append #[t, tx] ty cs #[.slice A n n, x]).run P w = .ok (.value (.slice A' (n + m) c')) w' ∧
      ((m = 0 ∧ A' = A ∧ c' = n ∧ w' = w) ∨ (m ≠ 0 ∧ Own w' e (.slice A' (n + m) c') (n + m) (xs ++ news) ∧ Chg (fun _ => False) w w' ∧ ∀ b, (Value.slice A' (n + m) c').ownBlock = some b → w.heap.size ≤ b)) := by
  obtain ⟨A0, c0, e0, hc0, hA⟩ := h.ex
  injection e0 with e1 e2 e3
  subst e1; subst e3
  have hm : news.length = m := by simpa using hx.newsLen
  have go : ∀ {B c w'}, (Builtin.append_ #[t, tx] ty #[.slice A n n, x]).run P w = .ok (.slice B (n + m) c) w' → (builtin .append #[t, tx] ty cs #[.slice A n n, x]).run P w = .ok (.value (.slice B (n + m) c)) w' := fun h => by simp only [builtin]; exact run_v h
  by_cases hm0 : m = 0
  · subst hm0
    have hn0 : news = [] := List.eq_nil_of_length_eq_zero hm
    subst hn0
    refine ⟨A, n, w, go ?_, .inl ⟨rfl, rfl, rfl, rfl⟩⟩
    rcases hA with ⟨rfl, _, _⟩ | ⟨a, rfl, ha⟩
    · rcases hx.kind with ⟨e', hk⟩ | hk <;> simp [Builtin.append_, run_underlying ht, run_underlying hk, sizeOf, typeInfo, hi, hx.len, hs, hx.cells]
    · rcases hx.kind with ⟨e', hk⟩ | hk <;> simp [Builtin.append_, run_underlying ht, run_underlying hk, sizeOf, typeInfo, hi, hx.len, hs, hx.cells, storeCells]
  · have hold : (Builtin.firstCells i.size n (.slice A n n)).run P w.drew = .ok xs.toArray w.drew := by
      rcases hA with ⟨rfl, hx0, _⟩ | ⟨a, rfl, ha⟩
      · rw [hx0]; exact run_firstCells_none _ _ _ _ _
      · exact run_firstCells_some w.drew i.size n a n n xs (by rw [hs]; omega) ha
    have hr := run_append_grow_src (P := P) w t tx ty e i z ht hi hz A n n xs hold x m news (by rw [hs]; exact hx) (by omega) (by omega) (growslice_fits (by omega) hb')
    obtain ⟨k1, k2⟩ := grown_own (w := w) (e := e) (z := z) (olds := xs) (news := news) (n := n) (m := m) (old := n) (by omega) hm hzs h63
    refine ⟨_, _, _, go hr, .inr ⟨hm0, k1, k2, fun b hb => ?_⟩⟩
    simp only [Value.ownBlock, Option.some.injEq] at hb; omega
end
end Go.VC
