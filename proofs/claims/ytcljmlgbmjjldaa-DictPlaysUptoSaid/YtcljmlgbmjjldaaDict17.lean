/- The dict: Clone. -/
import Derived.Test.YtcljmlgbmjjldaaDict15
import Derived.Test.YtcljmlgbmjjldaaF4
import Derived.Test.YtcljmlgbmjjldaaF5
import Derived.Laws.Externs
import Derived.Shelf.SlMaps.Clone
namespace Go.Proofs.Ytcljmlgbmjjldaa
open Go Go.VC Go.RowKit Go.Proofs.Ytcljmlgbmjjldaa.F
set_option linter.unusedVariables false
set_option linter.unusedSimpArgs false
theorem mclone_ok {w : World} {r : Nat} {m : Kvs} (h : MapAt w r m) :
    Calls Try.prog 74 #[.map (some r)] w fun e w' => e = .returned (.map (some w.heap.size)) ∧ MapAt w' w.heap.size m ∧ Chg (fun _ => False) w w' ∧ w'.heap.size = w.heap.size + 1 := by
  refine v74 _ _ _ ?_
  obtain ⟨es, clk, h1, hst, h2⟩ := h.ex
  refine ⟨fun h => (by cases h), fun _ => ?_⟩
  refine ⟨.iface 100 (.map (some w.heap.size)), w.alloc (.map es clk), ?_, some w.heap.size, w.alloc (.map es clk), ?_, rfl, ⟨es, clk, new_blk w _, hst, h2⟩, Chg.alloc _ _ _, by simp⟩
  · rw [run_callFunc_extern Try.func122 (by kernel_rfl) (by kernel_rfl) (by kernel_rfl) (e := Extern.MapsClone.clone) (by kernel_rfl), run_maps_clone_sl w 100 h1]
    rfl
  · rw [run_typeAssert_map_sl _ 100 20 _ _ _ Try.underlying100]
theorem set_replicate {α : Type} (l : List α) (x y : α) {j : Nat} (hj : j < l.length) (hx : l[j]? = some x) : (l.take j ++ List.replicate (l.length - j) y).set j x = l.take (j + 1) ++ List.replicate (l.length - (j + 1)) y := by
  rw [List.set_append]
  have hlt : (l.take j).length = j := by simp; omega
  rw [hlt, if_neg (by omega), Nat.sub_self, show l.length - j = (l.length - (j + 1)) + 1 by omega, List.replicate_succ, List.set_cons_zero, List.take_add_one, hx]
  simp

theorem tclone_ok {w : World} {g o : Nat} {cs : Array Value} {ty : TypeId} {s : Value} {bs : Bks} {u : Int} {F : Nat → Prop} (hb : w.heap[g]? = some (.cells cs ty (0, 0))) (hs : cs[o]? = some s) (hu : cs[o + 1]? = some (.int .i64 u)) (ht : Tab tS tR w s bs F)
    (hbig : bs.length ≤ 2199023255552) (hk : ∀ b ∈ bs, b.length < big) :
    Calls Try.prog 73 #[.pointer (some ⟨g, o, none⟩)] w fun e w' => ∃ A c F', e = .returned (.agg #[.slice A bs.length c, .int .i64 u]) ∧ Tab tS tR w' (.slice A bs.length c) bs F' ∧ (∀ x, F' x → w.heap.size ≤ x) ∧ Chg (fun _ => False) w w' := by
  refine v73 _ _ _ ?_
  unfold V73
  obtain ⟨A, c, rfl⟩ := ht.slice
  have hglt := lt_blk hb
  have key : ∀ {R : Ending → World → Prop} (gr gc G : Nat) (w10 : World), (∀ w' F', Tab tS tR w' (.slice (some ⟨G, 0, none⟩) bs.length bs.length) bs F' → (∀ x, F' x → w.heap.size ≤ x) → Chg (fun _ => False) w w' → R (.returned (.agg #[.slice (some ⟨G, 0, none⟩) bs.length bs.length, .int .i64 u])) w') →
      w10.heap[gr]? = some (.cells #[.slice none 0 0, .int .i64 0] 103 (0, 0)) → w10.heap[gc]? = some (.cells #[.slice (some ⟨G, 0, none⟩) bs.length bs.length, .int .i64 u] 103 (0, 0)) → gr ≠ gc → w.heap.size ≤ gr → w.heap.size ≤ gc → w.heap.size ≤ G →
      Tab tS tR w10 (.slice (some ⟨G, 0, none⟩) bs.length bs.length) (List.replicate bs.length []) (fun x => x = G) → Chg (fun _ => False) w w10 → V73_k1 ⟨g, o, none⟩ ⟨gr, 0, none⟩ ⟨gc, 0, none⟩ w10 R := by
    intro R gr gc G w10 hR hgr hgc hne hgr0 hgc0 hG0 hT hc
    unfold V73_k1
    refine ⟨_, _, _, cell_blk (hc.blk hb id) hs, ?_⟩
    refine ⟨fun n w11 => ∃ (j : Nat) (F' : Nat → Prop), n = j ∧ j ≤ bs.length ∧ Tab tS tR w11 (.slice (some ⟨G, 0, none⟩) bs.length bs.length) (bs.take j ++ List.replicate (bs.length - j) []) F' ∧ (∀ x, F' x → w.heap.size ≤ x) ∧
        w11.heap[gr]? = some (.cells #[.slice none 0 0, .int .i64 0] 103 (0, 0)) ∧ w11.heap[gc]? = some (.cells #[.slice (some ⟨G, 0, none⟩) bs.length bs.length, .int .i64 u] 103 (0, 0)) ∧ Chg (fun x => w.heap.size ≤ x) w w11,
      fun n _ => bs.length - n.toNat, ⟨0, (fun x => x = G), rfl, Nat.zero_le _, by simpa using hT, fun x hx => by rw [show x = G from hx]; exact hG0, hgr, hgc, hc.mono fun _ h => h.elim⟩, ?_⟩
    rintro n w11 ⟨j, F', rfl, hj, hT1, hF1, k1, k2, hc1⟩
    have hts : Tab tS tR w11 (.slice A bs.length c) bs F := ht.chg hc1 fun x hx hle => by have := ht.lt hx; omega
    refine ⟨fun hd => ?_, fun hd => ?_⟩
    · have hjl : j < bs.length := by have := of_decide_eq_true hd; omega
      obtain ⟨GA, cA, v, es, hGA, hcell, _, hO, hv, _⟩ := hts.at (by decide) (List.getElem?_eq_getElem hjl)
      injection es with e1 e2 e3
      subst e1
      obtain ⟨vA, vc, rfl⟩ := hO.slice
      refine ⟨by omega, by omega, vA, _, vc, by rw [toNatN, Nat.mul_one, add_mk, Nat.zero_add]; exact hcell, fun w12 d12 => ?_⟩
      have k2' := d12.blk k2
      refine ⟨_, _, _, cell_blk k2' rfl, fun w13 d13 => ?_⟩
      have dd := d12.trans d13
      have hT13 := hT1.chg (dd.chg (fun _ => False)) fun _ _ h => h
      refine (clone_ok (dd.own hO) (hk _ (List.getElem_mem hjl))).mono ?_
      rintro e w14 ⟨B, cB, rfl, hoB, hnB, hcB⟩
      refine ⟨_, _, _, rfl, hcB.ext, by omega, by omega, fun w15 d15 => ?_⟩
      have hnew : (bs.take j ++ List.replicate (bs.length - j) ([] : List Str))[j]? = some [] := by
        have ht : (bs.take j).length = j := by simp; omega
        rw [List.getElem?_append_right (by omega), List.getElem?_replicate, if_pos (by omega)]
      have hbl : (bs.take j ++ List.replicate (bs.length - j) ([] : List Str)).length = bs.length := by simp; omega
      obtain ⟨G', c', v', eG, hFG, hcell', hfr', hO', hv', hput⟩ := (hT13.chg (hcB.drawn d15) fun _ _ h => h).at (by decide) hnew
      rw [hbl] at eG
      injection eG with e1 e2 e3
      injection e1 with e1
      injection e1 with e1
      subst e1
      refine ⟨⟨_, by rw [toNatN, Nat.mul_one, add_mk, Nat.zero_add]; exact hcell'⟩, by rw [toNatN, Nat.mul_one, add_mk, Nat.zero_add]; exact hfr', ?_⟩
      intro w16 hw16 w17 d17
      rw [toNatN, Nat.mul_one, add_mk, Nat.zero_add] at hw16
      obtain ⟨G0, c0, v0, eG0, hFG0, _, _, _, _, hput0⟩ := hT13.at (by decide) hnew
      rw [hbl] at eG0
      injection eG0 with e1 e2 e3
      injection e1 with e1
      injection e1 with e1
      subst e1
      obtain ⟨F2, hT2, hF2⟩ := hput0 w15 (.slice B bs[j].length cB) bs[j] (fun _ => False) (hcB.drawn d15) (fun _ h => h.elim) (d15.own hoB) (fun x hx => .inr (hnB x hx))
      rw [← hw16, set_replicate bs bs[j] [] hjl (List.getElem?_eq_getElem hjl)] at hT2
      have hcs : Chg (fun b => b = G) w15 w16 := by rw [hw16]; exact Chg.setCell _ _ _ _
      have hGw : w.heap.size ≤ G := hF1 G hFG0
      have hsz : w.heap.size ≤ w13.heap.size := Nat.le_trans hc1.size (by rw [dd.heap]; exact Nat.le_refl _)
      have hG103 : ∀ {x : Nat} {cs' : Array Value}, w11.heap[x]? = some (.cells cs' 103 (0, 0)) → w17.heap[x]? = some (.cells cs' 103 (0, 0)) := fun {x} {cs'} hx => by
        refine d17.blk (hcs.blk (d15.blk (hcB.blk (dd.blk hx) id)) fun e => ?_)
        exact hT1.blk_ne hx (by decide) (by decide) (e ▸ hFG0)
      rw [w64s (by omega)]
      refine ⟨⟨j + 1, F2, rfl, hjl, hT2.chg (d17.chg (fun _ => False)) fun _ _ h => h, fun x hx => (hF2 x hx).elim (hF1 x) fun h => Nat.le_trans hsz h, hG103 k1, hG103 k2, ?_⟩, by dsimp only; omega⟩
      exact (((hc1.drawn dd).trans ((hcB.drawn d15)) fun _ h => h.elim).trans hcs fun x hx => .inl (hx ▸ hGw)).drawn d17
    · have hje : j = bs.length := by have := of_decide_eq_false hd; omega
      subst hje
      rw [List.take_length, Nat.sub_self, List.replicate_zero, List.append_nil] at hT1
      simp only [add_mk, Nat.reduceAdd]
      refine ⟨_, _, _, cell_blk k2 rfl, _, cell_blk k2 rfl, ⟨_, cell_blk k1 rfl⟩, frozen_blk k1, ?_⟩
      obtain ⟨m1, _⟩ := store_blk (i := 0) (v := .slice (some ⟨G, 0, none⟩) bs.length bs.length) k1 rfl
      refine ⟨⟨_, cell_blk m1 rfl⟩, frozen_blk m1, ?_⟩
      intro w18 hw18
      obtain ⟨m2, _⟩ := store_blk (i := 1) (v := .int .i64 u) m1 hw18
      have hc18 : Chg (fun b => b = gr) w11 w18 := by
        rw [hw18]; exact (Chg.setCell _ _ _ _).trans' (Chg.setCell _ _ _ _)
      refine ⟨_, _, _, cell_blk m2 rfl, _, cell_blk m2 rfl, ?_⟩
      refine hR w18 F' (hT1.chg hc18 fun x hx e => hT1.blk_ne k1 (by decide) (by decide) (e ▸ hx)) hF1 ?_
      exact (hc1.trans hc18 fun x hx => .inl (hx ▸ hgr0)).newer fun x hx => .inr hx
  intro g0 w1 hg0 hw1 w2 d2
  have b1 : w1.heap[g0]? = some (.cells #[.slice none 0 0, .int .i64 0] 103 (0, 0)) := by subst hg0; subst hw1; exact new_blk _ _
  have c1 : Chg (fun _ => False) w w1 := by subst hw1; exact Chg.alloc _ _ _
  have c2 := c1.drawn d2
  have b2 := d2.blk b1
  simp only [add_mk, Nat.reduceAdd]
  refine ⟨_, cell_blk (c2.blk hb id) hu, _, _, _, cell_blk (c2.blk hb id) hs, fun w3 d3 => ?_, fun w19 d19 => ?_⟩
  · refine ⟨by omega, by omega, by omega, by omega, ?_⟩
    intro G w4 hG hw4
    have c4 : Chg (fun _ => False) w3 w4 := by subst hw4; exact Chg.alloc _ _ _
    rw [toNatN] at hw4
    have hT := Tab.fresh hG hw4 (by unfold maxLen; omega)
    refine ⟨c4.ext, fun w5 d5 => ?_⟩
    intro gc w6 hgc hw6
    have c6 : Chg (fun _ => False) w5 w6 := by subst hw6; exact Chg.alloc _ _ _
    have b6 : w6.heap[gc]? = some (.cells #[.slice none 0 0, .int .i64 0] 103 (0, 0)) := by subst hgc; subst hw6; exact new_blk _ _
    refine ⟨c6.ext, fun w7 d7 => ?_⟩
    have b7 := d7.blk b6
    refine ⟨⟨_, cell_blk b7 rfl⟩, frozen_blk b7, ?_⟩
    obtain ⟨m1, _⟩ := store_blk (i := 0) (v := .slice (some ⟨G, 0, none⟩) bs.length bs.length) b7 rfl
    simp only [toNatN]
    refine ⟨⟨_, cell_blk m1 rfl⟩, frozen_blk m1, ?_⟩
    intro w8 hw8 w9 d9
    obtain ⟨m2, _⟩ := store_blk (i := 1) (v := .int .i64 u) m1 hw8
    have c8 : Chg (fun b => b = gc) w7 w8 := by
      rw [hw8]; exact (Chg.setCell _ _ _ _).trans' (Chg.setCell _ _ _ _)
    have cAll : Chg (fun _ => False) w2 w7 := (((d3.chg _).trans' c4).drawn d5).trans' c6 |>.drawn d7
    have hsz := c2.size
    have s3 : w3.heap.size = w2.heap.size := by rw [d3.heap]
    have s5 : w5.heap.size = w4.heap.size := by rw [d5.heap]
    have s4 : w4.heap.size = w3.heap.size + 1 := by rw [hw4]; simp
    have hlt0 := lt_blk b2
    refine key g0 gc G w9 (fun w' F' h1 h2 h3 => ⟨_, _, F', rfl, h1, h2, h3⟩) (d9.blk (c8.blk (cAll.blk b2 id) (by omega))) (d9.blk m2) (by omega) (by omega) (by omega) (by omega) ?_ ?_
    · refine hT.chg ((((d5.chg (fun b => b = gc)).trans' (c6.mono fun _ h => h.elim)).drawn d7).trans' c8 |>.drawn d9) fun x hx e => ?_
      omega
    · exact ((c2.trans' cAll).trans (c8.drawn d9) fun x hx => .inr (by omega))
  · intro gc w20 hgc hw20
    have c20 : Chg (fun _ => False) w19 w20 := by subst hw20; exact Chg.alloc _ _ _
    have b20 : w20.heap[gc]? = some (.cells #[.slice none 0 0, .int .i64 0] 103 (0, 0)) := by subst hgc; subst hw20; exact new_blk _ _
    refine ⟨c20.ext, fun w21 d21 => ?_⟩
    refine ⟨by omega, by omega, by omega, by omega, ?_⟩
    intro G w22 hG hw22
    have c22 : Chg (fun _ => False) w21 w22 := by subst hw22; exact Chg.alloc _ _ _
    rw [toNatN] at hw22
    have hT := Tab.fresh hG hw22 (by unfold maxLen; omega)
    refine ⟨c22.ext, fun w23 d23 => ?_⟩
    have b23 := d23.blk (c22.blk (d21.blk b20) id)
    refine ⟨⟨_, cell_blk b23 rfl⟩, frozen_blk b23, ?_⟩
    obtain ⟨m1, _⟩ := store_blk (i := 0) (v := .slice (some ⟨G, 0, none⟩) bs.length bs.length) b23 rfl
    simp only [toNatN]
    refine ⟨⟨_, cell_blk m1 rfl⟩, frozen_blk m1, ?_⟩
    intro w24 hw24 w25 d25
    obtain ⟨m2, _⟩ := store_blk (i := 1) (v := .int .i64 u) m1 hw24
    have c24 : Chg (fun b => b = gc) w23 w24 := by
      rw [hw24]; exact (Chg.setCell _ _ _ _).trans' (Chg.setCell _ _ _ _)
    have cAll : Chg (fun _ => False) w2 w23 := (((d19.chg _).trans' c20).drawn d21).trans' c22 |>.drawn d23
    have hsz := c2.size
    have s19 : w19.heap.size = w2.heap.size := by rw [d19.heap]
    have s21 : w21.heap.size = w20.heap.size := by rw [d21.heap]
    have s20 : w20.heap.size = w19.heap.size + 1 := by rw [hw20]; simp
    have hlt0 := lt_blk b2
    refine key g0 gc G w25 (fun w' F' h1 h2 h3 => ⟨_, _, F', rfl, h1, h2, h3⟩) (d25.blk (c24.blk (cAll.blk b2 id) (by omega))) (d25.blk m2) (by omega) (by omega) (by omega) (by omega) ?_ ?_
    · refine hT.chg (((d23.chg (fun b => b = gc)).trans' c24).drawn d25) fun x hx e => ?_
      omega
    · exact ((c2.trans' cAll).trans (c24.drawn d25) fun x hx => .inr (by omega))
/-- a dict like this one, in new blocks -/
theorem clone_dict_ok {w : World} {g : Nat} {d : D} {F : Nat → Prop} (h : DictAt w g d F) (hi : D.Inv d) (hbig : d.m.length < big) :
    Calls Try.prog 35 #[.pointer (some ⟨g, 0, none⟩)] w fun e w' => ∃ g' F', e = .returned (.pointer (some ⟨g', 0, none⟩)) ∧ DictAt w' g' d F' ∧ (∀ x, F' x → w.heap.size ≤ x) ∧ Chg (fun _ => False) w w' := by
  refine v35 _ _ _ ?_
  unfold V35
  intro w1 d1
  have h1 := h.drawn d1
  obtain ⟨s1, F1, s2, F2, r, k1, k2⟩ := h1.ex
  simp only [add_mk, Nat.reduceAdd]
  have big1 : ∀ {b : Bks}, (b = [] ∨ D.Pow b.length) → b.length ≤ 2199023255552 := by
    rintro b (h0 | ⟨k, _, hk, hk2⟩)
    · rw [h0]; exact Nat.zero_le _
    · rw [hk2]; exact Nat.le_trans (Nat.pow_le_pow_right (by omega) hk) (by decide)
  have hul := hi.used_le
  have few : ∀ {b : Bks}, used b ≤ d.m.length → ∀ x ∈ b, x.length < big := fun {b} hu x hx => by
    rw [used_eq] at hu
    have := (List.sublist_flatten_of_mem hx).length_le
    omega
  refine ⟨_, cell_blk k1.blk rfl, _, cell_blk k1.blk rfl, _, cell_blk k1.blk rfl, fun w2 d2 => ?_⟩
  have k2' := k1.drawn d2
  refine (tclone_ok (o := 1) k2'.blk rfl rfl k2'.t1 (big1 hi.p1) (few (by omega))).mono ?_
  rintro e w3 ⟨A1, c1, G1, rfl, hT1, hG1, ch3⟩
  refine ⟨_, _, _, _, rfl, ch3.ext, fun w4 d4 => ?_⟩
  have ch4 := ch3.drawn d4
  have k4 := k2'.chg ch4 id id (fun _ _ h => h) fun _ _ h => h
  have hT1' := hT1.chg (d4.chg (fun _ => False)) fun _ _ h => h
  refine (tclone_ok (o := 3) k4.blk rfl rfl k4.t2 (big1 hi.p2) (few (by omega))).mono ?_
  rintro e w5 ⟨A2, c2, G2, rfl, hT2, hG2, ch5⟩
  refine ⟨_, _, _, _, rfl, ch5.ext, fun w6 d6 => ?_⟩
  have ch6 := ch5.drawn d6
  have k6 := k4.chg ch6 id id (fun _ _ h => h) fun _ _ h => h
  refine (mclone_ok k6.map).mono ?_
  rintro e w7 ⟨rfl, hM, ch7, hs7⟩
  refine ⟨_, rfl, ch7.ext, fun w8 d8 => ?_⟩
  intro g' w9 hg' hw9
  have ch9 : Chg (fun _ => False) w8 w9 := by subst hw9; exact Chg.alloc _ _ _
  have b9 : w9.heap[g']? = some (.cells #[.int .i64 d.seed, .slice A1 d.b1.length c1, .int .i64 (used d.b1), .slice A2 d.b2.length c2, .int .i64 (used d.b2), .int .i64 d.idx, .map (some w6.heap.size)] 105 (0, 0)) := by subst hg'; subst hw9; exact new_blk _ _
  refine ⟨ch9.ext, fun w10 d10 => ⟨g', fun x => x = g' ∨ x = w6.heap.size ∨ G1 x ∨ G2 x, rfl, ⟨_, G1, _, G2, w6.heap.size, ⟨d10.blk b9, ?_, ?_, ?_, ?_⟩, fun x => Iff.rfl⟩, ?_, ?_⟩⟩
  · have := (hT1'.chg ch6 fun _ _ h => h).chg ((ch7.drawn d8).trans' (ch9.drawn d10)) fun _ _ h => h
    exact this
  · exact hT2.chg (((d6.chg _).trans' (ch7.drawn d8)).trans' (ch9.drawn d10)) fun _ _ h => h
  · intro x hx hy
    have := hT1'.lt hx
    have := hG2 x hy
    omega
  · exact hM.chg ((d8.chg _).trans' (ch9.drawn d10)) id
  · have s2 : w2.heap.size = w.heap.size := by rw [d2.heap, d1.heap]
    have s4 := ch4.size
    have s6 := ch6.size
    have s8 : w8.heap.size = w7.heap.size := by rw [d8.heap]
    rintro x (rfl | rfl | hx | hx)
    · omega
    · omega
    · have := hG1 x hx; omega
    · have := hG2 x hx; omega
  · exact ((((((d1.chg _).drawn d2).trans' ch4).trans' ch6).trans' (ch7.drawn d8)).trans' (ch9.drawn d10))
end Go.Proofs.Ytcljmlgbmjjldaa
