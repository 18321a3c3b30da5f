/- The dict's tables: slices.Index, slices.Delete; leave. -/
import Derived.Test.YtcljmlgbmjjldaaDict1
namespace Go.Proofs.Ytcljmlgbmjjldaa
open Go Go.VC Go.RowKit Go.Proofs.Ytcljmlgbmjjldaa.F
set_option linter.unusedVariables false
set_option linter.unusedSimpArgs false

theorem idxFrom_eq (x : Str) : ∀ (zs : List Str) (i : Nat), Lib.idxFromS zs x i = if x ∈ zs then ((i + zs.idxOf x : Nat) : Int) else -1
  | [], i => by simp [Lib.idxFromS]
  | z :: zs, i => by
    simp only [Lib.idxFromS]
    by_cases h : z = x
    · subst h; simp
    · rw [if_neg h, idxFrom_eq x zs (i + 1)]
      by_cases hm : x ∈ zs
      · rw [if_pos hm, if_pos (List.mem_cons_of_mem _ hm), List.idxOf_cons, show (z == x) = false from beq_false_of_ne h]
        simp only [cond_false]; omega
      · rw [if_neg hm, if_neg]; simp [hm, Ne.symm h]
theorem idxOfS_eq (zs : List Str) (x : Str) : Lib.idxOfS zs x = if x ∈ zs then ((zs.idxOf x : Nat) : Int) else -1 := by
  unfold Lib.idxOfS; rw [idxFrom_eq]; simp

theorem index_ok {w : World} {v : Value} {l : List Str} (ho : Own w tS v l.length (strs l)) (hbig : l.length < big) (x : Str) :
    Calls Try.prog 111 #[v, .string x] w fun e w' => e = .returned (.int .i64 (Lib.idxOfS l x)) ∧ w' = w := by
  rcases ho.2 with ⟨rfl, h0⟩ | ⟨g, cap, cur, rfl, hb, hh, h1, h2, h3, h4⟩
  · have : l = [] := List.eq_nil_of_length_eq_zero h0
    subst this
    exact Try.slices_Index_string_empty none 0 x w
  · have := Try.slices_Index_string g 0 l.length cap l x w (Nat.le_refl _) (by unfold big at hbig; omega) (fun j hj => by
      have hc : (strs l)[j]? = some (.string (l.getD j ByteArray.empty)) := strs_get (by rw [List.getD_eq_getElem?_getD, List.getElem?_eq_getElem hj]; rfl)
      obtain ⟨g', c', cur', e, _, _, hcell, _⟩ := ho.at hc
      injection e with e1 e2 e3
      injection e1 with e1
      injection e1 with e1
      subst e1
      rw [Nat.zero_add]; exact hcell)
    rwa [List.take_length] at this

theorem drewN_own {w : World} {e : TypeId} {v : Value} {n : Nat} {xs : List Value} (q : Nat) (h : Own w e v n xs) : Own (w.drewN q) e v n xs := Drawn.own ⟨q, rfl⟩ h
theorem delete_ok {w : World} {v : Value} {l : List Str} (ho : Own w tS v l.length (strs l)) {i : Nat} (hi : i < l.length) :
    Calls Try.prog 112 #[v, .int .i64 i, .int .i64 ((i + 1 : Nat) : Int)] w fun e w' => ∃ A m c, e = .returned (.slice A m c) ∧ Own w' tS (.slice A m c) (l.eraseIdx i).length (strs (l.eraseIdx i)) ∧ (Value.slice A m c).ownBlock = v.ownBlock ∧ Chg (fun x => v.ownBlock = some x) w w' := by
  obtain ⟨g, cap, cur, rfl, hh, _, _, _⟩ := ho.at (strs_get (List.getElem?_eq_getElem hi))
  have hat : ∀ j, j < l.length → w.cell? ⟨g, 0 + j, none⟩ = some (.string (l.getD j ByteArray.empty)) ∧ w.frozen? ⟨g, 0 + j, none⟩ = false := fun j hj => by
    obtain ⟨g', c', cur', e, _, _, hcell, hf⟩ := ho.at (strs_get (s := l.getD j ByteArray.empty) (i := j) (by rw [List.getD_eq_getElem?_getD, List.getElem?_eq_getElem hj]; rfl))
    injection e with e1 e2 e3
    injection e1 with e1
    injection e1 with e1
    subst e1
    rw [Nat.zero_add]; exact ⟨hcell, hf⟩
  have hcap : l.length ≤ cap ∧ cap ≤ maxLen := by
    rcases ho.2 with ⟨h0, _⟩ | ⟨g', cap', cur', e, _, _, h1, h2, _, _⟩
    · cases h0
    · injection e with e1 e2 e3; subst e3; exact ⟨h1, h2⟩
  refine (Try.slices_Delete_string_cells g 0 l.length cap i (i + 1) (fun j => l.getD j ByteArray.empty) w hcap.1 hcap.2 (by omega) (by omega) (fun j hj => (hat j hj).1) (fun j hj => (hat j hj).2)).mono ?_
  rintro e w' ⟨rfl, q, rfl⟩
  have hlen : (l.eraseIdx i).length = l.length - (i + 1 - i) := by rw [List.length_eraseIdx_of_lt hi]; omega
  have hs : (Lib.strsOf (fun j => l.getD j ByteArray.empty) l.length).map encStr = strs l := by
    apply List.ext_getElem
    · simp [Lib.strsOf]
    · intro j h1 h2
      have hj : j < l.length := by simpa [strs] using h2
      simp [Lib.strsOf, strs, encStr, List.getD_eq_getElem?_getD, hj]
  have hmap : ((Lib.strsOf (fun j => l.getD j ByteArray.empty) l.length).take i ++ (Lib.strsOf (fun j => l.getD j ByteArray.empty) l.length).drop (i + 1) ++ List.replicate (i + 1 - i) []).map encStr = strs (l.eraseIdx i) ++ [encStr []] := by
    rw [List.map_append, List.map_append, List.map_take, List.map_drop, hs, show i + 1 - i = 1 by omega, List.eraseIdx_eq_take_drop_succ]
    simp [strs, List.map_take, List.map_drop]
  rw [hmap]
  obtain ⟨k1, k2⟩ := (drewN_own q ho).over (vs := strs (l.eraseIdx i) ++ [encStr []]) (by simp [hlen]; omega)
  have k3 := k1.shrink (m := (l.eraseIdx i).length) (by omega)
  rw [List.take_append_of_le_length (by simp), List.take_of_length_le (by simp)] at k3
  refine ⟨some ⟨g, 0, none⟩, _, cap, rfl, ?_, rfl, ((Drawn.chg (fun _ => False) ⟨q, rfl⟩).mono fun _ h => h.elim).trans' (k2.mono fun x hx => by subst hx; rfl)⟩
  rw [← hlen]; exact k3

theorem leave_ok {w : World} {g o : Nat} {cs : Array Value} {ty : TypeId} {s : Value} {u : Int} {bs : List (List Str)} {F : Nat → Prop} {h k : Nat} (key : Str) {b : List Str}
    (hb : w.heap[g]? = some (.cells cs ty (0, 0))) (h1 : tS ≠ ty) (h2 : tR ≠ ty) (hs : cs[o]? = some s) (hu : cs[o + 1]? = some (.int .i64 u)) (ht : Tab tS tR w s bs F)
    (hh : h < 9223372036854775808) (hn : bs.length = 2 ^ k) (hk : k < 63) (hbk : bs[h % bs.length]? = some b) (hbig : b.length < big) (hmem : key ∈ b) :
    Calls Try.prog 60 #[.pointer (some ⟨g, o, none⟩), .int .i64 h, .string key] w fun e w' => e = .returned (.bool true) ∧
      w'.heap[g]? = some (.cells (cs.setIfInBounds (o + 1) (.int .i64 (IntKind.wrap .i64 (u - 1)))) ty (0, 0)) ∧
      ∃ F', Tab tS tR w' s (bs.set (h % bs.length) (b.eraseIdx (b.idxOf key))) F' ∧ (∀ x, F' x → F x ∨ w.heap.size ≤ x) ∧ Chg (fun x => x = g ∨ F x) w w' := by
  obtain ⟨G, c, v, rfl, hG, hcell, hfr, ho, hvF, hput⟩ := ht.at (by decide) hbk
  have hgF : ¬ F g := ht.blk_ne hb h1 h2
  have hlt : h % bs.length < bs.length := (List.getElem?_eq_some_iff.1 hbk).1
  have hidx : b.idxOf key < b.length := List.idxOf_lt_length_of_mem hmem
  refine v60 _ _ _ _ _ ?_
  unfold V60
  refine (size_ok hb hs).mono ?_
  rintro e w1 ⟨rfl, rfl⟩
  refine ⟨_, rfl, fun h0 => by rw [beq0] at h0; omega, fun _ => ?_⟩
  refine (at_ok hb hs hh hn hk).mono ?_
  rintro e w2 ⟨rfl, rfl⟩
  obtain ⟨A, c1, rfl⟩ := ho.slice
  simp only [add_mk, toNatN, Nat.mul_one, Nat.zero_add]
  refine ⟨_, rfl, _, _, _, cell_blk hb hs, by omega, by omega, A, b.length, c1, ?_, ?_⟩
  · rw [toNatN, add_mk, Nat.zero_add]; exact hcell
  refine (index_ok ho hbig key).mono ?_
  rintro e w3 ⟨rfl, rfl⟩
  rw [idxOfS_eq, if_pos hmem]
  refine ⟨_, rfl, fun hd => by simp at hd; omega, fun _ w4 d4 => ?_⟩
  have hb4 := d4.blk hb
  have hcell4 : w4.cell? ⟨G, h % bs.length, none⟩ = some (.slice A b.length c1) := by obtain ⟨n, rfl⟩ := d4; exact hcell
  refine ⟨fun x => x = G ∨ (Value.slice A b.length c1).ownBlock = some x, ?_, _, _, _, cell_blk hb4 hs, _, _, _, cell_blk hb4 hs, by omega, by omega, A, b.length, c1, ?_, fun w5 d5 => ?_⟩
  · rintro (rfl | hx)
    · exact hgF hG
    · exact hgF (hvF g hx).1
  · rw [toNatN, add_mk, Nat.zero_add]; exact hcell4
  have d05 := d4.trans d5
  have ho5 : Own w5 tS (.slice A b.length c1) b.length (strs b) := Drawn.own d05 ho
  rw [w64s (by unfold big at hbig; omega)]
  refine (delete_ok ho5 hidx).mono ?_
  rintro e w6 ⟨A', m', c', rfl, ho6, hob, hc6⟩
  have c6 : Chg (fun x => (Value.slice A b.length c1).ownBlock = some x) w3 w6 := (d05.chg _).trans' hc6
  refine ⟨_, _, _, rfl, (hc6.mono fun _ h => .inr h).extB, by omega, by omega, fun w7 d7 => ?_⟩
  have c7 := c6.drawn d7
  have hsame : w7.heap[G]? = w3.heap[G]? := c7.block G (ht.lt hG) fun hx => (hvF G hx).2 rfl
  have hcell7 : w7.cell? ⟨G, h % bs.length, none⟩ = some (.slice A b.length c1) := by unfold World.cell?; rw [hsame]; exact hcell
  have hfr7 : w7.frozen? ⟨G, h % bs.length, none⟩ = false := by unfold World.frozen?; rw [hsame]; exact hfr
  rw [toNatN, add_mk, Nat.zero_add]
  refine ⟨⟨_, hcell7⟩, hfr7, fun w8 hw8 => ?_⟩
  have hm' : m' = (b.eraseIdx (b.idxOf key)).length := by obtain ⟨_, _, e⟩ := Own.slice ho6; injection e
  obtain ⟨F', htab, hF'⟩ := hput w7 (.slice A' m' c') (b.eraseIdx (b.idxOf key)) _ c7 (fun x hx => .inl hx) (Drawn.own d7 ho6) (fun x hx => .inl (by rw [← hob]; exact hx))
  rw [← hw8] at htab
  have c78 : Chg (fun x => x = G) w7 w8 := by subst hw8; exact Chg.setCell _ _ _ _
  have c8 : Chg (fun x => x = g ∨ F x) w3 w8 := (c7.mono fun x hx => .inr (hvF x hx).1).trans' (c78.mono fun x hx => by subst hx; exact .inr hG)
  have c8g : Chg F w3 w8 := (c7.mono fun x hx => (hvF x hx).1).trans' (c78.mono fun x hx => by subst hx; exact hG)
  refine ⟨(c78.mono fun _ h => .inl h).extB, fun w9 d9 => ?_⟩
  have hb9 := d9.blk (c8g.blk hb hgF)
  refine ⟨u, cell_blk hb9 hu, ⟨_, cell_blk hb9 hu⟩, frozen_blk hb9, fun w10 hw10 => ?_⟩
  obtain ⟨k1, k2⟩ := store_blk hb9 hw10
  have hgF' : ¬ F' g := fun hx => (hF' g hx).elim hgF fun h => by have := lt_blk hb; omega
  refine ⟨trivial, k1, F', (htab.chg (d9.chg (fun _ => False)) fun _ _ h => h).chg k2 fun x hx hxg => by subst hxg; exact hgF' hx, hF', (c8.drawn d9).trans' (k2.mono fun _ h => .inl h)⟩

/-- a key that is not there, or a table without buckets -/
theorem leave_not {w : World} {g o : Nat} {cs : Array Value} {ty : TypeId} {s : Value} {bs : List (List Str)} {F : Nat → Prop} {h k : Nat} (key : Str)
    (hb : w.heap[g]? = some (.cells cs ty (0, 0))) (hs : cs[o]? = some s) (ht : Tab tS tR w s bs F)
    (hh : h < 9223372036854775808) (hn : bs = [] ∨ (bs.length = 2 ^ k ∧ k < 63 ∧ ∃ b, bs[h % bs.length]? = some b ∧ b.length < big ∧ key ∉ b)) :
    Calls Try.prog 60 #[.pointer (some ⟨g, o, none⟩), .int .i64 h, .string key] w fun e w' => e = .returned (.bool false) ∧ w' = w := by
  refine v60 _ _ _ _ _ ?_
  unfold V60
  obtain ⟨A0, c0, rfl⟩ := ht.slice
  refine (size_ok hb hs).mono ?_
  rintro e w1 ⟨rfl, rfl⟩
  refine ⟨_, rfl, fun h0 => ⟨rfl, rfl⟩, fun h0 => ?_⟩
  rw [beq0'] at h0
  rcases hn with rfl | ⟨hn, hk, b, hbk, hbig, hmem⟩
  · exact absurd rfl h0
  obtain ⟨G, c, v, he, hG, hcell, hfr, ho, hvF, hput⟩ := ht.at (by decide) hbk
  injection he with e1 e2 e3
  subst e1; subst e3
  have hlt : h % bs.length < bs.length := (List.getElem?_eq_some_iff.1 hbk).1
  refine (at_ok hb hs hh hn hk).mono ?_
  rintro e w2 ⟨rfl, rfl⟩
  obtain ⟨A, c1, rfl⟩ := ho.slice
  simp only [add_mk, toNatN, Nat.mul_one, Nat.zero_add]
  refine ⟨_, rfl, _, _, _, cell_blk hb hs, by omega, by omega, A, b.length, c1, ?_, ?_⟩
  · rw [toNatN, add_mk, Nat.zero_add]; exact hcell
  refine (index_ok ho hbig key).mono ?_
  rintro e w3 ⟨rfl, rfl⟩
  rw [idxOfS_eq, if_neg hmem]
  exact ⟨_, rfl, fun _ => ⟨trivial, rfl⟩, fun hd => by simp at hd⟩
end Go.Proofs.Ytcljmlgbmjjldaa
