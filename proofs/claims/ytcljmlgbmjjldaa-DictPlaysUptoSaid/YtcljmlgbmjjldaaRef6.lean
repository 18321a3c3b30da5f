/- The document's dict: rising, Keys, in, turned, next. -/
import Derived.Test.YtcljmlgbmjjldaaRef5
import Derived.Test.YtcljmlgbmjjldaaDict7
namespace Go.Proofs.Ytcljmlgbmjjldaa
open Go Go.VC Go.RowKit Go.Proofs.Ytcljmlgbmjjldaa.F
set_option linter.unusedVariables false
set_option linter.unusedSimpArgs false
/-! ### Insertion -/
abbrev leS (a b : Str) : Prop := a.data.toList ≤ b.data.toList
abbrev Srt (l : List Str) : Prop := l.Pairwise leS
theorem srt_eq {l m : List Str} (hs : Srt l) (hp : l.Perm m) : l = sortS m := by
  have h1 : Srt (sortS m) := by
    unfold sortS
    refine List.Pairwise.map (R := fun a b : List UInt8 => decide (a ≤ b) = true) _ (fun a b hab => by simpa [leS] using hab) ?_
    refine List.pairwise_mergeSort (le := fun a b : List UInt8 => decide (a ≤ b)) (fun a b c h1 h2 => ?_) (fun a b => ?_) _
    · simp only [decide_eq_true_eq] at *; exact List.le_trans h1 h2
    · simp only [Bool.or_eq_true, decide_eq_true_eq]; exact List.le_total a b
  refine List.Perm.eq_of_pairwise (le := leS) (fun a b _ _ h2 h3 => ?_) hs h1 (hp.trans (sortS_perm m).symm)
  exact toList_inj (by rw [Lib.toList_data, Lib.toList_data]; exact List.le_antisymm h2 h3)
theorem gt_iff {s x : Str} : (!(strLt s x || strEq s x)) = true ↔ ¬ leS s x := by
  have h1 : strLt s x = decide (s.data.toList < x.data.toList) := by unfold strLt; rw [Go.Proofs.bytesLess_eq, Lib.toList_data, Lib.toList_data]
  have h2 : strEq s x = true ↔ s.data.toList = x.data.toList := by
    rw [strEq_iff]
    constructor
    · intro h; rw [h]
    · intro h; exact toList_inj (by rw [Lib.toList_data, Lib.toList_data]; exact h)
  rw [Bool.not_eq_true', Bool.or_eq_false_iff, h1, decide_eq_false_iff_not]
  constructor
  · rintro ⟨h3, h4⟩ h5
    have h6 : strEq s x = true := h2.2 (List.le_antisymm h5 (List.not_lt.1 h3))
    rw [h6] at h4; cases h4
  · intro h3
    refine ⟨fun h4 => h3 (List.le_of_lt h4), ?_⟩
    cases h4 : strEq s x with
    | false => rfl
    | true => exact absurd (by show s.data.toList ≤ x.data.toList; rw [h2.1 h4]; exact List.le_refl _) h3
theorem ins_srt {S : List Str} {x : Str} {k : Nat} (hS : Srt S) (hk : k ≤ S.length) (hhi : ∀ y ∈ S.drop k, ¬ leS y x) (hlo : ∀ (q : Nat) (y : Str), q + 1 = k → S[q]? = some y → leS y x) : Srt (S.take k ++ x :: S.drop k) := by
  have h0 : List.Pairwise leS (S.take k ++ S.drop k) := by rw [List.take_append_drop]; exact hS
  show List.Pairwise leS _
  rw [List.pairwise_append] at h0 ⊢
  obtain ⟨h1, h2, h3⟩ := h0
  have hgt : ∀ y ∈ S.drop k, leS x y := fun y hy => (List.le_total y.data.toList x.data.toList).resolve_left (hhi y hy)
  have hle : ∀ y ∈ S.take k, leS y x := by
    intro y hy
    cases k with
    | zero => simp at hy
    | succ q =>
      have hq : q < S.length := by omega
      have hlast := hlo q S[q] rfl (List.getElem?_eq_getElem hq)
      rw [List.take_succ_eq_append_getElem hq] at hy
      rcases List.mem_append.1 hy with hy | hy
      · have h4 : List.Pairwise leS (S.take q ++ S.drop q) := by rw [List.take_append_drop]; exact hS
        rw [List.pairwise_append] at h4
        have hmem : S[q] ∈ S.drop q := by rw [List.drop_eq_getElem_cons hq]; exact List.mem_cons_self ..
        exact List.le_trans (h4.2.2 y hy _ hmem) hlast
      · rw [List.mem_singleton.1 hy]; exact hlast
  refine ⟨h1, List.pairwise_cons.2 ⟨hgt, h2⟩, fun a ha b hb => ?_⟩
  rcases List.mem_cons.1 hb with rfl | hb
  · exact hle a ha
  · exact h3 a ha b hb
theorem ins_perm {S : List Str} {x : Str} {k : Nat} : (S.take k ++ x :: S.drop k).Perm (S ++ [x]) := by
  have : (S.take k ++ x :: S.drop k).Perm (x :: (S.take k ++ S.drop k)) := List.perm_middle
  rw [List.take_append_drop] at this
  exact this.trans (List.perm_append_singleton x S).symm
theorem set_mid {S : List Str} {y x : Str} {k : Nat} (hk : k ≤ S.length) : (S.take k ++ y :: S.drop k).set k x = S.take k ++ x :: S.drop k := by
  rw [List.set_append]
  have : (S.take k).length = k := by simp; omega
  rw [this, if_neg (by omega), Nat.sub_self, List.set_cons_zero]
theorem shift_mid {S : List Str} {y : Str} {k : Nat} (h0 : 0 < k) (hk : k ≤ S.length) {z : Str} (hz : S[k - 1]? = some z) : (S.take k ++ y :: S.drop k).set k z = S.take (k - 1) ++ z :: S.drop (k - 1) := by
  rw [set_mid hk]
  have hlt : k - 1 < S.length := by omega
  have e1 : S.take k = S.take (k - 1) ++ [z] := by
    have := List.take_succ_eq_append_getElem hlt
    rw [show k - 1 + 1 = k by omega] at this
    rw [this]
    rw [List.getElem?_eq_getElem hlt] at hz
    injection hz with hz; rw [hz]
  have e2 : S.drop (k - 1) = z :: S.drop k := by
    have := List.drop_eq_getElem_cons hlt
    rw [show k - 1 + 1 = k by omega] at this
    rw [this]
    rw [List.getElem?_eq_getElem hlt] at hz
    injection hz with hz; rw [hz]
  rw [e1, e2]; simp
theorem strs_set2 (a : List Str) (i : Nat) (x : Str) : strs (a.set i x) = (strs a).set i (.string x) := by simp [strs, List.map_set]
theorem kys_snoc {l : List It} {j : Nat} (h : j < l.length) : RD.kys (l.take (j + 1)) = RD.kys (l.take j) ++ [l[j].1] := by
  unfold RD.kys; rw [List.take_succ_eq_append_getElem h, List.map_append]; rfl

set_option maxHeartbeats 1000000 in
theorem rising_ok {w : World} {v : Value} {l : List It} (h : OwnI w v l) (hl : l.length ≤ 1099511627776) :
    Calls Try.prog 123 #[v] w fun e w' => ∃ A c, e = .returned (.slice A l.length c) ∧ Own w' tS (.slice A l.length c) l.length (strs (sortS (RD.kys l))) ∧ (∀ b, (Value.slice A l.length c).ownBlock = some b → w.heap.size ≤ b) ∧ Chg (fun _ => False) w w' := by
  obtain ⟨lA, lc, rfl⟩ := h.slice
  refine v123 _ _ _ _ _ ?_
  unfold V123
  refine ⟨fun o on oc i w1 => ∃ (j : Nat) (S : List Str), i = j ∧ j ≤ l.length ∧ on = j ∧ S.length = j ∧ Srt S ∧ S.Perm (RD.kys (l.take j)) ∧ Own w1 tS (.slice o on oc) j (strs S) ∧ (∀ b, (Value.slice o on oc).ownBlock = some b → w.heap.size ≤ b) ∧ Chg (fun x => w.heap.size ≤ x) w w1,
    fun _ _ _ i _ => l.length - i.toNat, ⟨0, [], rfl, Nat.zero_le _, rfl, rfl, List.Pairwise.nil, List.Perm.refl _, Own.nil _ _, fun b hb => by simp [Value.ownBlock] at hb, Chg.refl _ _⟩, ?_⟩
  rintro o on oc i w1 ⟨j, S, rfl, hj, rfl, hSl, hS, hP, hO, hB, ch⟩
  refine ⟨fun hd => ?_, fun hd => ?_⟩
  · have hjl : on < l.length := by have := of_decide_eq_true hd; omega
    intro g w2 hg hw2
    obtain ⟨b2, ch2, s2⟩ := blk_alloc hg hw2
    obtain ⟨i9, i1, i2, i3, i4⟩ := info9
    obtain ⟨A, c, w3, hr, hO3, hC3, hN3⟩ := Own.append (P := Try.prog) (ty := 30) (a := ⟨g, 0, none⟩) (m := 1) (c := 1) (news := [.string (ByteArray.mk #[])]) Try.underlying30 i1 i2 i3 rfl (hO.chg ch2 fun _ _ h => h) rfl (fun q u hq => by
        match q, hq with
        | 0, hq => simp at hq; subst hq; rw [add_mk]; exact cell_blk b2 rfl)
      (fun u hu => by simp at hu; subst hu; rfl) (by rw [i4]; omega) (by omega) #[false, false]
    refine ⟨A, _, c, w3, hr, ?_⟩
    have hB3 : ∀ b, (Value.slice A (on + 1) c).ownBlock = some b → w.heap.size ≤ b := fun b hb => (hN3 b hb).elim (hB b) fun hle => Nat.le_trans (Nat.le_trans ch.size ch2.size) hle
    have ch3 : Chg (fun x => w.heap.size ≤ x) w w3 := (ch.trans ch2 fun _ h => h.elim).trans hC3 fun x hx => .inl (hB x hx)
    -- room for one more
    obtain ⟨gA, cA, cur, eA, _, _, _, _⟩ := hO3.at (i := on) (x := .string (ByteArray.mk #[])) (by rw [List.getElem?_append_right (by rw [strs_length]; omega), strs_length, hSl, Nat.sub_self]; rfl)
    injection eA with e1 e2 e3
    subst e1; subst e3
    have hgA := hB3 gA rfl
    have hO3' : Own w3 tS (.slice (some ⟨gA, 0, none⟩) (on + 1) c) (on + 1) (strs (S.take on ++ ByteArray.mk #[] :: S.drop on)) := by
      rw [List.take_of_length_le (by omega), List.drop_eq_nil_of_le (by omega), strs_append]; exact hO3
    refine ⟨fun k w4 => ∃ (q : Nat) (y : Str), k = q ∧ q ≤ on ∧ Own w4 tS (.slice (some ⟨gA, 0, none⟩) (on + 1) c) (on + 1) (strs (S.take q ++ y :: S.drop q)) ∧ (∀ z ∈ S.drop q, ¬ leS z l[on].1) ∧ Chg (fun x => x = gA) w3 w4,
      fun k _ => k.toNat, ⟨on, _, rfl, Nat.le_refl _, hO3', fun z hz => (by rw [List.drop_eq_nil_of_le (by omega)] at hz; cases hz), Chg.refl _ _⟩, ?_⟩
    rintro k w4 ⟨q, y, rfl, hq, hO4, hhi, ch4⟩ w5 d5
    have ch5 : Chg (fun x => w.heap.size ≤ x) w w5 := (ch3.trans ch4 fun x hx => .inl (hx ▸ hgA)).drawn d5
    have hO5 := d5.own hO4
    have h5 : OwnI w5 (.slice lA l.length lc) l := h.chg ch5 fun b hb hle => by have := h.lt hb; omega
    have hSq : (S.take q ++ y :: S.drop q).length = on + 1 := by simp; omega
    have k1 : ∀ {b : Bool} {w7 : World}, Drawn w5 w7 → (b = true → 0 < q ∧ ∀ z, S[q - 1]? = some z → ¬ leS z l[on].1) → (b = false → ∀ (p : Nat) (z : Str), p + 1 = q → S[p]? = some z → leS z l[on].1) →
        V123_k1 (fun o on oc i w1 => ∃ (j : Nat) (S : List Str), i = j ∧ j ≤ l.length ∧ on = j ∧ S.length = j ∧ Srt S ∧ S.Perm (RD.kys (l.take j)) ∧ Own w1 tS (.slice o on oc) j (strs S) ∧ (∀ b, (Value.slice o on oc).ownBlock = some b → w.heap.size ≤ b) ∧ Chg (fun x => w.heap.size ≤ x) w w1)
          (fun _ _ _ i _ => l.length - i.toNat) o on oc on w1 (fun k w4 => ∃ (q : Nat) (y : Str), k = q ∧ q ≤ on ∧ Own w4 tS (.slice (some ⟨gA, 0, none⟩) (on + 1) c) (on + 1) (strs (S.take q ++ y :: S.drop q)) ∧ (∀ z ∈ S.drop q, ¬ leS z l[on].1) ∧ Chg (fun x => x = gA) w3 w4)
          (fun k _ => k.toNat) q w4 lA l.length lc (some ⟨gA, 0, none⟩) (on + 1) c on q b w7
          (fun e w' => ∃ A c, e = .returned (.slice A l.length c) ∧ Own w' tS (.slice A l.length c) l.length (strs (sortS (RD.kys l))) ∧ (∀ b, (Value.slice A l.length c).ownBlock = some b → w.heap.size ≤ b) ∧ Chg (fun _ => False) w w') := by
      intro b w7 d7 ht hf
      have hO7 := d7.own hO5
      unfold V123_k1
      have hz : ∀ (p : Nat), (Addr.add ⟨gA, 0, none⟩ ((Int.toNat ((p : Nat) : Int)) * 1)) = ⟨gA, p, none⟩ := fun p => by rw [toNatN, Nat.mul_one, add_mk, Nat.zero_add]
      have hcell : ∀ (p : Nat) (s : Str), (S.take q ++ y :: S.drop q)[p]? = some s → w7.cell? ⟨gA, p, none⟩ = some (.string s) ∧ w7.frozen? ⟨gA, p, none⟩ = false := fun p s hp => by
        obtain ⟨g', c', cur', e', _, _, hc', hf'⟩ := Own.at hO7 (strs_get hp)
        injection e' with e'
        injection e' with e'
        injection e' with e'
        subst e'
        exact ⟨hc', hf'⟩
      have hqy : (S.take q ++ y :: S.drop q)[q]? = some y := by
        rw [List.getElem?_append_right (by simp; omega)]
        have : (S.take q).length = q := by simp; omega
        rw [this, Nat.sub_self]; rfl
      refine ⟨fun hb => ?_, fun hb => ?_⟩
      · obtain ⟨h0, hno⟩ := ht hb
        have hlt : q - 1 < S.length := by omega
        have hzq : (S.take q ++ y :: S.drop q)[q - 1]? = some S[q - 1] := by
          rw [List.getElem?_append_left (by simp; omega), List.getElem?_take, if_pos (by omega), List.getElem?_eq_getElem hlt]
        rw [w64p h0 (by omega)]
        refine ⟨by omega, by omega, _, by rw [hz]; exact (hcell _ _ hzq).1, by omega, by omega, ⟨_, by rw [hz]; exact (hcell _ _ hqy).1⟩, by rw [hz]; exact (hcell _ _ hqy).2, ?_⟩
        intro w8 hw8
        rw [hz] at hw8
        obtain ⟨hO8, hC8⟩ := Own.set hO7 (by omega) hw8
        rw [← strs_set2, shift_mid h0 (by omega) (List.getElem?_eq_getElem hlt)] at hO8
        refine ⟨⟨q - 1, S[q - 1], rfl, by omega, hO8, fun z hz' => ?_, ((ch4.drawn d5).drawn d7).trans' hC8⟩, by dsimp only; omega⟩
        have hdr : S.drop (q - 1) = S[q - 1] :: S.drop q := by
          have := List.drop_eq_getElem_cons hlt
          rw [show q - 1 + 1 = q by omega] at this; exact this
        rw [hdr] at hz'
        rcases List.mem_cons.1 hz' with rfl | hz'
        · exact hno _ (List.getElem?_eq_getElem hlt)
        · exact hhi z hz'
      · obtain ⟨g', rfl, hc1, hc2⟩ := item_at (h5.chg (d7.chg (fun _ => False)) fun _ _ h => h) hjl
        refine ⟨by omega, by omega, _, hc1, by omega, by omega, ⟨_, by rw [hz]; exact (hcell _ _ hqy).1⟩, by rw [hz]; exact (hcell _ _ hqy).2, ?_⟩
        intro w9 hw9
        rw [hz] at hw9
        obtain ⟨hO9, hC9⟩ := Own.set hO7 (by omega) hw9
        rw [← strs_set2, set_mid (by omega)] at hO9
        rw [w64s (by omega)]
        refine ⟨⟨on + 1, S.take q ++ l[on].1 :: S.drop q, rfl, hjl, rfl, by simp; omega, ins_srt hS (by omega) hhi (hf hb), ?_, hO9, hB3, ((ch3.trans ((ch4.drawn d5).drawn d7) fun x hx => .inl (hx ▸ hgA)).trans hC9 fun x hx => .inl (hx ▸ hgA))⟩, by dsimp only; omega⟩
        rw [kys_snoc hjl]
        exact ins_perm.trans (hP.append_right _)
    refine ⟨fun hk => ?_, fun hk => ?_⟩
    · have hq0 : 0 < q := by have := of_decide_eq_true hk; omega
      have hlt : q - 1 < S.length := by omega
      have hzq : (S.take q ++ y :: S.drop q)[q - 1]? = some S[q - 1] := by
        rw [List.getElem?_append_left (by simp; omega), List.getElem?_take, if_pos (by omega), List.getElem?_eq_getElem hlt]
      obtain ⟨g', rfl, hc1, hc2⟩ := item_at h5 hjl
      obtain ⟨g'', c'', cur'', e'', _, _, hcA, _⟩ := Own.at hO5 (strs_get hzq)
      injection e'' with e''
      injection e'' with e''
      injection e'' with e''
      subst e''
      rw [w64p hq0 (by omega)]
      refine ⟨by omega, by omega, by omega, by omega, _, by rw [toNatN, Nat.mul_one, add_mk, Nat.zero_add]; exact hcA, _, hc1, fun w6 d6 => k1 d6 (fun hb => ⟨hq0, fun z hz => ?_⟩) (fun hb p z hp hz => ?_)⟩
      · rw [List.getElem?_eq_getElem hlt] at hz
        injection hz with hz
        rw [← hz]; exact gt_iff.1 hb
      · have : p = q - 1 := by omega
        subst this
        rw [List.getElem?_eq_getElem hlt] at hz
        injection hz with hz
        rw [← hz]
        refine Classical.byContradiction fun hn => ?_
        rw [gt_iff.2 hn] at hb; cases hb
    · have hq0 : q = 0 := by have := of_decide_eq_false (show decide _ = false from hk); omega
      subst hq0
      exact fun w10 d10 => k1 d10 (fun hb => (by cases hb)) (fun _ p z hp => by omega)
  · have hje : on = l.length := by have := of_decide_eq_false hd; omega
    subst hje
    rw [List.take_length] at hP
    rw [srt_eq hS hP] at hO
    exact ⟨o, oc, rfl, hO, hB, Chg.fresh ch⟩

theorem rkeys_ok {w : World} {r : RD} {A1 A2 : Option Addr} {c1 c2 : Nat} {B : Nat → Prop} (h : RAt w (.slice A1 r.l1.length c1) (.slice A2 r.l2.length c2) r B) (hf : Fit r) :
    Calls Try.prog 77 #[valR r (.slice A1 r.l1.length c1) (.slice A2 r.l2.length c2)] w fun e w' => ∃ A c, e = .returned (.slice A r.keys.length c) ∧ Own w' tS (.slice A r.keys.length c) r.keys.length (strs r.keys) ∧ (∀ b, (Value.slice A r.keys.length c).ownBlock = some b → w.heap.size ≤ b) ∧ Chg (fun _ => False) w w' := by
  have hfew := hf.few
  refine v77 _ _ _ _ _ _ _ _ _ _ _ _ ?_
  unfold V77
  intro g w1 hg hw1
  obtain ⟨b1, ch1, s1⟩ := blk_alloc hg hw1
  have h1 := h.chg' ch1
  obtain ⟨A3, c3, w2, hr2, ho2, hc2, hn2⟩ := (OwnI.nil w1).app (OwnI.src h1.o1) rfl (by simp; omega)
  have hc2' : Chg (fun _ => False) w1 w2 := hc2.mono fun b hb => by simp [Value.ownBlock] at hb
  have hn2' : ∀ b, (Value.slice A3 ([] ++ r.l1).length c3).ownBlock = some b → w1.heap.size ≤ b := fun b hb => (hn2 b hb).elim (fun h => by simp [Value.ownBlock] at h) id
  rw [List.nil_append] at hr2 ho2 hn2'
  have b2 := hc2'.blk b1 id
  have h2 := h1.chg' hc2'
  obtain ⟨A4, c4, w3, hr3, ho3, hc3, hn3⟩ := OwnI.app ho2 (OwnI.src h2.o2) rfl (by omega)
  refine ⟨_, _, _, cell_blk b1 rfl, A3, _, c3, w2, hr2, _, _, _, cell_blk b2 rfl, A4, _, c4, w3, hr3, ?_⟩
  have ch : Chg (fun _ => False) w w3 := (ch1.trans' hc2').trans hc3 fun x hx => .inr (Nat.le_trans ch1.size (hn2' x hx))
  refine (rising_ok ho3 (by simp; omega)).mono ?_
  rintro e w4 ⟨A5, c5, rfl, hO5, hB5, ch5⟩
  have hl : r.keys.length = (r.l1 ++ r.l2).length := by unfold RD.keys RD.kys; simp
  rw [hl]
  exact ⟨_, _, _, rfl, A5, c5, rfl, hO5, fun b hb => Nat.le_trans ch.size (hB5 b hb), ch.trans' ch5⟩

theorem rin_ok {w : World} {r : RD} {v1 v2 : Value} {m1 m2 : Nat} {A1 A2 : Option Addr} {c1 c2 : Nat} {lA : Option Addr} {lc : Nat} {l : List It} (hl : OwnI w (.slice lA l.length lc) l) (hlen : l.length ≤ 1099511627776) (hk : ∀ p ∈ l, p.1.size < 9223372036854775808) {n b : Nat} (hn : n ≠ 0) :
    Calls Try.prog 119 #[valR r (.slice A1 m1 c1) (.slice A2 m2 c2), .agg #[.int .i64 n, .slice lA l.length lc], .int .i64 b] w fun e w' => ∃ A c, e = .returned (.slice A (r.inB l n b).length c) ∧ Own w' tS (.slice A (r.inB l n b).length c) (r.inB l n b).length (strs (r.inB l n b)) ∧ (∀ x, (Value.slice A (r.inB l n b).length c).ownBlock = some x → w.heap.size ≤ x) ∧ Chg (fun _ => False) w w' := by
  refine v119 _ _ _ _ _ _ _ _ _ _ _ _ _ _ _ _ _ ?_
  unfold V119
  intro g w1 hg hw1
  obtain ⟨b1, ch1, s1⟩ := blk_alloc hg hw1
  intro g2 w2 hg2 hw2
  obtain ⟨b2, ch2, s2⟩ := blk_alloc hg2 hw2
  have b1 := ch2.blk b1 id
  have ch0 := ch1.trans' ch2
  have lt1 := lt_blk b1
  have lt2 := lt_blk b2
  refine ⟨fun q qn qc i w3 => ∃ j : Nat, i = j ∧ j ≤ l.length ∧ qn = (RD.goes r.seed n b (l.take j)).length ∧ OwnI w3 (.slice q qn qc) (RD.goes r.seed n b (l.take j)) ∧ (∀ x, (Value.slice q qn qc).ownBlock = some x → w2.heap.size ≤ x) ∧ Chg (fun x => w2.heap.size ≤ x) w2 w3,
    fun _ _ _ i _ => l.length - i.toNat, ⟨0, rfl, Nat.zero_le _, rfl, OwnI.nil _, fun x hx => by simp [Value.ownBlock] at hx, Chg.refl _ _⟩, ?_⟩
  rintro q qn qc i w3 ⟨j, rfl, hj, rfl, hO3, hB3, ch3⟩
  have b13 := ch3.blk b1 (by omega)
  have b23 := ch3.blk b2 (by omega)
  have chw : Chg (fun _ => False) w w3 := ch0.trans ch3 fun x hx => .inr (Nat.le_trans ch0.size hx)
  have hl3 := hl.chg chw fun _ _ h => h
  refine ⟨_, _, _, cell_blk b23 rfl, fun hd => ?_, fun hd => ?_⟩
  · have hjl : j < l.length := by have := of_decide_eq_true hd; omega
    intro w4 d4
    obtain ⟨g', rfl, hc1, hc2⟩ := item_at (hl3.chg (d4.chg (fun _ => False)) fun _ _ h => h) hjl
    refine ld6 (d4.blk b13) ⟨_, _, _, cell_blk (d4.blk b23) rfl, by omega, by omega, _, hc1, _, cell_blk (d4.blk b23) rfl, fun w5 d5 => ?_⟩
    refine (rbucket_ok r (hk _ (List.getElem_mem hjl)) hn).mono ?_
    rintro e w6 ⟨rfl, ch6⟩
    refine ⟨_, rfl, ch6.ext, fun w7 d7 => ?_⟩
    have c37 : Chg (fun _ => False) w3 w7 := (((d4.trans d5).chg _).trans' ch6).drawn d7
    have hgo := goes_snoc (seed := r.seed) (n := n) (b := b) hjl
    have hO7 := hO3.chg c37 fun _ _ h => h
    have next : ∀ {q' : Option Addr} {qn' qc' : Nat} {w' : World}, qn' = (RD.goes r.seed n b (l.take (j + 1))).length → OwnI w' (.slice q' qn' qc') (RD.goes r.seed n b (l.take (j + 1))) → (∀ x, (Value.slice q' qn' qc').ownBlock = some x → w2.heap.size ≤ x) → Chg (fun x => w2.heap.size ≤ x) w2 w' →
        (∃ j' : Nat, IntKind.wrap .i64 ((j : Int) + 1) = j' ∧ j' ≤ l.length ∧ qn' = (RD.goes r.seed n b (l.take j')).length ∧ OwnI w' (.slice q' qn' qc') (RD.goes r.seed n b (l.take j')) ∧ (∀ x, (Value.slice q' qn' qc').ownBlock = some x → w2.heap.size ≤ x) ∧ Chg (fun x => w2.heap.size ≤ x) w2 w') ∧
        l.length - (IntKind.wrap .i64 ((j : Int) + 1)).toNat < l.length - ((j : Nat) : Int).toNat := by
      intro q' qn' qc' w' e1 e2 e3 e4
      rw [w64s (by omega)]
      exact ⟨⟨j + 1, rfl, hjl, e1, e2, e3, e4⟩, by omega⟩
    refine ⟨fun heq => ?_, fun hne => ?_⟩
    · have heq' : slot r.seed l[j].1 n = b := nat_beq heq
      rw [if_pos heq'] at hgo
      obtain ⟨g'', eq', hc1', hc2'⟩ := item_at (hl3.chg c37 fun _ _ h => h) hjl
      injection eq' with eq'
      rw [← eq'] at hc1' hc2'
      refine ⟨_, _, _, cell_blk (c37.blk b23 id) rfl, by omega, by omega, _, hc1', _, hc2', ?_⟩
      intro g3 w8 hg3 hw8
      obtain ⟨b8, ch8, s8⟩ := blk_alloc hg3 hw8
      have hsrc : Src Try.prog 2 51 (.slice (some ⟨g3, 0, none⟩) 1 1) 1 (flatI [l[j]]) w8 := Src.ofSlice w8 Try.underlying51 _ _ _ _ rfl (fun j' u hu => by
        match j', hu with
        | 0, hu => simp [flatI] at hu; subst hu; rw [add_mk]; exact cell_blk b8 rfl
        | 1, hu => simp [flatI] at hu; subst hu; rw [add_mk]; exact cell_blk b8 rfl) (flatI_one _)
      have hgl := goes_len (seed := r.seed) (n := n) (b := b) l j
      obtain ⟨q', qc', w9, hr9, hO9, hC9, hN9⟩ := OwnI.app (hO7.chg ch8 fun _ _ h => h) hsrc rfl (by simp; omega)
      refine ⟨q', _, qc', w9, hr9, ?_⟩
      unfold V119_k1 V119_k2
      refine next (by rw [hgo]) (by rw [hgo]; exact hO9) (fun x hx => (hN9 x hx).elim (hB3 x) fun hle => Nat.le_trans (Nat.le_trans (Nat.le_trans ch3.size c37.size) ch8.size) hle) ?_
      exact (ch3.trans (c37.trans' ch8) fun _ h => h.elim).trans hC9 fun x hx => .inl (hB3 x hx)
    · have hne' : slot r.seed l[j].1 n ≠ b := fun e => by
        have hne : ((slot r.seed l[j].1 n : Int) == (b : Int)) = false := hne
        rw [e] at hne; simp at hne
      rw [if_neg hne'] at hgo
      unfold V119_k1 V119_k2
      exact next (by rw [hgo]) (by rw [hgo]; exact hO7) hB3 (ch3.trans c37 fun _ h => h.elim)
  · have hje : j = l.length := by have := of_decide_eq_false hd; omega
    subst hje
    rw [List.take_length] at hO3 hB3 ⊢
    have hgl : (RD.goes r.seed n b l).length ≤ l.length := List.length_filter_le _ _
    refine (rising_ok hO3 (by omega)).mono ?_
    rintro e w4 ⟨A5, c5, rfl, hO5, hB5, ch5⟩
    have hl' : (r.inB l n b).length = (RD.goes r.seed n b l).length := by unfold RD.inB RD.kys; simp
    rw [hl']
    exact ⟨_, _, _, rfl, A5, c5, rfl, hO5, fun x hx => Nat.le_trans chw.size (hB5 x hx), chw.trans' ch5⟩
theorem rv_succ (k c : Nat) : rv (k + 1) (c % 2 ^ (k + 1)) = 2 * rv k (c % 2 ^ k) + c / 2 ^ k % 2 := by
  simp only [rv]
  have e1 : c % 2 ^ (k + 1) % 2 ^ k = c % 2 ^ k := by rw [Nat.pow_succ]; exact Nat.mod_mul_right_mod c (2 ^ k) 2
  have e2 : c % 2 ^ (k + 1) / 2 ^ k % 2 = c / 2 ^ k % 2 := by
    rw [Nat.pow_succ, Nat.mod_mul_right_div_self]; exact Nat.mod_mod _ _
  rw [e1, e2]
theorem turned_ok (w : World) {c k : Nat} (hc : c < 9223372036854775808) (hk : k ≤ 62) : Calls Try.prog 141 #[.int .i64 c, .int .i64 k] w fun e w' => e = .returned (.int .i64 (rv k (c % 2 ^ k))) ∧ w = w' := by
  refine v141 _ _ _ _ ?_
  unfold V141
  refine ⟨fun o i w1 => w1 = w ∧ ∃ q : Nat, i = q ∧ q ≤ k ∧ o = rv q (c % 2 ^ q), fun _ i _ => k - i.toNat, ⟨rfl, 0, rfl, Nat.zero_le _, by simp [rv]⟩, ?_⟩
  rintro o i w1 ⟨rfl, q, rfl, hq, rfl⟩
  refine ⟨fun hd => ?_, fun hd => ?_⟩
  · have hqk : q < k := by have := of_decide_eq_true hd; omega
    have hwu : IntKind.wrap .u64 (q : Int) = q := by
      have : IntKind.wrap .u64 (q : Int) = (q : Int) % 18446744073709551616 := by simp [IntKind.wrap, IntKind.bits, IntKind.signed]
      omega
    rw [hwu, toNatN]
    have hmin : min q (IntKind.bits .i64) = q := by show min q 64 = q; omega
    rw [hmin]
    have hf : Int.fdiv (c : Int) (2 ^ q) = ((c / 2 ^ q : Nat) : Int) := by
      have e1 : ((2 : Int) ^ q) = ((2 ^ q : Nat) : Int) := by simp
      rw [e1, Int.fdiv_eq_ediv_of_nonneg _ (Int.natCast_nonneg _)]; rfl
    have hle : c / 2 ^ q ≤ c := Nat.div_le_self _ _
    have ha : andI .i64 ((c / 2 ^ q : Nat) : Int) 1 = ((c / 2 ^ q % 2 : Nat) : Int) := by
      have := andI_nat (a := c / 2 ^ q) (b := 1) (by omega) (by decide)
      rw [Nat.and_one_is_mod] at this
      exact this
    have hr := rv_lt q (c % 2 ^ q)
    have hp : 2 ^ q ≤ 2 ^ 61 := Nat.pow_le_pow_right (by omega) (by omega)
    have e2 : IntKind.wrap .i64 (((rv q (c % 2 ^ q) : Nat) : Int) * 2) = ((2 * rv q (c % 2 ^ q) : Nat) : Int) := by rw [w64 (by omega) (by omega)]; omega
    rw [hf, ha, e2, w64s (by omega)]
    have e3 : IntKind.wrap .i64 (((2 * rv q (c % 2 ^ q) : Nat) : Int) + ((c / 2 ^ q % 2 : Nat) : Int)) = ((2 * rv q (c % 2 ^ q) + c / 2 ^ q % 2 : Nat) : Int) := by rw [w64 (by omega) (by omega)]; omega
    rw [e3, ← rv_succ]
    exact ⟨by omega, ⟨rfl, q + 1, rfl, hqk, rfl⟩, by dsimp only; omega⟩
  · have hqe : q = k := by have := of_decide_eq_false hd; omega
    subst hqe
    exact ⟨rfl, rfl⟩
theorem rnext_ok (w : World) {c k : Nat} (hc : c < 9223372036854775808) (hk : k ≤ 40) : Calls Try.prog 120 #[.int .i64 c, .int .i64 ((2 ^ k : Nat) : Int)] w fun e w' => e = .returned (.int .i64 (nextCur c k)) ∧ w = w' := by
  refine v120 _ _ _ _ ?_
  unfold V120
  have h40 : 2 ^ k ≤ 2 ^ 40 := Nat.pow_le_pow_right (by omega) hk
  refine ⟨fun i w1 => w1 = w ∧ ∃ q : Nat, i = q ∧ q ≤ k, fun i _ => k - i.toNat, ⟨rfl, 0, rfl, Nat.zero_le _⟩, ?_⟩
  rintro i w1 ⟨rfl, q, rfl, hq⟩
  have hwu : IntKind.wrap .u64 (q : Int) = q := by
    have : IntKind.wrap .u64 (q : Int) = (q : Int) % 18446744073709551616 := by simp [IntKind.wrap, IntKind.bits, IntKind.signed]
    omega
  rw [hwu, toNatN]
  have hmin : min q (IntKind.bits .i64) = q := by show min q 64 = q; omega
  have hp : 2 ^ q ≤ 2 ^ k := Nat.pow_le_pow_right (by omega) hq
  have e1 : (1 * 2 ^ q : Int) = ((2 ^ q : Nat) : Int) := by simp
  rw [hmin, e1, w64n (Nat.lt_of_le_of_lt (Nat.le_trans hp h40) (by decide))]
  refine ⟨by omega, fun hd => ?_, fun hd => ?_⟩
  · have hlt : 2 ^ q < 2 ^ k := by have := of_decide_eq_true hd; omega
    have hqk : q < k := Nat.lt_of_not_le fun h => by
      have : 2 ^ k ≤ 2 ^ q := Nat.pow_le_pow_right (by omega) h
      omega
    rw [w64s (by omega)]
    exact ⟨⟨rfl, q + 1, rfl, hqk⟩, by dsimp only; omega⟩
  · have hge : ¬ 2 ^ q < 2 ^ k := by have := of_decide_eq_false hd; omega
    have hqk : q = k := by
      refine Nat.le_antisymm hq (Nat.le_of_not_lt fun h => hge (Nat.pow_lt_pow_right (by omega) h))
    subst hqk
    refine (turned_ok w1 hc (by omega)).mono ?_
    rintro e w2 ⟨rfl, rfl⟩
    have hr := rv_lt q (c % 2 ^ q)
    have ht : Int.tmod (IntKind.wrap .i64 (((rv q (c % 2 ^ q) : Nat) : Int) + 1)) ((2 ^ q : Nat) : Int) = (((rv q (c % 2 ^ q) + 1) % 2 ^ q : Nat) : Int) := by
      rw [w64s (by omega)]; rfl
    refine ⟨_, rfl, by omega, ?_⟩
    rw [ht]
    have hm : (rv q (c % 2 ^ q) + 1) % 2 ^ q < 2 ^ q := Nat.mod_lt _ (pow_pos' q)
    refine (turned_ok w1 (by omega) (by omega)).mono ?_
    rintro e w3 ⟨rfl, rfl⟩
    refine ⟨_, rfl, ?_, rfl⟩
    rw [Nat.mod_eq_of_lt hm]
    have := RD.next_eq (k := q) (by omega) c
    unfold RD.next at this
    rw [this]
end Go.Proofs.Ytcljmlgbmjjldaa
