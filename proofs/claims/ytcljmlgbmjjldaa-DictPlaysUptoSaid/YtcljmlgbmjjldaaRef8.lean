/- The document's dict: Scan; as. -/
import Derived.Test.YtcljmlgbmjjldaaRef7
import Derived.Test.YtcljmlgbmjjldaaF7
import Derived.Test.YtcljmlgbmjjldaaDict17
namespace Go.Proofs.Ytcljmlgbmjjldaa
open Go Go.VC Go.RowKit Go.Proofs.Ytcljmlgbmjjldaa.F
set_option linter.unusedVariables false
set_option linter.unusedSimpArgs false
set_option maxHeartbeats 1000000 in
theorem rscan_ok {w : World} {d : D} {r : RD} {A1 A2 : Option Addr} {c1 c2 : Nat} {B : Nat → Prop} (h : RAt w (.slice A1 r.l1.length c1) (.slice A2 r.l2.length c2) r B) (hf : Fit r) (hr : Rel d r) (hi : D.Inv d) {c n : Int} (hc : c < 9223372036854775808) (hm : d.m.length ≤ 549755813888) :
    Calls Try.prog 33 #[valR r (.slice A1 r.l1.length c1) (.slice A2 r.l2.length c2), .int .i64 c, .int .i64 n] w fun e w' => ∃ v, e = .returned (.tuple #[v, .int .i64 (d.scan c n).2]) ∧ GivesV w w' (d.scan c n).1 v := by
  refine v33 _ _ _ _ _ _ _ _ _ _ _ _ _ _ ?_
  unfold V33
  intro g w1 hg hw1
  obtain ⟨b1, ch1, s1⟩ := blk_alloc hg hw1
  refine ⟨_, cell_blk b1 rfl, fun h0 => ?_, fun h0 => ?_⟩
  · have h0' : d.b1 = [] := List.eq_nil_of_length_eq_zero (by rw [← hr.n1]; exact beq0.1 h0)
    rw [show d.scan c n = ([], 0) by unfold D.scan; rw [if_pos (by rw [h0']; rfl)]]
    exact ⟨_, rfl, none, 0, rfl, Own.nil _ _, fun b hb => by simp [Value.ownBlock] at hb, ch1⟩
  · have hb1 : d.b1 ≠ [] := fun e => (beq0'.1 h0) (by rw [hr.n1, e]; rfl)
    have hmax : (if c > 0 then c else 0) = (((max 0 c).toNat : Nat) : Int) := by split <;> omega
    rw [hmax]
    have hsc : d.scan c n = d.scanL n d.b1.length (max 0 c).toNat [] := by unfold D.scan; rw [if_neg (by simpa using hb1)]
    have hrest0 : d.rest (max 0 c).toNat ≤ d.b1.length := Nat.le_trans (Nat.sub_le _ _) (D.visit_pos hi hb1 0).2.2.2
    have hlen := D.scan_len hi c n
    have hcur : ∀ c, (d.visit c).2 < 9223372036854775808 := fun c => by
      obtain ⟨h1, _, h2, _⟩ := D.visit_pos hi hb1 c
      have : 2 ^ d.bits ≤ 2 ^ 40 := Nat.pow_le_pow_right (by omega) h2
      omega
    refine ⟨fun cc o on oc w' => ∃ (q f : Nat) (O : List Str), cc = q ∧ q < 9223372036854775808 ∧ on = O.length ∧ d.rest q ≤ f ∧ d.scan c n = d.scanL n f q O ∧ O.length ≤ (d.scan c n).1.length ∧ Own w' tS (.slice o on oc) on (strs O) ∧ (∀ b, (Value.slice o on oc).ownBlock = some b → w1.heap.size ≤ b) ∧ Chg (fun x => w1.heap.size ≤ x) w1 w',
      fun cc _ _ _ _ => d.rest cc.toNat, ⟨(max 0 c).toNat, d.b1.length, [], rfl, by omega, rfl, hrest0, hsc, Nat.zero_le _, Own.nil _ _, fun b hb => by simp [Value.ownBlock] at hb, Chg.refl _ _⟩, ?_⟩
    rintro cc o on oc w2 ⟨q, f, O, rfl, hq, rfl, hf1, hsq, hOl, hO, hBO, ch2⟩
    have lt1 := lt_blk b1
    have b2 := ch2.blk b1 (by omega)
    have cw2 : Chg (fun _ => False) w w2 := ch1.trans ch2 fun x hx => .inr (Nat.le_trans ch1.size hx)
    obtain ⟨f', rfl⟩ : ∃ f', f = f' + 1 := ⟨f - 1, by have := D.rest_pos d q; omega⟩
    have hvl : (d.visit q).1.length ≤ d.m.length := (D.Scanned.one q).len hi hb1
    refine ld6 b2 ((rvisit_ok (h.chg' cw2) hf hr hi hb1 hq (by omega)).mono ?_)
    rintro e w3 ⟨v, rfl, A3, c3, rfl, hO3, hB3, ch3⟩
    refine ⟨_, _, _, _, rfl, ?_⟩
    obtain ⟨A4, c4, w4, hr4, hO4, hC4, hN4⟩ := appS (hO.chg ch3 fun _ _ h => h) (Own.rd hO3) (by omega)
    refine ⟨A4, _, c4, w4, hr4, ?_⟩
    have hB4 : ∀ b, (Value.slice A4 (O ++ (d.visit q).1).length c4).ownBlock = some b → w1.heap.size ≤ b := fun b hb => (hN4 b hb).elim (hBO b) fun hle => Nat.le_trans (Nat.le_trans ch2.size ch3.size) hle
    have ch4 : Chg (fun x => w1.heap.size ≤ x) w1 w4 := (ch2.trans ch3 fun _ h => h.elim).trans hC4 fun x hx => .inl (hBO x hx)
    have k1 : ∀ {b : Bool}, b = decide ((d.visit q).2 = 0 ∨ max 1 n ≤ ((O ++ (d.visit q).1).length : Nat)) → V33_k1 (fun cc o on oc w' => ∃ (q f : Nat) (O : List Str), cc = q ∧ q < 9223372036854775808 ∧ on = O.length ∧ d.rest q ≤ f ∧ d.scan c n = d.scanL n f q O ∧ O.length ≤ (d.scan c n).1.length ∧ Own w' tS (.slice o on oc) on (strs O) ∧ (∀ b, (Value.slice o on oc).ownBlock = some b → w1.heap.size ≤ b) ∧ Chg (fun x => w1.heap.size ≤ x) w1 w')
        (fun cc _ _ _ _ => d.rest cc.toNat) q o O.length oc w2 ((d.visit q).2 : Nat) n ⟨g, 0, none⟩ A4 (O ++ (d.visit q).1).length c4 b w4 (fun e w' => ∃ v, e = .returned (.tuple #[v, .int .i64 (d.scan c n).2]) ∧ GivesV w w' (d.scan c n).1 v) := by
      intro b hb
      unfold V33_k1
      refine ⟨fun h1 => ?_, fun h1 => ?_⟩
      · have hc1 := of_decide_eq_true (hb.symm.trans h1)
        rw [D.scanL, if_pos hc1] at hsq
        rw [hsq]
        exact ⟨_, rfl, A4, c4, rfl, hO4, fun b hb => Nat.le_trans ch1.size (hB4 b hb), ch1.trans' (Chg.fresh ch4)⟩
      · have hc1 := of_decide_eq_false (hb.symm.trans h1)
        rw [D.scanL, if_neg hc1] at hsq
        have hne : (d.visit q).2 ≠ 0 := fun e => hc1 (.inl e)
        have hrn := D.rest_next hi hb1 hne
        have hpre : (O ++ (d.visit q).1).length ≤ (d.scan c n).1.length := by
          rw [hsq]
          obtain ⟨ks, c', e, _⟩ := D.scanL_scanned hi hb1 (n := n) f' (d.visit q).2 (O ++ (d.visit q).1) (by omega)
          rw [e]; simp
        refine ⟨⟨(d.visit q).2, f', O ++ (d.visit q).1, rfl, hcur q, rfl, by omega, hsq, hpre, hO4, hB4, ch4⟩, ?_⟩
        simp only [toNatN]; omega
    have hn1 : (if n > 1 then n else 1) = max 1 n := by split <;> omega
    rw [hn1]
    refine ⟨fun hz => ?_, fun hz => ?_⟩
    · have hz' := beq0'.1 hz
      refine k1 (decide_eq_decide.2 ⟨fun h => .inr h, fun h => h.resolve_left hz'⟩)
    · have hz' : (d.visit q).2 = 0 := beq0.1 hz
      exact k1 (decide_eq_true (.inl hz')).symm

theorem idx_le {d : D} (hi : D.Inv d) : d.idx ≤ d.b1.length := by
  by_cases hm : d.b2 = []
  · rw [hi.st hm]; exact Nat.zero_le _
  · obtain ⟨h1, h2⟩ := hi.mv hm
    obtain ⟨j, hj, hjb⟩ := D.exists_full h1
    refine Nat.le_of_lt (Nat.lt_of_le_of_lt (Nat.le_of_not_lt fun hlt => hjb (h2 j hlt)) hj)
theorem rel_fit {d : D} {r : RD} (hr : Rel d r) (hi : D.Inv d) (hm : d.m.length ≤ 549755813888) : Fit r := by
  have h1 : d.b1.length ≤ 1099511627776 := by
    rcases hi.p1 with h0 | ⟨k, _, hk, hk2⟩
    · rw [h0]; exact Nat.zero_le _
    · rw [hk2]; exact Nat.le_trans (Nat.pow_le_pow_right (by omega) hk) (by decide)
  have h2 := idx_le hi
  have h3 := hr.len hi
  refine ⟨fun p hp => hi.fit _ ?_, by omega, by rw [hr.n1]; exact h1, by rw [hr.idx]; omega⟩
  rw [← hi.keys.mem_iff]
  rcases List.mem_append.1 hp with hp | hp
  · exact List.mem_append_left _ (hr.k1.mem_iff.1 (List.mem_map.2 ⟨p, hp, rfl⟩))
  · exact List.mem_append_right _ (hr.k2.mem_iff.1 (List.mem_map.2 ⟨p, hp, rfl⟩))

theorem as_ok {w : World} {g : Nat} {d : D} {F : Nat → Prop} {r : RD} {A1 A2 : Option Addr} {c1 c2 : Nat} {B : Nat → Prop} (hd : DictAt w g d F) (h : RAt w (.slice A1 r.l1.length c1) (.slice A2 r.l2.length c2) r B) (hr : Rel d r) (hi : D.Inv d) (hm : d.m.length ≤ 549755813888) :
    Calls Try.prog 37 #[.pointer (some ⟨g, 0, none⟩), valR r (.slice A1 r.l1.length c1) (.slice A2 r.l2.length c2)] w fun e w' => e = .returned (.bool true) ∧ Chg (fun _ => False) w w' := by
  have hf := rel_fit hr hi hm
  refine v37 _ _ _ _ _ _ _ _ _ _ _ _ _ ?_
  unfold V37
  intro gr w1 hg hw1
  obtain ⟨b1, ch1, s1⟩ := blk_alloc hg hw1
  refine (tables_ok (hd.chg ch1 fun _ _ h => h)).mono ?_
  rintro e w2 ⟨rfl, d2⟩
  have b2 := d2.blk b1
  have ht : r.tables = D.tables d := by
    rw [hr.tables]; unfold D.tables; rfl
  refine ⟨_, _, _, rfl, ld6 b2 (rtables_ok.mono ?_)⟩
  rintro e w3 ⟨rfl, ch3⟩
  refine ⟨_, _, _, rfl, fun w4 d4 => ?_⟩
  rw [ht]
  have c4 : Chg (fun _ => False) w w4 := ((ch1.drawn d2).trans' ch3).drawn d4
  have b4 := d4.blk (ch3.blk b2 id)
  have hd4 := hd.chg c4 fun _ _ h => h
  refine ⟨fun _ => ⟨fun _ => ⟨fun _ => ?_, fun h => by simp at h⟩, fun h => by simp at h⟩, fun h => by simp at h⟩
  refine ⟨_, fun w0 he => quiet_of (len_ok (hd4.ext he)), ld6 b4 fun w5 d5 => ?_⟩
  refine (rlen_ok hf).mono ?_
  rintro e w6 ⟨rfl, ch6⟩
  have c6 : Chg (fun _ => False) w w6 := (c4.drawn d5).trans' ch6
  have b6 := ch6.blk (d5.blk b4) id
  refine ⟨_, rfl, ch6.ext, fun _ => ?_, fun h => by rw [hr.len hi] at h; simp at h⟩
  refine ld6 b6 fun w7 d7 => ?_
  have c7 := c6.drawn d7
  refine (keysAll_ok (hd.chg c7 fun _ _ h => h) hi (by unfold big; omega)).mono ?_
  rintro e w8 ⟨A8, c8, rfl, hO8, hB8, ch8⟩
  refine ⟨_, _, _, rfl, ch8.ext, fun w9 d9 => ?_⟩
  have c9 := (c7.trans' ch8).drawn d9
  refine (rkeys_ok (h.chg' c9) hf).mono ?_
  rintro e w10 ⟨A10, c10, rfl, hO10, hB10, ch10⟩
  have hk := hr.keys hi
  have hkl : (sortS (d.m.map (·.1))).length = d.m.length := by simp
  rw [← hkl] at hO8 ⊢
  refine ⟨_, _, _, rfl, ch10.ext, true, fun w0 he => ?_, fun w11 d11 => ⟨rfl, (c9.trans' ch10).drawn d11⟩⟩
  have r8 : Rd w0 (.slice A8 (sortS (d.m.map (·.1))).length c8) (strs (sortS (d.m.map (·.1)))) := ((Own.rd hO8).ext (((d9.chg _).trans' ch10).ext)).ext he
  have r10 : Rd w0 (.slice A10 r.keys.length c10) (strs r.keys) := (Own.rd hO10).ext he
  refine (same_ok r8 r10 (by rw [hkl]; omega)).mono ?_
  rintro e w00 ⟨rfl, d00⟩
  rw [hk]
  exact ⟨by simp, d00⟩
end Go.Proofs.Ytcljmlgbmjjldaa
