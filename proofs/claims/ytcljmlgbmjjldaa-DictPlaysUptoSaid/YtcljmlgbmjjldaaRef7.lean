/- The document's dict: visit, Scan. -/
import Derived.Test.YtcljmlgbmjjldaaRef6
import Derived.Test.YtcljmlgbmjjldaaDictS
import Derived.Test.YtcljmlgbmjjldaaDict15
namespace Go.Proofs.Ytcljmlgbmjjldaa
open Go Go.VC Go.RowKit Go.Proofs.Ytcljmlgbmjjldaa.F
set_option linter.unusedVariables false
set_option linter.unusedSimpArgs false
theorem high_zero {c kS n : Nat} (hc : c < 2 ^ (kS + n)) : c &&& (2 ^ (kS + n) - 2 ^ kS) = 0 ↔ c < 2 ^ kS := by
  have e1 : 2 ^ (kS + n) - 2 ^ kS = (2 ^ n - 1) <<< kS := by
    rw [Nat.shiftLeft_eq, Nat.sub_mul, Nat.one_mul, Nat.pow_add, Nat.mul_comm]
  have e2 : c &&& ((2 ^ n - 1) <<< kS) = ((c >>> kS) &&& (2 ^ n - 1)) <<< kS := by
    apply Nat.eq_of_testBit_eq
    intro i
    simp only [Nat.testBit_and, Nat.testBit_shiftLeft, Nat.testBit_shiftRight]
    by_cases h : kS ≤ i
    · simp [h]
    · simp [h]
  rw [e1, e2, Nat.and_two_pow_sub_one_eq_mod, Nat.shiftLeft_eq, Nat.shiftRight_eq_div_pow]
  have hd : c / 2 ^ kS < 2 ^ n := Nat.div_lt_of_lt_mul (by rw [← Nat.pow_add]; exact hc)
  rw [Nat.mod_eq_of_lt hd, Nat.mul_eq_zero]
  have hp := pow_pos' kS
  constructor
  · rintro (h | h)
    · exact (Nat.div_eq_zero_iff.1 h).resolve_left (by omega)
    · omega
  · intro h; exact .inl (Nat.div_eq_of_lt h)
/-- keys told, in a row of one's own -/
def GivesV (w w' : World) (l : List Str) (v : Value) : Prop := ∃ A c, v = .slice A l.length c ∧ Own w' tS (.slice A l.length c) l.length (strs l) ∧ (∀ b, (Value.slice A l.length c).ownBlock = some b → w.heap.size ≤ b) ∧ Chg (fun _ => False) w w'
theorem tmodN (c n : Nat) : Int.tmod ((c : Nat) : Int) ((n : Nat) : Int) = ((c % n : Nat) : Int) := rfl
theorem appS {w : World} {A : Option Addr} {c : Nat} {l k : List Str} (h : Own w tS (.slice A l.length c) l.length (strs l)) {x : Value} (hx : Rd w x (strs k)) (hl : l.length + k.length ≤ 8796093022208) :
    ∃ A' c' w', Sem.run Try.prog (builtin .append #[30, 30] 30 #[false, false] #[.slice A l.length c, x]) w = .ok (.value (.slice A' (l ++ k).length c')) w' ∧ Own w' tS (.slice A' (l ++ k).length c') (l ++ k).length (strs (l ++ k)) ∧ Chg (fun b => (Value.slice A l.length c).ownBlock = some b) w w' ∧
      (∀ b, (Value.slice A' (l ++ k).length c').ownBlock = some b → (Value.slice A l.length c).ownBlock = some b ∨ w.heap.size ≤ b) := by
  obtain ⟨i9, i1, i2, i3, i4⟩ := info9
  have hsrc := hx.src (P := Try.prog) (tx := 30) (e := 9) Try.underlying30 (fun u hu => by
    obtain ⟨s, _, rfl⟩ := List.mem_map.1 hu; rfl)
  rw [strs_length] at hsrc
  obtain ⟨A', c', w', hrun, hO, hC, hN⟩ := Own.appendS (P := Try.prog) (ty := 30) Try.underlying30 i1 i2 i3 rfl h hsrc (by rw [i4]; omega) (by omega) #[false, false]
  rw [← List.length_append] at hrun hO hN
  rw [← strs_append] at hO
  exact ⟨A', c', w', hrun, hO, hC, hN⟩

set_option maxHeartbeats 1000000 in
/-- the two tables' part of a visit, from their own copies on -/
theorem rtwo_ok {w0 w : World} {r : RD} {A1 A2 : Option Addr} {c1 c2 : Nat} {B : Nat → Prop} {g gl gm : Nat} {sA lA : Option Addr} {sc lc : Nat} {sm lg : List It} {kS n c : Nat} {tg : List Str × Nat}
    (hb : w.heap[g]? = some (.cells (cR r (.slice A1 r.l1.length c1) (.slice A2 r.l2.length c2)) 55 (0, 0))) (hbl : w.heap[gl]? = some (.cells #[.int .i64 ((2 ^ kS : Nat) : Int), .slice sA sm.length sc] 53 (0, 0))) (hbm : w.heap[gm]? = some (.cells #[.int .i64 ((2 ^ (kS + n) : Nat) : Int), .slice lA lg.length lc] 53 (0, 0)))
    (hs : OwnI w (.slice sA sm.length sc) sm) (hl : OwnI w (.slice lA lg.length lc) lg) (ks : ∀ p ∈ sm, p.1.size < 9223372036854775808) (kl : ∀ p ∈ lg, p.1.size < 9223372036854775808) (fs : sm.length ≤ 1099511627776) (fl : lg.length ≤ 1099511627776)
    (hk : kS + n ≤ 40) (hc : c < 9223372036854775808) (htg : r.two (2 ^ kS) sm (2 ^ (kS + n)) lg c = tg) (hbig : tg.1.length ≤ 1099511627776) (hch : Chg (fun _ => False) w0 w) :
    V72_k2 c ⟨g, 0, none⟩ ⟨gl, 0, none⟩ ⟨gm, 0, none⟩ w (fun e w' => ∃ v, e = .returned (.tuple #[v, .int .i64 tg.2]) ∧ GivesV w0 w' tg.1 v) := by
  unfold V72_k2
  intro w1 d1
  simp only [add_mk, Nat.reduceAdd]
  have hpS : (2 : Nat) ^ kS ≠ 0 := by have := pow_pos' kS; omega
  have hpL : (2 : Nat) ^ (kS + n) ≠ 0 := by have := pow_pos' (kS + n); omega
  have hLS : (2 : Nat) ^ kS ≤ 2 ^ (kS + n) := Nat.pow_le_pow_right (by omega) (by omega)
  have hL40 : (2 : Nat) ^ (kS + n) ≤ 2 ^ 40 := Nat.pow_le_pow_right (by omega) hk
  refine ld6 (d1.blk hb) ⟨_, cell_blk (d1.blk hbl) rfl, _, _, _, cell_blk (d1.blk hbl) rfl, _, cell_blk (d1.blk hbl) rfl, ?_⟩
  generalize hS2 : (2 : Nat) ^ kS = S2 at *
  generalize hL2 : (2 : Nat) ^ (kS + n) = L2 at *
  refine ⟨by omega, fun w2 d2 => ?_⟩
  rw [tmodN]
  have dd := d1.trans d2
  refine (rin_ok (v1 := .map none) (v2 := .map none) (hs.chg (dd.chg (fun _ => False)) fun _ _ h => h) fs ks hpS).mono ?_
  rintro e w3 ⟨A3, c3, rfl, hO3, hB3, ch3⟩
  refine ⟨_, _, _, rfl, ch3.ext, fun w4 d4 => ?_⟩
  have c04 : Chg (fun _ => False) w w4 := ((dd.chg _).trans' ch3).drawn d4
  have hlog : Nat.log2 S2 = kS ∧ Nat.log2 L2 = kS + n := ⟨by rw [← hS2, log2_pow], by rw [← hL2, log2_pow]⟩
  have hleft0 : left kS n c ≤ L2 := by
    rw [← hL2, Nat.pow_add]
    exact Nat.le_trans (Nat.sub_le _ _) (Nat.le_mul_of_pos_left _ (pow_pos' kS))
  have htg' : tg = (r.inB sm S2 (c % S2) ++ (r.visitL lg (kS + n) kS L2 c).1, (r.visitL lg (kS + n) kS L2 c).2) := by
    rw [← htg]; unfold RD.two; rw [hlog.1, hlog.2]
  refine ⟨fun cc o on oc w' => ∃ (q f : Nat) (O : List Str), cc = q ∧ q < 9223372036854775808 ∧ on = O.length ∧ left kS n q ≤ f ∧ tg = (O ++ (r.visitL lg (kS + n) kS f q).1, (r.visitL lg (kS + n) kS f q).2) ∧ Own w' tS (.slice o on oc) on (strs O) ∧ (∀ b, (Value.slice o on oc).ownBlock = some b → w.heap.size ≤ b) ∧ Chg (fun x => w.heap.size ≤ x) w w',
    fun cc _ _ _ _ => left kS n cc.toNat, ⟨c, L2, _, rfl, hc, rfl, hleft0, htg', d4.own hO3, fun b hb => Nat.le_trans (by rw [dd.heap]; exact Nat.le_refl _) (hB3 b hb), c04.mono fun _ h => h.elim⟩, ?_⟩
  rintro cc o on oc w5 ⟨q, f, O, rfl, hq, rfl, hleft, htgq, hO, hBO, ch5⟩ w6 d6
  have ch6 := ch5.drawn d6
  have lts : g < w.heap.size ∧ gl < w.heap.size ∧ gm < w.heap.size := ⟨lt_blk hb, lt_blk hbl, lt_blk hbm⟩
  have b6 := ch6.blk hb (by omega)
  have bl6 := ch6.blk hbl (by omega)
  have bm6 := ch6.blk hbm (by omega)
  refine ld6 b6 ⟨_, cell_blk bm6 rfl, _, _, _, cell_blk bm6 rfl, _, cell_blk bm6 rfl, by omega, fun w7 d7 => ?_⟩
  rw [tmodN]
  have hl7 := (hl.chg ch6 fun b hx hle => by have := hl.lt hx; omega).chg (d7.chg (fun _ => False)) fun _ _ h => h
  refine (rin_ok (v1 := .map none) (v2 := .map none) hl7 fl kl hpL).mono ?_
  rintro e w8 ⟨A8, c8, rfl, hO8, hB8, ch8⟩
  refine ⟨_, _, _, rfl, ch8.ext, fun w9 d9 => ?_⟩
  have c69 : Chg (fun _ => False) w6 w9 := ((d7.chg _).trans' ch8).drawn d9
  obtain ⟨f', rfl⟩ : ∃ f', f = f' + 1 := ⟨f - 1, by have := left_pos kS n q; omega⟩
  have hvis : r.visitL lg (kS + n) kS (f' + 1) q = if nextCur q (kS + n) < S2 then (r.inB lg L2 (q % L2), nextCur q (kS + n)) else (r.inB lg L2 (q % L2) ++ (r.visitL lg (kS + n) kS f' (nextCur q (kS + n))).1, (r.visitL lg (kS + n) kS f' (nextCur q (kS + n))).2) := by
    rw [← hS2, ← hL2]; rfl
  have hbound : O.length + (r.inB lg L2 (q % L2)).length ≤ tg.1.length := by
    rw [htgq, hvis]
    split <;> simp <;> omega
  have hO9 : Own w9 tS (.slice o O.length oc) O.length (strs O) := Own.chg (d6.own hO) c69 fun _ _ h => h
  obtain ⟨A10, c10, w10, hr10, hO10, hC10, hN10⟩ := appS hO9 (Own.rd (d9.own hO8)) (by omega)
  refine ⟨A10, _, c10, w10, hr10, fun w11 d11 => ?_⟩
  have ch11 : Chg (fun x => w.heap.size ≤ x) w w11 := ((ch6.trans c69 fun _ h => h.elim).trans hC10 fun x hx => .inl (hBO x hx)).drawn d11
  have bl11 := ch11.blk hbl (by omega)
  have bm11 := ch11.blk hbm (by omega)
  refine ⟨_, cell_blk bm11 rfl, ?_⟩
  have hrn := rnext_ok w11 hq hk
  rw [hL2] at hrn
  refine hrn.mono ?_
  rintro e w12 ⟨rfl, rfl⟩
  refine ⟨_, rfl, _, cell_blk bm11 rfl, _, cell_blk bl11 rfl, ?_⟩
  have hnlt : nextCur q (kS + n) < L2 := by rw [← hL2]; exact nextCur_lt (by omega) q
  have hsub : IntKind.wrap .i64 (((L2 : Nat) : Int) - ((S2 : Nat) : Int)) = ((L2 - S2 : Nat) : Int) := by rw [w64 (by omega) (by omega)]; omega
  have hand : andI .i64 ((nextCur q (kS + n) : Nat) : Int) (IntKind.wrap .i64 (((L2 : Nat) : Int) - ((S2 : Nat) : Int))) = ((nextCur q (kS + n) &&& (L2 - S2) : Nat) : Int) := by
    rw [hsub, andI_nat (by omega) (by omega)]
  have hz : nextCur q (kS + n) &&& (L2 - S2) = 0 ↔ nextCur q (kS + n) < S2 := by
    have := high_zero (c := nextCur q (kS + n)) (kS := kS) (n := n) (by rw [hL2]; exact hnlt)
    rw [hS2, hL2] at this; exact this
  rw [hand]
  have hB10 : ∀ b, (Value.slice A10 (O ++ r.inB lg L2 (q % L2)).length c10).ownBlock = some b → w.heap.size ≤ b := fun b hb => (hN10 b hb).elim (hBO b) fun hle => Nat.le_trans (Nat.le_trans ch6.size c69.size) hle
  refine ⟨fun h0 => ?_, fun h0 => ?_⟩
  · have h0' := hz.1 (beq0.1 h0)
    rw [hvis, if_pos h0'] at htgq
    rw [htgq]
    refine ⟨_, rfl, A10, c10, rfl, d11.own hO10, fun b hb => Nat.le_trans hch.size (hB10 b hb), hch.trans' (Chg.fresh ch11)⟩
  · have h0' : ¬ nextCur q (kS + n) < S2 := fun h => (beq0'.1 h0) (hz.2 h)
    rw [hvis, if_neg h0'] at htgq
    have hln := left_next (kS := kS) (n := n) (by omega) q (by rw [hS2]; exact h0')
    refine ⟨⟨nextCur q (kS + n), f', O ++ r.inB lg L2 (q % L2), rfl, by omega, rfl, by omega, by rw [htgq, List.append_assoc], d11.own hO10, hB10, ch11⟩, ?_⟩
    simp only [toNatN]
    omega

set_option maxHeartbeats 1000000 in
theorem rvisit_ok {w : World} {d : D} {r : RD} {A1 A2 : Option Addr} {c1 c2 : Nat} {B : Nat → Prop} (h : RAt w (.slice A1 r.l1.length c1) (.slice A2 r.l2.length c2) r B) (hf : Fit r) (hr : Rel d r) (hi : D.Inv d) (hb1 : d.b1 ≠ []) {c : Nat} (hc : c < 9223372036854775808) (hbig : (d.visit c).1.length ≤ 1099511627776) :
    Calls Try.prog 72 #[valR r (.slice A1 r.l1.length c1) (.slice A2 r.l2.length c2), .int .i64 c] w fun e w' => ∃ v, e = .returned (.tuple #[v, .int .i64 (d.visit c).2]) ∧ GivesV w w' (d.visit c).1 v := by
  have hfew := hf.few
  have hk1 : ∀ p ∈ r.l1, p.1.size < 9223372036854775808 := fun p hp => hf.keys p (List.mem_append_left _ hp)
  have hk2 : ∀ p ∈ r.l2, p.1.size < 9223372036854775808 := fun p hp => hf.keys p (List.mem_append_right _ hp)
  obtain ⟨k1, _, hk1', hn1⟩ := hi.p1.resolve_left hb1
  have hrn1 : r.n1 = 2 ^ k1 := by rw [hr.n1, hn1]
  have hp1 := pow_pos' k1
  have hvis := hr.visit hi hb1 c
  rw [← hvis] at hbig ⊢
  refine v72 _ _ _ _ _ _ _ _ _ _ _ _ _ ?_
  unfold V72
  intro g w1 hg hw1
  obtain ⟨b1, ch1, s1⟩ := blk_alloc hg hw1
  refine ld6 b1 ((rmoving_ok w1 r).mono ?_)
  rintro e w2 ⟨rfl, ch2⟩
  have ch := ch1.trans' ch2
  refine ⟨_, rfl, fun hm w3 d3 => ?_, fun hm w7 d7 => ?_⟩
  · have hm' : ¬ 0 < r.n2 := of_decide_eq_false (by simpa using hm)
    have b3 := d3.blk (ch2.blk b1 id)
    have hv : r.visit c = (r.inB r.l1 r.n1 (c % r.n1), nextCur c (Nat.log2 r.n1)) := by unfold RD.visit; rw [if_neg hm']
    rw [hv] at hbig ⊢
    refine ld6 b3 ⟨_, cell_blk b3 rfl, _, _, _, cell_blk b3 rfl, _, cell_blk b3 rfl, by omega, _, cell_blk b3 rfl, fun w4 d4 => ?_⟩
    rw [tmodN]
    have c4 : Chg (fun _ => False) w w4 := (ch.drawn d3).drawn d4
    refine (rin_ok (v1 := .map none) (v2 := .map none) (h.chg' c4).o1 (by omega) hk1 (show r.n1 ≠ 0 by omega)).mono ?_
    rintro e w5 ⟨A5, c5, rfl, hO5, hB5, ch5⟩
    refine ⟨_, _, _, rfl, ch5.ext, _, fun w0 _ => ?_, fun w6 d6 => ⟨_, rfl, A5, c5, rfl, d6.own hO5, fun b hb => Nat.le_trans c4.size (hB5 b hb), (c4.trans' ch5).drawn d6⟩⟩
    rw [hrn1, log2_pow]
    refine (rnext_ok w0 hc hk1').mono ?_
    rintro e w00 ⟨rfl, rfl⟩
    exact ⟨rfl, Drawn.refl _⟩
  · have hm' : 0 < r.n2 := of_decide_eq_true (by simpa using hm)
    have hb2 : d.b2 ≠ [] := by rw [hr.n2] at hm'; exact List.length_pos_iff.1 hm'
    obtain ⟨k2, _, hk2', hn2⟩ := hi.p2.resolve_left hb2
    have hrn2 : r.n2 = 2 ^ k2 := by rw [hr.n2, hn2]
    have b7 := d7.blk (ch2.blk b1 id)
    have c7 : Chg (fun _ => False) w w7 := ch.drawn d7
    have hgw : w.heap.size ≤ g := by omega
    have lt7 := lt_blk b7
    -- from the two copies on
    have fin : ∀ {gl gm : Nat} {w8 : World}, w7.heap.size ≤ gl → w7.heap.size ≤ gm → gl ≠ gm → w8.heap[gl]? = some (.cells #[.int .i64 r.n1, .slice A1 r.l1.length c1] 53 (0, 0)) → w8.heap[gm]? = some (.cells #[.int .i64 r.n2, .slice A2 r.l2.length c2] 53 (0, 0)) → Chg (fun x => w7.heap.size ≤ x) w7 w8 →
        V72_k1 c ⟨g, 0, none⟩ ⟨gl, 0, none⟩ ⟨gm, 0, none⟩ w8 (fun e w' => ∃ v, e = .returned (.tuple #[v, .int .i64 (r.visit c).2]) ∧ GivesV w w' (r.visit c).1 v) := by
      intro gl gm w8 hgl hgm hne bl bm ch8
      have b8 := ch8.blk b7 (by omega)
      have cw8 : Chg (fun _ => False) w w8 := c7.trans ch8 fun x hx => .inr (Nat.le_trans c7.size hx)
      have h8 := h.chg' cw8
      unfold V72_k1
      simp only [add_mk, Nat.reduceAdd]
      refine ⟨_, cell_blk bl rfl, _, cell_blk bm rfl, fun hgt => ?_, fun hgt => ?_⟩
      · have hgt' : r.n2 < r.n1 := by have := of_decide_eq_true hgt; omega
        have hle : k2 ≤ k1 := Nat.le_of_not_lt fun hh => by
          have : 2 ^ k1 ≤ 2 ^ k2 := Nat.pow_le_pow_right (by omega) (by omega)
          omega
        obtain ⟨n, rfl⟩ : ∃ n, k1 = k2 + n := ⟨k1 - k2, by omega⟩
        have hv : r.visit c = r.two r.n2 r.l2 r.n1 r.l1 c := by unfold RD.visit; rw [if_pos hm', if_pos hgt']
        refine ⟨_, cell_blk bm rfl, _, _, _, cell_blk bm rfl, _, cell_blk bl rfl, _, _, _, cell_blk bl rfl, ?_⟩
        refine storeN_blk bl (by simp) rfl fun w9 b9 ch9 w10 e => ?_
        subst e
        refine storeN_blk (ch9.blk bm fun e => hne e.symm) (by simp) rfl fun w11 b11 ch11 w12 e => ?_
        subst e
        have cc : Chg (fun x => w7.heap.size ≤ x) w8 w12 := (ch9.mono fun x hx => (by rw [show x = gl from hx]; exact hgl)).trans ch11 fun x hx => .inl (by rw [show x = gm from hx]; exact hgm)
        have cw : Chg (fun _ => False) w w12 := cw8.trans cc fun x hx => .inr (Nat.le_trans c7.size hx)
        have hO := h.chg' cw
        rw [hrn1, hrn2] at hv
        exact rtwo_ok (B := B) (cc.blk b8 (by omega)) (by rw [← hrn2]; exact ch11.blk b9 hne) (by rw [← hrn1]; exact b11) hO.o2 hO.o1 hk2 hk1 (by omega) (by omega) hk1' hc hv.symm hbig cw
      · have hgt' : ¬ r.n2 < r.n1 := by have := of_decide_eq_false hgt; omega
        have hle : k1 ≤ k2 := Nat.le_of_not_lt fun hh => by
          have : 2 ^ k2 < 2 ^ k1 := Nat.pow_lt_pow_right (by omega) hh
          omega
        obtain ⟨n, rfl⟩ : ∃ n, k2 = k1 + n := ⟨k2 - k1, by omega⟩
        have hv : r.visit c = r.two r.n1 r.l1 r.n2 r.l2 c := by unfold RD.visit; rw [if_pos hm', if_neg hgt']
        rw [hrn1, hrn2] at hv
        exact rtwo_ok (B := B) b8 (by rw [← hrn1]; exact bl) (by rw [← hrn2]; exact bm) h8.o1 h8.o2 hk1 hk2 (by omega) (by omega) hk2' hc hv.symm hbig cw8
    refine ⟨fun x => w7.heap.size ≤ x, _, cell_blk b7 rfl, _, _, _, cell_blk b7 rfl, (by show ¬ _ ≤ g; omega), _, cell_blk b7 rfl, _, _, _, cell_blk b7 rfl, fun w8 d8 => ?_, fun w8 d8 => ?_⟩
    all_goals
      intro ga w9 hga hw9
      obtain ⟨b9, ch9, s9⟩ := blk_alloc hga hw9
      refine ⟨ch9.ext, fun w10 d10 => ?_⟩
      intro gb w11 hgb hw11
      obtain ⟨b11, ch11, s11⟩ := blk_alloc hgb hw11
      refine ⟨ch11.ext, fun w12 d12 => ?_⟩
      have e8 : w8.heap.size = w7.heap.size := by rw [d8.heap]
      have e10 : w10.heap.size = w9.heap.size := by rw [d10.heap]
      have c12 : Chg (fun x => w7.heap.size ≤ x) w7 w12 := ((((d8.chg _).trans ch9 fun _ h => h.elim).drawn d10).trans ch11 fun _ h => h.elim).drawn d12
      have ba : w12.heap[ga]? = some (.cells #[.int .i64 0, .slice none 0 0] 53 (0, 0)) := d12.blk (ch11.blk (d10.blk b9) id)
      have bb : w12.heap[gb]? = some (.cells #[.int .i64 0, .slice none 0 0] 53 (0, 0)) := d12.blk b11
    · refine storeN_blk ba (by simp) rfl fun w13 b13 ch13 w14 e => ?_
      subst e
      refine ⟨(ch13.mono fun x hx => (by show w7.heap.size ≤ x; omega)).extB, fun w15 d15 => ?_⟩
      refine storeN_blk (d15.blk (ch13.blk bb (by omega))) (by simp) rfl fun w16 b16 ch16 w17 e => ?_
      subst e
      refine ⟨(ch16.mono fun x hx => (by show w7.heap.size ≤ x; omega)).extB, fun w18 d18 => ?_⟩
      exact fin (gl := ga) (gm := gb) (by omega) (by omega) (by omega) (d18.blk (ch16.blk (d15.blk b13) (by omega))) (d18.blk b16) ((((c12.trans ch13 fun x hx => .inl (by omega)).drawn d15).trans ch16 fun x hx => .inl (by omega)).drawn d18)
    · refine storeN_blk bb (by simp) rfl fun w13 b13 ch13 w14 e => ?_
      subst e
      refine ⟨(ch13.mono fun x hx => (by show w7.heap.size ≤ x; omega)).extB, fun w15 d15 => ?_⟩
      refine storeN_blk (d15.blk (ch13.blk ba (by omega))) (by simp) rfl fun w16 b16 ch16 w17 e => ?_
      subst e
      refine ⟨(ch16.mono fun x hx => (by show w7.heap.size ≤ x; omega)).extB, fun w18 d18 => ?_⟩
      exact fin (gl := gb) (gm := ga) (by omega) (by omega) (by omega) (d18.blk (ch16.blk (d15.blk b13) (by omega))) (d18.blk b16) ((((c12.trans ch13 fun x hx => .inl (by omega)).drawn d15).trans ch16 fun x hx => .inl (by omega)).drawn d18)
end Go.Proofs.Ytcljmlgbmjjldaa
