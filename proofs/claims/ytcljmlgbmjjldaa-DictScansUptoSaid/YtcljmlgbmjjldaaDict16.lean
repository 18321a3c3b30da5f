/- DictScans: the walk. -/
import Derived.Test.YtcljmlgbmjjldaaDict15
import Derived.Test.YtcljmlgbmjjldaaF4
namespace Go.Proofs.Ytcljmlgbmjjldaa
open Go Go.VC Go.RowKit Go.Proofs.Ytcljmlgbmjjldaa.F
set_option linter.unusedVariables false
set_option linter.unusedSimpArgs false
/-- what holds ahead of Scan i -/
structure ScansI (d0 : D) (S : List Str) (na L N i c : Nat) (d : D) (E M : List Str) : Prop where
  good : Good d (na + min (3 * i) L)
  seed : d.seed = d0.seed
  stay : ∀ x ∈ S, x ∈ d.ks
  met : ∀ x ∈ S, place (hashOf d0.seed x) < place c → x ∈ M
  ever : ∀ x ∈ M, x ∈ E
  keys : ∀ x ∈ d.ks, x ∈ E
  few : E.length ≤ na + min (3 * i) L
  clock : i ≤ L + pos d.bits c
  cur : c < 9223372036854775808
  len : MetLen L N i d c M
/-- what holds between two Scans -/
structure ChangesI (d0 d : D) (S E : List Str) (na L i k : Nat) (d1 : D) (E1 : List Str) : Prop where
  lo : 3 * i ≤ k
  hi : k ≤ 3 * i + 3
  le : k = 3 * i ∨ k ≤ L
  same : k = 3 * i → d1 = d
  good : Good d1 (na + min k L)
  seed : d1.seed = d0.seed
  stay : ∀ x ∈ S, x ∈ d1.ks
  keys : ∀ x ∈ d1.ks, x ∈ E1
  more : ∀ x ∈ E, x ∈ E1
  few : E1.length ≤ na + min k L
theorem bits_small {d : D} (hi : D.Inv d) (c : Nat) : pos d.bits c < 1099511627776 := by
  have hb : d.bits ≤ 40 := by
    by_cases hb : d.b1 = []
    · have h2 := hi.e hb
      unfold D.bits
      rw [if_neg (by rw [D.moves_iff'.2 h2]; decide), hb]
      decide
    · exact (D.visit_pos hi hb 0).2.2.1
  exact Nat.lt_of_lt_of_le (pos_lt _ _) (Nat.le_trans (Nat.pow_le_pow_right (by omega) hb) (by decide))
theorem scan_empty {d : D} (hb : d.b1 = []) (c n : Int) : d.scan c n = ([], 0) := by unfold D.scan; rw [if_pos (by rw [hb]; rfl)]
theorem keys_empty {d : D} (hi : D.Inv d) (hb : d.b1 = []) : d.ks = [] := by
  have h2 := hi.e hb
  have h3 := hi.keys.length_eq
  rw [hb, h2] at h3
  exact List.eq_nil_of_length_eq_zero h3.symm

set_option maxHeartbeats 1000000 in
theorem scans_walk {w : World} {seed n : Int} {A1 A2 : Option Addr} {c1 c2 : Nat} {ahead between : List Op} (hops1 : OpsAt w A1 ahead) (hok1 : ∀ o ∈ ahead, o.Ok) (hops2 : OpsAt w A2 between) (hok2 : ∀ o ∈ between, o.Ok) (hl : ahead.length + between.length ≤ 1048576) (hn : n < 9223372036854775808) :
    Calls Try.prog 6 #[.agg #[.int .i64 seed, .slice A1 ahead.length c1, .slice A2 between.length c2, .int .i64 n]] w fun e w' => e = .returned (.bool true) ∧ Chg (fun _ => False) w w' := by
  refine v6 _ _ _ _ _ _ _ _ _ _ ?_
  unfold V6
  intro gw w1 hgw hw1
  have hb1 : w1.heap[gw]? = some (.cells #[.int .i64 seed, .slice A1 ahead.length c1, .slice A2 between.length c2, .int .i64 n] 42 (0, 0)) := by subst hgw; subst hw1; exact new_blk _ _
  have ch1 : Chg (fun _ => False) w w1 := by subst hw1; exact Chg.alloc _ _ _
  have hops1 := hops1.later (ch1.mono fun _ h => h.elim)
  have hops2 := hops2.later (ch1.mono fun _ h => h.elim)
  refine ⟨_, cell_blk hb1 rfl, (new_ok seed w1).mono ?_⟩
  rintro e w2 ⟨g, F0, rfl, hd2, hF2, ch2⟩
  refine ⟨_, rfl, fun w3 d3 => ?_⟩
  have hb3 := d3.blk (ch2.blk hb1 id)
  refine ⟨_, _, _, cell_blk hb3 rfl, _, _, _, cell_blk hb3 rfl, _, cell_blk hb3 rfl, fun w4 d4 => ?_⟩
  refine (works_ok w4).mono ?_
  rintro e w5 ⟨rfl, ch5⟩
  have hr : Run w1 w5 g (D.new seed) 0 := by
    have h4 := hd2.drawn (d3.trans d4)
    exact ⟨⟨F0, h4.chg ch5 fun _ _ h => h, hF2⟩, ((ch2.drawn (d3.trans d4)).trans' ch5).mono fun _ h => h.elim, Good.new seed⟩
  have fin : ∀ {w' : World}, Chg (fun x => w1.heap.size ≤ x) w1 w' → Chg (fun _ => False) w w' := fun h => ch1.trans' (h.newer fun x hx => .inr hx)
  clear hb3 d3 d4 ch5 ch2 hd2 hF2 hb1
  refine ⟨_, rfl, fun _ => ?_, fun h => (by cases h)⟩
  unfold V6_k1
  refine ⟨fun h => (by cases h), fun _ => ?_⟩
  refine ⟨fun i w4 => ∃ (j : Nat) (d : D) (F : Nat → Prop), i = j ∧ j ≤ ahead.length ∧ Good d j ∧ RI w1 w4 g d F [], fun i _ => ahead.length - i.toNat, ?_, ?_⟩
  · obtain ⟨F, h⟩ := RI.of_run hr
    exact ⟨0, _, F, rfl, Nat.zero_le _, hr.good, h⟩
  rintro i w7 ⟨j, d, F, rfl, hj, hg, hI⟩
  have hfew := hg.few
  refine ⟨fun hd => ?_, fun hd => ?_⟩
  · have hjl : j < ahead.length := by have := of_decide_eq_true hd; omega
    have hget : ahead[j]? = some ahead[j] := List.getElem?_eq_getElem hjl
    obtain ⟨a, rfl, q1, q2, q3⟩ := hops1.later hI.chg j _ hget
    have ho := hok1 _ (List.getElem_mem hjl)
    refine ⟨by omega, by omega, _, by rw [toNatN]; exact q1, _, by rw [toNatN]; exact q2, _, by rw [toNatN]; exact q3, ?_⟩
    refine (ri_changed hI hg (by omega) ho (rd_nil w7) (by decide)).mono ?_
    rintro e w5 ⟨rfl, F5, hI5⟩
    refine ⟨rfl, ?_⟩
    rw [w64s (by omega)]
    exact ⟨⟨j + 1, _, F5, rfl, hjl, hg.change (by omega) ho [], hI5⟩, by dsimp only; omega⟩
  have hje : j = ahead.length := by have := of_decide_eq_false hd; omega
  subst hje
  generalize hna : ahead.length = na at *
  generalize hL : between.length = L at *
  -- the keys that stay, the keys that ever were
  refine (keysAll_ok hI.dict hg.inv (by unfold big; omega)).mono ?_
  rintro e w9 ⟨sA, sc, rfl, hoS, hnS, hcS⟩
  have hS0 : (sortS (d.m.map (·.1))).length = d.m.length := by simp
  have hI9 := hI.push (l := sortS (d.m.map (·.1))) (by rw [hS0]; exact hoS) hcS hnS
  refine ⟨_, _, _, rfl, (keysAll_ok hI9.dict hg.inv (by unfold big; omega)).mono ?_⟩
  rintro e w10 ⟨eA, ec, rfl, hoE, hnE, hcE⟩
  have hI10 := hI9.push (l := sortS (d.m.map (·.1))) (by rw [hS0]; exact hoE) hcE hnE
  have hI10' := hI10.push (l := []) (Own.nil _ _) (Chg.refl _ _) (fun b hb => by simp [Value.ownBlock] at hb)
  refine ⟨_, _, _, rfl, ?_⟩
  have hSmem : ∀ x, x ∈ sortS (d.m.map (·.1)) ↔ x ∈ d.ks := fun x => (sortS_perm _).mem_iff
  rw [← hS0] at hI10' hfew ⊢
  generalize sortS (d.m.map (·.1)) = S at hI10' hSmem hfew
  clear hI hI9 hI10 hoS hoE hcS hcE hS0 hd
  refine ⟨fun eA en ec mA mn mc cc i w11 => ∃ (i' c' : Nat) (d' : D) (F' : Nat → Prop) (E M : List Str), i = i' ∧ cc = c' ∧ en = E.length ∧ mn = M.length ∧ ScansI d S na L (na + L) i' c' d' E M ∧ RI w1 w11 g d' F' [(.slice mA mn mc, M), (.slice eA en ec, E), (.slice sA S.length sc, S)],
    fun _ _ _ _ _ _ _ i _ => 4398046511104 - i.toNat, ?_, ?_⟩
  · refine ⟨0, 0, d, F, S, [], rfl, rfl, rfl, rfl, ⟨hg.mono (by omega), rfl, fun x hx => (hSmem x).1 hx, fun x _ h => by rw [place_zero] at h; omega, fun x hx => (by cases hx), fun x hx => (hSmem x).2 hx, by omega, Nat.zero_le _, by decide, ?_⟩, hI10'⟩
    by_cases hL0 : L = 0
    · exact .inr ⟨by omega, [], [], rfl, Nat.zero_le _, List.nodup_nil, fun x hx => by cases hx⟩
    · exact .inl ⟨by omega, Nat.zero_le _⟩
  clear hI10'
  rintro eA en ec mA mn mc cc i w11 ⟨p, c, d', F', E, M, rfl, rfl, rfl, rfl, hP, hI⟩
  have hgd := hP.good
  have hinv := hgd.inv
  have hdfew : d'.m.length ≤ na + L := Nat.le_trans hgd.few (by omega)
  have hsl := D.scan_len hinv c n
  have hMl := hP.len.le hdfew
  have hmul : (L + 1) * (na + L) ≤ 1048577 * 1048576 := Nat.mul_le_mul (by omega) (by omega)
  have hclk := hP.clock
  have hps := bits_small hinv c
  refine (scan_ok' hI.dict hinv (by have := hP.cur; omega) hn (by unfold big; omega) (by unfold big; omega)).mono ?_
  rintro e w12 ⟨lA, lc, rfl, hoL, hnL, hcL⟩
  have hI12 := hI.chg' hcL
  refine ⟨_, _, _, _, rfl, ?_⟩
  obtain ⟨mA', mc', w13, hrun, hI13, _⟩ := hI12.app hoL.rd (by omega)
  refine ⟨mA', _, mc', w13, hrun, ?_⟩
  have hsub : ∀ x ∈ (d'.scan c n).1, x ∈ d'.ks := fun x hx => by
    by_cases hb : d'.b1 = []
    · rw [scan_empty hb] at hx; cases hx
    · exact ((D.scan_scanned hinv hb c n).spec hinv hb).2.1 x hx |>.1
  have hEM : ∀ x ∈ M ++ (d'.scan c n).1, x ∈ E := fun x hx => (List.mem_append.1 hx).elim (hP.ever x) fun hx => hP.keys x (hsub x hx)
  have hch : d'.b1 ≠ [] → D.Scanned d' c (d'.scan c n).1 (d'.scan c n).2 := fun hb => by
    have := D.scan_scanned hinv hb c n
    rwa [show (max 0 (c : Int)).toNat = c by omega] at this
  have hM'len : (M ++ (d'.scan c n).1).length ≤ 2199023255552 := by rw [List.length_append]; omega
  refine ⟨fun h0 => ?_, fun h0 => ?_⟩
  · -- the scan has ended
    have h0' := beq0.1 h0
    have hall : ∀ x ∈ S, x ∈ M ++ (d'.scan c n).1 := fun x hx => by
      have hk := hP.stay x hx
      by_cases hp : place (hashOf d.seed x) < place c
      · exact List.mem_append_left _ (hP.met x hx hp)
      · by_cases hb : d'.b1 = []
        · rw [keys_empty hinv hb] at hk; cases hk
        · exact List.mem_append_right _ ((hch hb).all hinv hb hk (by rw [hP.seed]; omega) (.inl h0'))
    generalize M ++ (d'.scan c n).1 = M' at *
    refine ⟨fun i w' => w' = w13 ∧ ∃ j : Nat, i = j ∧ j ≤ S.length, fun i _ => S.length - i.toNat, ⟨rfl, 0, rfl, Nat.zero_le _⟩, ?_⟩
    rintro i w14 ⟨rfl, j, rfl, hj⟩
    refine ⟨fun hd => ?_, fun hd => ?_⟩
    · have hjl : j < S.length := by have := of_decide_eq_true hd; omega
      have hoS := hI13.own (.slice sA S.length sc, S) (by simp)
      obtain ⟨A, c', e, hat⟩ := Rd.get hoS.rd
      injection e with e1 e2 e3
      subst e1
      obtain ⟨a1, ea1, hc1⟩ := hat j _ (List.getElem?_eq_getElem (by omega))
      subst ea1
      refine ⟨by omega, by omega, _, by rw [toNatN, Nat.mul_one]; exact hc1, (has_ok hI13.head.rd (by omega) _).mono ?_⟩
      rintro e w7 ⟨rfl, rfl⟩
      refine ⟨_, rfl, fun hb => ?_, fun _ => ?_⟩
      · rw [decide_eq_true (hall _ (List.getElem_mem hjl))] at hb; cases hb
      · rw [w64s (by omega)]
        exact ⟨⟨rfl, j + 1, rfl, hjl⟩, by dsimp only; omega⟩
    · refine ⟨fun i w' => w' = w14 ∧ ∃ j : Nat, i = j ∧ j ≤ M'.length, fun i _ => M'.length - i.toNat, ⟨rfl, 0, rfl, Nat.zero_le _⟩, ?_⟩
      rintro i w16 ⟨rfl, j, rfl, hj⟩
      refine ⟨fun hd => ?_, fun hd => ⟨rfl, fin hI13.chg⟩⟩
      have hjl : j < M'.length := by have := of_decide_eq_true hd; omega
      have hoE := hI13.own (.slice eA E.length ec, E) (by simp)
      obtain ⟨A, c', e, hat⟩ := Rd.get hI13.head.rd
      injection e with e1 e2 e3
      subst e1
      obtain ⟨a1, ea1, hc1⟩ := hat j _ (List.getElem?_eq_getElem (by omega))
      subst ea1
      have hfe := hP.few
      refine ⟨by omega, by omega, _, by rw [toNatN, Nat.mul_one]; exact hc1, (has_ok hoE.rd (by show E.length < _; omega) _).mono ?_⟩
      rintro e w7 ⟨rfl, rfl⟩
      refine ⟨_, rfl, fun hb => ?_, fun _ => ?_⟩
      · rw [decide_eq_true (hEM _ (List.getElem_mem hjl))] at hb; cases hb
      · rw [w64s (by omega)]
        exact ⟨⟨rfl, j + 1, rfl, hjl⟩, by dsimp only; omega⟩
  · -- the changes between
    have h0' := beq0'.1 h0
    have hb : d'.b1 ≠ [] := fun hb => h0' (by rw [scan_empty hb])
    have hch := hch hb
    obtain ⟨s1, s2, s3, s4⟩ := hch.spec hinv hb
    have s4 := s4.resolve_left h0'
    have hmet : ∀ x ∈ S, place (hashOf d.seed x) < place (d'.scan c n).2 → x ∈ M ++ (d'.scan c n).1 := fun x hx hp => by
      by_cases hp' : place (hashOf d.seed x) < place c
      · exact List.mem_append_left _ (hP.met x hx hp')
      · exact List.mem_append_right _ (hch.all hinv hb (hP.stay x hx) (by rw [hP.seed]; omega) (.inr (by rw [hP.seed]; exact hp)))
    have hcur : (d'.scan c n).2 < 9223372036854775808 := by
      have h40 := (D.visit_pos hinv hb 0).2.2.1
      have : 2 ^ d'.bits ≤ 2 ^ 40 := Nat.pow_le_pow_right (by omega) h40
      omega
    have hlenN : ∀ {d2 : D}, (L ≤ 3 * p → d2 = d') → MetLen L (na + L) (p + 1) d2 (d'.scan c n).2 (M ++ (d'.scan c n).1) := fun hs => hP.len.next hinv hb hdfew hch h0' hs
    have hfe := hP.few
    have hbl := (D.visit_pos hinv hb 0).2.2.2
    have hpl := pos_lt d'.bits (d'.scan c n).2
    generalize hM' : M ++ (d'.scan c n).1 = M' at *
    generalize (d'.scan c n).2 = c' at *
    have hw3 : IntKind.wrap .i64 (3 * (p : Int)) = ((3 * p : Nat) : Int) := by rw [w64 (by omega) (by omega)]; omega
    rw [hw3]
    refine ⟨fun eA en ec k w18 => ∃ (k' : Nat) (d1 : D) (F1 : Nat → Prop) (E1 : List Str), k = k' ∧ en = E1.length ∧ ChangesI d d' S E na L p k' d1 E1 ∧ RI w1 w18 g d1 F1 [(.slice mA' M'.length mc', M'), (.slice eA en ec, E1), (.slice sA S.length sc, S)],
      fun _ _ _ k _ => 3 * p + 3 - k.toNat, ⟨3 * p, d', F', E, rfl, rfl, ⟨Nat.le_refl _, by omega, .inl rfl, fun _ => rfl, hgd, hP.seed, hP.stay, hP.keys, fun _ h => h, hP.few⟩, hI13⟩, ?_⟩
    rintro eA2 en2 ec2 k w18 ⟨k', d1, F1, E1, rfl, rfl, hC, hI18⟩
    have hw33 : IntKind.wrap .i64 (((3 * p : Nat) : Int) + 3) = ((3 * p + 3 : Nat) : Int) := by rw [w64 (by omega) (by omega)]; omega
    rw [hw33]
    have hlo := hC.lo
    have hhi := hC.hi
    have hd1 := hC.good.few
    have hE1 := hC.few
    -- behind the changes
    have done : (¬ (k' < 3 * p + 3 ∧ k' < L)) → Calls Try.prog 26 #[.pointer (some ⟨g, 0, none⟩)] w18 fun e_ w24 => ∃ (n_12 : Int), ∃ (n_13 : Int), ∃ (n_14 : Int), e_ = .returned (.tuple #[.int .i64 n_12, .int .i64 n_13, .int .i64 n_14]) ∧
        ((decide (((p : Nat) : Int) > (IntKind.wrap .i64 ((IntKind.wrap .i64 ((IntKind.wrap .i64 (((L : Nat) : Int) + n_12)) + n_13)) + 8)))) = true → (Ending.returned (.bool false) = Ending.returned (.bool true) ∧ Chg (fun _ => False) w w24)) ∧
        ((decide (((p : Nat) : Int) > (IntKind.wrap .i64 ((IntKind.wrap .i64 ((IntKind.wrap .i64 (((L : Nat) : Int) + n_12)) + n_13)) + 8)))) = false →
          (∃ (i' c2 : Nat) (d' : D) (F' : Nat → Prop) (E M : List Str), IntKind.wrap .i64 ((p : Int) + 1) = i' ∧ ((c' : Nat) : Int) = c2 ∧ E1.length = E.length ∧ M'.length = M.length ∧ ScansI d S na L (na + L) i' c2 d' E M ∧ RI w1 w24 g d' F' [(.slice mA' M'.length mc', M), (.slice eA2 E1.length ec2, E), (.slice sA S.length sc, S)]) ∧
          4398046511104 - (IntKind.wrap .i64 ((p : Int) + 1)).toNat < 4398046511104 - ((p : Nat) : Int).toNat) := by
      intro hno
      refine (tables_ok hI18.dict).mono ?_
      rintro e w24 ⟨rfl, d24⟩
      have hI24 := hI18.drawn d24
      have hsame : L ≤ 3 * p → d1 = d' := fun h => hC.same (hC.le.elim id fun h2 => by omega)
      have hmin : min k' L = min (3 * (p + 1)) L := by
        rcases hC.le with h | h <;> omega
      refine ⟨_, _, _, rfl, fun hgt => ?_, fun _ => ?_⟩
      · exfalso
        have hgt := of_decide_eq_true hgt
        rw [tables_one] at hgt
        have hlen1 : d1.b1.length ≤ 1099511627776 := by
          rcases hC.good.inv.p1 with h0 | ⟨k, _, hk, hk2⟩
          · rw [h0]; exact Nat.zero_le _
          · rw [hk2]; exact Nat.le_trans (Nat.pow_le_pow_right (by omega) hk) (by decide)
        have hlen2 : 0 ≤ (D.tables d1).2.1 ∧ (D.tables d1).2.1 ≤ 1099511627776 := by
          by_cases hm : d1.b2 = []
          · rw [(tables_rest hm).1]; omega
          · rw [(tables_mv hm).1]
            rcases hC.good.inv.p2 with h0 | ⟨k, _, hk, hk2⟩
            · exact absurd h0 hm
            · rw [hk2]
              have : 2 ^ k ≤ 2 ^ 40 := Nat.pow_le_pow_right (by omega) hk
              omega
        have e1 : IntKind.wrap .i64 ((L : Int) + (d1.b1.length : Nat)) = (L : Int) + (d1.b1.length : Nat) := w64 (by omega) (by omega)
        have e2 : IntKind.wrap .i64 ((L : Int) + (d1.b1.length : Nat) + (D.tables d1).2.1) = (L : Int) + (d1.b1.length : Nat) + (D.tables d1).2.1 := w64 (by omega) (by omega)
        have e3 : IntKind.wrap .i64 ((L : Int) + (d1.b1.length : Nat) + (D.tables d1).2.1 + 8) = (L : Int) + (d1.b1.length : Nat) + (D.tables d1).2.1 + 8 := w64 (by omega) (by omega)
        rw [e1, e2, e3] at hgt
        by_cases h3 : L ≤ 3 * p
        · have := hsame h3
          subst this
          omega
        · omega
      · have hps' : p < 1099512676352 := by omega
        rw [w64s (by omega)]
        refine ⟨⟨p + 1, c', d1, F1, E1, M', rfl, rfl, rfl, rfl, ⟨by rw [← hmin]; exact hC.good, hC.seed, hC.stay, hmet, fun x hx => hC.more x (hEM x hx), hC.keys, by rw [← hmin]; exact hC.few, ?_, hcur, hlenN hsame⟩, hI24⟩, by omega⟩
        by_cases h3 : L ≤ 3 * p
        · rw [hsame h3]; omega
        · omega
    refine ⟨fun hk => ⟨fun hkL => ?_, fun hkL => ?_⟩, fun hk => ⟨fun h => (by cases h), fun _ => ?_⟩⟩
    · have hk3 : k' < 3 * p + 3 := by have := of_decide_eq_true hk; omega
      have hkl : k' < L := by have := of_decide_eq_true hkL; omega
      have hget : between[k']? = some (between[k']'(by omega)) := List.getElem?_eq_getElem (by omega)
      obtain ⟨a, ea, q1, q2, q3⟩ := hops2.later hI18.chg k' _ hget
      have ho := hok2 _ (List.getElem_mem (show k' < between.length by omega))
      generalize between[k']'(by omega) = o at *
      rw [ea]
      have hoS := hI18.own (.slice sA S.length sc, S) (by simp)
      refine ⟨by omega, by omega, _, by rw [toNatN]; exact q1, _, by rw [toNatN]; exact q2, _, by rw [toNatN]; exact q3, ?_⟩
      refine (ri_changed hI18 hC.good (by omega) ho hoS.rd (by show S.length < _; omega)).mono ?_
      rintro e w19 ⟨rfl, F19, hI19⟩
      refine ⟨rfl, ?_⟩
      obtain ⟨a', ea', q1', q2', q3'⟩ := hops2.later hI19.chg k' _ hget
      rw [ea] at ea'
      injection ea' with ea'
      subst ea'
      have hg19 : Good (changeD d1 S o) (na + min (k' + 1) L) := (hC.good.change (by omega) ho S).mono (by omega)
      have next : ∀ {E2 : List Str} {w' : World} {eA3 : Option Addr} {en3 ec3 : Nat}, en3 = E2.length → (∀ x ∈ (changeD d1 S o).ks, x ∈ E2) → (∀ x ∈ E, x ∈ E2) → E2.length ≤ E1.length + 1 → RI w1 w' g (changeD d1 S o) F19 [(.slice mA' M'.length mc', M'), (.slice eA3 E2.length ec3, E2), (.slice sA S.length sc, S)] →
          (∃ (k'' : Nat) (d1 : D) (F1 : Nat → Prop) (E1 : List Str), IntKind.wrap .i64 ((k' : Int) + 1) = k'' ∧ en3 = E1.length ∧ ChangesI d d' S E na L p k'' d1 E1 ∧ RI w1 w' g d1 F1 [(.slice mA' M'.length mc', M'), (.slice eA3 en3 ec3, E1), (.slice sA S.length sc, S)]) ∧
          3 * p + 3 - (IntKind.wrap .i64 ((k' : Int) + 1)).toNat < 3 * p + 3 - ((k' : Nat) : Int).toNat := by
        intro E2 w' eA3 en3 ec3 e1 h1 h2 h3 h4
        subst e1
        rw [w64s (by omega)]
        refine ⟨⟨k' + 1, _, F19, E2, rfl, rfl, ⟨by omega, by omega, .inr (by omega), fun h => (by omega), hg19, by rw [changeD_seed]; exact hC.seed, fun x hx => changeD_stays hx (hC.stay x hx), h1, h2, by omega⟩, h4⟩, by omega⟩
      refine ⟨by omega, by omega, _, by rw [toNatN]; exact q1', fun hk0 => ?_, fun hk0 => ?_⟩
      · have hk0' : o.kind = 0 := by simpa using hk0
        refine ⟨by omega, by omega, _, by rw [toNatN]; exact q2', ?_⟩
        intro g2 w20 hg2 hw20
        have hbk : w20.heap[g2]? = some (.cells #[.string o.key] 9 (0, 0)) := by subst hg2; subst hw20; exact new_blk _ _
        have c20 : Chg (fun _ => False) w19 w20 := by subst hw20; exact Chg.alloc _ _ _
        have hI20 := (hI19.chg' c20).perm (List.Perm.swap ..)
        obtain ⟨eA3, ec3, w21, hrun3, hI21, _⟩ := hI20.app (rd_one hbk) (by simp; omega)
        refine ⟨eA3, _, ec3, w21, by simpa using hrun3, ?_⟩
        unfold V6_k2 V6_k3
        refine next (by simp) (fun x hx => ?_) (fun x hx => List.mem_append_left _ (hC.more x hx)) (by simp) (hI21.perm (List.Perm.swap ..))
        rcases changeD_new hx with h | ⟨_, h⟩
        · exact List.mem_append_left _ (hC.keys x h)
        · exact List.mem_append_right _ (by simp [h])
      · have hk0' : o.kind ≠ 0 := by simpa using hk0
        unfold V6_k2 V6_k3
        refine next rfl (fun x hx => ?_) hC.more (by omega) hI19
        rcases changeD_new hx with h | ⟨h, _⟩
        · exact hC.keys x h
        · exact absurd h hk0'
    · exact done fun h => by have := of_decide_eq_false hkL; omega
    · have hk' : ¬ k' < 3 * p + 3 := by
        have := of_decide_eq_false (show decide _ = false from hk); omega
      exact done fun h => hk' h.1
end Go.Proofs.Ytcljmlgbmjjldaa
