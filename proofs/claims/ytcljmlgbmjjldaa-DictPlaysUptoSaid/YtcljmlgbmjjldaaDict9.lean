/- The dict: visit, Scan. -/
import Derived.Test.YtcljmlgbmjjldaaDict8
namespace Go.Proofs.Ytcljmlgbmjjldaa
open Go Go.VC Go.RowKit Go.Proofs.Ytcljmlgbmjjldaa.F
set_option linter.unusedVariables false
set_option linter.unusedSimpArgs false

theorem visit_ok {w : World} {g : Nat} {d : D} {F : Nat → Prop} {c : Nat} (h : DictAt w g d F) (hi : D.Inv d) (hb1 : d.b1 ≠ []) (hc : c < 9223372036854775808) (hm : d.m.length < big) (hbig : (d.visit c).1.length < big) :
    Calls Try.prog 64 #[.pointer (some ⟨g, 0, none⟩), .int .i64 c] w fun e w' => ∃ A cp, e = .returned (.tuple #[.slice A (d.visit c).1.length cp, .int .i64 ((d.visit c).2 : Nat)]) ∧ Out w' (.slice A (d.visit c).1.length cp) (d.visit c).1 ∧
      (∀ b, (Value.slice A (d.visit c).1.length cp).ownBlock = some b → w.heap.size ≤ b) ∧ Chg (fun _ => False) w w' := by
  refine v64 _ _ _ _ ?_
  unfold V64
  have hul := hi.used_le
  obtain ⟨k1, hk1, hk2, hk3⟩ := hi.p1.resolve_left hb1
  have hp1 := pow_pos' k1
  have hl1 : Nat.log2 d.b1.length = k1 := by rw [hk3, log2_pow]
  refine (moves_ok h).mono ?_
  rintro e w1 ⟨rfl, rfl⟩
  simp only [add_mk, Nat.reduceAdd]
  refine ⟨_, rfl, fun hmv w2 d2 => ?_, fun hmv w2 d2 w3 d3 => ?_⟩
  · have hmv' : d.moves = false := by simpa using hmv
    have hv : d.visit c = (sortS (bucket d.b1 (c % d.b1.length)), nextCur c k1) := by unfold D.visit; rw [if_neg (by simp [hmv']), hl1]
    rw [hv] at hbig ⊢
    simp only [sortS_length] at hbig ⊢
    have h2 := h.drawn d2
    obtain ⟨s1, F1, s2, F2, r, q1, q2⟩ := h2.ex
    obtain ⟨A0, c0, rfl⟩ := q1.t1.slice
    have hi1 : c % d.b1.length < d.b1.length := Nat.mod_lt _ (by omega)
    refine ⟨((c % d.b1.length : Nat) : Int), fun w0 he => ?_, fun w3 d3 => ?_⟩
    · obtain ⟨s1', F1', s2', F2', r', q1', q2'⟩ := (h2.ext he).ex
      obtain ⟨A0', c0', rfl⟩ := q1'.t1.slice
      exact quiet_of (at_ok q1'.blk rfl hc hk3 (by omega))
    have q3 := q1.drawn d3
    refine (keys_ok q3.blk (o := 1) rfl q3.t1 hi1 hbig).mono ?_
    rintro e w4 ⟨A, rfl, hrd, hn, hch⟩
    have h3 := h2.drawn d3
    have h4 : DictAt w4 g d F := h3.chg hch fun _ _ h => h
    refine ⟨_, _, _, rfl, hch.ext, _, fun w0 he => quiet_of (size1_ok (h4.ext he)), _, fun w0 he => by rw [hk3]; exact quiet_of (next_ok hc (by omega) w0), fun w5 d5 => ?_⟩
    have d13 := d2.trans d3
    refine ⟨A, _, rfl, .inl ⟨A, by simp, ?_⟩, fun b hb => ?_, ((d13.chg _).trans' hch).drawn d5⟩
    · exact hrd.chg (d5.chg (fun _ => False)) fun _ _ h => h
    · have := hn b hb
      rwa [d13.heap] at this
  · have hmv' : d.moves = true := by simpa using hmv
    have hb2 := D.moves_iff.1 hmv'
    obtain ⟨k2, hk4, hk5, hk6⟩ := hi.p2.resolve_left hb2
    have d13 := d2.trans d3
    have h3 := h.drawn d13
    refine (size1_ok h3).mono ?_
    rintro e w4 ⟨rfl, rfl⟩
    refine ⟨_, rfl, ?_⟩
    refine (size2_ok h3).mono ?_
    rintro e w5 ⟨rfl, rfl⟩
    refine ⟨_, rfl, fun hlt => ?_, fun hlt => ?_⟩
    all_goals obtain ⟨s1, F1, s2, F2, r, q1, q2⟩ := h3.ex
    · have hlt' : d.b2.length < d.b1.length := by have := of_decide_eq_true hlt; omega
      have hv : d.visit c = two d.b2 d.b1 c := by unfold D.visit; rw [if_pos hmv', if_pos hlt']
      rw [hv] at hbig ⊢
      have hle : k2 ≤ k1 := Nat.le_of_not_lt fun hh => by
        have : 2 ^ k1 ≤ 2 ^ k2 := Nat.pow_le_pow_right (by omega) (by omega)
        omega
      obtain ⟨n, rfl⟩ : ∃ n, k1 = k2 + n := ⟨k1 - k2, by omega⟩
      refine two_vc (oS := 3) (oL := 1) q1.blk rfl rfl q1.t2 q1.t1 hk6 hk3 (by omega) hc (by omega) (by omega) hbig fun A cp w' ho hn hch => ⟨A, cp, rfl, ho, fun b hb => ?_, (d13.chg _).trans' hch⟩
      have := hn b hb
      rwa [d13.heap] at this
    · have hlt' : ¬ d.b2.length < d.b1.length := by have := of_decide_eq_false hlt; omega
      have hv : d.visit c = two d.b1 d.b2 c := by unfold D.visit; rw [if_pos hmv', if_neg hlt']
      rw [hv] at hbig ⊢
      have hle : k1 ≤ k2 := Nat.le_of_not_lt fun hh => by
        have : 2 ^ k2 < 2 ^ k1 := Nat.pow_lt_pow_right (by omega) hh
        omega
      obtain ⟨n, rfl⟩ : ∃ n, k2 = k1 + n := ⟨k2 - k1, by omega⟩
      refine two_vc (oS := 1) (oL := 3) q1.blk rfl rfl q1.t1 q1.t2 hk3 hk6 (by omega) hc (by omega) (by omega) hbig fun A cp w' ho hn hch => ⟨A, cp, rfl, ho, fun b hb => ?_, (d13.chg _).trans' hch⟩
      have := hn b hb
      rwa [d13.heap] at this

/-- no clone or scan changes what a dict is -/
theorem scan_ok {w : World} {g : Nat} {d : D} {F : Nat → Prop} {c n : Int} (h : DictAt w g d F) (hi : D.Inv d) (hc : c < 9223372036854775808) (hn : n < 9223372036854775808) (hm : d.m.length < big) (hbig : (d.scan c n).1.length < big)
    (M : Nat → Nat) (hM : ∀ c, c < 9223372036854775808 → (d.visit c).2 ≠ 0 → M (d.visit c).2 < M c) (hM1 : ∀ c, M c ≤ d.b1.length) (hnx : ∀ c, (d.visit c).2 < 9223372036854775808) (hMp : ∀ c, 0 < M c) :
    Calls Try.prog 25 #[.pointer (some ⟨g, 0, none⟩), .int .i64 c, .int .i64 n] w fun e w' => ∃ A cp, e = .returned (.tuple #[.slice A (d.scan c n).1.length cp, .int .i64 ((d.scan c n).2 : Nat)]) ∧ Own w' tS (.slice A (d.scan c n).1.length cp) (d.scan c n).1.length (strs (d.scan c n).1) ∧
      (∀ b, (Value.slice A (d.scan c n).1.length cp).ownBlock = some b → w.heap.size ≤ b) ∧ Chg (fun _ => False) w w' := by
  refine v25 _ _ _ _ _ ?_
  unfold V25
  simp only [add_mk, Nat.reduceAdd]
  refine (size1_ok h).mono ?_
  rintro e w1 ⟨rfl, rfl⟩
  refine ⟨_, rfl, fun h0 => ?_, fun h0 => ?_⟩
  · rw [beq0] at h0
    have hs : d.scan c n = ([], 0) := by unfold D.scan; rw [if_pos h0]
    rw [hs]
    exact ⟨none, 0, rfl, Own.nil _ _, fun b hb => by simp [Value.ownBlock] at hb, Chg.refl _ _⟩
  · rw [beq0'] at h0
    have hb1 : d.b1 ≠ [] := fun e => h0 (by rw [e]; rfl)
    have hs : d.scan c n = d.scanL n d.b1.length (max 0 c).toNat [] := by unfold D.scan; rw [if_neg h0]
    refine ⟨fun c3 out outn outc w2 => ∃ (c' f : Nat) (l : List Str), c3 = c' ∧ c' < 9223372036854775808 ∧ outn = l.length ∧ Own w2 tS (.slice out outn outc) l.length (strs l) ∧ (∀ b, (Value.slice out outn outc).ownBlock = some b → w.heap.size ≤ b) ∧ Chg (fun _ => False) w w2 ∧ M c' ≤ f ∧
      d.scan c n = d.scanL n f c' l, fun c3 _ _ _ _ => M c3.toNat, ⟨(max 0 c).toNat, d.b1.length, [], ?_, by omega, rfl, Own.nil _ _, fun b hb => by simp [Value.ownBlock] at hb, Chg.refl _ _, hM1 _, hs⟩, ?_⟩
    · split <;> omega
    rintro c3 out outn outc w2 ⟨c', f, l, rfl, hc', rfl, hown, hnew, hch, hf, hsc⟩
    obtain ⟨f', rfl⟩ : ∃ f', f = f' + 1 := ⟨f - 1, by have := hMp c'; omega⟩
    rw [D.scanL] at hsc
    have h2 : DictAt w2 g d F := h.chg hch fun _ _ h => h
    -- how long it gets
    have hgrow : ∀ (f c : Nat) (l : List Str), l.length ≤ (d.scanL n f c l).1.length := by
      intro f
      induction f with
      | zero => intro c l; exact Nat.le_refl _
      | succ f ih =>
        intro c l
        rw [D.scanL]
        split
        · rw [List.length_append]; exact Nat.le_add_right _ _
        · have := ih (d.visit c).2 (l ++ (d.visit c).1)
          rw [List.length_append] at this; omega
    have hlen : (l ++ (d.visit c').1).length < big := by
      refine Nat.lt_of_le_of_lt ?_ hbig
      rw [hsc]
      split
      · exact Nat.le_refl _
      · exact hgrow _ _ _
    refine (visit_ok h2 hi hb1 hc' hm (by rw [List.length_append] at hlen; omega)).mono ?_
    rintro e w3 ⟨A3, cp3, rfl, hout3, hn3, hch3⟩
    refine ⟨_, _, _, _, rfl, ?_⟩
    have hown3 : Own w3 tS (.slice out l.length outc) l.length (strs l) := hown.chg hch3 fun _ _ h => h
    obtain ⟨A4, c4, w4, hr4, hout4, hc4, hn4⟩ := Rd.append_strs (.inr hown3) hout3.rd hlen 30 #[false, false]
    have hown4 : Own w4 tS (.slice A4 (l ++ (d.visit c').1).length c4) (l ++ (d.visit c').1).length (strs (l ++ (d.visit c').1)) := by
      obtain ⟨i, hi1, hi2, hi3, hi4⟩ := info9
      have hsrc := hout3.rd.src (P := Try.prog) Try.underlying30 strs_one
      rw [strs_length] at hsrc
      rw [List.length_append] at hlen
      unfold big at hlen
      obtain ⟨A', c', w', hr, ho, hc, hn⟩ := Own.appendS (P := Try.prog) (t := tR) (ty := 30) (i := i) (z := .string ByteArray.empty) Try.underlying30 hi1 hi2 hi3 rfl hown3 hsrc (by rw [hi4]; omega) (by omega) #[false, false]
      rw [List.length_append] at hr4 ⊢
      rw [hr] at hr4
      injection hr4 with e1 e2
      injection e1 with e1
      injection e1 with e1 _ e3
      subst e1; subst e3; subst e2
      rw [strs_append]; exact ho
    refine ⟨A4, _, c4, w4, hr4, ?_⟩
    have hsz3 : w.heap.size ≤ w3.heap.size := Nat.le_trans hch.size hch3.size
    have hnew4 : ∀ b, (Value.slice A4 (l ++ (d.visit c').1).length c4).ownBlock = some b → w.heap.size ≤ b := fun b hb => (hn4 b hb).elim (hnew b) fun h => Nat.le_trans hsz3 h
    have hch4 : Chg (fun _ => False) w w4 := (hch.trans' hch3).trans hc4 fun x hx => .inr (hnew x hx)
    have hmax : ((if 1 > n then 1 else n) : Int) = max 1 n := by
      split <;> omega
    refine ⟨fun h0 => ?_, fun h0 => ?_⟩
    · rw [beq0'] at h0
      refine ⟨fun hd => ?_, fun hd => ?_⟩
      · have hd' := of_decide_eq_true hd
        rw [hmax] at hd'
        rw [if_pos (.inr hd')] at hsc
        rw [hsc]
        exact ⟨A4, c4, rfl, hown4, hnew4, hch4⟩
      · have hd' := of_decide_eq_false hd
        rw [hmax] at hd'
        rw [if_neg (fun h => h.elim h0 hd')] at hsc
        have hMlt := hM c' hc' h0
        refine ⟨⟨(d.visit c').2, f', l ++ (d.visit c').1, rfl, hnx c', rfl, hown4, hnew4, hch4, by omega, hsc⟩, ?_⟩
        show M (((d.visit c').2 : Nat) : Int).toNat < M ((c' : Nat) : Int).toNat
        rw [toNatN, toNatN]; exact hMlt
    · have h0' : (d.visit c').2 = 0 := by rw [← beq0]; simpa using h0
      rw [if_pos (.inl h0')] at hsc
      rw [hsc]
      exact ⟨fun _ => ⟨A4, c4, rfl, hown4, hnew4, hch4⟩, fun h => (by cases h)⟩
end Go.Proofs.Ytcljmlgbmjjldaa
