/- The dict: visit, Scan. -/
import Derived.Test.YtcljmlgbmjjldaaDict7
namespace Go.Proofs.Ytcljmlgbmjjldaa
open Go Go.VC Go.RowKit Go.Proofs.Ytcljmlgbmjjldaa.F
set_option linter.unusedVariables false
set_option linter.unusedSimpArgs false

/-- texts that are handed back: a row of one's own, or a slice without room -/
def Out (w : World) (v : Value) (l : List Str) : Prop := (∃ A, v = .slice A l.length l.length ∧ Rd w v (strs l)) ∨ Own w tS v l.length (strs l)
theorem Out.slice {w : World} {v : Value} {l : List Str} (h : Out w v l) : ∃ A c, v = .slice A l.length c := by
  rcases h with ⟨A, h, _⟩ | h
  · exact ⟨A, _, h⟩
  · exact h.slice
theorem Out.rd {w : World} {v : Value} {l : List Str} (h : Out w v l) : Rd w v (strs l) := by
  rcases h with ⟨A, _, h⟩ | h
  · exact h
  · exact h.rd
theorem Out.chg {F : Nat → Prop} {w w' : World} {v : Value} {l : List Str} (h : Out w v l) (hc : Chg F w w') (hn : ∀ b, v.ownBlock = some b → ¬ F b) : Out w' v l := by
  rcases h with ⟨A, h1, h⟩ | h
  · exact .inl ⟨A, h1, h.chg hc hn⟩
  · exact .inr (h.chg hc hn)
theorem strs_one {l : List Str} : ∀ u ∈ strs l, u.oneCell' = true := fun u hu => by
  obtain ⟨s, _, rfl⟩ := List.mem_map.1 hu; rfl
theorem Rd.append_strs {w : World} {v x : Value} {l ks : List Str} (h : Out w v l) (hx : Rd w x (strs ks)) (hbig : (l ++ ks).length < big) (ty : TypeId) (cs : Array Bool) :
    ∃ A c w', (builtin .append #[tR, tR] ty cs #[v, x]).run Try.prog w = .ok (.value (.slice A (l ++ ks).length c)) w' ∧ Out w' (.slice A (l ++ ks).length c) (l ++ ks) ∧ Chg (fun b => v.ownBlock = some b) w w' ∧
      (∀ b, (Value.slice A (l ++ ks).length c).ownBlock = some b → v.ownBlock = some b ∨ w.heap.size ≤ b) := by
  obtain ⟨i, hi1, hi2, hi3, hi4⟩ := info9
  have hsrc := hx.src (P := Try.prog) Try.underlying30 strs_one
  rw [strs_length] at hsrc
  rw [List.length_append] at hbig ⊢
  unfold big at hbig
  rcases h with ⟨A, rfl, h⟩ | h
  · obtain ⟨A', c', w', hr, hcase⟩ := Rd.append (P := Try.prog) (t := tR) (ty := ty) (i := i) (z := .string ByteArray.empty) Try.underlying30 hi1 hi2 hi3 rfl h hsrc (by rw [hi4]; omega) (by omega) cs
    rcases hcase with ⟨h0, rfl, rfl, rfl⟩ | ⟨h0, ho, hc, hn⟩
    · have : ks = [] := List.eq_nil_of_length_eq_zero h0
      subst this
      refine ⟨_, _, _, hr, .inl ⟨A', by simp, by simpa using h⟩, Chg.refl _ _, fun b hb => .inl ?_⟩
      simpa using hb
    · exact ⟨_, _, _, hr, .inr (by rw [List.length_append, strs_append]; exact ho), hc.mono fun _ h => h.elim, fun b hb => .inr (hn b hb)⟩
  · obtain ⟨A', c', w', hr, ho, hc, hn⟩ := Own.appendS (P := Try.prog) (t := tR) (ty := ty) (i := i) (z := .string ByteArray.empty) Try.underlying30 hi1 hi2 hi3 rfl h hsrc (by rw [hi4]; omega) (by omega) cs
    exact ⟨_, _, _, hr, .inr (by rw [List.length_append, strs_append]; exact ho), hc, hn⟩

theorem cond_low {c kS kL : Nat} (hS : kS < 62) (hL : kL < 62) (hc : c < 2 ^ kL) :
    ((andNotI .i64 (andI .i64 (c : Int) (IntKind.wrap .i64 (((2 ^ kL : Nat) : Int) - 1))) (IntKind.wrap .i64 (((2 ^ kS : Nat) : Int) - 1)) : Int) == 0) = decide (c < 2 ^ kS) := by
  have h1 : 2 ^ kL ≤ 2 ^ 61 := Nat.pow_le_pow_right (by omega) (by omega)
  have h2 : 2 ^ kS ≤ 2 ^ 61 := Nat.pow_le_pow_right (by omega) (by omega)
  have hp := pow_pos' kS
  rw [andI_mask (by omega) (by omega), Nat.mod_eq_of_lt hc, w64p hp (by omega), andNotI_nat (by omega) (by omega), Nat.and_two_pow_sub_one_eq_mod]
  rw [Bool.eq_iff_iff, beq0, decide_eq_true_eq]
  constructor
  · intro h
    have h3 : c = c % 2 ^ kS := by
      apply Nat.eq_of_testBit_eq
      intro i
      have := congrArg (fun x => x.testBit i) h
      simp only [Nat.testBit_xor, Nat.zero_testBit] at this
      cases h4 : c.testBit i <;> cases h5 : (c % 2 ^ kS).testBit i <;> simp_all
    rw [h3]; exact Nat.mod_lt _ hp
  · intro h; rw [Nat.mod_eq_of_lt h, Nat.xor_self]

/-- a visit of two tables -/
theorem two_vc {w : World} {g oS oL : Nat} {cs : Array Value} {ty : TypeId} {sS sL : Value} {sm lg : Bks} {FS FL : Nat → Prop} {c kS n : Nat} {R : Ending → World → Prop}
    (hb : w.heap[g]? = some (.cells cs ty (0, 0))) (hsS : cs[oS]? = some sS) (hsL : cs[oL]? = some sL) (htS : Tab tS tR w sS sm FS) (htL : Tab tS tR w sL lg FL) (hS : sm.length = 2 ^ kS) (hL : lg.length = 2 ^ (kS + n)) (hk : kS + n < 62) (hc : c < 9223372036854775808)
    (hbS : used sm < big) (hbL : used lg < big) (hbig : (two sm lg c).1.length < big)
    (hR : ∀ A cp w', Out w' (.slice A (two sm lg c).1.length cp) (two sm lg c).1 → (∀ b, (Value.slice A (two sm lg c).1.length cp).ownBlock = some b → w.heap.size ≤ b) → Chg (fun _ => False) w w' →
      R (.returned (.tuple #[.slice A (two sm lg c).1.length cp, .int .i64 ((two sm lg c).2 : Nat)])) w') :
    V64_k1 c ⟨g, oS, none⟩ ⟨g, oL, none⟩ w R := by
  unfold V64_k1
  obtain ⟨A0, c0, rfl⟩ := htS.slice
  obtain ⟨A1, c1, rfl⟩ := htL.slice
  have hpS := pow_pos' kS
  have hpL := pow_pos' (kS + n)
  refine (at_ok hb hsS hc hS (by omega)).mono ?_
  rintro e w1 ⟨rfl, rfl⟩
  refine ⟨_, rfl, ?_⟩
  have hiS : c % sm.length < sm.length := Nat.mod_lt _ (by omega)
  refine (keys_ok hb hsS htS hiS (Nat.lt_of_le_of_lt (bucket_le_used _) hbS)).mono ?_
  rintro e w2 ⟨A2, rfl, hrd2, hn2, hc2⟩
  refine ⟨_, _, _, rfl, ?_⟩
  have hlg2 : Nat.log2 lg.length = kS + n := by rw [hL, log2_pow]
  have hlgS : Nat.log2 sm.length = kS := by rw [hS, log2_pow]
  refine ⟨fun c3 out outn outc w13 => ∃ (c' : Nat) (l : List Str), c3 = c' ∧ c' < 9223372036854775808 ∧ outn = l.length ∧ Out w13 (.slice out outn outc) l ∧ (∀ b, (Value.slice out outn outc).ownBlock = some b → w.heap.size ≤ b) ∧ Chg (fun _ => False) w w13 ∧
      two sm lg c = (l ++ (visitL lg (kS + n) kS lg.length c').1, (visitL lg (kS + n) kS lg.length c').2),
    fun c3 _ _ _ _ => left kS n c3.toNat, ⟨c, sortS (bucket sm (c % sm.length)), rfl, hc, (sortS_length _).symm, .inl ⟨A2, by simp, hrd2⟩, hn2, hc2, by unfold two; rw [hlg2, hlgS]⟩, ?_⟩
  rintro c3 out outn outc w13 ⟨c', l, rfl, hc', rfl, hout, hnew, hch, htwo⟩
  have hb13 := hch.blk hb id
  have htL13 := htL.chg hch fun _ _ h => h
  refine (at_ok hb13 hsL hc' hL (by omega)).mono ?_
  rintro e w14 ⟨rfl, rfl⟩
  refine ⟨_, rfl, ?_⟩
  have hmod : c' % lg.length = c' % 2 ^ (kS + n) := by rw [hL]
  rw [hmod]
  have hiL : c' % 2 ^ (kS + n) < lg.length := by rw [← hmod]; exact Nat.mod_lt _ (by omega)
  refine (keys_ok hb13 hsL htL13 hiL (Nat.lt_of_le_of_lt (bucket_le_used _) hbL)).mono ?_
  rintro e w15 ⟨A3, rfl, hrd3, hn3, hc3⟩
  refine ⟨_, _, _, rfl, ?_⟩
  have hout15 : Out w15 (.slice out l.length outc) l := hout.chg hc3 fun _ _ h => h
  -- how long it gets
  have hlen : (l ++ sortS (bucket lg (c' % 2 ^ (kS + n)))).length < big := by
    have h1 : (two sm lg c).1.length = (l ++ (visitL lg (kS + n) kS lg.length c').1).length := by rw [htwo]
    have h2 : (sortS (bucket lg (c' % 2 ^ (kS + n)))).length ≤ (visitL lg (kS + n) kS lg.length c').1.length := by
      obtain ⟨f, hf⟩ : ∃ f, lg.length = f + 1 := ⟨lg.length - 1, by omega⟩
      rw [hf, visitL]
      split
      · exact Nat.le_refl _
      · rw [List.length_append]; exact Nat.le_add_right _ _
    rw [List.length_append] at h1 ⊢; omega
  obtain ⟨A4, c4, w16, hr16, hout16, hc16, hn16⟩ := Rd.append_strs hout15 hrd3 hlen 30 #[false, false]
  rw [List.length_append, sortS_length] at hr16
  rw [List.length_append, sortS_length] at hout16
  rw [List.length_append, sortS_length] at hn16
  have hsz : w.heap.size ≤ w13.heap.size := hch.size
  have hsz15 : w.heap.size ≤ w15.heap.size := Nat.le_trans hsz hc3.size
  have hnew16 : ∀ b, (Value.slice A4 (l.length + (bucket lg (c' % 2 ^ (kS + n))).length) c4).ownBlock = some b → w.heap.size ≤ b := fun b hb' => (hn16 b hb').elim (hnew b) fun h => Nat.le_trans hsz15 h
  have hch16 : Chg (fun _ => False) w w16 := (hch.trans' hc3).trans hc16 fun x hx => .inr (hnew x hx)
  refine ⟨A4, _, c4, w16, hr16, ?_⟩
  have hb16 := hch16.blk hb id
  refine (size_ok hb16 hsL).mono ?_
  rintro e w17 ⟨rfl, rfl⟩
  refine ⟨_, rfl, ?_⟩
  rw [hL]
  refine (next_ok hc' (by omega) w16).mono ?_
  rintro e w18 ⟨rfl, rfl⟩
  refine ⟨_, rfl, ?_⟩
  refine (size_ok hb16 hsL).mono ?_
  rintro e w19 ⟨rfl, rfl⟩
  refine ⟨_, rfl, ?_⟩
  refine (size_ok hb16 hsS).mono ?_
  rintro e w20 ⟨rfl, rfl⟩
  refine ⟨_, rfl, ?_⟩
  rw [hL, hS]
  have hnl := nextCur_lt (show kS + n < 64 by omega) c'
  rw [cond_low (by omega) (by omega) hnl]
  have hp61 : 2 ^ (kS + n) ≤ 2 ^ 62 := Nat.pow_le_pow_right (by omega) (by omega)
  obtain ⟨f, hf⟩ : ∃ f, lg.length = f + 1 := ⟨lg.length - 1, by omega⟩
  have hleft : left kS n c' ≤ lg.length := by
    rw [hL, Nat.pow_add]
    have : left kS n c' ≤ 2 ^ n := Nat.sub_le _ _
    exact Nat.le_trans this (Nat.le_mul_of_pos_left _ hpS)
  have hv : visitL lg (kS + n) kS lg.length c' = if nextCur c' (kS + n) < 2 ^ kS then (sortS (bucket lg (c' % 2 ^ (kS + n))), nextCur c' (kS + n)) else (sortS (bucket lg (c' % 2 ^ (kS + n))) ++ (visitL lg (kS + n) kS f (nextCur c' (kS + n))).1, (visitL lg (kS + n) kS f (nextCur c' (kS + n))).2) := by
    rw [hf, visitL]
  rw [hv] at htwo
  refine ⟨fun h => ?_, fun h => ?_⟩
  · have h' : nextCur c' (kS + n) < 2 ^ kS := of_decide_eq_true h
    rw [if_pos h'] at htwo
    have := hR A4 c4 w16
    rw [htwo] at this
    simp only [List.length_append, sortS_length] at this
    exact this hout16 hnew16 hch16
  · have h' : ¬ nextCur c' (kS + n) < 2 ^ kS := of_decide_eq_false h
    rw [if_neg h'] at htwo
    have hln := left_next (show kS + n < 64 by omega) c' h'
    refine ⟨⟨nextCur c' (kS + n), l ++ sortS (bucket lg (c' % 2 ^ (kS + n))), rfl, by omega, by simp, hout16, hnew16, hch16, ?_⟩, ?_⟩
    · rw [htwo, visitL_fuel lg (by omega) f (nextCur c' (kS + n)) (by omega) (2 ^ (kS + n)) (by omega), List.append_assoc]
    · show left kS n ((nextCur c' (kS + n) : Nat) : Int).toNat < left kS n ((c' : Nat) : Int).toNat
      rw [toNatN, toNatN]; omega
end Go.Proofs.Ytcljmlgbmjjldaa
