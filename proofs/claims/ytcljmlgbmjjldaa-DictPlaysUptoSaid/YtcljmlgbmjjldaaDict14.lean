/- DictEnds: the walk. -/
import Derived.Test.YtcljmlgbmjjldaaDict13
import Derived.Test.YtcljmlgbmjjldaaDictS
namespace Go.Proofs.Ytcljmlgbmjjldaa
open Go Go.VC Go.RowKit Go.Proofs.Ytcljmlgbmjjldaa.F
set_option linter.unusedVariables false
set_option linter.unusedSimpArgs false
section
variable {w w1 w2 : World} {g : Nat} {d : D} {F : Nat → Prop} {kv vv : Value} {K : List Str} {V : List Int}
theorem MI.appK (h : MI w w1 g d F kv vv K V) {x : Value} {l : List Str} (hx : Rd w1 x (strs l)) (hl : K.length + l.length ≤ 8796093022208) :
    ∃ A' c' w', Sem.run Try.prog (builtin .append #[30, 30] 30 #[false, false] #[kv, x]) w1 = .ok (.value (.slice A' (K ++ l).length c')) w' ∧ MI w w' g d F (.slice A' (K ++ l).length c') vv (K ++ l) V ∧ Chg (fun b => kv.ownBlock = some b) w1 w' := by
  obtain ⟨i9, i1, i2, i3, i4⟩ := info9
  have hsrc := hx.src (P := Try.prog) (tx := 30) (e := 9) Try.underlying30 (fun u hu => by
    obtain ⟨s, _, rfl⟩ := List.mem_map.1 hu; rfl)
  rw [strs_length] at hsrc
  obtain ⟨A', c', w', hrun, hO, hC, hN⟩ := Own.appendS (P := Try.prog) (ty := 30) Try.underlying30 i1 i2 i3 rfl h.own1 hsrc (by rw [i4]; omega) (by omega) #[false, false]
  rw [← List.length_append] at hrun hO hN
  rw [← strs_append] at hO
  exact ⟨A', c', w', hrun, h.newK hO hC hN, hC⟩
end
theorem mi_changed {w w1 : World} {g : Nat} {d : D} {F : Nat → Prop} {kv vv : Value} {K : List Str} {V : List Int} {n : Nat} {o : Op} {v : Value} {stay : List Str} (h : MI w w1 g d F kv vv K V) (hg : Good d n) (hn : n < 549755813888) (ho : o.Ok) (hs : Rd w1 v (strs stay)) (hsl : stay.length < 9223372036854775807) :
    Calls Try.prog 24 #[.pointer (some ⟨g, 0, none⟩), v, .agg #[.int .i64 o.kind, .string o.key, .int .i64 o.n]] w1 fun e w2 => e = .returned (.tuple #[]) ∧ ∃ F', MI w w2 g (changeD d stay o) F' kv vv K V := by
  refine (changed_ok h.dict hg hn ho hs hsl).mono ?_
  rintro e w2 ⟨rfl, hw⟩
  exact ⟨rfl, h.went hw⟩
theorem MI.of_run {w w1 : World} {g : Nat} {d : D} {n : Nat} (h : Run w w1 g d n) : ∃ F, MI w w1 g d F (.slice none 0 0) (.slice none 0 0) [] [] := by
  obtain ⟨F, h1, h2⟩ := h.ex
  exact ⟨F, h1, h2, fun b hb => (by simp [Value.ownBlock] at hb), fun b hb => (by simp [Value.ownBlock] at hb), h.chg, Own.nil _ _, Own.nil _ _⟩

theorem ends_tail {w w4 : World} {g : Nat} {d : D} {F : Nat → Prop} {mA : Option Addr} {mc n : Nat} {at_ : Int} {M : List Str} {vv : Value} {V : List Int} (h : MI w w4 g d F (.slice mA M.length mc) vv M V) (hg : Good d n) (hn : n < 549755813888)
    (hlen : M.length = d.m.length) (hall : ∀ x ∈ d.ks, x ∈ M) {R : Ending → World → Prop} (hR : ∀ w', Chg (fun x => w.heap.size ≤ x) w w' → R (.returned (.bool true)) w') :
    V7_k2 (some ⟨g, 0, none⟩) at_ mA M.length mc 0 w4 R := by
  unfold V7_k2 V7_k3
  have hfew := hg.few
  refine (keysAll_ok h.dict hg.inv (by unfold big; omega)).mono ?_
  rintro e w5 ⟨lA, lc, rfl, hoL, hnL, hcL⟩
  have h5 := h.chg' hcL
  refine ⟨_, _, _, rfl, ?_⟩
  refine ⟨fun i w' => w' = w5 ∧ ∃ j : Nat, i = j ∧ j ≤ d.m.length, fun i _ => d.m.length - i.toNat, ⟨rfl, 0, rfl, Nat.zero_le _⟩, ?_⟩
  rintro i w6 ⟨rfl, j, rfl, hj⟩
  refine ⟨fun hd => ?_, fun hd => ⟨fun _ => ⟨fun _ => ?_, fun _ => hR _ h5.chg⟩, fun h => (by cases h)⟩⟩
  · have hjl : j < d.m.length := by have := of_decide_eq_true hd; omega
    have hslen : (sortS (d.m.map (·.1))).length = d.m.length := by simp
    obtain ⟨A, c, e, hat⟩ := Rd.get hoL.rd
    injection e with e1 e2 e3
    subst e1
    obtain ⟨a1, ea1, hc1⟩ := hat j _ (List.getElem?_eq_getElem (by omega))
    subst ea1
    refine ⟨by omega, by omega, _, by rw [toNatN, Nat.mul_one]; exact hc1, (has_ok h5.own1.rd (by omega) _).mono ?_⟩
    rintro e w7 ⟨rfl, rfl⟩
    have hm : (sortS (d.m.map (·.1)))[j]'(by omega) ∈ M := hall _ ((sortS_perm _).mem_iff.1 (List.getElem_mem _))
    refine ⟨_, rfl, fun hb => ?_, fun _ => ?_⟩
    · rw [decide_eq_true hm] at hb; cases hb
    · rw [w64s (by omega)]
      exact ⟨⟨rfl, j + 1, rfl, hjl⟩, by dsimp only; omega⟩
  · rw [show (((M.length : Int)) == ((d.m.length : Nat) : Int)) = true by rw [hlen]; simp]
    exact hR _ h5.chg

theorem ends_walk {w : World} {seed n : Int} {A : Option Addr} {c : Nat} {ops : List Op} (hops : OpsAt w A ops) (hok : ∀ o ∈ ops, o.Ok) (hl : ops.length ≤ 1048576) (hn : n < 9223372036854775808) :
    Calls Try.prog 7 #[.int .i64 seed, .slice A ops.length c, .int .i64 n] w fun e w' => e = .returned (.bool true) ∧ Chg (fun _ => False) w w' := by
  refine v7 _ _ _ _ _ _ _ ?_
  unfold V7
  refine (run_new seed).mono ?_
  rintro e w1 ⟨g, rfl, hw⟩
  refine ⟨_, rfl, hw.mono ?_⟩
  rintro e w2 ⟨rfl, hr⟩
  refine ⟨_, rfl, fun _ => ?_, fun h => (by cases h)⟩
  have fin : ∀ {w' : World}, Chg (fun x => w.heap.size ≤ x) w w' → Chg (fun _ => False) w w' := fun h => h.newer fun x hx => .inr hx
  unfold V7_k1
  refine ⟨fun h => (by cases h), fun _ => ?_⟩
  refine ⟨fun i w4 => ∃ (j : Nat) (d : D) (F : Nat → Prop), i = j ∧ j ≤ ops.length ∧ Good d j ∧ MI w w4 g d F (.slice none 0 0) (.slice none 0 0) [] [], fun i _ => ops.length - i.toNat, ?_, ?_⟩
  · obtain ⟨F, h⟩ := MI.of_run hr
    exact ⟨0, _, F, rfl, Nat.zero_le _, hr.good, h⟩
  rintro i w4 ⟨j, d, F, rfl, hj, hg, hI⟩
  have hfew := hg.few
  refine ⟨fun hd => ?_, fun hd => ?_⟩
  · have hjl : j < ops.length := by have := of_decide_eq_true hd; omega
    have hget : ops[j]? = some ops[j] := List.getElem?_eq_getElem hjl
    obtain ⟨a, rfl, q1, q2, q3⟩ := hops.later hI.chg j _ hget
    have ho := hok _ (List.getElem_mem hjl)
    refine ⟨by omega, by omega, _, by rw [toNatN]; exact q1, _, by rw [toNatN]; exact q2, _, by rw [toNatN]; exact q3, ?_⟩
    refine (mi_changed hI hg (by omega) ho (rd_nil w4) (by decide)).mono ?_
    rintro e w5 ⟨rfl, F5, hI5⟩
    refine ⟨rfl, ?_⟩
    rw [w64s (by omega)]
    exact ⟨⟨j + 1, _, F5, rfl, hjl, hg.change (by omega) ho [], hI5⟩, by dsimp only; omega⟩
  · refine (tables_ok hI.dict).mono ?_
    rintro e w6 ⟨rfl, d6⟩
    have hI6 := hI.drawn d6
    refine ⟨_, _, _, rfl, ?_⟩
    generalize hmax : (if (D.tables d).2.1 > (if (D.tables d).1 > 1 then (D.tables d).1 else 1) then (D.tables d).2.1 else (if (D.tables d).1 > 1 then (D.tables d).1 else 1)) = mx
    have hmx1 : 1 ≤ mx ∧ (d.b1.length : Int) ≤ mx := by
      rw [tables_one] at hmax
      subst hmax
      split <;> split <;> omega
    have hbits : d.b1 ≠ [] → 2 ^ d.bits ≤ d.b1.length ∧ d.bits ≤ 40 := fun hb => ⟨(D.visit_pos hg.inv hb 0).2.2.2, (D.visit_pos hg.inv hb 0).2.2.1⟩
    have hlen1 : d.b1.length ≤ 1099511627776 := by
      rcases hg.inv.p1 with h0 | ⟨k, _, hk, hk2⟩
      · rw [h0]; exact Nat.zero_le _
      · rw [hk2]; exact Nat.le_trans (Nat.pow_le_pow_right (by omega) hk) (by decide)
    have hpb : ∀ c : Nat, D.bits d ≤ 40 → pos d.bits c < 1099511627776 := fun c hb => Nat.lt_of_lt_of_le (pos_lt _ _) (Nat.le_trans (Nat.pow_le_pow_right (by omega) hb) (by decide))
    refine ⟨fun mA mn mc ci i w7 => ∃ (p q : Nat) (M : List Str), i = p ∧ ci = q ∧ mn = M.length ∧ p ≤ pos d.bits q ∧ (d.b1 = [] → p = 0) ∧ q < 9223372036854775808 ∧ D.Part d q M ∧ MI w w7 g d F (.slice mA mn mc) (.slice none 0 0) M [],
      fun _ _ _ _ i _ => 1099511627776 - i.toNat, ⟨0, 0, [], rfl, rfl, rfl, Nat.zero_le _, fun _ => rfl, by decide, D.Part.start d, hI6⟩, ?_⟩
    rintro mA mn mc ci i w7 ⟨p, q, M, rfl, rfl, rfl, hp, hp0, hq, hP, hI7⟩
    refine ⟨fun hd2 => ?_, fun hd2 => ?_⟩
    · have hsl := D.scan_len hg.inv q n
      have hMl := hP.len
      refine (scan_ok' hI7.dict hg.inv (by omega) hn (by unfold big; omega) (by unfold big; omega)).mono ?_
      rintro e w8 ⟨sA, sc, rfl, hoS, hnS, hcS⟩
      have hI8 := hI7.chg' hcS
      refine ⟨_, _, _, _, rfl, ?_⟩
      obtain ⟨A', c', w9, hrun, hI9, _⟩ := hI8.appK hoS.rd (by omega)
      refine ⟨A', _, c', w9, hrun, ?_⟩
      by_cases hb : d.b1 = []
      · have hs : d.scan q n = ([], 0) := by unfold D.scan; rw [if_pos (by rw [hb]; rfl)]
        have hz : d.ks = [] := by
          have h2 := hg.inv.e hb
          have h3 := hg.inv.keys.length_eq
          rw [hb, h2] at h3
          exact List.eq_nil_of_length_eq_zero h3.symm
        rw [hs] at hI9 ⊢
        refine ⟨fun _ => ?_, fun h => (by cases h)⟩
        refine ends_tail hI9 hg (by omega) ?_ (fun x hx => by rw [hz] at hx; cases hx) (fun w' h' => ⟨rfl, fin h'⟩)
        have : d.m.length = 0 := by have := congrArg List.length hz; simpa using this
        simp; omega
      · have hch := D.scan_scanned hg.inv hb q n
        rw [show (max 0 (q : Int)).toNat = q by omega] at hch
        refine ⟨fun h0 => ?_, fun h0 => ?_⟩
        · have h0' := beq0.1 h0
          rw [h0'] at hch ⊢
          obtain ⟨z1, z2⟩ := hP.whole hg.inv hb hch
          exact ends_tail hI9 hg (by omega) z1 z2 (fun w' h' => ⟨rfl, fin h'⟩)
        · have h0' := beq0'.1 h0
          obtain ⟨z1, z2⟩ := hP.next hg.inv hb hch h0'
          obtain ⟨_, _, z3, _⟩ := hch.spec hg.inv hb
          obtain ⟨b1, b2⟩ := hbits hb
          have := hpb q b2
          have := hpb (d.scan q n).2 b2
          rw [w64s (by omega)]
          refine ⟨⟨p + 1, (d.scan q n).2, M ++ (d.scan q n).1, rfl, rfl, rfl, by omega, fun h => absurd h hb, ?_, z1, hI9⟩, by dsimp only; omega⟩
          omega
    · exfalso
      have hge := of_decide_eq_false hd2
      by_cases hb : d.b1 = []
      · have := hp0 hb; omega
      · obtain ⟨b1, b2⟩ := hbits hb
        have := pos_lt d.bits q
        omega
end Go.Proofs.Ytcljmlgbmjjldaa
