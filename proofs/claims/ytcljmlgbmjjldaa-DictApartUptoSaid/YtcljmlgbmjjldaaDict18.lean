/- DictApart: the walk. -/
import Derived.Test.YtcljmlgbmjjldaaDict17
namespace Go.Proofs.Ytcljmlgbmjjldaa
open Go Go.VC Go.RowKit Go.Proofs.Ytcljmlgbmjjldaa.F
set_option linter.unusedVariables false
set_option linter.unusedSimpArgs false
/-- two dicts and rows of texts: all in new blocks, apart -/
structure AI (w w' : World) (g : Nat) (d : D) (F : Nat → Prop) (g2 : Nat) (d2 : D) (F2 : Nat → Prop) (rows : List (Value × List Str)) : Prop where
  one : RI w w' g d F rows
  two : RI w w' g2 d2 F2 rows
  sep : ∀ x, F x → ¬ F2 x
section
variable {w w1 w2 : World} {g g2 : Nat} {d d2 : D} {F F2 : Nat → Prop} {rows : List (Value × List Str)}
theorem AI.swap (h : AI w w1 g d F g2 d2 F2 rows) : AI w w1 g2 d2 F2 g d F rows := ⟨h.two, h.one, fun x h2 h1 => h.sep x h1 h2⟩
theorem AI.chg' (h : AI w w1 g d F g2 d2 F2 rows) (hc : Chg (fun _ => False) w1 w2) : AI w w2 g d F g2 d2 F2 rows := ⟨h.one.chg' hc, h.two.chg' hc, h.sep⟩
theorem AI.drawn (h : AI w w1 g d F g2 d2 F2 rows) (k : Drawn w1 w2) : AI w w2 g d F g2 d2 F2 rows := h.chg' (k.chg _)
theorem AI.perm {rows' : List (Value × List Str)} (h : AI w w1 g d F g2 d2 F2 rows) (hp : rows.Perm rows') : AI w w1 g d F g2 d2 F2 rows' := ⟨h.one.perm hp, h.two.perm hp, h.sep⟩
theorem AI.push {v : Value} {l : List Str} (h : AI w w1 g d F g2 d2 F2 rows) (ho : Own w2 tS v l.length (strs l)) (hc : Chg (fun _ => False) w1 w2) (hn : ∀ b, v.ownBlock = some b → w1.heap.size ≤ b) : AI w w2 g d F g2 d2 F2 ((v, l) :: rows) :=
  ⟨h.one.push ho hc hn, h.two.push ho hc hn, h.sep⟩
theorem AI.newHead {v v' : Value} {l l' : List Str} (h : AI w w1 g d F g2 d2 F2 ((v, l) :: rows)) (ho : Own w2 tS v' l'.length (strs l')) (hc : Chg (fun b => v.ownBlock = some b) w1 w2) (hn : ∀ b, v'.ownBlock = some b → v.ownBlock = some b ∨ w1.heap.size ≤ b) : AI w w2 g d F g2 d2 F2 ((v', l') :: rows) :=
  ⟨h.one.newHead ho hc hn, h.two.newHead ho hc hn, h.sep⟩
theorem AI.app {v : Value} {K l : List Str} (h : AI w w1 g d F g2 d2 F2 ((v, K) :: rows)) {x : Value} (hx : Rd w1 x (strs l)) (hl : K.length + l.length ≤ 8796093022208) :
    ∃ A' c' w', Sem.run Try.prog (builtin .append #[30, 30] 30 #[false, false] #[v, x]) w1 = .ok (.value (.slice A' (K ++ l).length c')) w' ∧ AI w w' g d F g2 d2 F2 ((.slice A' (K ++ l).length c', K ++ l) :: rows) := by
  obtain ⟨i9, i1, i2, i3, i4⟩ := info9
  have hsrc := hx.src (P := Try.prog) (tx := 30) (e := 9) Try.underlying30 (fun u hu => by
    obtain ⟨s, _, rfl⟩ := List.mem_map.1 hu; rfl)
  rw [strs_length] at hsrc
  obtain ⟨A', c', w', hrun, hO, hC, hN⟩ := Own.appendS (P := Try.prog) (ty := 30) Try.underlying30 i1 i2 i3 rfl h.one.head hsrc (by rw [i4]; omega) (by omega) #[false, false]
  rw [← List.length_append] at hrun hO hN
  rw [← strs_append] at hO
  exact ⟨A', c', w', hrun, h.newHead hO hC hN⟩
theorem AI.went (h : AI w w1 g d F g2 d2 F2 rows) {d' : D} (hw : Went w1 w2 g F d') : ∃ F', AI w w2 g d' F' g2 d2 F2 rows := by
  obtain ⟨F', k1, k2, k3⟩ := hw.ex
  have hone : RI w w2 g d' F' rows := by
    refine ⟨k1, fun x hx => (k2 x hx).elim (h.one.fresh x) fun hle => Nat.le_trans h.one.chg.size hle, h.one.chg.trans k3 fun x hx => .inl (h.one.fresh x hx), fun p hp => (h.one.own p hp).chg k3 fun b hb => (h.one.off p hp b hb).2, fun p hp b hb => ⟨(h.one.off p hp b hb).1, fun hx => ?_⟩, h.one.sep⟩
    exact (k2 b hx).elim (h.one.off p hp b hb).2 fun hle => by have := (h.one.own p hp).lt hb; omega
  exact ⟨F', hone, ⟨h.two.dict.chg k3 fun x hx hF => h.sep x hF hx, h.two.fresh, hone.chg, hone.own, h.two.off, h.two.sep⟩, fun x hx hx2 => (k2 x hx).elim (fun hF => h.sep x hF hx2) fun hle => by have := h.two.dict.lt hx2; omega⟩
theorem AI.set {v : Value} {l : List Str} (h : AI w w1 g d F g2 d2 F2 ((v, l) :: rows)) {i : Nat} (hi : i < l.length) (x : Str) :
    ∃ ga c, v = .slice (some ⟨ga, 0, none⟩) l.length c ∧ (∃ v0, w1.cell? ⟨ga, i, none⟩ = some v0) ∧ w1.frozen? ⟨ga, i, none⟩ = false ∧ AI w (w1.setCell ⟨ga, i, none⟩ (.string x)) g d F g2 d2 F2 ((v, l.set i x) :: rows) := by
  obtain ⟨ga, c, cur, rfl, hb, _, hc, hf⟩ := h.one.head.at (strs_get (List.getElem?_eq_getElem hi))
  obtain ⟨hO, hC⟩ := h.one.head.set (x := .string x) hi rfl
  refine ⟨ga, c, rfl, ⟨_, hc⟩, hf, h.newHead ?_ (hC.mono fun b hb => by rw [hb]; rfl) fun b hb => .inl hb⟩
  rw [List.length_set, strs_set]; exact hO
theorem ai_changed {n : Nat} {o : Op} (h : AI w w1 g d F g2 d2 F2 rows) (hg : Good d n) (hn : n < 549755813888) (ho : o.Ok) :
    Calls Try.prog 24 #[.pointer (some ⟨g, 0, none⟩), .slice none 0 0, .agg #[.int .i64 o.kind, .string o.key, .int .i64 o.n]] w1 fun e w2 => e = .returned (.tuple #[]) ∧ ∃ F', AI w w2 g (changeD d [] o) F' g2 d2 F2 rows := by
  refine (changed_ok h.one.dict hg hn ho (rd_nil w1) (by decide)).mono ?_
  rintro e w2 ⟨rfl, hw⟩
  exact ⟨rfl, h.went hw⟩
theorem ai_keys {n : Nat} (h : AI w w1 g d F g2 d2 F2 rows) (hg : Good d n) (hn : n < 1099511627776) :
    Calls Try.prog 21 #[.pointer (some ⟨g, 0, none⟩)] w1 fun e w2 => ∃ A c, e = .returned (.slice A (sortS d.ks).length c) ∧ AI w w2 g d F g2 d2 F2 ((.slice A (sortS d.ks).length c, sortS d.ks) :: rows) := by
  refine (keysAll_ok h.one.dict hg.inv (by have := hg.few; unfold big; omega)).mono ?_
  rintro e w2 ⟨A, c, rfl, hO, hN, hC⟩
  have hl : (sortS d.ks).length = d.m.length := by simp
  rw [hl]
  exact ⟨A, c, rfl, h.push (by rw [hl]; exact hO) hC hN⟩
end
/-- a loop over operations: each changes the dict -/
def changesD (d : D) (ops : List Op) : D := ops.foldl (fun d o => changeD d [] o) d
theorem changesD_snoc (d : D) (ops : List Op) (o : Op) : changesD d (ops ++ [o]) = changeD (changesD d ops) [] o := by simp [changesD]
theorem Good.changes {d : D} {n : Nat} (h : Good d n) : ∀ {ops : List Op}, (∀ o ∈ ops, o.Ok) → n + ops.length ≤ 549755813888 → Good (changesD d ops) (n + ops.length)
  | [], _, _ => h
  | o :: ops, ho, hn => by
    simp only [List.length_cons] at hn ⊢
    have h1 := h.change (stay := []) (by omega) (ho o (List.mem_cons_self ..))
    have h2 := h1.changes (ops := ops) (fun x hx => ho x (List.mem_cons_of_mem _ hx)) (by omega)
    have : n + (ops.length + 1) = n + 1 + ops.length := by omega
    rw [this]; exact h2

theorem apart_tail {w w4 : World} {g g2 n : Nat} {d : D} {F F2 : Nat → Prop} {aA bA sA : Option Addr} {ac bc sc : Nat} {S : List Str} {rows : List (Value × List Str)}
    (h : AI w w4 g d F g2 d F2 ((.slice aA (sortS d.ks).length ac, sortS d.ks) :: (.slice bA (sortS d.ks).length bc, sortS d.ks) :: (.slice sA S.length sc, S) :: rows)) (hg : Good d n) (hn : n ≤ 1099511627775) (hS : S.length ≤ n)
    {R : Ending → World → Prop} (hR : ∀ w', Chg (fun x => w.heap.size ≤ x) w w' → R (.returned (.bool true)) w') :
    V10_k3 (some ⟨g, 0, none⟩) (some ⟨g2, 0, none⟩) aA (sortS d.ks).length ac bA (sortS d.ks).length bc sA S.length sc false w4 R := by
  unfold V10_k3
  have hfew := hg.few
  have hK : (sortS d.ks).length = d.m.length := by simp
  refine ⟨fun h => (by cases h), fun _ => ?_⟩
  generalize hKe : sortS d.ks = K at *
  refine ⟨fun i w' => w' = w4 ∧ ∃ j : Nat, i = j ∧ j ≤ K.length, fun i _ => K.length - i.toNat, ⟨rfl, 0, rfl, Nat.zero_le _⟩, ?_⟩
  rintro i w5 ⟨rfl, j, rfl, hj⟩
  refine ⟨fun hd => ?_, fun hd => ?_⟩
  · have hjl : j < K.length := by have := of_decide_eq_true hd; omega
    obtain ⟨A, c, e, hat⟩ := Rd.get h.one.head.rd
    injection e with e1 e2 e3
    subst e1
    obtain ⟨a1, ea1, hc1⟩ := hat j _ (List.getElem?_eq_getElem (by omega))
    subst ea1
    refine ⟨by omega, by omega, _, by rw [toNatN, Nat.mul_one]; exact hc1, (get_ok h.one.dict hg.ints _).mono ?_⟩
    rintro e w7 ⟨rfl, rfl⟩
    refine ⟨_, _, rfl, by omega, by omega, _, by rw [toNatN, Nat.mul_one]; exact hc1, (get_ok h.two.dict hg.ints _).mono ?_⟩
    rintro e w8 ⟨rfl, rfl⟩
    refine ⟨_, _, rfl, fun hb => by simp at hb, fun _ => ?_⟩
    rw [w64s (by omega)]
    exact ⟨⟨rfl, j + 1, rfl, hjl⟩, by dsimp only; omega⟩
  -- the told keys are written over
  refine ⟨fun i w' => ∃ (j : Nat) (l : List Str), i = j ∧ j ≤ K.length ∧ l.length = K.length ∧ AI w w' g d F g2 d F2 ((.slice aA K.length ac, l) :: (.slice bA K.length bc, K) :: (.slice sA S.length sc, S) :: rows), fun i _ => K.length - i.toNat, ⟨0, K, rfl, Nat.zero_le _, rfl, h⟩, ?_⟩
  rintro i w6 ⟨j, l, rfl, hj, hl, h6⟩
  refine ⟨fun hd => ?_, fun hd => ?_⟩
  · have hjl : j < K.length := by have := of_decide_eq_true hd; omega
    obtain ⟨ga, c, e, hc, hf, hI⟩ := h6.set (show j < l.length by omega) (ByteArray.mk #[49])
    injection e with e1 e2 e3
    subst e1
    refine ⟨by omega, by omega, by rw [toNatN, Nat.mul_one, add_mk, Nat.zero_add]; exact hc, by rw [toNatN, Nat.mul_one, add_mk, Nat.zero_add]; exact hf, ?_⟩
    intro w7 hw7
    rw [toNatN, Nat.mul_one, add_mk, Nat.zero_add] at hw7
    rw [w64s (by omega)]
    exact ⟨⟨j + 1, l.set j (ByteArray.mk #[49]), rfl, hjl, by rw [List.length_set]; exact hl, by rw [hw7]; exact hI⟩, by dsimp only; omega⟩
  have h6' := h6.perm (((List.Perm.swap ..).cons _).trans (List.Perm.swap ..))
  refine ⟨fun i w' => ∃ (j : Nat) (k : List Str), i = j ∧ j ≤ S.length ∧ k.length = S.length ∧ AI w w' g d F g2 d F2 ((.slice sA S.length sc, k) :: (.slice aA K.length ac, l) :: (.slice bA K.length bc, K) :: rows), fun i _ => S.length - i.toNat, ⟨0, S, rfl, Nat.zero_le _, rfl, h6'⟩, ?_⟩
  clear h6 h6' h
  rintro i w8 ⟨j', k, rfl, hj', hk, h8⟩
  refine ⟨fun hd => ?_, fun hd => ?_⟩
  · have hjl : j' < S.length := by have := of_decide_eq_true hd; omega
    obtain ⟨ga, c, e, hc, hf, hI⟩ := h8.set (show j' < k.length by omega) (ByteArray.mk #[50])
    injection e with e1 e2 e3
    subst e1
    refine ⟨by omega, by omega, by rw [toNatN, Nat.mul_one, add_mk, Nat.zero_add]; exact hc, by rw [toNatN, Nat.mul_one, add_mk, Nat.zero_add]; exact hf, ?_⟩
    intro w7 hw7
    rw [toNatN, Nat.mul_one, add_mk, Nat.zero_add] at hw7
    rw [w64s (by omega)]
    exact ⟨⟨j' + 1, k.set j' (ByteArray.mk #[50]), rfl, hjl, by rw [List.length_set]; exact hk, by rw [hw7]; exact hI⟩, by dsimp only; omega⟩
  -- made longer
  have rd3 : ∀ {w' : World} {q : Nat} {s : Str}, w'.heap[q]? = some (.cells #[.string s, .string s, .string s] 9 (0, 0)) → Rd w' (.slice (some ⟨q, 0, none⟩) 3 3) (strs [s, s, s]) := fun {w'} {q} {s} hb =>
    ⟨some ⟨q, 0, none⟩, 3, rfl, Nat.le_refl _, .inr ⟨_, rfl, fun j u hu => by
      match j, hu with
      | 0, hu => simp [strs] at hu; subst hu; rw [add_mk]; exact cell_blk hb rfl
      | 1, hu => simp [strs] at hu; subst hu; rw [add_mk]; exact cell_blk hb rfl
      | 2, hu => simp [strs] at hu; subst hu; rw [add_mk]; exact cell_blk hb rfl⟩⟩
  intro q1 w9 hq1 hw9
  have hbk : w9.heap[q1]? = some (.cells #[.string (ByteArray.mk #[51]), .string (ByteArray.mk #[51]), .string (ByteArray.mk #[51])] 9 (0, 0)) := by subst hq1; subst hw9; exact new_blk _ _
  have c9 : Chg (fun _ => False) w8 w9 := by subst hw9; exact Chg.alloc _ _ _
  have h9 := (h8.chg' c9).perm (List.Perm.swap ..)
  obtain ⟨A1, c1, w10, hrun1, h10⟩ := h9.app (rd3 hbk) (by simp; omega)
  refine ⟨A1, _, c1, w10, hrun1, ?_⟩
  intro q2 w11 hq2 hw11
  have hbk2 : w11.heap[q2]? = some (.cells #[.string (ByteArray.mk #[52]), .string (ByteArray.mk #[52]), .string (ByteArray.mk #[52])] 9 (0, 0)) := by subst hq2; subst hw11; exact new_blk _ _
  have c11 : Chg (fun _ => False) w10 w11 := by subst hw11; exact Chg.alloc _ _ _
  have h11 := (h10.chg' c11).perm (List.Perm.swap ..)
  obtain ⟨A2, c2, w12, hrun2, h12⟩ := h11.app (rd3 hbk2) (by simp; omega)
  refine ⟨A2, _, c2, w12, hrun2, (ai_keys h12 hg (by omega)).mono ?_⟩
  rintro e w13 ⟨A3, c3, rfl, h13⟩
  rw [hKe] at h13 ⊢
  have hoB := h13.one.own (.slice bA K.length bc, K) (by simp)
  refine ⟨_, _, _, rfl, (same_ok h13.one.head.rd hoB.rd (by omega)).mono ?_⟩
  rintro e w14 ⟨rfl, d14⟩
  have h14 := h13.drawn d14
  refine ⟨_, rfl, fun _ => ?_, fun hb => by simp at hb⟩
  have hla : (l ++ [ByteArray.mk #[51], ByteArray.mk #[51], ByteArray.mk #[51]]).length = K.length + 3 := by simp; omega
  have hls : (k ++ [ByteArray.mk #[52], ByteArray.mk #[52], ByteArray.mk #[52]]).length = S.length + 3 := by simp; omega
  have ho1 := h14.one.own (.slice A1 (l ++ [ByteArray.mk #[51], ByteArray.mk #[51], ByteArray.mk #[51]]).length c1, l ++ [ByteArray.mk #[51], ByteArray.mk #[51], ByteArray.mk #[51]]) (by simp)
  have ho2 := h14.one.own (.slice A2 (k ++ [ByteArray.mk #[52], ByteArray.mk #[52], ByteArray.mk #[52]]).length c2, k ++ [ByteArray.mk #[52], ByteArray.mk #[52], ByteArray.mk #[52]]) (by simp)
  obtain ⟨B1, b1, eb1, hat1⟩ := Rd.get ho1.rd
  injection eb1 with e1 e2 e3
  subst e1
  obtain ⟨B2, b2, eb2, hat2⟩ := Rd.get ho2.rd
  injection eb2 with e1 e2 e3
  subst e1
  obtain ⟨x1, ex1, hx1⟩ := hat1 (K.length + 2) (ByteArray.mk #[51]) (by rw [List.getElem?_append_right (by omega), show K.length + 2 - l.length = 2 by omega]; rfl)
  obtain ⟨x2, ex2, hx2⟩ := hat2 (S.length + 2) (ByteArray.mk #[52]) (by rw [List.getElem?_append_right (by omega), show S.length + 2 - k.length = 2 by omega]; rfl)
  subst ex1; subst ex2
  rw [hla, hls, w64p (by omega) (by omega), w64p (by omega) (by omega), show K.length + 3 - 1 = K.length + 2 by omega, show S.length + 3 - 1 = S.length + 2 by omega]
  refine ⟨by omega, by omega, _, by rw [toNatN, Nat.mul_one]; exact hx1, fun _ => ⟨by omega, by omega, _, by rw [toNatN, Nat.mul_one]; exact hx2, ?_⟩, fun hb => ?_⟩
  · rw [strEq_self]; exact hR _ h14.one.chg
  · rw [strEq_self] at hb; cases hb

theorem apart_walk {w : World} {seed : Int} {A1 A2 : Option Addr} {c1 c2 : Nat} {ops more : List Op} (hops1 : OpsAt w A1 ops) (hok1 : ∀ o ∈ ops, o.Ok) (hops2 : OpsAt w A2 more) (hok2 : ∀ o ∈ more, o.Ok) (hl : ops.length + more.length ≤ 1048576) :
    Calls Try.prog 10 #[.int .i64 seed, .slice A1 ops.length c1, .slice A2 more.length c2] w fun e w' => e = .returned (.bool true) ∧ Chg (fun _ => False) w w' := by
  refine v10 _ _ _ _ _ _ _ _ _ ?_
  unfold V10
  refine (run_new seed).mono ?_
  rintro e w1 ⟨g, rfl, hw⟩
  refine ⟨_, rfl, hw.mono ?_⟩
  rintro e w2 ⟨rfl, hr⟩
  refine ⟨_, rfl, fun _ => ?_, fun h => (by cases h)⟩
  have fin : ∀ {w' : World}, Chg (fun x => w.heap.size ≤ x) w w' → Chg (fun _ => False) w w' := fun h => h.newer fun x hx => .inr hx
  unfold V10_k1
  refine ⟨fun h => (by cases h), fun _ => ?_⟩
  refine ⟨fun i w4 => ∃ (j : Nat) (d : D) (F : Nat → Prop), i = j ∧ j ≤ ops.length ∧ Good d j ∧ RI w w4 g d F [], fun i _ => ops.length - i.toNat, ?_, ?_⟩
  · obtain ⟨F, h⟩ := RI.of_run hr
    exact ⟨0, _, F, rfl, Nat.zero_le _, hr.good, h⟩
  rintro i w4 ⟨j, d, F, rfl, hj, hg, hI⟩
  refine ⟨fun hd => ?_, fun hd => ?_⟩
  · have hjl : j < ops.length := by have := of_decide_eq_true hd; omega
    have hget : ops[j]? = some ops[j] := List.getElem?_eq_getElem hjl
    obtain ⟨a, rfl, q1, q2, q3⟩ := hops1.later hI.chg j _ hget
    have ho := hok1 _ (List.getElem_mem hjl)
    refine ⟨by omega, by omega, _, by rw [toNatN]; exact q1, _, by rw [toNatN]; exact q2, _, by rw [toNatN]; exact q3, ?_⟩
    refine (ri_changed hI hg (by omega) ho (rd_nil w4) (by decide)).mono ?_
    rintro e w5 ⟨rfl, F5, hI5⟩
    refine ⟨rfl, ?_⟩
    rw [w64s (by omega)]
    exact ⟨⟨j + 1, _, F5, rfl, hjl, hg.change (by omega) ho [], hI5⟩, by dsimp only; omega⟩
  have hfew := hg.few
  refine (clone_dict_ok hI.dict hg.inv (by unfold big; omega)).mono ?_
  rintro e w6 ⟨g2, F2, rfl, hd2, hF2, hc6⟩
  have hA : AI w w6 g d F g2 d F2 [] := by
    have h6 := hI.chg' hc6
    refine ⟨h6, ⟨hd2, fun x hx => Nat.le_trans hI.chg.size (hF2 x hx), h6.chg, fun p hp => (by cases hp), fun p hp => (by cases hp), List.Pairwise.nil⟩, fun x h1 h2 => ?_⟩
    have := hI.dict.lt h1
    have := hF2 x h2
    omega
  refine ⟨_, rfl, (ai_keys hA hg (by omega)).mono ?_⟩
  rintro e w7 ⟨wA, wc, rfl, hA7⟩
  refine ⟨_, _, _, rfl, fun h => (by cases h), fun _ => ?_⟩
  refine (tables_ok hA7.one.dict).mono ?_
  rintro e w8 ⟨rfl, d8⟩
  have hA8 := hA7.drawn d8
  refine ⟨_, _, _, rfl, ?_⟩
  -- the clone goes on
  refine ⟨fun i w' => ∃ (q : Nat) (G2 : Nat → Prop), i = q ∧ q ≤ more.length ∧ AI w w' g d F g2 (changesD d (more.take q)) G2 [(.slice wA (sortS d.ks).length wc, sortS d.ks)], fun i _ => more.length - i.toNat, ⟨0, F2, rfl, Nat.zero_le _, hA8⟩, ?_⟩
  clear hA hA7 hA8 hI hd2
  rintro i w9 ⟨q, G2, rfl, hq, h9⟩
  have hok : ∀ q, ∀ o ∈ more.take q, o.Ok := fun q o ho => hok2 o (List.mem_of_mem_take ho)
  have hgq : ∀ q, q ≤ more.length → Good (changesD d (more.take q)) (j + q) := fun q hq => by
    have h := hg.changes (hok q) (by rw [List.length_take]; omega)
    rw [List.length_take, Nat.min_eq_left hq] at h
    exact h
  have hsnoc : ∀ {q : Nat} (h : q < more.length), changeD (changesD d (more.take q)) [] more[q] = changesD d (more.take (q + 1)) := fun {q} h => by rw [List.take_succ_eq_append_getElem h, changesD_snoc]
  refine ⟨fun hd => ?_, fun hd => ?_⟩
  · have hql : q < more.length := by have := of_decide_eq_true hd; omega
    have hget : more[q]? = some more[q] := List.getElem?_eq_getElem hql
    obtain ⟨a, rfl, q1, q2, q3⟩ := hops2.later h9.one.chg q _ hget
    have ho := hok2 _ (List.getElem_mem hql)
    refine ⟨by omega, by omega, _, by rw [toNatN]; exact q1, _, by rw [toNatN]; exact q2, _, by rw [toNatN]; exact q3, ?_⟩
    refine (ai_changed h9.swap (hgq q hq) (by omega) ho).mono ?_
    rintro e w5 ⟨rfl, F5, hI5⟩
    refine ⟨rfl, ?_⟩
    rw [hsnoc hql] at hI5
    rw [w64s (by omega)]
    exact ⟨⟨q + 1, F5, rfl, hql, hI5.swap⟩, by dsimp only; omega⟩
  have hqe : q = more.length := by have := of_decide_eq_false hd; omega
  subst hqe
  rw [List.take_length] at h9
  have hg2 : Good (changesD d more) (j + more.length) := by
    have := hgq more.length (Nat.le_refl _)
    rwa [List.take_length] at this
  refine (tables_ok h9.one.dict).mono ?_
  rintro e w11 ⟨rfl, d11⟩
  have h11 := h9.drawn d11
  refine ⟨_, _, _, rfl, fun _ => ⟨fun _ => ⟨fun _ => ?_, fun h => by simp at h⟩, fun h => by simp at h⟩, fun h => by simp at h⟩
  refine (ai_keys h11 hg (by omega)).mono ?_
  rintro e w12 ⟨kA, kc, rfl, h12⟩
  have hoW := h12.one.own (.slice wA (sortS d.ks).length wc, sortS d.ks) (by simp)
  have hK : (sortS d.ks).length = d.m.length := by simp
  refine ⟨_, _, _, rfl, (same_ok h12.one.head.rd hoW.rd (by omega)).mono ?_⟩
  rintro e w13 ⟨rfl, d13⟩
  have h13 := h12.drawn d13
  refine ⟨_, rfl, ?_⟩
  rw [show (!decide (sortS d.ks = sortS d.ks)) = false by simp]
  unfold V10_k2
  refine ⟨fun h => (by cases h), fun _ => ?_⟩
  -- the dict itself goes on
  generalize hrows : [((.slice kA (sortS d.ks).length kc : Value), sortS d.ks), (.slice wA (sortS d.ks).length wc, sortS d.ks)] = rows at h13
  refine ⟨fun i w' => ∃ (q : Nat) (G : Nat → Prop), i = q ∧ q ≤ more.length ∧ AI w w' g (changesD d (more.take q)) G g2 (changesD d more) G2 rows, fun i _ => more.length - i.toNat, ⟨0, F, rfl, Nat.zero_le _, h13⟩, ?_⟩
  clear h9 h11 h12 h13 hoW
  rintro i w15 ⟨q, G, rfl, hq, h9⟩
  refine ⟨fun hd => ?_, fun hd => ?_⟩
  · have hql : q < more.length := by have := of_decide_eq_true hd; omega
    have hget : more[q]? = some more[q] := List.getElem?_eq_getElem hql
    obtain ⟨a, rfl, q1, q2, q3⟩ := hops2.later h9.one.chg q _ hget
    have ho := hok2 _ (List.getElem_mem hql)
    refine ⟨by omega, by omega, _, by rw [toNatN]; exact q1, _, by rw [toNatN]; exact q2, _, by rw [toNatN]; exact q3, ?_⟩
    refine (ai_changed h9 (hgq q hq) (by omega) ho).mono ?_
    rintro e w5 ⟨rfl, F5, hI5⟩
    refine ⟨rfl, ?_⟩
    rw [hsnoc hql] at hI5
    rw [w64s (by omega)]
    exact ⟨⟨q + 1, F5, rfl, hql, hI5⟩, by dsimp only; omega⟩
  have hqe : q = more.length := by have := of_decide_eq_false hd; omega
  subst hqe
  rw [List.take_length] at h9
  have hfew2 := hg2.few
  generalize changesD d more = d' at *
  refine (ai_keys h9 hg2 (by omega)).mono ?_
  rintro e w17 ⟨aA, ac, rfl, h17⟩
  refine ⟨_, _, _, rfl, (ai_keys h17.swap hg2 (by omega)).mono ?_⟩
  rintro e w18 ⟨bA, bc, rfl, h18⟩
  have h18 := h18.swap
  have hsl := D.scan_len hg2.inv 0 1000000
  refine ⟨_, _, _, rfl, (scan_ok' h18.one.dict hg2.inv (by decide) (by decide) (by unfold big; omega) (by unfold big; omega)).mono ?_⟩
  rintro e w19 ⟨sA, sc, rfl, hoS, hnS, hcS⟩
  have h19 := h18.push hoS hcS hnS
  have h19' := h19.perm (((List.Perm.swap ..).cons _).trans ((List.Perm.swap ..).trans ((List.Perm.swap ..).cons _)))
  refine ⟨_, _, _, _, rfl, (same_ok h19'.one.head.rd (h19'.one.own (.slice bA (sortS d'.ks).length bc, sortS d'.ks) (by simp)).rd (by simp; omega)).mono ?_⟩
  rintro e w20 ⟨rfl, d20⟩
  have h20 := h19'.drawn d20
  refine ⟨_, rfl, fun _ => ?_, fun h => by simp at h⟩
  refine (len_ok h20.one.dict).mono ?_
  rintro e w21 ⟨rfl, rfl⟩
  refine ⟨_, rfl, (len_ok h20.two.dict).mono ?_⟩
  rintro e w22 ⟨rfl, rfl⟩
  refine ⟨_, rfl, ?_⟩
  rw [show (((d'.m.length : Nat) : Int) != ((d'.m.length : Nat) : Int)) = false by simp]
  exact apart_tail h20 hg2 (by omega) (by omega) fun w' h' => ⟨rfl, fin h'⟩
end Go.Proofs.Ytcljmlgbmjjldaa
