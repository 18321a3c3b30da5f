/- The document's dict: what its small functions compute. -/
import Derived.Test.YtcljmlgbmjjldaaF6
import Derived.Test.YtcljmlgbmjjldaaRefD
import Derived.Test.YtcljmlgbmjjldaaWide
import Derived.Test.YtcljmlgbmjjldaaDict6
namespace Go.Proofs.Ytcljmlgbmjjldaa
open Go Go.VC Go.RowKit Go.Proofs.Ytcljmlgbmjjldaa.F
set_option linter.unusedVariables false
set_option linter.unusedSimpArgs false
abbrev tI : TypeId := 115
noncomputable def inf115 : TypeInfo := (Try.prog.info? 115).getD default
noncomputable def zer115 : Value := inf115.zero.getD default
theorem info115 : Try.prog.info? 115 = some inf115 ∧ inf115.zero = some zer115 ∧ inf115.size = 2 ∧ zer115.cells.size = 2 ∧ inf115.bytes = 24 := ⟨by kernel_rfl, by kernel_rfl, by kernel_rfl, by kernel_rfl, by kernel_rfl⟩
def flatI (l : List It) : List Value := l.flatMap fun p => [.string p.1, .int .i64 p.2]
theorem flatI_length (l : List It) : (flatI l).length = l.length * 2 := by
  induction l with
  | nil => rfl
  | cons p l ih => unfold flatI at *; simp only [List.flatMap_cons, List.length_append, ih, List.length_cons, List.length_nil]; omega
theorem flatI_append (a b : List It) : flatI (a ++ b) = flatI a ++ flatI b := by simp [flatI]
theorem flatI_cons (p : It) (l : List It) : flatI (p :: l) = .string p.1 :: .int .i64 p.2 :: flatI l := by simp [flatI]
theorem flatI_get {l : List It} {j : Nat} {p : It} (h : l[j]? = some p) : (flatI l)[j * 2]? = some (.string p.1) ∧ (flatI l)[j * 2 + 1]? = some (.int .i64 p.2) := by
  induction l generalizing j with
  | nil => simp at h
  | cons q l ih =>
    rw [flatI_cons]
    cases j with
    | zero => simp at h; subst h; exact ⟨rfl, rfl⟩
    | succ j =>
      have := ih (j := j) (by simpa using h)
      rw [show (j + 1) * 2 = j * 2 + 1 + 1 by omega]
      simpa using this
theorem flatI_take (l : List It) (i : Nat) : (flatI l).take (i * 2) = flatI (l.take i) := by
  induction l generalizing i with
  | nil => simp [flatI]
  | cons q l ih =>
    cases i with
    | zero => simp [flatI]
    | succ i => rw [show (i + 1) * 2 = i * 2 + 1 + 1 by omega, flatI_cons, List.take_succ_cons, List.take_succ_cons, ih, List.take_succ_cons, flatI_cons]
theorem flatI_drop (l : List It) (i : Nat) : (flatI l).drop (i * 2) = flatI (l.drop i) := by
  induction l generalizing i with
  | nil => simp [flatI]
  | cons q l ih =>
    cases i with
    | zero => simp
    | succ i => rw [show (i + 1) * 2 = i * 2 + 1 + 1 by omega, flatI_cons, List.drop_succ_cons, List.drop_succ_cons, ih, List.drop_succ_cons]
theorem flatI_one (l : List It) : ∀ u ∈ flatI l, u.oneCell' = true := by
  intro u hu
  unfold flatI at hu
  obtain ⟨p, _, hp⟩ := List.mem_flatMap.1 hu
  simp at hp
  rcases hp with rfl | rfl <;> rfl
theorem flatI_set {l : List It} {j : Nat} {k : Str} {v0 v : Int} (h : l[j]? = some (k, v0)) : (flatI l).set (j * 2 + 1) (.int .i64 v) = flatI (l.set j (k, v)) := by
  induction l generalizing j with
  | nil => simp at h
  | cons q l ih =>
    cases j with
    | zero => simp at h; subst h; simp [flatI]
    | succ j =>
      rw [show (j + 1) * 2 + 1 = (j * 2 + 1) + 1 + 1 by omega, flatI_cons, List.set_cons_succ, List.set_cons_succ, ih (by simpa using h), List.set_cons_succ, flatI_cons]
/-- items in memory -/
abbrev OwnI (w : World) (v : Value) (l : List It) : Prop := OwnW w tI 2 v l.length (flatI l)
theorem OwnI.get {w : World} {v : Value} {l : List It} (h : OwnI w v l) : ∃ A c, v = .slice A l.length c ∧ ∀ (j : Nat) (p : It), l[j]? = some p → ∃ g, A = some ⟨g, 0, none⟩ ∧ w.cell? ⟨g, j * 2, none⟩ = some (.string p.1) ∧ w.cell? ⟨g, j * 2 + 1, none⟩ = some (.int .i64 p.2) := by
  obtain ⟨A, c, rfl⟩ := h.slice
  refine ⟨A, c, rfl, fun j p hj => ?_⟩
  obtain ⟨h1, h2⟩ := flatI_get hj
  obtain ⟨g, c', e, hc, _⟩ := OwnW.at h h1
  obtain ⟨g', c'', e', hc', _⟩ := OwnW.at h h2
  rw [e'] at e
  injection e with e
  injection e with e
  injection e with e
  subst e
  injection e' with e' _ _
  exact ⟨g', e', hc, hc'⟩
theorem OwnI.app {w : World} {v : Value} {l k : List It} (h : OwnI w v l) {x : Value} {m : Nat} (hx : Src Try.prog 2 51 x m (flatI k) w) (hm : m = k.length) (hb : l.length + k.length ≤ 4398046511104) :
    ∃ A' c' w', Sem.run Try.prog (builtin .append #[51, 51] 51 #[false, false] #[v, x]) w = .ok (.value (.slice A' (l ++ k).length c')) w' ∧ OwnI w' (.slice A' (l ++ k).length c') (l ++ k) ∧ Chg (fun b => v.ownBlock = some b) w w' ∧
      (∀ b, (Value.slice A' (l ++ k).length c').ownBlock = some b → v.ownBlock = some b ∨ w.heap.size ≤ b) := by
  obtain ⟨i1, i2, i3, i4, i5⟩ := info115
  subst hm
  obtain ⟨A', c', w', h1, h2, h3, h4⟩ := OwnW.app (P := Try.prog) (ty := 51) Try.underlying51 i1 i2 i3 i4 h hx (by rw [i5]; omega) (by omega) #[false, false]
  rw [← List.length_append] at h1 h2 h4
  rw [← flatI_append] at h2
  exact ⟨A', c', w', h1, h2, h3, h4⟩
theorem OwnI.src {w : World} {v : Value} {l : List It} (h : OwnI w v l) : Src Try.prog 2 51 v l.length (flatI l) w := OwnW.src h Try.underlying51 (flatI_one l)
theorem OwnI.nil (w : World) : OwnI w (.slice none 0 0) [] := OwnW.nil w tI 2
/-- a document's dict in memory; B: where its rows may lie -/
structure RAt (w : World) (s1 s2 : Value) (r : RD) (B : Nat → Prop) : Prop where
  o1 : OwnI w s1 r.l1
  o2 : OwnI w s2 r.l2
  b1 : ∀ b, s1.ownBlock = some b → B b
  b2 : ∀ b, s2.ownBlock = some b → B b
abbrev valR (r : RD) (s1 s2 : Value) : Value := .agg #[.int .i64 r.seed, .int .i64 r.n1, s1, .int .i64 r.n2, s2, .int .i64 r.idx]
abbrev cR (r : RD) (s1 s2 : Value) : Array Value := #[.int .i64 r.seed, .int .i64 r.n1, s1, .int .i64 r.n2, s2, .int .i64 r.idx]
section
variable {w w' : World} {s1 s2 : Value} {r : RD} {B : Nat → Prop}
theorem RAt.later (h : RAt w s1 s2 r B) (hc : Chg (fun x => w.heap.size ≤ x) w w') : RAt w' s1 s2 r B :=
  ⟨h.o1.chg hc fun b hb hle => by have := h.o1.lt hb; omega, h.o2.chg hc fun b hb hle => by have := h.o2.lt hb; omega, h.b1, h.b2⟩
theorem RAt.chg' (h : RAt w s1 s2 r B) (hc : Chg (fun _ => False) w w') : RAt w' s1 s2 r B := h.later (hc.mono fun _ h => h.elim)
theorem RAt.drawn (h : RAt w s1 s2 r B) (k : Drawn w w') : RAt w' s1 s2 r B := h.chg' (k.chg _)
theorem RAt.mono (h : RAt w s1 s2 r B) {C : Nat → Prop} (hb : ∀ x, B x → C x) : RAt w s1 s2 r C := ⟨h.o1, h.o2, fun b hx => hb b (h.b1 b hx), fun b hx => hb b (h.b2 b hx)⟩
theorem RAt.slices (h : RAt w s1 s2 r B) : ∃ A1 c1 A2 c2, s1 = .slice A1 r.l1.length c1 ∧ s2 = .slice A2 r.l2.length c2 := by
  obtain ⟨A1, c1, rfl⟩ := h.o1.slice
  obtain ⟨A2, c2, rfl⟩ := h.o2.slice
  exact ⟨A1, c1, A2, c2, rfl, rfl⟩
end
/-- reading the six cells -/
theorem ld6 {w : World} {g : Nat} {s n1 n2 i : Int} {A1 A2 : Option Addr} {l1 c1 l2 c2 : Nat} {K : Int → Int → Option Addr → Nat → Nat → Int → Option Addr → Nat → Nat → Int → Prop}
    (hb : w.heap[g]? = some (.cells #[.int .i64 s, .int .i64 n1, .slice A1 l1 c1, .int .i64 n2, .slice A2 l2 c2, .int .i64 i] 55 (0, 0))) (h : K s n1 A1 l1 c1 n2 A2 l2 c2 i) :
    ∃ (n : Int), World.cell? w ⟨g, 0, none⟩ = some (.int .i64 n) ∧ ∃ (n_2 : Int), World.cell? w ⟨g, 1, none⟩ = some (.int .i64 n_2) ∧ ∃ (q : Option Addr) (qn qc : Nat), World.cell? w ⟨g, 2, none⟩ = some (.slice q qn qc) ∧
      ∃ (n_3 : Int), World.cell? w ⟨g, 3, none⟩ = some (.int .i64 n_3) ∧ ∃ (q_2 : Option Addr) (q_2n q_2c : Nat), World.cell? w ⟨g, 4, none⟩ = some (.slice q_2 q_2n q_2c) ∧ ∃ (n_4 : Int), World.cell? w ⟨g, 5, none⟩ = some (.int .i64 n_4) ∧ K n n_2 q qn qc n_3 q_2 q_2n q_2c n_4 :=
  ⟨_, cell_blk hb rfl, _, cell_blk hb rfl, _, _, _, cell_blk hb rfl, _, cell_blk hb rfl, _, _, _, cell_blk hb rfl, _, cell_blk hb rfl, h⟩
/-- the result, by its own block -/
theorem ret6 {w : World} {g : Nat} {s n1 n2 i : Int} {A1 A2 : Option Addr} {l1 c1 l2 c2 : Nat} {K : World → Int → Int → Option Addr → Nat → Nat → Int → Option Addr → Nat → Nat → Int → Prop}
    (hb : w.heap[g]? = some (.cells #[.int .i64 0, .int .i64 0, .slice none 0 0, .int .i64 0, .slice none 0 0, .int .i64 0] 55 (0, 0))) (h : ∀ w', Chg (fun b => b = g) w w' → K w' s n1 A1 l1 c1 n2 A2 l2 c2 i) :
    storeN ⟨g, 0, none⟩ [(.int .i64 s : Value), .int .i64 n1, .slice A1 l1 c1, .int .i64 n2, .slice A2 l2 c2, .int .i64 i] 0 w fun w0 => ∀ w' : World, w' = w0 →
    ∃ (n : Int), World.cell? w' ⟨g, 0, none⟩ = some (.int .i64 n) ∧ ∃ (n_2 : Int), World.cell? w' ⟨g, 1, none⟩ = some (.int .i64 n_2) ∧ ∃ (q : Option Addr) (qn qc : Nat), World.cell? w' ⟨g, 2, none⟩ = some (.slice q qn qc) ∧
      ∃ (n_3 : Int), World.cell? w' ⟨g, 3, none⟩ = some (.int .i64 n_3) ∧ ∃ (q_2 : Option Addr) (q_2n q_2c : Nat), World.cell? w' ⟨g, 4, none⟩ = some (.slice q_2 q_2n q_2c) ∧ ∃ (n_4 : Int), World.cell? w' ⟨g, 5, none⟩ = some (.int .i64 n_4) ∧ K w' n n_2 q qn qc n_3 q_2 q_2n q_2c n_4 := by
  refine storeN_blk hb (by simp) rfl fun w' hb' hc w'' e => ?_
  subst e
  exact ld6 hb' (h _ hc)
theorem blk_alloc {w w1 : World} {g : Nat} {o : Obj} (hg : g = w.heap.size) (hw : w1 = w.alloc o) : w1.heap[g]? = some o ∧ Chg (fun _ => False) w w1 ∧ w1.heap.size = w.heap.size + 1 := by
  subst hg; subst hw; exact ⟨new_blk _ _, Chg.alloc _ _ _, by simp⟩
/-- nothing but new blocks were written -/
theorem Chg.fresh {w w' : World} (h : Chg (fun x => w.heap.size ≤ x) w w') : Chg (fun _ => False) w w' := h.newer fun x hx => .inr hx
theorem Chg.up {F : Nat → Prop} {w w1 w2 : World} (h : Chg (fun x => w.heap.size ≤ x) w w1) (k : Chg F w1 w2) (hF : ∀ x, F x → w.heap.size ≤ x) : Chg (fun x => w.heap.size ≤ x) w w2 := h.trans k fun x hx => .inl (hF x hx)

theorem rnew_ok (seed : Int) (w : World) : Calls Try.prog 28 #[.int .i64 seed] w fun e w' => e = .returned (valR (RD.new seed) (.slice none 0 0) (.slice none 0 0)) ∧ Chg (fun _ => False) w w' := by
  refine v28 _ _ _ ?_
  unfold V28
  intro g w1 hg hw1
  obtain ⟨b1, c1, _⟩ := blk_alloc hg hw1
  refine ret6 b1 fun w' hc => ⟨rfl, (c1.trans hc fun x hx => .inr (by omega))⟩
theorem rmoving_ok (w : World) (r : RD) {A1 A2 : Option Addr} {m1 c1 m2 c2 : Nat} : Calls Try.prog 67 #[valR r (.slice A1 m1 c1) (.slice A2 m2 c2)] w fun e w' => e = .returned (.bool (decide (0 < r.n2))) ∧ Chg (fun _ => False) w w' := by
  refine v67 _ _ _ _ _ _ _ _ _ _ _ _ ?_
  unfold V67
  intro g w1 hg hw1
  obtain ⟨b1, ch1, _⟩ := blk_alloc hg hw1
  refine ⟨_, cell_blk b1 rfl, ?_, ch1⟩
  congr 2
  exact decide_eq_decide.2 (by omega)
theorem rat_ok {w : World} {n : Int} {v : Value} {l : List It} (h : OwnI w v l) (hl : l.length < 9223372036854775807) (k : Str) :
    Calls Try.prog 66 #[.agg #[.int .i64 n, v], .string k] w fun e w' => e = .returned (.int .i64 (if k ∈ RD.kys l then (RD.ix l k : Int) else -1)) ∧ Chg (fun _ => False) w w' := by
  obtain ⟨A, c, rfl, hg⟩ := h.get
  refine v66 _ _ _ _ _ _ _ ?_
  unfold V66
  intro G w1 hG hw1
  obtain ⟨b1, ch1, _⟩ := blk_alloc hG hw1
  refine ⟨fun i w2 => w2 = w1 ∧ ∃ j : Nat, i = j ∧ j ≤ l.length ∧ ∀ q, q < j → (RD.kys l)[q]? ≠ some k, fun i _ => l.length - i.toNat, ⟨rfl, 0, rfl, Nat.zero_le _, fun q hq => by omega⟩, ?_⟩
  rintro i w2 ⟨rfl, j, rfl, hj, hno⟩
  refine ⟨_, _, _, cell_blk b1 rfl, fun hd => ?_, fun hd => ?_⟩
  · have hjl : j < l.length := by have := of_decide_eq_true hd; omega
    obtain ⟨g, rfl, hc, _⟩ := hg j l[j] (List.getElem?_eq_getElem hjl)
    have hc' := ch1.ext.cell hc
    refine ⟨_, _, _, cell_blk b1 rfl, by omega, by omega, l[j].1, by rw [toNatN, add_mk, Nat.zero_add]; exact hc', fun he => ?_, fun he => ?_⟩
    · have he' := strEq_iff.1 he
      have hkj : (RD.kys l)[j]? = some k := by rw [List.getElem?_map, List.getElem?_eq_getElem hjl]; simp [he']
      have hmem : k ∈ RD.kys l := List.mem_of_getElem? hkj
      have hix : RD.ix l k = j := by
        have h1 : RD.ix l k < (RD.kys l).length := List.idxOf_lt_length_iff.2 hmem
        have h2 : (RD.kys l)[RD.ix l k]? = some k := by rw [List.getElem?_eq_getElem h1]; congr 1; exact List.getElem_idxOf h1
        have h3 : ¬ RD.ix l k < j := fun hlt => hno _ hlt h2
        have h4 : ¬ j < RD.ix l k := fun hlt => by
          have := List.not_of_lt_findIdx (p := fun x => x == k) (xs := RD.kys l) (i := j) hlt
          rw [List.getElem?_eq_getElem (by simpa using hjl)] at hkj
          injection hkj with hkj
          rw [hkj] at this
          simp at this
        omega
      rw [if_pos hmem, hix]
      exact ⟨rfl, ch1⟩
    · rw [w64s (by omega)]
      refine ⟨⟨rfl, j + 1, rfl, hjl, fun q hq => ?_⟩, by dsimp only; omega⟩
      by_cases hqj : q = j
      · subst hqj
        rw [List.getElem?_map, List.getElem?_eq_getElem hjl]
        intro e
        simp only [Option.map_some, Option.some.injEq] at e
        rw [strEq_iff.2 e] at he; cases he
      · exact hno q (by omega)
  · have hje : j = l.length := by have := of_decide_eq_false hd; omega
    subst hje
    rw [if_neg]
    · exact ⟨rfl, ch1⟩
    · intro hm
      obtain ⟨q, hq⟩ := List.mem_iff_getElem?.1 hm
      have := (List.getElem?_eq_some_iff.1 hq).1
      exact hno q (by simpa using this) hq
theorem rwith_ok {w : World} {v : Value} {l : List It} (h : OwnI w v l) (hl : l.length ≤ 1099511627776) (p : It) :
    Calls Try.prog 69 #[v, .agg #[.string p.1, .int .i64 p.2]] w fun e w' => ∃ A c, e = .returned (.slice A (l ++ [p]).length c) ∧ OwnI w' (.slice A (l ++ [p]).length c) (l ++ [p]) ∧ (∀ b, (Value.slice A (l ++ [p]).length c).ownBlock = some b → w.heap.size ≤ b) ∧ Chg (fun _ => False) w w' := by
  obtain ⟨A, c, rfl⟩ := h.slice
  refine v69 _ _ _ _ _ _ _ ?_
  unfold V69
  intro g w1 hg hw1
  obtain ⟨b1, ch1, _⟩ := blk_alloc hg hw1
  have h1 := h.chg ch1 fun _ _ h => h
  obtain ⟨A2, c2, w2, hr2, ho2, hc2, hn2⟩ := (OwnI.nil w1).app (OwnI.src h1) rfl (by simp; omega)
  have hc2' : Chg (fun _ => False) w1 w2 := hc2.mono fun b hb => by simp [Value.ownBlock] at hb
  have hn2' : ∀ b, (Value.slice A2 ([] ++ l).length c2).ownBlock = some b → w1.heap.size ≤ b := fun b hb => (hn2 b hb).elim (fun h => by simp [Value.ownBlock] at h) id
  rw [List.nil_append] at hr2 ho2 hn2'
  have b2 := hc2'.blk b1 id
  refine ⟨A2, _, c2, w2, hr2, _, cell_blk b2 rfl, _, cell_blk b2 rfl, ?_⟩
  intro g3 w3 hg3 hw3
  obtain ⟨b3, ch3, _⟩ := blk_alloc hg3 hw3
  have h3 := ho2.chg ch3 fun _ _ h => h
  have hsrc : Src Try.prog 2 51 (.slice (some ⟨g3, 0, none⟩) 1 1) 1 (flatI [p]) w3 := Src.ofSlice w3 Try.underlying51 _ _ _ _ rfl (fun j u hu => by
    match j, hu with
    | 0, hu => simp [flatI] at hu; subst hu; rw [add_mk]; exact cell_blk b3 rfl
    | 1, hu => simp [flatI] at hu; subst hu; rw [add_mk]; exact cell_blk b3 rfl) (flatI_one [p])
  obtain ⟨A4, c4, w4, hr4, ho4, hc4, hn4⟩ := OwnI.app h3 hsrc rfl (by simp; omega)
  refine ⟨A4, _, c4, w4, hr4, A4, c4, rfl, ho4, fun b hb => ?_, ?_⟩
  · rcases hn4 b hb with h | h
    · exact Nat.le_trans ch1.size (hn2' b h)
    · exact Nat.le_trans (Nat.le_trans ch1.size (Nat.le_trans hc2'.size ch3.size)) h
  · exact ((ch1.trans' hc2').trans' ch3).trans hc4 fun x hx => .inr (Nat.le_trans ch1.size (hn2' x hx))
theorem rwithout_ok {w : World} {v : Value} {l : List It} (h : OwnI w v l) (hl : l.length ≤ 1099511627776) {i : Nat} (hi : i < l.length) :
    Calls Try.prog 70 #[v, .int .i64 i] w fun e w' => ∃ A c, e = .returned (.slice A (l.eraseIdx i).length c) ∧ OwnI w' (.slice A (l.eraseIdx i).length c) (l.eraseIdx i) ∧ (∀ b, (Value.slice A (l.eraseIdx i).length c).ownBlock = some b → w.heap.size ≤ b) ∧ Chg (fun _ => False) w w' := by
  obtain ⟨A, c, rfl, hget⟩ := h.get
  obtain ⟨g, rfl, _⟩ := hget i _ (List.getElem?_eq_getElem hi)
  have hcap : l.length ≤ c := by
    rcases h.2 with ⟨h0, _⟩ | ⟨g', cap, cur, hv, hb, hh, h1, _⟩
    · cases h0
    · injection hv with _ _ e3; omega
  refine v70 _ _ _ _ _ _ ?_
  unfold V70
  have hcut0 : cutA (some ⟨g, 0, none⟩) 0 c 2 = some ⟨g, 0, none⟩ := by
    unfold cutA; split
    · rfl
    · simp [add_mk]
  have hs1 : Src Try.prog 2 51 (.slice (some ⟨g, 0, none⟩) i c) i (flatI (l.take i)) w := by
    have := OwnW.srcPart (P := Try.prog) (tx := 51) h Try.underlying51 (flatI_one l) (l := 0) (m := i) (c' := c) (by omega)
    rw [Nat.zero_mul, List.drop_zero, flatI_take] at this
    exact this
  obtain ⟨A2, c2, w2, hr2, ho2, hc2, hn2⟩ := (OwnI.nil w).app hs1 (by simp; omega) (by simp; omega)
  have hc2' : Chg (fun _ => False) w w2 := hc2.mono fun b hb => by simp [Value.ownBlock] at hb
  have hn2' : ∀ b, (Value.slice A2 ([] ++ l.take i).length c2).ownBlock = some b → w.heap.size ≤ b := fun b hb => (hn2 b hb).elim (fun h => by simp [Value.ownBlock] at h) id
  rw [List.nil_append] at hr2 ho2 hn2'
  rw [w64s (by omega)]
  simp only [toNatN, Nat.sub_zero]
  rw [hcut0]
  refine ⟨by omega, by omega, A2, _, c2, w2, hr2, by omega, by omega, ?_⟩
  have h2 := h.chg hc2' fun _ _ h => h
  have hdl : (l.drop (i + 1)).length = l.length - (i + 1) := by simp
  have hs2 : Src Try.prog 2 51 (.slice (cutA (some ⟨g, 0, none⟩) (i + 1) c 2) (l.length - (i + 1)) (c - (i + 1))) (l.length - (i + 1)) (flatI (l.drop (i + 1))) w2 := by
    unfold cutA
    split
    · have h0 : l.length - (i + 1) = 0 := by omega
      have hd0 : l.drop (i + 1) = [] := List.eq_nil_of_length_eq_zero (by rw [hdl]; exact h0)
      rw [h0, hd0]
      exact Src.ofSlice w2 Try.underlying51 _ _ _ _ rfl (fun j u hu => by simp [flatI] at hu) (flatI_one [])
    · have := OwnW.srcPart (P := Try.prog) (tx := 51) h2 Try.underlying51 (flatI_one l) (l := i + 1) (m := l.length - (i + 1)) (c' := c - (i + 1)) (by omega)
      rw [flatI_drop, flatI_take, List.take_of_length_le (by rw [hdl]; exact Nat.le_refl _)] at this
      simp only [Option.map_some, add_mk, Nat.zero_add]
      exact this
  obtain ⟨A4, c4, w4, hr4, ho4, hc4, hn4⟩ := OwnI.app ho2 hs2 hdl.symm (by simp; omega)
  rw [← List.eraseIdx_eq_take_drop_succ] at hr4 ho4 hn4
  refine ⟨A4, _, c4, w4, hr4, A4, c4, rfl, ho4, fun b hb => ?_, ?_⟩
  · rcases hn4 b hb with h | h
    · exact hn2' b h
    · exact Nat.le_trans hc2'.size h
  · exact hc2'.trans hc4 fun x hx => .inr (hn2' x hx)
theorem rbucket_ok {w : World} (r : RD) {A1 A2 : Option Addr} {m1 c1 m2 c2 : Nat} {k : Str} (hf : k.size < 9223372036854775808) {n : Nat} (hn : n ≠ 0) :
    Calls Try.prog 118 #[valR r (.slice A1 m1 c1) (.slice A2 m2 c2), .string k, .int .i64 n] w fun e w' => e = .returned (.int .i64 (slot r.seed k n)) ∧ Chg (fun _ => False) w w' := by
  refine v118 _ _ _ _ _ _ _ _ _ _ _ _ _ _ ?_
  unfold V118
  intro g w1 hg hw1
  obtain ⟨b1, ch1, _⟩ := blk_alloc hg hw1
  refine ⟨_, cell_blk b1 rfl, (refHash_ok hf w1).mono ?_⟩
  rintro e w2 ⟨rfl, rfl⟩
  refine ⟨_, rfl, by omega, ?_, ch1⟩
  congr 2
end Go.Proofs.Ytcljmlgbmjjldaa
