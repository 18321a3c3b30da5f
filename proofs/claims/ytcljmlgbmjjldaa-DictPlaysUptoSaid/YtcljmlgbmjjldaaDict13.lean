/- DictMaps: the walk. -/
import Derived.Test.YtcljmlgbmjjldaaDict12
namespace Go.VC
open Go Go.RowKit
set_option linter.unusedVariables false
set_option linter.unusedSimpArgs false

/-! ### A map as two lists -/
structure Lists (m : Kvs) (K : List ByteArray) (V : List Int) : Prop where
  len : K.length = V.length
  cnt : m.length = K.length
  inj : ∀ (i j : Nat) (k : ByteArray), K[i]? = some k → K[j]? = some k → i = j
  get : ∀ (j : Nat) (k : ByteArray) (v : Int), K[j]? = some k → V[j]? = some v → kget k m = some (.int .i64 v)
  all : ∀ k, (kget k m).isSome → k ∈ K
theorem Lists.nil : Lists [] [] [] := ⟨rfl, rfl, fun i j k h => by simp at h, fun j k v h => by simp at h, fun k h => by simp [kget] at h⟩
theorem Lists.mem {m : Kvs} {K : List ByteArray} {V : List Int} (h : Lists m K V) {k : ByteArray} (hk : k ∈ K) : (kget k m).isSome := by
  obtain ⟨j, hj, rfl⟩ := List.mem_iff_getElem.1 hk
  rw [h.get j K[j] (V[j]'(by rw [← h.len]; exact hj)) (List.getElem?_eq_getElem hj) (List.getElem?_eq_getElem _)]; rfl
theorem Lists.setOld {m : Kvs} {K : List ByteArray} {V : List Int} (h : Lists m K V) {a : Nat} {k : ByteArray} (n : Int) (ha : K[a]? = some k) : Lists (upd k (.int .i64 n) m) K (V.set a n) := by
  have hm := h.mem (List.mem_of_getElem? ha)
  refine ⟨by rw [List.length_set]; exact h.len, by rw [upd_length, if_pos hm]; exact h.cnt, h.inj, fun j k' v hj hv => ?_, fun k' hk => ?_⟩
  · rw [List.getElem?_set] at hv
    by_cases hja : a = j
    · subst hja
      rw [if_pos rfl] at hv
      have e1 : k = k' := by rw [ha] at hj; injection hj
      subst e1
      split at hv
      · injection hv with hv; subst hv; exact look_upd_same _ _ _
      · cases hv
    · rw [if_neg hja] at hv
      have hne : k ≠ k' := fun e => hja (h.inj a j k ha (e ▸ hj))
      rw [look_upd_ne hne]; exact h.get j k' v hj hv
  · by_cases hkk : k = k'
    · subst hkk; exact List.mem_of_getElem? ha
    · rw [look_upd_ne hkk] at hk; exact h.all k' hk
theorem Lists.setNew {m : Kvs} {K : List ByteArray} {V : List Int} (h : Lists m K V) {k : ByteArray} (n : Int) (hk : k ∉ K) : Lists (upd k (.int .i64 n) m) (K ++ [k]) (V ++ [n]) := by
  have hno : (kget k m).isSome = false := by
    cases hs : (kget k m).isSome with
    | false => rfl
    | true => exact absurd (h.all k hs) hk
  have hlen := h.len
  refine ⟨by simp [hlen], by rw [upd_length, hno]; simp [h.cnt], fun i j k' hi hj => ?_, fun j k' v hj hv => ?_, fun k' hk' => ?_⟩
  · have hi1 := (List.getElem?_eq_some_iff.1 hi).1
    have hj1 := (List.getElem?_eq_some_iff.1 hj).1
    simp at hi1 hj1
    by_cases h1 : i < K.length
    · rw [List.getElem?_append_left h1] at hi
      by_cases h2 : j < K.length
      · rw [List.getElem?_append_left h2] at hj; exact h.inj i j k' hi hj
      · rw [List.getElem?_append_right (by omega), show j - K.length = 0 by omega] at hj
        simp at hj; subst hj; exact absurd (List.mem_of_getElem? hi) hk
    · rw [List.getElem?_append_right (by omega), show i - K.length = 0 by omega] at hi
      simp at hi; subst hi
      by_cases h2 : j < K.length
      · rw [List.getElem?_append_left h2] at hj; exact absurd (List.mem_of_getElem? hj) hk
      · omega
  · have hj1 := (List.getElem?_eq_some_iff.1 hj).1
    simp at hj1
    by_cases h1 : j < K.length
    · rw [List.getElem?_append_left h1] at hj
      rw [List.getElem?_append_left (by omega)] at hv
      have hne : k ≠ k' := fun e => hk (e ▸ List.mem_of_getElem? hj)
      rw [look_upd_ne hne]; exact h.get j k' v hj hv
    · rw [List.getElem?_append_right (by omega), show j - K.length = 0 by omega] at hj
      rw [List.getElem?_append_right (by omega), show j - V.length = 0 by omega] at hv
      simp at hj hv; subst hj; subst hv; exact look_upd_same _ _ _
  · by_cases hkk : k = k'
    · subst hkk; simp
    · rw [look_upd_ne hkk] at hk'; exact List.mem_append_left _ (h.all k' hk')
theorem Lists.delOld {m : Kvs} {K : List ByteArray} {V : List Int} (h : Lists m K V) (hn : NodupK m) {a : Nat} {k kl : ByteArray} {vl : Int} (ha : K[a]? = some k) (hl : K[K.length - 1]? = some kl) (hv : V[K.length - 1]? = some vl) :
    Lists (del k m) ((K.set a kl).take (K.length - 1)) ((V.set a vl).take (K.length - 1)) := by
  have hm := h.mem (List.mem_of_getElem? ha)
  have hlen := h.len
  have haL := (List.getElem?_eq_some_iff.1 ha).1
  have key : ∀ (i : Nat) k', ((K.set a kl).take (K.length - 1))[i]? = some k' → i < K.length - 1 ∧ ((a = i ∧ k' = kl) ∨ (a ≠ i ∧ K[i]? = some k')) := fun i k' hi => by
    rw [List.getElem?_take] at hi
    split at hi
    · rename_i hlt
      refine ⟨hlt, ?_⟩
      rw [List.getElem?_set] at hi
      by_cases e : a = i
      · rw [if_pos e, if_pos haL] at hi; injection hi with hi; exact .inl ⟨e, hi.symm⟩
      · rw [if_neg e] at hi; exact .inr ⟨e, hi⟩
    · cases hi
  refine ⟨by simp [hlen], ?_, fun i j k' hi hj => ?_, fun j k' v hj hv' => ?_, fun k' hk' => ?_⟩
  · rw [del_length, if_pos hm, h.cnt]; simp
  · obtain ⟨i1, hi⟩ := key i k' hi
    obtain ⟨j1, hj⟩ := key j k' hj
    rcases hi with ⟨rfl, rfl⟩ | ⟨i2, i3⟩
    · rcases hj with ⟨rfl, _⟩ | ⟨j2, j3⟩
      · rfl
      · have := h.inj j _ k' j3 hl; omega
    · rcases hj with ⟨rfl, rfl⟩ | ⟨j2, j3⟩
      · have := h.inj i _ k' i3 hl; omega
      · exact h.inj i j k' i3 j3
  · obtain ⟨j1, hj⟩ := key j k' hj
    rw [List.getElem?_take, if_pos j1, List.getElem?_set] at hv'
    rcases hj with ⟨rfl, rfl⟩ | ⟨j2, j3⟩
    · rw [if_pos rfl, if_pos (by omega)] at hv'
      injection hv' with hv'; subst hv'
      have hne : k ≠ k' := fun e => by subst e; have := h.inj a _ k ha hl; omega
      rw [look_del_ne hne]; exact h.get _ k' _ hl hv
    · rw [if_neg j2] at hv'
      have hne : k ≠ k' := fun e => j2 (h.inj a j k ha (e ▸ j3))
      rw [look_del_ne hne]; exact h.get _ k' _ j3 hv'
  · have hne : k ≠ k' := fun e => by subst e; rw [look_del_same hn] at hk'; cases hk'
    rw [look_del_ne hne] at hk'
    obtain ⟨i, hi⟩ := List.mem_iff_getElem?.1 (h.all k' hk')
    have hiL := (List.getElem?_eq_some_iff.1 hi).1
    by_cases hi1 : i = K.length - 1
    · subst hi1
      have hkl : k' = kl := by rw [hi] at hl; injection hl
      have ha1 : a ≠ K.length - 1 := fun e => hne (by rw [e, hi] at ha; injection ha with ha; exact ha.symm)
      refine List.mem_of_getElem? (i := a) ?_
      rw [List.getElem?_take, if_pos (by omega), List.getElem?_set, if_pos rfl, if_pos haL, hkl]
    · refine List.mem_of_getElem? (i := i) ?_
      have hia : a ≠ i := fun e => hne (by rw [e, hi] at ha; injection ha with ha; exact ha.symm)
      rw [List.getElem?_take, if_pos (by omega), List.getElem?_set, if_neg hia]; exact hi
/-- sorted texts of which none stands twice rise -/
theorem sortS_rises {l : List ByteArray} (hn : l.Nodup) : ∀ (i : Nat) (x y : ByteArray), (sortS l)[i]? = some x → (sortS l)[i + 1]? = some y → strLt x y = true := by
  intro i x y hx hy
  unfold sortS at hx hy
  rw [List.getElem?_map] at hx hy
  have tr : ∀ a b c : List UInt8, (decide (a ≤ b)) = true → (decide (b ≤ c)) = true → (decide (a ≤ c)) = true := fun a b c h1 h2 => by simp only [decide_eq_true_eq] at *; exact List.le_trans h1 h2
  have to : ∀ a b : List UInt8, ((decide (a ≤ b)) || (decide (b ≤ a))) = true := fun a b => by simp only [Bool.or_eq_true, decide_eq_true_eq]; exact List.le_total a b
  have hp := List.pairwise_mergeSort tr to (l.map fun s => s.data.toList)
  have hperm := List.mergeSort_perm (l.map fun s => s.data.toList) fun x y => decide (x ≤ y)
  have hnd : ((l.map fun s => s.data.toList).mergeSort fun x y => decide (x ≤ y)).Nodup := by
    refine hperm.nodup_iff.2 ?_
    refine List.Pairwise.map _ (fun a b hab e => hab ?_) hn
    exact toList_inj (by rw [Lib.toList_data, Lib.toList_data]; exact e)
  obtain ⟨bx, ex, rfl⟩ := Option.map_eq_some_iff.1 hx
  obtain ⟨bby, ey, rfl⟩ := Option.map_eq_some_iff.1 hy
  obtain ⟨i1, rfl⟩ := List.getElem?_eq_some_iff.1 ex
  obtain ⟨i2, rfl⟩ := List.getElem?_eq_some_iff.1 ey
  have h1 := List.pairwise_iff_getElem.1 hp i (i + 1) i1 i2 (by omega)
  have h2 := List.pairwise_iff_getElem.1 hnd i (i + 1) i1 i2 (by omega)
  unfold strLt
  rw [Go.Proofs.bytesLess_eq, Lib.toList_data, Lib.toList_data]
  simp only [decide_eq_true_eq] at h1 ⊢
  exact Classical.byContradiction fun hnl => h2 (List.le_antisymm h1 (List.not_lt.1 hnl))
/-! ### Rows -/
theorem Own.take {w : World} {e : TypeId} {g n c : Nat} {xs : List Value} (h : Own w e (.slice (some ⟨g, 0, none⟩) n c) n xs) {m : Nat} (hm : m ≤ n) : Own w e (.slice (some ⟨g, 0, none⟩) m c) m (xs.take m) := by
  have hl := h.len
  refine ⟨by rw [List.length_take]; omega, ?_⟩
  rcases h.2 with ⟨h0, _⟩ | ⟨g', cap, cur, hv, hb, hh, h1, h2, h3, h4⟩
  · cases h0
  · injection hv with e1 e2 e3
    injection e1 with e1
    injection e1 with e1
    subst e1; subst e3
    refine .inr ⟨g, c, cur, rfl, hb, hh, by omega, h2, h3, ?_⟩
    rw [← h4, List.take_take]; congr 1; omega
theorem Own.cap {w : World} {e : TypeId} {g n c : Nat} {xs : List Value} (h : Own w e (.slice (some ⟨g, 0, none⟩) n c) n xs) : n ≤ c := by
  rcases h.2 with ⟨h0, _⟩ | ⟨g', cap, cur, hv, hb, hh, h1, _⟩
  · cases h0
  · injection hv with _ _ e3; omega
theorem cutA_zero (g m : Nat) : cutA (some ⟨g, 0, none⟩) 0 m 1 = some ⟨g, 0, none⟩ := by
  unfold cutA; split
  · rfl
  · simp [add_mk]
theorem Rd.at {w : World} {v : Value} {xs : List Value} (h : Rd w v xs) : ∃ A c, v = .slice A xs.length c ∧ ∀ (j : Nat) (x : Value), xs[j]? = some x → ∃ a, A = some a ∧ w.cell? (a.add j) = some x := by
  obtain ⟨A, c, rfl, hc, h⟩ := h.ex
  refine ⟨A, c, rfl, fun j s hs => ?_⟩
  rcases h with ⟨_, h0, _⟩ | ⟨a, rfl, ha⟩
  · subst h0; simp at hs
  · exact ⟨a, rfl, ha j _ hs⟩
end Go.VC
namespace Go.Proofs.Ytcljmlgbmjjldaa
open Go Go.VC Go.RowKit Go.Proofs.Ytcljmlgbmjjldaa.F
set_option linter.unusedVariables false
set_option linter.unusedSimpArgs false
abbrev ints (V : List Int) : List Value := V.map (Value.int .i64 ·)
/-- a dict, a row of keys, a row of values: all in new blocks, apart -/
structure MI (w w' : World) (g : Nat) (d : D) (F : Nat → Prop) (kv vv : Value) (K : List Str) (V : List Int) : Prop where
  dict : DictAt w' g d F
  fresh : ∀ x, F x → w.heap.size ≤ x
  kf : ∀ b, kv.ownBlock = some b → w.heap.size ≤ b ∧ ¬ F b
  vf : ∀ b, vv.ownBlock = some b → w.heap.size ≤ b ∧ ¬ F b
  chg : Chg (fun x => w.heap.size ≤ x) w w'
  own1 : Own w' tS kv K.length (strs K)
  own2 : Own w' 3 vv V.length (ints V)
section
variable {w w1 w2 : World} {g : Nat} {d : D} {F : Nat → Prop} {kv vv : Value} {K : List Str} {V : List Int}
theorem MI.chg' (h : MI w w1 g d F kv vv K V) (hc : Chg (fun _ => False) w1 w2) : MI w w2 g d F kv vv K V :=
  ⟨h.dict.chg hc fun _ _ h => h, h.fresh, h.kf, h.vf, h.chg.trans hc fun _ h => h.elim, h.own1.chg hc fun _ _ h => h, h.own2.chg hc fun _ _ h => h⟩
theorem MI.drawn (h : MI w w1 g d F kv vv K V) (k : Drawn w1 w2) : MI w w2 g d F kv vv K V := h.chg' (k.chg _)
theorem MI.went (h : MI w w1 g d F kv vv K V) {d' : D} (hw : Went w1 w2 g F d') : ∃ F', MI w w2 g d' F' kv vv K V := by
  obtain ⟨F', k1, k2, k3⟩ := hw.ex
  refine ⟨F', k1, fun x hx => (k2 x hx).elim (h.fresh x) fun hle => Nat.le_trans h.chg.size hle, fun b hb => ⟨(h.kf b hb).1, fun hx => ?_⟩, fun b hb => ⟨(h.vf b hb).1, fun hx => ?_⟩, h.chg.trans k3 fun x hx => .inl (h.fresh x hx), h.own1.chg k3 fun b hb => (h.kf b hb).2, h.own2.chg k3 fun b hb => (h.vf b hb).2⟩
  · exact (k2 b hx).elim (h.kf b hb).2 fun hle => by have := h.own1.lt hb; omega
  · exact (k2 b hx).elim (h.vf b hb).2 fun hle => by have := h.own2.lt hb; omega
theorem MI.newK (h : MI w w1 g d F kv vv K V) {kv' : Value} {K' : List Str} (ho : Own w2 tS kv' K'.length (strs K')) (hc : Chg (fun b => kv.ownBlock = some b) w1 w2) (hn : ∀ b, kv'.ownBlock = some b → kv.ownBlock = some b ∨ w1.heap.size ≤ b) : MI w w2 g d F kv' vv K' V := by
  refine ⟨h.dict.chg hc fun x hx hb => (h.kf x hb).2 hx, h.fresh, fun b hb => ?_, h.vf, h.chg.trans hc fun x hx => .inl (h.kf x hx).1, ho, h.own2.chg hc fun b hb hk => h.own1.type_ne h.own2 (by decide) hk hb⟩
  rcases hn b hb with h1 | h1
  · exact h.kf b h1
  · exact ⟨Nat.le_trans h.chg.size h1, fun hx => by have := h.dict.lt hx; omega⟩
theorem MI.newV (h : MI w w1 g d F kv vv K V) {vv' : Value} {V' : List Int} (ho : Own w2 3 vv' V'.length (ints V')) (hc : Chg (fun b => vv.ownBlock = some b) w1 w2) (hn : ∀ b, vv'.ownBlock = some b → vv.ownBlock = some b ∨ w1.heap.size ≤ b) : MI w w2 g d F kv vv' K V' := by
  refine ⟨h.dict.chg hc fun x hx hb => (h.vf x hb).2 hx, h.fresh, h.kf, fun b hb => ?_, h.chg.trans hc fun x hx => .inl (h.vf x hx).1, h.own1.chg hc fun b hb hk => h.own1.type_ne h.own2 (by decide) hb hk, ho⟩
  rcases hn b hb with h1 | h1
  · exact h.vf b h1
  · exact ⟨Nat.le_trans h.chg.size h1, fun hx => by have := h.dict.lt hx; omega⟩
end
/-- where a key stands among the first p -/
def AtP (K : List Str) (key : Str) (p : Nat) (at_ : Int) : Prop := (at_ = -1 ∧ ∀ x ∈ K.take p, x ≠ key) ∨ ∃ a : Nat, a < p ∧ at_ = a ∧ K[a]? = some key

theorem tail_ok {w w4 : World} {g : Nat} {d : D} {F : Nat → Prop} {kA vA : Option Addr} {kc vc n : Nat} {K : List Str} {V : List Int} (h : MI w w4 g d F (.slice kA K.length kc) (.slice vA V.length vc) K V) (hg : Good d n) (hn : n < 549755813888) (hL : Lists d.m K V)
    {R : Ending → World → Prop} (hR : ∀ w', MI w w' g d F (.slice kA K.length kc) (.slice vA V.length vc) K V → R (.returned (.bool true)) w') {lA : Option Addr} {lc : Nat} (hl : Rd w4 (.slice lA d.m.length lc) (strs (sortS (d.m.map (·.1))))) :
    V5_k7 (some ⟨g, 0, none⟩) kA K.length kc vA V.length vc lA d.m.length lc false w4 R := by
  unfold V5_k7
  refine ⟨fun h => (by cases h), fun _ => ?_⟩
  have hfew := hg.few
  have hcnt := hL.cnt
  refine ⟨fun i w' => Drawn w4 w' ∧ ∃ j : Nat, i = j ∧ j ≤ d.m.length, fun i _ => d.m.length - i.toNat, ⟨Drawn.refl _, 0, rfl, Nat.zero_le _⟩, ?_⟩
  rintro i w5 ⟨d5, j, rfl, hj⟩
  refine ⟨fun hd w6 d6 => ?_, fun hd => ?_⟩
  · have hjl : j < d.m.length := by have := of_decide_eq_true hd; omega
    have hslen : (sortS (d.m.map (·.1))).length = d.m.length := by simp
    have next : ∀ {b : Bool} w7, Drawn w6 w7 → b = false → (b = true → R (.returned (.bool false)) w7) ∧ (b = false → ((Drawn w4 w7 ∧ ∃ j' : Nat, IntKind.wrap .i64 ((j : Int) + 1) = j' ∧ j' ≤ d.m.length) ∧ d.m.length - (IntKind.wrap .i64 ((j : Int) + 1)).toNat < d.m.length - ((j : Nat) : Int).toNat)) := by
      rintro b w7 d7 rfl
      refine ⟨fun h => (by cases h), fun _ => ?_⟩
      rw [w64s (by omega)]
      exact ⟨⟨d5.trans (d6.trans d7), j + 1, rfl, hjl⟩, by omega⟩
    refine ⟨fun h0 => ?_, fun h0 w7 d7 => next w7 d7 rfl⟩
    have hj0 : 0 < j := by have := of_decide_eq_true h0; omega
    obtain ⟨A, c, e, hat⟩ := Rd.get (hl.chg ((d5.trans d6).chg (fun _ => False)) fun _ _ h => h)
    injection e with e1 e2 e3
    subst e1
    obtain ⟨a1, ea1, hc1⟩ := hat (j - 1) _ (List.getElem?_eq_getElem (by omega))
    obtain ⟨a2, ea2, hc2⟩ := hat j _ (List.getElem?_eq_getElem (by omega))
    subst ea1
    injection ea2 with ea2; subst ea2
    rw [w64p hj0 (by omega)]
    refine ⟨by omega, by omega, by omega, by omega, _, by rw [toNatN, Nat.mul_one]; exact hc1, _, by rw [toNatN, Nat.mul_one]; exact hc2, fun w7 d7 => next w7 d7 ?_⟩
    have := sortS_rises hg.inv.nd (j - 1) _ _ (List.getElem?_eq_getElem (by omega)) (by rw [show j - 1 + 1 = j by omega]; exact List.getElem?_eq_getElem (by omega))
    rw [this]; rfl
  · have h5 := h.drawn d5
    refine ⟨fun i w' => w' = w5 ∧ ∃ j : Nat, i = j ∧ j ≤ K.length, fun i _ => K.length - i.toNat, ⟨rfl, 0, rfl, Nat.zero_le _⟩, ?_⟩
    rintro i w6 ⟨rfl, p, rfl, hp⟩
    refine ⟨fun hd => ?_, fun hd => hR w6 h5⟩
    have hpl : p < K.length := by have := of_decide_eq_true hd; omega
    have hpV : p < V.length := by have := hL.len; omega
    obtain ⟨A, c, e, hat⟩ := Rd.get h5.own1.rd
    injection e with e1 e2 e3
    subst e1
    obtain ⟨a1, ea1, hc1⟩ := hat p _ (List.getElem?_eq_getElem hpl)
    subst ea1
    refine ⟨by omega, by omega, _, by rw [toNatN, Nat.mul_one]; exact hc1, (get_ok h5.dict hg.ints _).mono ?_⟩
    rintro e w7 ⟨rfl, rfl⟩
    have hget := hL.get p _ _ (List.getElem?_eq_getElem hpl) (List.getElem?_eq_getElem hpV)
    rw [hget]
    refine ⟨_, _, rfl, fun _ => ?_, fun h => (by cases h)⟩
    obtain ⟨B, c', e', hat'⟩ := h5.own2.rd.at
    rw [List.length_map] at e'
    injection e' with e1' e2' e3'
    subst e1'
    obtain ⟨b1, eb1, hd1⟩ := hat' p (.int .i64 V[p]) (by rw [List.getElem?_map, List.getElem?_eq_getElem hpV]; rfl)
    subst eb1
    refine ⟨by omega, by omega, _, by rw [toNatN, Nat.mul_one]; exact hd1, ?_⟩
    have hz : ∀ w7, (false = true → R (.returned (.bool false)) w7) := fun _ h => by cases h
    have heq : ((intOf (some (.int .i64 V[p])) : Int) != V[p]) = false := by simp [intOf]
    rw [heq]
    refine ⟨fun h => (by cases h), fun _ => ?_⟩
    rw [w64s (by omega)]
    exact ⟨⟨rfl, p + 1, rfl, hpl⟩, by (try dsimp only); omega⟩
end Go.Proofs.Ytcljmlgbmjjldaa
namespace Go.Proofs.Ytcljmlgbmjjldaa
open Go Go.VC Go.RowKit Go.Proofs.Ytcljmlgbmjjldaa.F
set_option linter.unusedVariables false
set_option linter.unusedSimpArgs false
theorem strs_append (a b : List Str) : strs (a ++ b) = strs a ++ strs b := by simp [strs]
theorem strs_set (a : List Str) (i : Nat) (x : Str) : strs (a.set i x) = (strs a).set i (.string x) := by simp [strs, List.map_set]
theorem strs_take (a : List Str) (i : Nat) : strs (a.take i) = (strs a).take i := by simp [strs, List.map_take]
/-- the three cells of an operation of one's own -/
theorem maps_walk {w : World} {seed : Int} {A : Option Addr} {c : Nat} {ops : List Op} (hops : OpsAt w A ops) (hok : ∀ o ∈ ops, o.Ok) (hl : ops.length ≤ 1048576) :
    Calls Try.prog 5 #[.int .i64 seed, .slice A ops.length c] w fun e w' => e = .returned (.bool true) ∧ Chg (fun _ => False) w w' := by
  refine v5 _ _ _ _ _ _ ?_
  unfold V5
  refine (run_new seed).mono ?_
  rintro e w1 ⟨g, rfl, hw⟩
  refine ⟨_, rfl, hw.mono ?_⟩
  rintro e w2 ⟨rfl, hr⟩
  refine ⟨_, rfl, fun _ => ?_, fun h => (by cases h)⟩
  have fin : ∀ {w' : World}, Chg (fun x => w.heap.size ≤ x) w w' → Chg (fun _ => False) w w' := fun h => h.newer fun x hx => .inr hx
  unfold V5_k1
  refine ⟨fun h => (by cases h), fun _ => ?_⟩
  refine ⟨fun kA kn kc vA vn vc i w4 => ∃ (j : Nat) (d : D) (F : Nat → Prop) (K : List Str) (V : List Int), i = j ∧ j ≤ ops.length ∧ kn = K.length ∧ vn = V.length ∧ Good d j ∧ Lists d.m K V ∧ MI w w4 g d F (.slice kA kn kc) (.slice vA vn vc) K V,
    fun _ _ _ _ _ _ i _ => ops.length - i.toNat, ?_, ?_⟩
  · obtain ⟨F, h1, h2⟩ := hr.ex
    exact ⟨0, _, F, [], [], rfl, Nat.zero_le _, rfl, rfl, hr.good, Lists.nil, h1, h2, fun b hb => (by simp [Value.ownBlock] at hb), fun b hb => (by simp [Value.ownBlock] at hb), hr.chg, Own.nil _ _, Own.nil _ _⟩
  rintro kA kn kc vA vn vc i w4 ⟨j, d, F, K, V, rfl, hj, rfl, rfl, hg, hL, hI⟩
  have hfew := hg.few
  have hcnt := hL.cnt
  have hlen := hL.len
  refine ⟨fun hd => ?_, fun hd => ?_⟩
  · have hjl : j < ops.length := by have := of_decide_eq_true hd; omega
    have hget : ops[j]? = some ops[j] := List.getElem?_eq_getElem hjl
    obtain ⟨a, rfl, q1, q2, q3⟩ := hops.later hI.chg j _ hget
    have ho := hok _ (List.getElem_mem hjl)
    generalize ops[j] = o at q1 q2 q3 ho
    refine ⟨by omega, by omega, _, by rw [toNatN]; exact q1, _, by rw [toNatN]; exact q2, _, by rw [toNatN]; exact q3, ?_⟩
    intro go w5 hgo hw5
    have hb : w5.heap[go]? = some (.cells #[.int .i64 0, .string (ByteArray.mk #[]), .int .i64 0] 33 (0, 0)) := by subst hgo; subst hw5; exact new_blk _ _
    have c5 : Chg (fun _ => False) w4 w5 := by subst hw5; exact Chg.alloc _ _ _
    obtain ⟨b1, c51⟩ := store_blk (i := 0) (v := .int .i64 o.kind) hb rfl
    obtain ⟨b2, c52⟩ := store_blk (i := 1) (v := .string o.key) b1 rfl
    refine ⟨⟨_, cell_blk hb rfl⟩, frozen_blk hb, ⟨_, cell_blk b1 rfl⟩, frozen_blk b1, ⟨_, cell_blk b2 rfl⟩, frozen_blk b2, ?_⟩
    intro w6 hw6
    obtain ⟨b3, c53⟩ := store_blk (i := 2) (v := .int .i64 o.n) b2 hw6
    have c46 : Chg (fun _ => False) w4 w6 := by
      have h1 : Chg (fun b => b = go) w4 w6 := (((c5.mono fun _ h => h.elim).trans' c51).trans' c52).trans' c53
      exact h1.newer fun x hx => .inr (by subst hgo; exact Nat.le_of_eq hx.symm)
    have hgo4 : w4.heap.size ≤ go := by omega
    have b6 : w6.heap[go]? = some (.cells #[.int .i64 o.kind, .string o.key, .int .i64 o.n] 33 (0, 0)) := b3
    have hI6 := hI.chg' c46
    clear b1 b2 b3 c51 c52 c53 hb hw6 q1 q2 q3
    -- how the loop goes on
    have next : ∀ {kA' kc' vA' vc'} {d' : D} {F' : Nat → Prop} {K' : List Str} {V' : List Int} {kn' vn' : Nat} {w' : World}, Good d' (j + 1) → Lists d'.m K' V' → kn' = K'.length → vn' = V'.length → MI w w' g d' F' (.slice kA' K'.length kc') (.slice vA' V'.length vc') K' V' →
        (∃ (j' : Nat) (d : D) (F : Nat → Prop) (K : List Str) (V : List Int), IntKind.wrap .i64 ((j : Int) + 1) = j' ∧ j' ≤ ops.length ∧ kn' = K.length ∧ vn' = V.length ∧ Good d j' ∧ Lists d.m K V ∧ MI w w' g d F (.slice kA' kn' kc') (.slice vA' vn' vc') K V) ∧
        ops.length - (IntKind.wrap .i64 ((j : Int) + 1)).toNat < ops.length - ((j : Nat) : Int).toNat := by
      intro kA' kc' vA' vc' d' F' K' V' kn' vn' w' g1 l1 e1 e2 m1
      subst e1; subst e2
      rw [w64s (by omega)]
      exact ⟨⟨j + 1, d', F', K', V', rfl, hjl, rfl, rfl, g1, l1, m1⟩, by (try dsimp only); omega⟩
    refine ⟨fun at_ k w7 => Drawn w6 w7 ∧ ∃ p : Nat, k = p ∧ p ≤ K.length ∧ AtP K o.key p at_, fun _ k _ => K.length - k.toNat, ⟨Drawn.refl _, 0, rfl, Nat.zero_le _, .inl ⟨rfl, fun x hx => by simp at hx⟩⟩, ?_⟩
    rintro at_ k w7 ⟨d7, p, rfl, hp, hat⟩
    refine ⟨fun hk w8 d8 => ?_, fun hk => ?_⟩
    · have hpl : p < K.length := by have := of_decide_eq_true hk; omega
      have d68 := d7.trans d8
      obtain ⟨A', c', e', hcell⟩ := Rd.get (hI6.drawn d68).own1.rd
      injection e' with e1 e2 e3
      subst e1
      obtain ⟨a1, ea1, hc1⟩ := hcell p _ (List.getElem?_eq_getElem hpl)
      subst ea1
      refine ⟨by omega, by omega, _, by rw [toNatN, Nat.mul_one]; exact hc1, _, cell_blk (d68.blk b6) rfl, fun w9 d9 => ⟨fun he => ?_, fun he => ?_⟩⟩
      · have he' := strEq_iff.1 he
        unfold V5_k2 V5_k3
        rw [w64s (by omega)]
        refine ⟨⟨d68.trans d9, p + 1, rfl, hpl, .inr ⟨p, by omega, rfl, by rw [List.getElem?_eq_getElem hpl, he']⟩⟩, by (try dsimp only); omega⟩
      · have he' : K[p] ≠ o.key := fun e => by rw [strEq_iff.2 e] at he; cases he
        unfold V5_k2 V5_k3
        rw [w64s (by omega)]
        refine ⟨⟨d68.trans d9, p + 1, rfl, hpl, ?_⟩, by (try dsimp only); omega⟩
        rcases hat with ⟨h1, h2⟩ | ⟨a0, h1, h2, h3⟩
        · refine .inl ⟨h1, fun x hx => ?_⟩
          rw [List.take_succ_eq_append_getElem hpl] at hx
          rcases List.mem_append.1 hx with hx | hx
          · exact h2 x hx
          · rw [List.mem_singleton.1 hx]; exact he'
        · exact .inr ⟨a0, by omega, h2, h3⟩
    · have hpe : p = K.length := by have := of_decide_eq_false hk; omega
      subst hpe
      rw [AtP, List.take_length] at hat
      have hI7 := hI6.drawn d7
      have b7 := d7.blk b6
      have noKey : (∀ x ∈ K, x ≠ o.key) → (kget o.key d.m).isSome = false := fun h => by
        cases hs : (kget o.key d.m).isSome with
        | false => rfl
        | true => exact absurd rfl (h _ (hL.all _ hs))
      have isKey : ∀ {a0 : Nat}, K[a0]? = some o.key → (kget o.key d.m).isSome = true := fun h => hL.mem (List.mem_of_getElem? h)
      refine ⟨_, cell_blk b7 rfl, fun h0 => ?_, fun h0 => ?_⟩
      · -- Set
        refine ⟨_, cell_blk b7 rfl, _, cell_blk b7 rfl, (set_ok hI7.dict hg.inv hg.ints ho.f (by omega)).mono ?_⟩
        rintro e w12 ⟨rfl, hw12⟩
        obtain ⟨F12, hI12⟩ := hI7.went hw12
        have hg12 := hg.set (by omega) ho.f o.n
        have b12 : w12.heap[go]? = some (.cells #[.int .i64 o.kind, .string o.key, .int .i64 o.n] 33 (0, 0)) := by
          obtain ⟨F', _, _, k3⟩ := hw12.ex
          refine k3.blk b7 fun hx => ?_
          have := hI.dict.lt hx; omega
        refine ⟨_, rfl, fun hbad => ?_, fun _ => ?_⟩
        · exfalso
          rw [set_new] at hbad
          rcases hat with ⟨rfl, h2⟩ | ⟨a0, _, rfl, h3⟩
          · rw [noKey h2] at hbad; exact absurd hbad (by decide)
          · rw [isKey h3, decide_eq_false (by omega)] at hbad; exact absurd hbad (by decide)
        refine ⟨fun hneg => ?_, fun hneg => ?_⟩
        · have hno : ∀ x ∈ K, x ≠ o.key := by
            rcases hat with ⟨_, h2⟩ | ⟨a0, _, rfl, _⟩
            · exact h2
            · have := of_decide_eq_true hneg; omega
          have hnk : o.key ∉ K := fun h => hno _ h rfl
          refine ⟨_, cell_blk b12 rfl, ?_⟩
          intro g2 w13 hg2 hw13
          have hbk : w13.heap[g2]? = some (.cells #[.string o.key] 9 (0, 0)) := by subst hg2; subst hw13; exact new_blk _ _
          have c13 : Chg (fun _ => False) w12 w13 := by subst hw13; exact Chg.alloc _ _ _
          have hI13 := hI12.chg' c13
          obtain ⟨i9, i1, i2, i3, i4⟩ := info9
          obtain ⟨kA', kc', w14, hrun, hO14, hC14, hN14⟩ := Own.append (P := Try.prog) (ty := 30) (a := ⟨g2, 0, none⟩) (m := 1) (c := 1) (news := [.string o.key]) Try.underlying30 i1 i2 i3 rfl hI13.own1 rfl (fun q u hq => by
              match q, hq with
              | 0, hq => simp at hq; subst hq; rw [add_mk]; exact cell_blk hbk rfl)
            (fun u hu => by simp at hu; subst hu; rfl) (by rw [i4]; omega) (by omega) #[false, false]
          have hO14' : Own w14 tS (.slice kA' (K ++ [o.key]).length kc') (K ++ [o.key]).length (strs (K ++ [o.key])) := by rw [strs_append, List.length_append]; exact hO14
          have hI14 := hI13.newK hO14' hC14 (by rw [List.length_append]; exact hN14)
          have b14 : w14.heap[go]? = some (.cells #[.int .i64 o.kind, .string o.key, .int .i64 o.n] 33 (0, 0)) := by
            have h13 := c13.blk b12 id
            exact hC14.blk h13 (hI13.own1.blk_ne h13 (by decide))
          refine ⟨kA', _, kc', w14, hrun, _, cell_blk b14 rfl, ?_⟩
          intro g3 w15 hg3 hw15
          have hbv : w15.heap[g3]? = some (.cells #[.int .i64 o.n] 3 (0, 0)) := by subst hg3; subst hw15; exact new_blk _ _
          have c15 : Chg (fun _ => False) w14 w15 := by subst hw15; exact Chg.alloc _ _ _
          have hI15 := hI14.chg' c15
          obtain ⟨vA', vc', w16, hrun2, hO16, hC16, hN16⟩ := Own.append (P := Try.prog) (ty := 31) (a := ⟨g3, 0, none⟩) (m := 1) (c := 1) (news := [.int .i64 o.n]) Try.underlying31 info3.1 info3.2.1 info3.2.2.1 rfl hI15.own2 rfl (fun q u hq => by
              match q, hq with
              | 0, hq => simp at hq; subst hq; rw [add_mk]; exact cell_blk hbv rfl)
            (fun u hu => by simp at hu; subst hu; rfl) (by rw [info3.2.2.2]; omega) (by omega) #[false, false]
          have hO16' : Own w16 3 (.slice vA' (V ++ [o.n]).length vc') (V ++ [o.n]).length (ints (V ++ [o.n])) := by
            rw [List.length_append, show ints (V ++ [o.n]) = ints V ++ [.int .i64 o.n] by simp]; exact hO16
          have hI16 := hI15.newV hO16' hC16 (by rw [List.length_append]; exact hN16)
          refine ⟨vA', _, vc', w16, hrun2, ?_⟩
          unfold V5_k4 V5_k5 V5_k6
          exact next hg12 (by rw [set_m]; exact hL.setNew o.n hnk) (by simp) (by simp) hI16
        · obtain ⟨a0, ha0, rfl, h3⟩ : ∃ a0 : Nat, a0 < K.length ∧ at_ = a0 ∧ K[a0]? = some o.key := by
            rcases hat with ⟨rfl, _⟩ | h
            · exact absurd hneg (by decide)
            · exact h
          have haV : (ints V)[a0]? = some (.int .i64 (V[a0]'(by omega))) := by rw [List.getElem?_map, List.getElem?_eq_getElem (by omega)]; rfl
          obtain ⟨gv, cv, cur, ev, hbv, _, hcv, hfv⟩ := hI12.own2.at haV
          injection ev with e1 e2 e3
          subst e1; subst e3
          refine ⟨_, cell_blk b12 rfl, by omega, by omega, ⟨_, by rw [toNatN, Nat.mul_one, add_mk, Nat.zero_add]; exact hcv⟩, by rw [toNatN, Nat.mul_one, add_mk, Nat.zero_add]; exact hfv, ?_⟩
          intro w20 hw20
          rw [toNatN, Nat.mul_one, add_mk, Nat.zero_add] at hw20
          obtain ⟨hO20, hC20⟩ := hI12.own2.set (by omega) hw20
          have hO20' : Own w20 3 (.slice (some ⟨gv, 0, none⟩) (V.set a0 o.n).length vc) (V.set a0 o.n).length (ints (V.set a0 o.n)) := by
            rw [List.length_set, show ints (V.set a0 o.n) = (ints V).set a0 (.int .i64 o.n) by simp [List.map_set]]; exact hO20
          have hI20 := hI12.newV hO20' (hC20.mono fun b hb => by rw [hb]; rfl) (fun b hb => .inl (by simpa [Value.ownBlock] using hb))
          unfold V5_k4 V5_k5 V5_k6
          exact next hg12 (by rw [set_m]; exact hL.setOld o.n h3) rfl (by simp) hI20
      · refine ⟨fun h1 => ?_, fun h1 => ?_⟩
        · -- Delete
          refine ⟨_, cell_blk b7 rfl, (delete_dict_ok hI7.dict hg.inv hg.ints ho.f (by unfold big; omega)).mono ?_⟩
          rintro e w21 ⟨rfl, hw21⟩
          obtain ⟨F21, hI21⟩ := hI7.went hw21
          have hg21 := (hg.delete o.key).mono (Nat.le_succ j)
          refine ⟨_, rfl, fun hbad => ?_, fun _ => ?_⟩
          · exfalso
            rw [delete_was] at hbad
            rcases hat with ⟨rfl, h2⟩ | ⟨a0, _, rfl, h3⟩
            · rw [noKey h2] at hbad; exact absurd hbad (by decide)
            · rw [isKey h3, decide_eq_true (by omega)] at hbad; exact absurd hbad (by decide)
          refine ⟨fun hpos => ?_, fun hpos => ?_⟩
          · obtain ⟨a0, ha0, rfl, h3⟩ : ∃ a0 : Nat, a0 < K.length ∧ at_ = a0 ∧ K[a0]? = some o.key := by
              rcases hat with ⟨rfl, _⟩ | h
              · exact absurd hpos (by decide)
              · exact h
            rw [w64p (by omega) (by omega)]
            have hlast : K[K.length - 1]? = some (K[K.length - 1]'(by omega)) := List.getElem?_eq_getElem (by omega)
            have hvl : V[K.length - 1]? = some (V[K.length - 1]'(by omega)) := List.getElem?_eq_getElem (by omega)
            generalize K[K.length - 1]'(by omega) = kl at hlast
            generalize V[K.length - 1]'(by omega) = vl at hvl
            obtain ⟨gk, ck, cur, ek, hbk, _, hck, hfk⟩ := hI21.own1.at (strs_get hlast)
            injection ek with e1 e2 e3
            subst e1; subst e3
            obtain ⟨_, _, cur2, ek2, _, _, hck2, hfk2⟩ := hI21.own1.at (strs_get h3)
            injection ek2 with e1 e2 e3
            injection e1 with e1
            injection e1 with e1
            subst e1
            have hz : ∀ (q : Nat) , (Addr.add ⟨gk, 0, none⟩ ((Int.toNat ((q : Nat) : Int)) * 1)) = ⟨gk, q, none⟩ := fun q => by rw [toNatN, Nat.mul_one, add_mk, Nat.zero_add]
            refine ⟨by omega, by omega, kl, by rw [hz]; exact hck, by omega, by omega, ⟨_, by rw [hz]; exact hck2⟩, by rw [hz]; exact hfk2, ?_⟩
            intro w22 hw22
            rw [hz] at hw22
            obtain ⟨hO22, hC22⟩ := hI21.own1.set (by omega) hw22
            have hO22' : Own w22 tS (.slice (some ⟨gk, 0, none⟩) (K.set a0 kl).length kc) (K.set a0 kl).length (strs (K.set a0 kl)) := by
              rw [List.length_set, strs_set]; exact hO22
            have hI22 := hI21.newK hO22' (hC22.mono fun b hb => by rw [hb]; rfl) (fun b hb => .inl (by simpa [Value.ownBlock] using hb))
            have hvl' : (ints V)[K.length - 1]? = some (.int .i64 vl) := by rw [List.getElem?_map, hvl]; rfl
            have hva' : (ints V)[a0]? = some (.int .i64 (V[a0]'(by omega))) := by rw [List.getElem?_map, List.getElem?_eq_getElem (by omega)]; rfl
            obtain ⟨gv, cv, cur3, ev, hbv, _, hcv, hfv⟩ := hI22.own2.at hvl'
            injection ev with e1 e2 e3
            subst e1; subst e3
            obtain ⟨_, _, cur4, ev2, _, _, hcv2, hfv2⟩ := hI22.own2.at hva'
            injection ev2 with e1 e2 e3
            injection e1 with e1
            injection e1 with e1
            subst e1
            have hz2 : ∀ (q : Nat) , (Addr.add ⟨gv, 0, none⟩ ((Int.toNat ((q : Nat) : Int)) * 1)) = ⟨gv, q, none⟩ := fun q => by rw [toNatN, Nat.mul_one, add_mk, Nat.zero_add]
            refine ⟨by omega, by omega, vl, by rw [hz2]; exact hcv, by omega, by omega, ⟨_, by rw [hz2]; exact hcv2⟩, by rw [hz2]; exact hfv2, ?_⟩
            intro w23 hw23
            rw [hz2] at hw23
            obtain ⟨hO23, hC23⟩ := hI22.own2.set (by omega) hw23
            have hO23' : Own w23 3 (.slice (some ⟨gv, 0, none⟩) (V.set a0 vl).length vc) (V.set a0 vl).length (ints (V.set a0 vl)) := by
              rw [List.length_set, show ints (V.set a0 vl) = (ints V).set a0 (.int .i64 vl) by simp [List.map_set]]; exact hO23
            have hI23 := hI22.newV hO23' (hC23.mono fun b hb => by rw [hb]; rfl) (fun b hb => .inl (by simpa [Value.ownBlock] using hb))
            -- shorter by one
            have hkcap := Own.cap hI23.own1
            have hvcap := Own.cap hI23.own2
            simp only [List.length_set] at hkcap hvcap
            refine ⟨by omega, by omega, by omega, by omega, ?_⟩
            rw [cutA_zero, cutA_zero, toNatN]
            simp only [Nat.sub_zero]
            have hKt : ((K.set a0 kl).take (K.length - 1)).length = K.length - 1 := by simp
            have hVt : ((V.set a0 vl).take (K.length - 1)).length = K.length - 1 := by simp; omega
            have hO1 : Own w23 tS (.slice (some ⟨gk, 0, none⟩) ((K.set a0 kl).take (K.length - 1)).length kc) ((K.set a0 kl).take (K.length - 1)).length (strs ((K.set a0 kl).take (K.length - 1))) := by
              rw [strs_take, hKt]; exact hI23.own1.take (by simp)
            have hO2 : Own w23 3 (.slice (some ⟨gv, 0, none⟩) ((V.set a0 vl).take (K.length - 1)).length vc) ((V.set a0 vl).take (K.length - 1)).length (ints ((V.set a0 vl).take (K.length - 1))) := by
              rw [show ints ((V.set a0 vl).take (K.length - 1)) = (ints (V.set a0 vl)).take (K.length - 1) by simp [List.map_take], hVt]; exact hI23.own2.take (by simp; omega)
            have hI24 := (hI23.newK hO1 (Chg.refl _ _) (fun b hb => .inl (by simpa [Value.ownBlock] using hb))).newV hO2 (Chg.refl _ _) (fun b hb => .inl (by simpa [Value.ownBlock] using hb))
            unfold V5_k4 V5_k5 V5_k6
            exact next hg21 (by rw [delete_m]; exact hL.delOld hg.inv.nd h3 hlast hvl) hKt.symm hVt.symm hI24
          · have hno : ∀ x ∈ K, x ≠ o.key := by
              rcases hat with ⟨_, h2⟩ | ⟨a0, _, rfl, _⟩
              · exact h2
              · have := of_decide_eq_false hpos; omega
            have hkn : kget o.key d.m = none := by
              have := noKey hno
              cases hs : kget o.key d.m with
              | none => rfl
              | some _ => rw [hs] at this; cases this
            unfold V5_k4 V5_k5 V5_k6
            exact next hg21 (by rw [delete_m, del_none hkn]; exact hL) rfl rfl hI21
        · unfold V5_k4 V5_k5 V5_k6
          exact next (hg.mono (Nat.le_succ j)) hL rfl rfl hI7
  · -- the end
    refine (keysAll_ok hI.dict hg.inv (by unfold big; omega)).mono ?_
    rintro e w24 ⟨lA, lc, rfl, hoL, hnL, hcL⟩
    have hI24 := hI.chg' hcL
    refine ⟨_, _, _, rfl, fun _ => ?_, fun h => ?_⟩
    · refine (len_ok hI24.dict).mono ?_
      rintro e w25 ⟨rfl, rfl⟩
      refine ⟨_, rfl, ?_⟩
      rw [show ((d.m.length : Int) != (K.length : Nat)) = false by rw [hcnt]; simp]
      exact tail_ok hI24 hg (by omega) hL (fun w' h' => ⟨rfl, fin h'.chg⟩) hoL.rd
    · exfalso
      rw [hcnt] at h; simp at h
end Go.Proofs.Ytcljmlgbmjjldaa
