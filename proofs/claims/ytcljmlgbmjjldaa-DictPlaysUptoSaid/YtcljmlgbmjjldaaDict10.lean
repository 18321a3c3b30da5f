/- The statements' helpers: has, sameTexts, changed; rows of operations. -/
import Derived.Test.YtcljmlgbmjjldaaDictW
import Derived.Test.YtcljmlgbmjjldaaF3
namespace Go.Proofs.Ytcljmlgbmjjldaa
open Go Go.VC Go.RowKit Go.Proofs.Ytcljmlgbmjjldaa.F
set_option linter.unusedVariables false
set_option linter.unusedSimpArgs false

theorem Rd.get {w : World} {v : Value} {l : List Str} (h : Rd w v (strs l)) : ∃ A c, v = .slice A l.length c ∧ ∀ (j : Nat) (s : Str), l[j]? = some s → ∃ a, A = some a ∧ w.cell? (a.add j) = some (.string s) := by
  obtain ⟨A, c, rfl, hc, h⟩ := h.ex
  rw [strs_length]
  refine ⟨A, c, rfl, fun j s hs => ?_⟩
  rcases h with ⟨_, h0, _⟩ | ⟨a, rfl, ha⟩
  · have : l = [] := by cases l <;> simp_all [strs]
    subst this; simp at hs
  · exact ⟨a, rfl, ha j _ (strs_get hs)⟩

theorem has_ok {w : World} {v : Value} {l : List Str} (h : Rd w v (strs l)) (hl : l.length < 9223372036854775807) (s : Str) :
    Calls Try.prog 27 #[v, .string s] w fun e w' => e = .returned (.bool (decide (s ∈ l))) ∧ w = w' := by
  obtain ⟨A, c, rfl, hg⟩ := Rd.get h
  refine v27 _ _ _ _ _ _ ?_
  refine ⟨fun i w1 => w1 = w ∧ ∃ j : Nat, i = j ∧ j ≤ l.length ∧ ∀ x ∈ l.take j, x ≠ s, fun i _ => l.length - i.toNat, ⟨rfl, 0, rfl, Nat.zero_le _, fun x hx => by simp at hx⟩, ?_⟩
  rintro i w1 ⟨rfl, j, rfl, hj, hno⟩
  refine ⟨fun hd => ?_, fun hd => ?_⟩
  · have hjl : j < l.length := by have := of_decide_eq_true hd; omega
    obtain ⟨a, rfl, hcell⟩ := hg j l[j] (List.getElem?_eq_getElem hjl)
    refine ⟨by omega, by omega, l[j], by rw [toNatN, Nat.mul_one]; exact hcell, fun he => ?_, fun he => ⟨⟨rfl, j + 1, w64s (by omega), hjl, fun x hx => ?_⟩, ?_⟩⟩
    · rw [strEq_iff] at he
      refine ⟨?_, rfl⟩
      rw [decide_eq_true (show s ∈ l by rw [← he]; exact List.getElem_mem hjl)]
    · rw [List.take_succ_eq_append_getElem hjl] at hx
      rcases List.mem_append.1 hx with h1 | h1
      · exact hno x h1
      · rw [List.mem_singleton.1 h1]; intro e; rw [strEq_iff.2 e] at he; cases he
    · show l.length - (IntKind.wrap .i64 ((j : Int) + 1)).toNat < l.length - ((j : Nat) : Int).toNat
      rw [w64s (by omega)]; omega
  · have hje : j = l.length := by have := of_decide_eq_false hd; omega
    subst hje
    rw [List.take_length] at hno
    refine ⟨?_, rfl⟩
    rw [decide_eq_false (fun hm => hno s hm rfl)]

/-- are two lists the same? -/
theorem same_ok {w : World} {v u : Value} {l k : List Str} (h : Rd w v (strs l)) (hk : Rd w u (strs k)) (hl : l.length < 9223372036854775807) :
    Calls Try.prog 34 #[v, u] w fun e w' => e = .returned (.bool (decide (l = k))) ∧ Drawn w w' := by
  obtain ⟨A, c, rfl, hg⟩ := Rd.get h
  obtain ⟨B, c', rfl, hg'⟩ := Rd.get hk
  refine v34 _ _ _ _ _ _ _ _ ?_
  refine ⟨fun hn => ?_, fun hn => ?_⟩
  · refine ⟨?_, Drawn.refl _⟩
    rw [decide_eq_false (fun e => by rw [e] at hn; simp at hn)]
  have hlen : l.length = k.length := by
    have : ((l.length : Nat) : Int) = (k.length : Nat) := by simpa using hn
    omega
  refine ⟨fun i w1 => Drawn w w1 ∧ ∃ j : Nat, i = j ∧ j ≤ l.length ∧ l.take j = k.take j, fun i _ => l.length - i.toNat, ⟨Drawn.refl _, 0, rfl, Nat.zero_le _, rfl⟩, ?_⟩
  rintro i w1 ⟨d1, j, rfl, hj, he⟩
  refine ⟨fun hd w2 d2 => ?_, fun hd => ?_⟩
  · have hjl : j < l.length := by have := of_decide_eq_true hd; omega
    obtain ⟨a, rfl, hcell⟩ := hg j l[j] (List.getElem?_eq_getElem hjl)
    obtain ⟨b, rfl, hcell'⟩ := hg' j k[j] (List.getElem?_eq_getElem (by omega))
    have d12 := d1.trans d2
    refine ⟨by omega, by omega, by omega, by omega, l[j], by rw [toNatN, Nat.mul_one]; exact d12.ext.cell hcell, k[j], by rw [toNatN, Nat.mul_one]; exact d12.ext.cell hcell', fun w3 d3 => ⟨fun hs => ?_, fun hs => ?_⟩⟩
    · refine ⟨?_, d12.trans d3⟩
      have hne : l[j] ≠ k[j] := fun e => by rw [strEq_iff.2 e] at hs; cases hs
      rw [decide_eq_false (fun e => hne (by subst e; rfl))]
    · have heq : l[j] = k[j] := strEq_iff.1 (by simpa using hs)
      refine ⟨⟨d12.trans d3, j + 1, w64s (by omega), hjl, ?_⟩, ?_⟩
      · rw [List.take_succ_eq_append_getElem hjl, List.take_succ_eq_append_getElem (by omega), he, heq]
      · show l.length - (IntKind.wrap .i64 ((j : Int) + 1)).toNat < l.length - ((j : Nat) : Int).toNat
        rw [w64s (by omega)]; omega
  · have hje : j = l.length := by have := of_decide_eq_false hd; omega
    subst hje
    rw [List.take_length, hlen, List.take_length] at he
    exact ⟨by rw [decide_eq_true he], d1⟩

/-! ### Operations -/
structure Op where
  kind : Int
  key : Str
  n : Int
structure Op.Ok (o : Op) : Prop where
  k0 : -9223372036854775808 ≤ o.kind
  k1 : o.kind < 9223372036854775808
  f : o.key.size < 9223372036854775808
  n0 : -9223372036854775808 ≤ o.n
  n1 : o.n < 9223372036854775808
def changeD (d : D) (stay : List Str) (o : Op) : D :=
  if o.kind = 0 then (d.set o.key (.int .i64 o.n)).1 else if o.kind = 1 then (if o.key ∈ stay then d else (d.delete o.key).1) else if o.kind = 2 then d.steps (Int.tmod o.n 100).toNat else d
theorem ends_m (d : D) : d.ends.m = d.m := D.ends_m d
theorem begins_m (d : D) (n : Nat) : (d.begins n).m = d.m := by unfold D.begins; rw [D.ends_m]
theorem grows_m (d : D) : d.grows.m = d.m := by unfold D.grows; split; rfl; split; exact begins_m _ _; rfl
theorem joins_m (d : D) (k : Str) : (d.joins k).m = d.m := by unfold D.joins; split <;> rfl
theorem shrinks_m (d : D) : d.shrinks.m = d.m := by unfold D.shrinks; split; exact begins_m _ _; rfl
theorem steps_m (d : D) (n : Nat) : (d.steps n).m = d.m := by
  induction n generalizing d with
  | zero => rfl
  | succ n ih => unfold D.steps; split; rw [ih, D.step_m]; rfl
theorem set_m (d : D) (k : Str) (v : Value) : (d.set k v).1.m = upd k v d.m := by
  unfold D.set
  split
  · show upd k v d.step.m = _; rw [D.step_m]
  · rw [joins_m, grows_m]; show upd k v d.step.m = _; rw [D.step_m]
theorem set_new (d : D) (k : Str) (v : Value) : (d.set k v).2 = !(kget k d.m).isSome := by
  unfold D.set; rw [D.step_m]; split <;> simp_all
theorem delete_m (d : D) (k : Str) : (d.delete k).1.m = del k d.m := by
  unfold D.delete
  split
  · rw [shrinks_m, D.ends_m]
    unfold D.takes; simp only; split <;> rw [D.step_m]
  · rename_i h
    rw [D.step_m] at h ⊢
    rw [del_none (by simpa using h)]
theorem delete_was (d : D) (k : Str) : (d.delete k).2 = (kget k d.m).isSome := by
  unfold D.delete; rw [D.step_m]; split <;> simp_all
/-- what holds of a dict of numbers -/
structure Good (d : D) (n : Nat) : Prop where
  inv : D.Inv d
  ints : Ints d.m
  few : d.m.length ≤ n
theorem Good.new (seed : Int) : Good (D.new seed) 0 := ⟨D.Inv.new seed, ints_nil, Nat.le_refl _⟩
theorem Good.mono {d : D} {n m : Nat} (h : Good d n) (hm : n ≤ m) : Good d m := ⟨h.inv, h.ints, Nat.le_trans h.few hm⟩
theorem Good.set {d : D} {n : Nat} (h : Good d n) (hn : n < 549755813888) {k : Str} (hf : k.size < 9223372036854775808) (v : Int) : Good (d.set k (.int .i64 v)).1 (n + 1) := by
  have h0 := h.few
  refine ⟨h.inv.set hf (by omega), by rw [set_m]; exact h.ints.upd k v, ?_⟩
  rw [set_m, upd_length]; split <;> omega
theorem Good.delete {d : D} {n : Nat} (h : Good d n) (k : Str) : Good (d.delete k).1 n := by
  have h0 := h.few
  refine ⟨h.inv.delete k, by rw [delete_m]; exact h.ints.del h.inv.nd k, ?_⟩
  rw [delete_m, del_length]; split <;> omega
theorem Good.steps {d : D} {n : Nat} (h : Good d n) (k : Nat) : Good (d.steps k) n :=
  ⟨h.inv.steps k, by rw [steps_m]; exact h.ints, by rw [steps_m]; exact h.few⟩
theorem Good.change {d : D} {n : Nat} (h : Good d n) (hn : n < 549755813888) {o : Op} (ho : o.Ok) (stay : List Str) : Good (changeD d stay o) (n + 1) := by
  unfold changeD
  split
  · exact h.set hn ho.f _
  · split
    · split
      · exact h.mono (by omega)
      · exact (h.delete _).mono (by omega)
    · split
      · exact (h.steps _).mono (by omega)
      · exact h.mono (by omega)

theorem changed_ok {w : World} {g : Nat} {d : D} {F : Nat → Prop} {v : Value} {stay : List Str} {n : Nat} {o : Op} (h : DictAt w g d F) (hg : Good d n) (hn : n < 549755813888) (ho : o.Ok) (hs : Rd w v (strs stay)) (hsl : stay.length < 9223372036854775807) :
    Calls Try.prog 24 #[.pointer (some ⟨g, 0, none⟩), v, .agg #[.int .i64 o.kind, .string o.key, .int .i64 o.n]] w fun e w' => e = .returned (.tuple #[]) ∧ Went w w' g F (changeD d stay o) := by
  obtain ⟨A, c, rfl, _⟩ := Rd.get hs
  refine v24 _ _ _ _ _ _ _ _ _ ?_
  intro G w1 hG hw1
  have c1 : Chg (fun _ => False) w w1 := by subst hw1; exact Chg.alloc _ _ _
  have hb : w1.heap[G]? = some (.cells #[.int .i64 o.kind, .string o.key, .int .i64 o.n] 33 (0, 0)) := by subst hG; subst hw1; exact new_blk _ _
  have h1 := h.chg c1 fun _ _ h => h
  have hs1 := hs.chg c1 fun _ _ h => h
  have via : ∀ {w' : World} {d' : D}, Went w1 w' g F d' → Went w w' g F d' := fun hw => Went.via (fun _ => .inl) (c1.mono fun _ h => h.elim) hw
  have hfew := hg.few
  refine ⟨_, cell_blk hb rfl, fun h0 => ?_, fun h0 => ?_⟩
  · have h0' : o.kind = 0 := by simpa using h0
    refine ⟨_, cell_blk hb rfl, _, cell_blk hb rfl, (set_ok h1 hg.inv hg.ints ho.f (by omega)).mono ?_⟩
    rintro e w2 ⟨rfl, hw2⟩
    refine ⟨_, rfl, rfl, via ?_⟩
    unfold changeD; rw [if_pos h0']; exact hw2
  · have h0' : o.kind ≠ 0 := by simpa using h0
    refine ⟨fun h2 => ?_, fun h2 => ?_⟩
    · have h2' : o.kind = 1 := by simpa using h2
      refine ⟨_, cell_blk hb rfl, (has_ok hs1 hsl o.key).mono ?_⟩
      rintro e w4 ⟨rfl, rfl⟩
      refine ⟨_, rfl, fun hm => ?_, fun hm => ?_⟩
      · have hm' : o.key ∉ stay := by simpa using hm
        refine ⟨_, cell_blk hb rfl, (delete_dict_ok h1 hg.inv hg.ints ho.f (by unfold big; omega)).mono ?_⟩
        rintro e w5 ⟨rfl, hw5⟩
        refine ⟨_, rfl, rfl, via ?_⟩
        unfold changeD; rw [if_neg h0', if_pos h2', if_neg hm']; exact hw5
      · have hm' : o.key ∈ stay := by simpa using hm
        refine ⟨rfl, via ?_⟩
        unfold changeD; rw [if_neg h0', if_pos h2', if_pos hm']; exact Went.refl h1
    · have h2' : o.kind ≠ 1 := by simpa using h2
      refine ⟨fun h3 => ?_, fun h3 => ?_⟩
      · have h3' : o.kind = 2 := by simpa using h3
        have ht : -100 < Int.tmod o.n 100 ∧ Int.tmod o.n 100 < 100 := by
          constructor
          · have := Int.lt_tmod_of_pos o.n (show (0 : Int) < 100 by decide); omega
          · exact Int.tmod_lt_of_pos o.n (by decide)
        refine ⟨_, cell_blk hb rfl, by decide, (steps_ok h1 hg.inv (by unfold big; omega) (by omega)).mono ?_⟩
        rintro e w6 ⟨rfl, hw6⟩
        refine ⟨rfl, rfl, via ?_⟩
        unfold changeD; rw [if_neg h0', if_neg h2', if_pos h3']; exact hw6
      · have h3' : o.kind ≠ 2 := by simpa using h3
        refine ⟨rfl, via ?_⟩
        unfold changeD; rw [if_neg h0', if_neg h2', if_neg h3']; exact Went.refl h1
end Go.Proofs.Ytcljmlgbmjjldaa
