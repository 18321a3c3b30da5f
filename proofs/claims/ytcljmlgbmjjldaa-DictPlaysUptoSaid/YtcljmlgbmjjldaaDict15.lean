/- DictScans: plain lemmas on changes; rows of texts beside a dict. -/
import Derived.Test.YtcljmlgbmjjldaaDict14
namespace Go.Proofs.Ytcljmlgbmjjldaa
open Go Go.VC Go.RowKit Go.Proofs.Ytcljmlgbmjjldaa.F
set_option linter.unusedVariables false
set_option linter.unusedSimpArgs false
theorem begins_seed (d : D) (n : Nat) : (d.begins n).seed = d.seed := by unfold D.begins; rw [D.ends_seed]
theorem grows_seed (d : D) : d.grows.seed = d.seed := by unfold D.grows; split; rfl; split; exact begins_seed _ _; rfl
theorem joins_seed (d : D) (k : Str) : (d.joins k).seed = d.seed := by unfold D.joins; split <;> rfl
theorem shrinks_seed (d : D) : d.shrinks.seed = d.seed := by unfold D.shrinks; split; exact begins_seed _ _; rfl
theorem takes_seed (d : D) (k : Str) : (d.takes k).seed = d.seed := by unfold D.takes; simp only; split <;> rfl
theorem steps_seed (d : D) (n : Nat) : (d.steps n).seed = d.seed := by
  induction n generalizing d with
  | zero => rfl
  | succ n ih => unfold D.steps; split; rw [ih, D.step_seed]; rfl
theorem set_seed (d : D) (k : Str) (v : Value) : (d.set k v).1.seed = d.seed := by
  unfold D.set
  split
  · show d.step.seed = _; rw [D.step_seed]
  · rw [joins_seed, grows_seed]; show d.step.seed = _; rw [D.step_seed]
theorem delete_seed (d : D) (k : Str) : (d.delete k).1.seed = d.seed := by
  unfold D.delete
  split
  · rw [shrinks_seed, D.ends_seed, takes_seed, D.step_seed]
  · show d.step.seed = _; rw [D.step_seed]
theorem changeD_seed (d : D) (stay : List Str) (o : Op) : (changeD d stay o).seed = d.seed := by
  unfold changeD
  split
  · exact set_seed _ _ _
  · split
    · split
      · rfl
      · exact delete_seed _ _
    · split
      · exact steps_seed _ _
      · rfl
theorem changeD_stays {d : D} {stay : List Str} {o : Op} {x : Str} (hx : x ∈ stay) (hk : x ∈ d.ks) : x ∈ (changeD d stay o).ks := by
  unfold changeD
  split
  · show x ∈ (D.set _ _ _).1.m.map (·.1)
    rw [set_m]; exact keys_upd.2 (.inr hk)
  · split
    · split
      · exact hk
      · rename_i hno
        show x ∈ (D.delete _ _).1.m.map (·.1)
        rw [delete_m]
        have hne : o.key ≠ x := fun e => hno (e ▸ hx)
        refine Classical.byContradiction fun hn => ?_
        have h1 := look_none.2 hn
        rw [look_del_ne hne] at h1
        exact look_none.1 h1 hk
    · split
      · show x ∈ (D.steps _ _).m.map (·.1)
        rw [steps_m]; exact hk
      · exact hk
theorem changeD_new {d : D} {stay : List Str} {o : Op} {x : Str} (hx : x ∈ (changeD d stay o).ks) : x ∈ d.ks ∨ (o.kind = 0 ∧ x = o.key) := by
  unfold changeD at hx
  split at hx
  · rename_i h0
    have hx : x ∈ (D.set _ _ _).1.m.map (·.1) := hx
    rw [set_m] at hx
    rcases keys_upd.1 hx with h | h
    · exact .inr ⟨h0, h⟩
    · exact .inl h
  · split at hx
    · split at hx
      · exact .inl hx
      · have hx : x ∈ (D.delete _ _).1.m.map (·.1) := hx
        rw [delete_m] at hx
        exact .inl ((del_sub.map _).subset hx)
    · split at hx
      · have hx : x ∈ (D.steps _ _).m.map (·.1) := hx
        rw [steps_m] at hx
        exact .inl hx
      · exact .inl hx
/-- how much has been met: while the dict changes, and behind that -/
def MetLen (L N i : Nat) (d : D) (c : Nat) (M : List Str) : Prop :=
  (3 * i < L ∧ M.length ≤ i * N) ∨ L ≤ 3 * i ∧ ∃ M0 M1, M = M0 ++ M1 ∧ M0.length ≤ (L + 1) * N ∧ M1.Nodup ∧ ∀ x ∈ M1, x ∈ d.ks ∧ pos d.bits (hashOf d.seed x) < pos d.bits c
theorem MetLen.le {L N i : Nat} {d : D} {c : Nat} {M : List Str} (h : MetLen L N i d c M) (hd : d.m.length ≤ N) : M.length ≤ (L + 1) * N + N := by
  rcases h with ⟨h1, h2⟩ | ⟨_, M0, M1, rfl, h1, h2, h3⟩
  · have : i * N ≤ (L + 1) * N := Nat.mul_le_mul_right _ (by omega)
    omega
  · have := nodup_len h2 fun x hx => (h3 x hx).1
    simp only [List.length_map] at this
    simp only [List.length_append]; omega
theorem MetLen.next {L N i : Nat} {d d' : D} {c c' : Nat} {M l : List Str} (h : MetLen L N i d c M) (hi : D.Inv d) (hb : d.b1 ≠ []) (hd : d.m.length ≤ N) (hs : D.Scanned d c l c') (h0 : c' ≠ 0) (hsame : L ≤ 3 * i → d' = d) : MetLen L N (i + 1) d' c' (M ++ l) := by
  have hl := hs.len hi hb
  obtain ⟨h1, h2, _, h4⟩ := hs.spec hi hb
  by_cases h3 : L ≤ 3 * i
  · have := hsame h3
    subst this
    rcases h with ⟨h5, _⟩ | ⟨_, M0, M1, rfl, k1, k2, k3⟩
    · omega
    · refine .inr ⟨by omega, M0, M1 ++ l, by rw [List.append_assoc], k1, nodup_app k2 h1 fun x hx hy => ?_, fun x hx => ?_⟩
      · have := (k3 x hx).2
        have := (h2 x hy).2.1
        omega
      · have h4 := h4.resolve_left h0
        rcases List.mem_append.1 hx with hx | hx
        · obtain ⟨j1, j2⟩ := k3 x hx
          exact ⟨j1, by omega⟩
        · obtain ⟨j1, j2, j3⟩ := h2 x hx
          exact ⟨j1, j3.resolve_left h0⟩
  · rcases h with ⟨h5, h6⟩ | ⟨h5, _⟩
    · have hlen : (M ++ l).length ≤ (i + 1) * N := by rw [List.length_append, Nat.add_mul]; omega
      by_cases h7 : 3 * (i + 1) < L
      · exact .inl ⟨h7, hlen⟩
      · refine .inr ⟨by omega, M ++ l, [], by simp, Nat.le_trans hlen (Nat.mul_le_mul_right _ (by omega)), List.nodup_nil, fun x hx => by cases hx⟩
    · exact absurd h5 h3

/-- a dict and rows of texts: all in new blocks, apart -/
structure RI (w w' : World) (g : Nat) (d : D) (F : Nat → Prop) (rows : List (Value × List Str)) : Prop where
  dict : DictAt w' g d F
  fresh : ∀ x, F x → w.heap.size ≤ x
  chg : Chg (fun x => w.heap.size ≤ x) w w'
  own : ∀ p ∈ rows, Own w' tS p.1 p.2.length (strs p.2)
  off : ∀ p ∈ rows, ∀ b, p.1.ownBlock = some b → w.heap.size ≤ b ∧ ¬ F b
  sep : rows.Pairwise (fun p q => ∀ b, p.1.ownBlock = some b → q.1.ownBlock ≠ some b)
section
variable {w w1 w2 : World} {g : Nat} {d : D} {F : Nat → Prop} {rows : List (Value × List Str)}
theorem RI.chg' (h : RI w w1 g d F rows) (hc : Chg (fun _ => False) w1 w2) : RI w w2 g d F rows :=
  ⟨h.dict.chg hc fun _ _ h => h, h.fresh, h.chg.trans hc fun _ h => h.elim, fun p hp => (h.own p hp).chg hc fun _ _ h => h, h.off, h.sep⟩
theorem RI.drawn (h : RI w w1 g d F rows) (k : Drawn w1 w2) : RI w w2 g d F rows := h.chg' (k.chg _)
theorem RI.went (h : RI w w1 g d F rows) {d' : D} (hw : Went w1 w2 g F d') : ∃ F', RI w w2 g d' F' rows := by
  obtain ⟨F', k1, k2, k3⟩ := hw.ex
  refine ⟨F', k1, fun x hx => (k2 x hx).elim (h.fresh x) fun hle => Nat.le_trans h.chg.size hle, h.chg.trans k3 fun x hx => .inl (h.fresh x hx), fun p hp => (h.own p hp).chg k3 fun b hb => (h.off p hp b hb).2, fun p hp b hb => ⟨(h.off p hp b hb).1, fun hx => ?_⟩, h.sep⟩
  exact (k2 b hx).elim (h.off p hp b hb).2 fun hle => by have := (h.own p hp).lt hb; omega
theorem RI.perm {rows' : List (Value × List Str)} (h : RI w w1 g d F rows) (hp : rows.Perm rows') : RI w w1 g d F rows' :=
  ⟨h.dict, h.fresh, h.chg, fun p hm => h.own p (hp.mem_iff.2 hm), fun p hm => h.off p (hp.mem_iff.2 hm), (hp.pairwise_iff (fun {x y} hxy b hb hb' => hxy b hb' hb)).1 h.sep⟩
theorem RI.head {v : Value} {l : List Str} (h : RI w w1 g d F ((v, l) :: rows)) : Own w1 tS v l.length (strs l) := h.own _ (List.mem_cons_self ..)
theorem RI.tail {p : Value × List Str} (h : RI w w1 g d F (p :: rows)) : RI w w1 g d F rows :=
  ⟨h.dict, h.fresh, h.chg, fun q hq => h.own q (List.mem_cons_of_mem _ hq), fun q hq => h.off q (List.mem_cons_of_mem _ hq), (List.pairwise_cons.1 h.sep).2⟩
theorem RI.newHead {v v' : Value} {l l' : List Str} (h : RI w w1 g d F ((v, l) :: rows)) (ho : Own w2 tS v' l'.length (strs l')) (hc : Chg (fun b => v.ownBlock = some b) w1 w2) (hn : ∀ b, v'.ownBlock = some b → v.ownBlock = some b ∨ w1.heap.size ≤ b) : RI w w2 g d F ((v', l') :: rows) := by
  have hs := List.pairwise_cons.1 h.sep
  have h0 := h.off (v, l) (List.mem_cons_self ..)
  refine ⟨h.dict.chg hc fun x hx hb => (h0 x hb).2 hx, h.fresh, h.chg.trans hc fun x hx => .inl (h0 x hx).1, fun p hp => ?_, fun p hp b hb => ?_, List.pairwise_cons.2 ⟨fun q hq b hb hb' => ?_, hs.2⟩⟩
  · rcases List.mem_cons.1 hp with rfl | hp
    · exact ho
    · exact (h.own p (List.mem_cons_of_mem _ hp)).chg hc fun b hb hk => hs.1 p hp b hk hb
  · rcases List.mem_cons.1 hp with rfl | hp
    · rcases hn b hb with h1 | h1
      · exact h0 b h1
      · exact ⟨Nat.le_trans h.chg.size h1, fun hx => by have := h.dict.lt hx; omega⟩
    · exact h.off p (List.mem_cons_of_mem _ hp) b hb
  · rcases hn b hb with h1 | h1
    · exact hs.1 q hq b h1 hb'
    · have := (h.own q (List.mem_cons_of_mem _ hq)).lt hb'; omega
/-- a row in a new block -/
theorem RI.push {v : Value} {l : List Str} (h : RI w w1 g d F rows) (ho : Own w2 tS v l.length (strs l)) (hc : Chg (fun _ => False) w1 w2) (hn : ∀ b, v.ownBlock = some b → w1.heap.size ≤ b) : RI w w2 g d F ((v, l) :: rows) := by
  have h2 := h.chg' hc
  refine ⟨h2.dict, h2.fresh, h2.chg, fun p hp => ?_, fun p hp b hb => ?_, List.pairwise_cons.2 ⟨fun q hq b hb hb' => ?_, h2.sep⟩⟩
  · rcases List.mem_cons.1 hp with rfl | hp
    · exact ho
    · exact h2.own p hp
  · rcases List.mem_cons.1 hp with rfl | hp
    · have := hn b hb
      exact ⟨Nat.le_trans h.chg.size this, fun hx => by have := h.dict.lt hx; omega⟩
    · exact h2.off p hp b hb
  · have := hn b hb
    have := (h.own q hq).lt hb'; omega
theorem RI.app {v : Value} {K l : List Str} (h : RI w w1 g d F ((v, K) :: rows)) {x : Value} (hx : Rd w1 x (strs l)) (hl : K.length + l.length ≤ 8796093022208) :
    ∃ A' c' w', Sem.run Try.prog (builtin .append #[30, 30] 30 #[false, false] #[v, x]) w1 = .ok (.value (.slice A' (K ++ l).length c')) w' ∧ RI w w' g d F ((.slice A' (K ++ l).length c', K ++ l) :: rows) ∧ Chg (fun b => v.ownBlock = some b) w1 w' := by
  obtain ⟨i9, i1, i2, i3, i4⟩ := info9
  have hsrc := hx.src (P := Try.prog) (tx := 30) (e := 9) Try.underlying30 (fun u hu => by
    obtain ⟨s, _, rfl⟩ := List.mem_map.1 hu; rfl)
  rw [strs_length] at hsrc
  obtain ⟨A', c', w', hrun, hO, hC, hN⟩ := Own.appendS (P := Try.prog) (ty := 30) Try.underlying30 i1 i2 i3 rfl h.head hsrc (by rw [i4]; omega) (by omega) #[false, false]
  rw [← List.length_append] at hrun hO hN
  rw [← strs_append] at hO
  exact ⟨A', c', w', hrun, h.newHead hO hC hN, hC⟩
theorem RI.of_run {n : Nat} (h : Run w w1 g d n) : ∃ F, RI w w1 g d F [] := by
  obtain ⟨F, h1, h2⟩ := h.ex
  exact ⟨F, h1, h2, h.chg, fun p hp => (by cases hp), fun p hp => (by cases hp), List.Pairwise.nil⟩
theorem rd_one {w : World} {g : Nat} {s : Str} {t : TypeId} (h : w.heap[g]? = some (.cells #[.string s] t (0, 0))) : Rd w (.slice (some ⟨g, 0, none⟩) 1 1) (strs [s]) :=
  ⟨some ⟨g, 0, none⟩, 1, rfl, Nat.le_refl _, .inr ⟨_, rfl, fun j u hu => by
    match j, hu with
    | 0, hu => simp [strs] at hu; subst hu; rw [add_mk]; exact cell_blk h rfl⟩⟩
end
theorem ri_changed {w w1 : World} {g : Nat} {d : D} {F : Nat → Prop} {rows : List (Value × List Str)} {n : Nat} {o : Op} {v : Value} {stay : List Str} (h : RI w w1 g d F rows) (hg : Good d n) (hn : n < 549755813888) (ho : o.Ok) (hs : Rd w1 v (strs stay)) (hsl : stay.length < 9223372036854775807) :
    Calls Try.prog 24 #[.pointer (some ⟨g, 0, none⟩), v, .agg #[.int .i64 o.kind, .string o.key, .int .i64 o.n]] w1 fun e w2 => e = .returned (.tuple #[]) ∧ ∃ F', RI w w2 g (changeD d stay o) F' rows := by
  refine (changed_ok h.dict hg hn ho hs hsl).mono ?_
  rintro e w2 ⟨rfl, hw⟩
  exact ⟨rfl, h.went hw⟩
end Go.Proofs.Ytcljmlgbmjjldaa
