/- The file system: what a crash leaves (plain law of SimfsSurvives). -/
import Derived.Test.YtcljmlgbmjjldaaSimfs12
namespace Go.Proofs.Ytcljmlgbmjjldaa.Fs
open Go Go.VC Go.RowKit
set_option linter.unusedVariables false
set_option linter.unusedSimpArgs false
theorem kget_of_mem {p : Str × Value} : ∀ {m : Kvs}, NodupK m → p ∈ m → kget p.1 m = some p.2
  | [], _, h => by cases h
  | q :: m, hn, h => by
    unfold NodupK at hn
    simp only [List.map_cons, List.nodup_cons] at hn
    simp only [kget]
    rcases List.mem_cons.1 h with rfl | h
    · rw [if_pos rfl]
    · rw [if_neg fun e => hn.1 (by rw [e]; exact List.mem_map_of_mem (f := (·.1)) h)]
      exact kget_of_mem hn.2 h
section
variable {s : FS} {n : Nat} {d : Kvs} {val : Fl → Str}
theorem pairs_mem (hn : (s.files.map (·.g)).Nodup) (hd : DirOk s.files n d) {p : Str × Value} (hp : p ∈ d) : ∃ f ∈ s.files, p.2 = fp f.g ∧ (p.1, val f) ∈ s.pairs d val := by
  obtain ⟨_, f, hf, hpf⟩ := hd.ok p hp
  have hk := kget_of_mem hd.nd hp
  rw [hpf] at hk
  refine ⟨f, hf, hpf, List.mem_map.2 ⟨p.1, (sortS_perm _).mem_iff.2 (List.mem_map_of_mem (f := (·.1)) hp), ?_⟩⟩
  rw [of_of hn hf hk]
theorem mem_pairs (hn : (s.files.map (·.g)).Nodup) (hd : DirOk s.files n d) {e : Str × Str} (he : e ∈ s.pairs d val) : ∃ f ∈ s.files, kget e.1 d = some (fp f.g) ∧ e.2 = val f := by
  obtain ⟨k, hk, rfl⟩ := List.mem_map.1 he
  obtain ⟨i, hi, hik⟩ := List.getElem_of_mem hk
  obtain ⟨f, hf, hkf⟩ := key_get hd (j := i) (k := k) (by rw [List.getElem?_eq_getElem hi, hik])
  exact ⟨f, hf, hkf, by rw [of_of hn hf hkf]⟩
end
/-- what is known of all moments since the last SyncDir -/
structure Rec (s : FS) (ever : List (Str × Str)) : Prop where
  up : s.down = false
  nofail : s.fails = []
  nocrash : s.crash = 0
  seen : ∀ k, k ≤ s.ch.length → ∀ p ∈ dirAt s k, (∃ e ∈ ever, e.1 = p.1) ∧ ∃ f ∈ s.files, p.2 = fp f.g ∧ ∃ e ∈ ever, e.2 = f.data
theorem Rec.new : Rec FS.new [] := ⟨rfl, rfl, rfl, fun k hk p hp => by
  unfold dirAt FS.new at hp; simp at hp⟩
theorem Rec.next {s s' : FS} {n : Nat} {ever ever' : List (Str × Str)} (h : Rec s ever) (hw : WF s' n) (hu : s'.down = false) (hf : s'.fails = []) (hc : s'.crash = 0)
    (hd : ∀ k, k ≤ s'.ch.length → dirAt s' k = s'.now ∨ ((∀ e ∈ ever, e ∈ ever') ∧ ∃ k', k' ≤ s.ch.length ∧ dirAt s' k = dirAt s k'))
    (hfl : ∀ f ∈ s.files, ∃ f' ∈ s'.files, f'.g = f.g ∧ (f'.data = f.data ∨ ∃ q ∈ s'.now, q.2 = fp f.g)) : Rec s' (ever' ++ s'.nowP) := by
  have now : ∀ p ∈ s'.now, ∃ f ∈ s'.files, p.2 = fp f.g ∧ (p.1, f.data) ∈ s'.nowP := fun p hp => pairs_mem hw.nd hw.nowOk hp
  refine ⟨hu, hf, hc, fun k hk p hp => ?_⟩
  rcases hd k hk with e | ⟨hsub, k', hk', e⟩
  · rw [e] at hp
    obtain ⟨f, h1, h2, h3⟩ := now p hp
    exact ⟨⟨_, List.mem_append_right _ h3, rfl⟩, f, h1, h2, _, List.mem_append_right _ h3, rfl⟩
  · rw [e] at hp
    obtain ⟨⟨e1, he1, he2⟩, f, h1, h2, e3, he3, he4⟩ := h.seen k' hk' p hp
    obtain ⟨f', q1, q2, q3⟩ := hfl f h1
    refine ⟨⟨e1, List.mem_append_left _ (hsub _ he1), he2⟩, f', q1, by rw [h2, q2], ?_⟩
    rcases q3 with q3 | ⟨q, q4, q5⟩
    · exact ⟨e3, List.mem_append_left _ (hsub _ he3), by rw [he4, q3]⟩
    · obtain ⟨f2, z1, z2, z3⟩ := now q q4
      have hg : f2.g = f'.g := by
        rw [q5] at z2; injection z2 with z2; injection z2 with z2; injection z2 with z2; rw [q2]; exact z2.symm
      have := same_file hw.nd z1 q1 hg
      subst this
      exact ⟨_, List.mem_append_right _ z3, rfl⟩
theorem Rec.step {s : FS} {n : Nat} {ever : List (Str × Str)} (h : Rec s ever) (hw : WF s n) : s.step = ({ s with steps := s.steps + 1 }, 0, 0) := by
  unfold FS.step
  have := hw.st0
  rw [h.nocrash, if_neg (by omega), h.nofail]
  rfl
theorem dirAt_change {s : FS} {c : Ch} {k : Nat} (hk : k ≤ s.ch.length) : dirAt (s.change c) k = dirAt s k := by
  unfold dirAt FS.change
  show List.foldl _ _ (List.take k (s.ch ++ [c])) = _
  rw [List.take_append_of_le_length hk]
/-- a call keeps it -/
theorem Rec.done {s : FS} {n : Nat} {ever : List (Str × Str)} (h : Rec s ever) (hw : WF s n) {o : FOp} (h6 : o.kind ≠ 6) (h7 : o.kind ≠ 7) {x : Nat} (hx : ∀ f ∈ s.files, f.g ≠ x) :
    Rec (s.done o x).1 ((if o.kind = 4 then [] else ever) ++ (s.done o x).1.nowP) := by
  have hstep := h.step hw
  have hwd := hw.done o hx
  have same : ∀ {s' : FS} {m : Nat}, WF s' m → s'.down = s.down → s'.fails = s.fails → s'.crash = s.crash → s'.ch = s.ch → s'.safe = s.safe → (∀ f ∈ s.files, ∃ f' ∈ s'.files, f'.g = f.g ∧ (f'.data = f.data ∨ ∃ q ∈ s'.now, q.2 = fp f.g)) → ∀ ever', (ever' = ever) → Rec s' (ever' ++ s'.nowP) := by
    intro s' m hwm e1 e2 e3 e4 e5 hfl ever' he
    refine h.next hwm (e1.trans h.up) (e2.trans h.nofail) (e3.trans h.nocrash) (fun k hk => .inr ⟨fun e hee => he ▸ hee, k, e4 ▸ hk, ?_⟩) hfl
    unfold dirAt; rw [e4, e5]
  have chg : ∀ {s1 : FS} {c : Ch} {m : Nat}, WF (s1.change c) m → s1.down = s.down → s1.fails = s.fails → s1.crash = s.crash → s1.ch = s.ch → s1.safe = s.safe → s1.now = s.now → (∀ f ∈ s.files, f ∈ s1.files) → ∀ ever', (ever' = ever) → Rec (s1.change c) (ever' ++ (s1.change c).nowP) := by
    intro s1 c m hwm e1 e2 e3 e4 e5 e6 hfl ever' he
    refine h.next hwm (e1.trans h.up) (e2.trans h.nofail) (e3.trans h.nocrash) (fun k hk => ?_) fun f hf => ⟨f, hfl f hf, rfl, .inl rfl⟩
    have hlen : (s1.change c).ch.length = s.ch.length + 1 := by unfold FS.change; simp [e4]
    rcases Nat.lt_or_ge s.ch.length k with h2 | h2
    · left
      have : k = (s1.change c).ch.length := by omega
      rw [this]; exact hwm.now
    · right
      refine ⟨fun e hee => he ▸ hee, k, h2, ?_⟩
      rw [dirAt_change (by rw [e4]; exact h2)]
      unfold dirAt; rw [e4, e5]
  have stay : ∀ ever', (ever' = ever) → Rec s (ever' ++ s.nowP) := same hw rfl rfl rfl rfl rfl fun f hf => ⟨f, hf, rfl, .inl rfl⟩
  unfold FS.done at hwd ⊢
  by_cases k0 : o.kind = 0
  · rw [if_pos k0] at hwd ⊢
    rw [if_neg (by omega)]
    unfold FS.create at hwd ⊢
    split
    · exact stay _ rfl
    split
    · exact stay _ rfl
    · rename_i a1 a2
      rw [if_neg a1, if_neg a2] at hwd
      rw [hstep] at hwd ⊢
      rw [if_neg (by show ¬ (0 : Int) ≠ 0; decide)] at hwd ⊢
      exact chg hwd rfl rfl rfl rfl rfl rfl (fun f hf => List.mem_append_left _ hf) _ rfl
  rw [if_neg k0] at hwd ⊢
  by_cases k1 : o.kind = 1
  · rw [if_pos k1] at hwd ⊢
    rw [if_neg (by omega)]
    unfold FS.append at hwd ⊢
    split
    · exact stay _ rfl
    rename_i a1
    rw [if_neg a1] at hwd
    split
    · exact stay _ rfl
    rename_i a2
    rw [if_neg a2] at hwd
    rw [hstep] at hwd ⊢
    rw [if_neg (by show ¬ (0 : Int) = 203; decide)] at hwd ⊢
    have hl : looks s true [o.name] = 0 := by simpa using a1
    obtain ⟨_, _, _, u, hu⟩ := looks_there hl
    obtain ⟨f0, hf0, hk0, hof⟩ := there hw (by rw [hu]; rfl)
    rw [hof] at hwd ⊢
    refine same hwd rfl rfl rfl rfl rfl (fun f hf => ?_) _ rfl
    by_cases hg : f.g = f0.g
    · exact ⟨_, List.mem_map.2 ⟨f, hf, rfl⟩, by rw [if_pos hg], .inr ⟨(o.name, fp f0.g), kget_mem hk0, by rw [hg]⟩⟩
    · exact ⟨_, List.mem_map.2 ⟨f, hf, rfl⟩, by rw [if_neg hg], .inl (by rw [if_neg hg])⟩
  rw [if_neg k1] at hwd ⊢
  by_cases k2 : o.kind = 2
  · rw [if_pos k2] at hwd ⊢
    rw [if_neg (by omega)]
    unfold FS.sync at hwd ⊢
    split
    · exact stay _ rfl
    rename_i a1
    rw [if_neg a1] at hwd
    rw [hstep] at hwd ⊢
    rw [if_neg (by show ¬ (0 : Int) ≠ 0; decide)] at hwd ⊢
    refine same hwd rfl rfl rfl rfl rfl (fun f hf => ⟨_, List.mem_map.2 ⟨f, hf, rfl⟩, by split <;> rfl, .inl (by split <;> rfl)⟩) _ rfl
  rw [if_neg k2] at hwd ⊢
  by_cases k3 : o.kind = 3
  · rw [if_pos k3] at hwd ⊢
    rw [if_neg (by omega)]
    unfold FS.rename at hwd ⊢
    split
    · exact stay _ rfl
    rename_i a1
    rw [if_neg a1] at hwd
    rw [hstep] at hwd ⊢
    rw [if_neg (by show ¬ (0 : Int) ≠ 0; decide)] at hwd ⊢
    exact chg hwd rfl rfl rfl rfl rfl rfl (fun f hf => hf) _ rfl
  rw [if_neg k3] at hwd ⊢
  by_cases k4 : o.kind = 4
  · rw [if_pos k4] at hwd ⊢
    rw [if_pos k4]
    unfold FS.syncDir at hwd ⊢
    rw [if_neg (by rw [h.up]; decide)] at hwd ⊢
    rw [hstep] at hwd ⊢
    rw [if_neg (by show ¬ (0 : Int) ≠ 0; decide)] at hwd ⊢
    refine h.next hwd h.up h.nofail h.nocrash (fun k hk => .inl ?_) fun f hf => ⟨f, hf, rfl, .inl rfl⟩
    unfold dirAt
    show List.foldl _ _ (List.take k []) = _
    rw [List.take_nil]; rfl
  rw [if_neg k4] at hwd ⊢
  rw [if_neg k4]
  by_cases k5 : o.kind = 5
  · rw [if_pos k5] at hwd ⊢
    unfold FS.remove at hwd ⊢
    split
    · exact stay _ rfl
    rename_i a1
    rw [if_neg a1] at hwd
    rw [hstep] at hwd ⊢
    rw [if_neg (by show ¬ (0 : Int) ≠ 0; decide)] at hwd ⊢
    exact chg hwd rfl rfl rfl rfl rfl rfl (fun f hf => hf) _ rfl
  rw [if_neg k5, if_neg h6, if_neg h7] at hwd ⊢
  split
  · unfold FS.start
    rw [if_neg (by rw [h.up]; decide)]
    exact stay _ rfl
  · exact stay _ rfl

/-! ### Behind the crash -/
/-- the state behind Crash(0, picks) -/
def FS.down0 (s : FS) (picks : List Int) : FS := ({ s with picks := picks, crash := s.steps + 0 } : FS).fall
theorem crashAt_zero {s : FS} (hd : s.down = false) (picks : List Int) : s.crashAt 0 picks = (s.down0 picks, 0) := by
  unfold FS.crashAt; rw [if_neg (by rw [hd]; decide), if_neg (by omega), if_pos rfl]; rfl
def isPre (a b : Str) : Prop := a.size ≤ b.size ∧ b.extract 0 a.size = a
theorem isPre_take (d : Str) {j k : Nat} (h : j ≤ k) (hk : k ≤ d.size) : isPre (d.extract 0 j) (d.extract 0 k) := by
  refine ⟨by rw [size_take d hk, size_take d (by omega)]; exact h, ?_⟩
  rw [size_take d (by omega)]
  apply ByteArray.ext
  simp only [ByteArray.data_extract, Array.extract_extract]
  congr 1; omega
theorem isPre_self_take (d : Str) {j : Nat} (h : j ≤ d.size) : isPre (d.extract 0 j) d := by
  refine ⟨by rw [size_take d h]; exact h, by rw [size_take d h]⟩
theorem fall_get {picks : List Int} {l : List Fl} {f' : Fl} (h : f' ∈ l.mapIdx (fallF picks)) : ∃ (i : Nat) (f : Fl), f ∈ l ∧ f' = fallF picks i f := by
  obtain ⟨i, hi, rfl⟩ := List.mem_mapIdx.1 h
  exact ⟨i, _, List.getElem_mem hi, rfl⟩
section
variable {s : FS} {n : Nat} {ever : List (Str × Str)}
theorem down0_wf (hw : WF s n) (picks : List Int) : WF (s.down0 picks) n := (hw.planned (m := 0) (by omega) (by omega) picks).fall
theorem Rec.crash (h : Rec s ever) (hw : WF s n) (picks : List Int) {e : Str × Str} (he : e ∈ (s.down0 picks).nowP) :
    (∃ q ∈ ever, q.1 = e.1) ∧ ∃ q ∈ ever, isPre e.2 q.2 := by
  have hw' := down0_wf hw picks
  obtain ⟨f', hf', hk, hv⟩ := mem_pairs hw'.nd hw'.nowOk he
  obtain ⟨i, f, hf, rfl⟩ := fall_get (picks := picks) (l := s.files) hf'
  have hm : (e.1, fp f.g) ∈ dirAt s (pick picks 0 s.ch.length) := kget_mem hk
  obtain ⟨h1, f2, h3, h4, q, hq, hq2⟩ := h.seen _ (pick_le _ _ _) _ hm
  have hg : f.g = f2.g := by injection h4 with h4; injection h4 with h4; injection h4 with h4
  have := same_file hw.nd hf h3 hg
  subst this
  refine ⟨h1, q, hq, ?_⟩
  rw [hv, hq2]
  have hfit := hw.fit f hf
  have hp := pick_le picks (i + 1) (f.data.size - f.safe)
  exact isPre_self_take _ (by omega)
theorem Rec.least (hw : WF s n) {picks : List Int} (hp : ∀ p, picks[0]? = some p → p ≤ 0) : (s.down0 picks).now = s.safe ∧ (s.down0 picks).nowP.length = s.safeP.length ∧
    ∀ e ∈ s.safeP, ∃ v, findP e.1 (s.down0 picks).nowP = some v ∧ isPre e.2 v := by
  have h0 : pick picks 0 s.ch.length = 0 := by
    unfold pick
    cases hq : picks[0]? with
    | none => rfl
    | some p => have := hp p hq; simp only; rw [show p.toNat = 0 by omega]; simp
  have hnow : (s.down0 picks).now = s.safe := by
    show dirAt s (pick picks 0 s.ch.length) = _
    rw [h0]; rfl
  have hw' := down0_wf hw picks
  refine ⟨hnow, by unfold FS.nowP FS.safeP; rw [pairs_length, pairs_length, hnow], fun e he => ?_⟩
  obtain ⟨f, hf, hk, hv⟩ := mem_pairs hw.nd hw.safeOk he
  have key : ∀ (l : List Str) (F : Str → Str), e.1 ∈ l → findP e.1 (l.map fun k => (k, F k)) = some (F e.1) := by
    intro l F
    induction l with
    | nil => intro h; cases h
    | cons a l ih =>
      intro h
      simp only [List.map_cons, findP]
      by_cases ha : a = e.1
      · rw [if_pos ha, ha]
      · rw [if_neg ha]
        rcases List.mem_cons.1 h with rfl | h
        · exact absurd rfl ha
        · exact ih h
  have hmem : e.1 ∈ sortS ((s.down0 picks).now.map (·.1)) := by
    rw [hnow]
    exact (sortS_perm _).mem_iff.2 (List.mem_map_of_mem (f := (·.1)) (kget_mem hk))
  refine ⟨_, key _ (fun k => ((s.down0 picks).of (s.down0 picks).now k).data) hmem, ?_⟩
  obtain ⟨f', hf', hg'⟩ := gs_mem (fall_gs picks s.files) f hf
  have hk' : kget e.1 (s.down0 picks).now = some (fp f'.g) := by rw [hnow, hk, hg']
  show isPre e.2 ((s.down0 picks).of (s.down0 picks).now e.1).data
  rw [of_of hw'.nd hf' hk', hv]
  obtain ⟨i, f2, hf2, rfl⟩ := fall_get hf'
  have := same_file hw.nd hf2 hf hg'
  subst this
  have hfit := hw.fit f2 hf2
  have hpl := pick_le picks (i + 1) (f2.data.size - f2.safe)
  exact isPre_take _ (by omega) (by omega)
end
end Go.Proofs.Ytcljmlgbmjjldaa.Fs
