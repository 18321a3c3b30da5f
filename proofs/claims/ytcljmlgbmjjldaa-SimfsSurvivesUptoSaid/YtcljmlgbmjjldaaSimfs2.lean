/- The file system: files and changes are written. -/
import Derived.Test.YtcljmlgbmjjldaaSimfs1
namespace Go.Proofs.Ytcljmlgbmjjldaa.Fs
open Go Go.VC Go.RowKit Go.Proofs.Ytcljmlgbmjjldaa.F
set_option linter.unusedVariables false
set_option linter.unusedSimpArgs false

/-- one of the files is another now -/
def setF (x : Nat) (p : Fl → Fl) (l : List Fl) : List Fl := l.map fun f => if f.g = x then p f else f
@[simp] theorem setF_length (x : Nat) (p : Fl → Fl) (l : List Fl) : (setF x p l).length = l.length := by simp [setF]
theorem setF_gs {x : Nat} {p : Fl → Fl} (hp : ∀ f, (p f).g = f.g) (l : List Fl) : (setF x p l).map (·.g) = l.map (·.g) := by
  unfold setF; rw [List.map_map]; congr 1; funext f; simp only [Function.comp]; split; exact hp f; rfl
theorem setF_fps {x : Nat} {p : Fl → Fl} (hp : ∀ f, (p f).g = f.g) (l : List Fl) : (setF x p l).map (fun f => fp f.g) = l.map fun f => fp f.g := by
  have := congrArg (List.map fp) (setF_gs (x := x) hp l); rw [List.map_map, List.map_map] at this; exact this
theorem mem_setF {x : Nat} {p : Fl → Fl} {l : List Fl} {f : Fl} (h : f ∈ setF x p l) : (∃ f0 ∈ l, f0.g = x ∧ f = p f0) ∨ (f ∈ l ∧ f.g ≠ x) := by
  obtain ⟨f0, h1, h2⟩ := List.mem_map.1 h
  split at h2
  · rename_i e; exact .inl ⟨f0, h1, e, h2.symm⟩
  · rename_i e; exact .inr (h2 ▸ ⟨h1, e⟩)
theorem same_file {l : List Fl} (hn : (l.map (·.g)).Nodup) {f f' : Fl} (h : f ∈ l) (h' : f' ∈ l) (e : f.g = f'.g) : f = f' := by
  induction l with
  | nil => cases h
  | cons a l ih =>
    simp only [List.map_cons, List.nodup_cons] at hn
    rcases List.mem_cons.1 h with rfl | h1
    · rcases List.mem_cons.1 h' with rfl | h2
      · rfl
      · exact absurd (List.mem_map_of_mem (f := (·.g)) h2) (e ▸ hn.1)
    · rcases List.mem_cons.1 h' with rfl | h2
      · exact absurd (List.mem_map_of_mem (f := (·.g)) h1) (e ▸ hn.1)
      · exact ih hn.2 h1 h2

section
variable {w w1 w2 : World} {g : Nat} {s : FS} {F K G : Nat → Prop} {vf vc vp : Value} {r1 r2 r3 : Nat} {dv : Nat → Value} {cvs : List Value}
/-- two writes: the blocks of one kind, and then a cell of another block -/
theorem FSL.putData (h : FSL w g s F K vf vc vp r1 r2 r3 dv cvs) (hn : (s.files.map (·.g)).Nodup) {f0 : Fl} (hf0 : f0 ∈ s.files) {v' : Value} {d : Str} (hc1 : Chg (fun b => (dv f0.g).ownBlock = some b) w w1)
    (ho : Own w1 tB v' d.size (byteCells d)) (hv : ∀ b, v'.ownBlock = some b → (dv f0.g).ownBlock = some b ∨ w.heap.size ≤ b) (hw : w2 = w1.setCell ⟨f0.g, 0, none⟩ v') :
    FSL w2 g { s with files := setF f0.g (fun f => { f with data := d }) s.files } (fun b => F b ∨ v'.ownBlock = some b) K vf vc vp r1 r2 r3 (fun x => if x = f0.g then v' else dv x) cvs ∧ Chg F w w2 := by
  have hT1 : ∀ b, (dv f0.g).ownBlock = some b → tag w b = some (tB + 1) := fun b hb => tag_own (h.data f0 hf0) hb
  have hG1 : ∀ b, (dv f0.g).ownBlock = some b → F b := fun b hb => h.Fd f0 hf0 b hb
  have hfb := h.kfblk hc1 hT1 (by decide) f0 hf0
  obtain ⟨hb, hc2⟩ := store_blk hfb hw
  have hc : Chg (fun b => (dv f0.g).ownBlock = some b ∨ b = f0.g) w w2 := (hc1.mono fun b hb => .inl hb).trans' (hc2.mono fun b hb => .inr hb)
  have hG : ∀ b, (dv f0.g).ownBlock = some b ∨ b = f0.g → F b := fun b hb => hb.elim (hG1 b) fun e => e ▸ h.Fx f0 hf0
  have nt : ∀ {b u : Nat}, tag w b = some u → tB + 1 ≠ u → tF + 1 ≠ u → ¬ ((dv f0.g).ownBlock = some b ∨ b = f0.g) := by
    rintro b u ht h1 h2 (h3 | rfl)
    · exact off hT1 ht h1 h3
    · rw [tag_cells (h.fblk f0 hf0)] at ht; injection ht with ht; exact h2 ht
  have hp : ∀ f : Fl, ({ f with data := d } : Fl).g = f.g := fun _ => rfl
  have hx0 : ∀ b, v'.ownBlock = some b → b ≠ f0.g := fun b hb e => by
    have t1 : tag w1 f0.g = some (tF + 1) := tag_cells hfb
    rw [← e, tag_own ho hb] at t1; cases t1
  refine ⟨{ blk := hc.blk h.blk (nt (tag_cells h.blk) (by decide) (by decide)), now := h.now.chg hc (nt (tag_map h.now) (by decide) (by decide)), safe := h.safe.chg hc (nt (tag_map h.safe) (by decide) (by decide)),
            fails := h.fails.chg hc (nt (tag_imap h.fails) (by decide) (by decide)), files := ?_, fblk := fun f hf => ?_, data := fun f hf => ?_, dsep := fun f hf f' hf' b hb hb' => ?_,
            chs := h.chs.chg hc fun b hb => nt (tag_own h.chs hb) (by decide) (by decide), cha := h.kcha hc hG fun _ h => h, picks := h.kpicks hc hG, pk := h.pk, r12 := h.r12, r13 := h.r13, r23 := h.r23,
            flt := fun b hb => hb.elim (fun hb => Nat.lt_of_lt_of_le (h.flt b hb) hc.size) (fun hb => Nat.lt_of_lt_of_le (ho.lt hb) hc2.size), klt := fun b hb => Nat.lt_of_lt_of_le (h.klt b hb) hc.size,
            fk := fun b hb hk => hb.elim (fun hb => h.fk b hb hk) (fun hb => (hv b hb).elim (fun hb => h.fk b (hG1 b hb) hk) fun hle => by have := h.klt b hk; omega),
            Fg := .inl h.Fg, F1 := .inl h.F1, F2 := .inl h.F2, F3 := .inl h.F3, Ff := fun b hb => .inl (h.Ff b hb), Fc := fun b hb => .inl (h.Fc b hb), Fx := fun f hf => ?_, Fd := fun f hf b hb => ?_ }, hc.mono hG⟩
  · have h1 := h.files.chg hc fun b hb => nt (tag_own h.files hb) (by decide) (by decide)
    show Own w2 tP vf (setF _ _ _).length _
    rw [setF_length, setF_fps hp]; exact h1
  · rcases mem_setF hf with ⟨f1, h1, h2, rfl⟩ | ⟨h1, h2⟩
    · have : f1 = f0 := same_file hn h1 hf0 h2
      subst this
      simp only [if_true]
      exact hb
    · simp only [if_neg h2]
      exact hc.blk (h.fblk f h1) fun hh => hh.elim (fun hh => off hT1 (tag_cells (h.fblk f h1)) (by decide) hh) h2
  · rcases mem_setF hf with ⟨f1, h1, h2, rfl⟩ | ⟨h1, h2⟩
    · simp only [h2, if_true]
      exact ho.chg hc2 hx0
    · simp only [if_neg h2]
      exact (h.data f h1).chg hc fun b hb hh => hh.elim (fun hh => h2 (h.dsep f h1 f0 hf0 b hb hh)) fun e => by
        have := tag_own (h.data f h1) hb; rw [e, tag_cells (h.fblk f0 hf0)] at this; cases this
  · have key : ∀ f ∈ setF f0.g (fun f => { f with data := d }) s.files, (f.g = f0.g ∧ ∀ b, (if f.g = f0.g then v' else dv f.g).ownBlock = some b → v'.ownBlock = some b) ∨ (f ∈ s.files ∧ f.g ≠ f0.g) := by
      intro f hf
      rcases mem_setF hf with ⟨f1, h1, h2, rfl⟩ | ⟨h1, h2⟩
      · exact .inl ⟨h2, fun b hb => by simpa [h2] using hb⟩
      · exact .inr ⟨h1, h2⟩
    have cross : ∀ f ∈ s.files, f.g ≠ f0.g → ∀ b, (dv f.g).ownBlock = some b → v'.ownBlock = some b → False := fun f h1 h2 b hb hb' => by
      rcases hv b hb' with h3 | h3
      · exact h2 (h.dsep f h1 f0 hf0 b hb h3)
      · have := (h.data f h1).lt hb; omega
    rcases key f hf with ⟨e1, k1⟩ | ⟨h1, h2⟩
    · rcases key f' hf' with ⟨e2, k2⟩ | ⟨h3, h4⟩
      · rw [e1, e2]
      · simp only [if_neg h4] at hb'
        exact (cross f' h3 h4 b hb' (k1 b hb)).elim
    · simp only [if_neg h2] at hb
      rcases key f' hf' with ⟨e2, k2⟩ | ⟨h3, h4⟩
      · exact (cross f h1 h2 b hb (k2 b hb')).elim
      · simp only [if_neg h4] at hb'
        exact h.dsep f h1 f' h3 b hb hb'
  · rcases mem_setF hf with ⟨f1, h1, h2, rfl⟩ | ⟨h1, h2⟩
    · exact .inl (h.Fx f1 h1)
    · exact .inl (h.Fx f h1)
  · rcases mem_setF hf with ⟨f1, h1, h2, rfl⟩ | ⟨h1, h2⟩
    · simp only [h2, if_true] at hb
      exact .inr hb
    · simp only [if_neg h2] at hb
      exact .inl (h.Fd f h1 b hb)
theorem FSL.putSure (h : FSL w g s F K vf vc vp r1 r2 r3 dv cvs) (hn : (s.files.map (·.g)).Nodup) {f0 : Fl} (hf0 : f0 ∈ s.files) {n : Nat} (hw : w2 = w.setCell ⟨f0.g, 1, none⟩ (.int .i64 n)) :
    FSL w2 g { s with files := setF f0.g (fun f => { f with safe := n }) s.files } F K vf vc vp r1 r2 r3 dv cvs ∧ Chg F w w2 := by
  have hfb := h.fblk f0 hf0
  obtain ⟨hb, hc⟩ := store_blk hfb hw
  have hT : ∀ b, b = f0.g → tag w b = some (tF + 1) := fun b e => by subst e; exact tag_cells hfb
  have hG : ∀ b, b = f0.g → F b := fun b e => e ▸ h.Fx f0 hf0
  have hp : ∀ f : Fl, ({ f with safe := n } : Fl).g = f.g := fun _ => rfl
  have mem : ∀ {f}, f ∈ setF f0.g (fun f => { f with safe := n }) s.files → ∃ f1 ∈ s.files, f1.g = f.g ∧ f1.data = f.data := fun {f} hf => by
    rcases mem_setF hf with ⟨f1, h1, h2, rfl⟩ | ⟨h1, h2⟩
    · exact ⟨f1, h1, rfl, rfl⟩
    · exact ⟨f, h1, rfl, rfl⟩
  refine ⟨{ blk := h.kblk hc hT (by decide), now := h.know hc hT (by decide), safe := h.ksafe hc hT (by decide), fails := h.kfails hc hT (by decide), files := ?_, fblk := fun f hf => ?_,
            data := fun f hf => ?_, dsep := fun f hf f' hf' b hb hb' => ?_, chs := h.kchs hc hT (by decide), cha := h.kcha hc hG fun _ h => h, picks := h.kpicks hc hG, pk := h.pk, r12 := h.r12, r13 := h.r13, r23 := h.r23,
            flt := fun b hb => Nat.lt_of_lt_of_le (h.flt b hb) hc.size, klt := fun b hb => Nat.lt_of_lt_of_le (h.klt b hb) hc.size, fk := h.fk, Fg := h.Fg, F1 := h.F1, F2 := h.F2, F3 := h.F3, Ff := h.Ff, Fc := h.Fc, Fx := fun f hf => ?_, Fd := fun f hf b hb => ?_ }, hc.mono hG⟩
  · have h1 := h.kfiles hc hT (by decide)
    show Own w2 tP vf (setF _ _ _).length _
    rw [setF_length, setF_fps hp]; exact h1
  · rcases mem_setF hf with ⟨f1, h1, h2, rfl⟩ | ⟨h1, h2⟩
    · have : f1 = f0 := same_file hn h1 hf0 h2
      subst this; exact hb
    · exact hc.blk (h.fblk f h1) h2
  · obtain ⟨f1, h1, h2, h3⟩ := mem hf
    rw [← h2, ← h3]; exact h.kdata hc hT (by decide) f1 h1
  · obtain ⟨f1, h1, h2, h3⟩ := mem hf
    obtain ⟨f1', h1', h2', h3'⟩ := mem hf'
    rw [← h2] at hb ⊢; rw [← h2'] at hb' ⊢
    exact h.dsep f1 h1 f1' h1' b hb hb'
  · obtain ⟨f1, h1, h2, h3⟩ := mem hf
    rw [← h2]; exact h.Fx f1 h1
  · obtain ⟨f1, h1, h2, h3⟩ := mem hf
    rw [← h2] at hb; exact h.Fd f1 h1 b hb
/-- one more file, which is new and empty -/
theorem FSL.addFile (h : FSL w g s F K vf vc vp r1 r2 r3 dv cvs) {x : Nat} (hx : w.heap[x]? = some (.cells #[.slice none 0 0, .int .i64 0] tF (0, 0))) (hxF : ¬ F x) (hxK : ¬ K x) {v' : Value}
    (hc1 : Chg (fun b => vf.ownBlock = some b) w w1) (ho : Own w1 tP v' (s.files.length + 1) (s.files.map (fun f => fp f.g) ++ [fp x])) (hv : ∀ b, v'.ownBlock = some b → vf.ownBlock = some b ∨ w.heap.size ≤ b) (hw : w2 = w1.setCell ⟨g, 0, none⟩ v') :
    FSL w2 g { s with files := s.files ++ [⟨x, ByteArray.empty, 0⟩] } (fun b => F b ∨ b = x ∨ v'.ownBlock = some b) K v' vc vp r1 r2 r3 (fun y => if y = x then .slice none 0 0 else dv y) cvs ∧ Chg F w w2 := by
  have hT1 : ∀ b, vf.ownBlock = some b → tag w b = some (tP + 1) := fun b hb => tag_own h.files hb
  have hb1 := h.kblk hc1 hT1 (by decide)
  obtain ⟨hb, hc2⟩ := store_blk hb1 hw
  have hc : Chg (fun b => vf.ownBlock = some b ∨ b = g) w w2 := (hc1.mono fun b hb => .inl hb).trans' (hc2.mono fun b hb => .inr hb)
  have hG : ∀ b, vf.ownBlock = some b ∨ b = g → F b := fun b hb => hb.elim (h.Ff b) fun e => e ▸ h.Fg
  have nt : ∀ {b u : Nat}, tag w b = some u → tP + 1 ≠ u → tFS + 1 ≠ u → ¬ (vf.ownBlock = some b ∨ b = g) := by
    rintro b u ht h1 h2 (h3 | rfl)
    · exact off hT1 ht h1 h3
    · rw [tag_cells h.blk] at ht; injection ht with ht; exact h2 ht
  have hv0 : ∀ b, v'.ownBlock = some b → b ≠ g := fun b hb e => by
    have t1 : tag w1 g = some (tFS + 1) := tag_cells hb1
    rw [← e, tag_own ho hb] at t1; cases t1
  have hne : ∀ f ∈ s.files, f.g ≠ x := fun f hf e => hxF (e ▸ h.Fx f hf)
  have mem : ∀ {f}, f ∈ s.files ++ [⟨x, ByteArray.empty, 0⟩] → f ∈ s.files ∨ f = ⟨x, ByteArray.empty, 0⟩ := fun {f} hf => by simpa using hf
  refine ⟨{ blk := hb, now := h.now.chg hc (nt (tag_map h.now) (by decide) (by decide)), safe := h.safe.chg hc (nt (tag_map h.safe) (by decide) (by decide)),
            fails := h.fails.chg hc (nt (tag_imap h.fails) (by decide) (by decide)), files := ?_, fblk := fun f hf => ?_, data := fun f hf => ?_, dsep := fun f hf f' hf' b hb hb' => ?_,
            chs := h.chs.chg hc fun b hb => nt (tag_own h.chs hb) (by decide) (by decide), cha := h.kcha hc hG fun _ h => h, picks := h.kpicks hc hG, pk := h.pk, r12 := h.r12, r13 := h.r13, r23 := h.r23,
            flt := fun b hb => ?_, klt := fun b hb => Nat.lt_of_lt_of_le (h.klt b hb) hc.size, fk := fun b hb hk => ?_,
            Fg := .inl h.Fg, F1 := .inl h.F1, F2 := .inl h.F2, F3 := .inl h.F3, Ff := fun b hb => .inr (.inr hb), Fc := fun b hb => .inl (h.Fc b hb), Fx := fun f hf => ?_, Fd := fun f hf b hb => ?_ }, hc.mono hG⟩
  · show Own w2 tP v' (s.files ++ _).length ((s.files ++ _).map _)
    rw [List.length_append, List.map_append]; exact ho.chg hc2 hv0
  · rcases mem hf with hf | rfl
    · simp only [if_neg (hne f hf)]
      exact hc.blk (h.fblk f hf) (nt (tag_cells (h.fblk f hf)) (by decide) (by decide))
    · simp only [if_true]
      exact hc.blk hx (nt (tag_cells hx) (by decide) (by decide))
  · rcases mem hf with hf | rfl
    · simp only [if_neg (hne f hf)]
      exact (h.data f hf).chg hc fun b hb => nt (tag_own (h.data f hf) hb) (by decide) (by decide)
    · simp only [if_true]
      exact Own.nil _ _
  · rcases mem hf with hf | rfl
    · simp only [if_neg (hne f hf)] at hb
      rcases mem hf' with hf' | rfl
      · simp only [if_neg (hne f' hf')] at hb'
        exact h.dsep f hf f' hf' b hb hb'
      · simp [Value.ownBlock] at hb'
    · simp [Value.ownBlock] at hb
  · rcases hb with hb | rfl | hb
    · exact Nat.lt_of_lt_of_le (h.flt b hb) hc.size
    · exact Nat.lt_of_lt_of_le (lt_blk hx) hc.size
    · exact Nat.lt_of_lt_of_le (ho.lt hb) hc2.size
  · rcases hb with hb | rfl | hb
    · exact h.fk b hb hk
    · exact hxK hk
    · rcases hv b hb with h1 | h1
      · exact h.fk b (h.Ff b h1) hk
      · have := h.klt b hk; omega
  · rcases mem hf with hf | rfl
    · exact .inl (h.Fx f hf)
    · exact .inr (.inl rfl)
  · rcases mem hf with hf | rfl
    · simp only [if_neg (hne f hf)] at hb
      exact .inl (h.Fd f hf b hb)
    · simp [Value.ownBlock] at hb
/-- one more change -/
theorem FSL.addCh (h : FSL w g s F K vf vc vp r1 r2 r3 dv cvs) {c : Ch} {cv : Value} (hcv : ChAt w K cv c) {v' : Value}
    (hc1 : Chg (fun b => vc.ownBlock = some b) w w1) (ho : Own w1 tC v' (s.ch.length + 1) (cvs ++ [cv])) (hv : ∀ b, v'.ownBlock = some b → vc.ownBlock = some b ∨ w.heap.size ≤ b) (hw : w2 = w1.setCell ⟨g, 3, none⟩ v') :
    FSL w2 g { s with ch := s.ch ++ [c] } (fun b => F b ∨ v'.ownBlock = some b) K vf v' vp r1 r2 r3 dv (cvs ++ [cv]) ∧ Chg F w w2 := by
  have hT1 : ∀ b, vc.ownBlock = some b → tag w b = some (tC + 1) := fun b hb => tag_own h.chs hb
  have hb1 := h.kblk hc1 hT1 (by decide)
  obtain ⟨hb, hc2⟩ := store_blk hb1 hw
  have hc : Chg (fun b => vc.ownBlock = some b ∨ b = g) w w2 := (hc1.mono fun b hb => .inl hb).trans' (hc2.mono fun b hb => .inr hb)
  have hG : ∀ b, vc.ownBlock = some b ∨ b = g → F b := fun b hb => hb.elim (h.Fc b) fun e => e ▸ h.Fg
  have nt : ∀ {b u : Nat}, tag w b = some u → tC + 1 ≠ u → tFS + 1 ≠ u → ¬ (vc.ownBlock = some b ∨ b = g) := by
    rintro b u ht h1 h2 (h3 | rfl)
    · exact off hT1 ht h1 h3
    · rw [tag_cells h.blk] at ht; injection ht with ht; exact h2 ht
  have hv0 : ∀ b, v'.ownBlock = some b → b ≠ g := fun b hb e => by
    have t1 : tag w1 g = some (tFS + 1) := tag_cells hb1
    rw [← e, tag_own ho hb] at t1; cases t1
  have hl := h.chs.len
  refine ⟨{ blk := hb, now := h.now.chg hc (nt (tag_map h.now) (by decide) (by decide)), safe := h.safe.chg hc (nt (tag_map h.safe) (by decide) (by decide)),
            fails := h.fails.chg hc (nt (tag_imap h.fails) (by decide) (by decide)), files := h.files.chg hc fun b hb => nt (tag_own h.files hb) (by decide) (by decide),
            fblk := fun f hf => hc.blk (h.fblk f hf) (nt (tag_cells (h.fblk f hf)) (by decide) (by decide)), data := fun f hf => (h.data f hf).chg hc fun b hb => nt (tag_own (h.data f hf) hb) (by decide) (by decide), dsep := h.dsep,
            chs := ?_, cha := fun i v c' hv hi => ?_, picks := h.kpicks hc hG, pk := h.pk, r12 := h.r12, r13 := h.r13, r23 := h.r23,
            flt := fun b hb => hb.elim (fun hb => Nat.lt_of_lt_of_le (h.flt b hb) hc.size) (fun hb => Nat.lt_of_lt_of_le (ho.lt hb) hc2.size), klt := fun b hb => Nat.lt_of_lt_of_le (h.klt b hb) hc.size,
            fk := fun b hb hk => hb.elim (fun hb => h.fk b hb hk) (fun hb => (hv b hb).elim (fun hb => h.fk b (h.Fc b hb) hk) fun hle => by have := h.klt b hk; omega),
            Fg := .inl h.Fg, F1 := .inl h.F1, F2 := .inl h.F2, F3 := .inl h.F3, Ff := fun b hb => .inl (h.Ff b hb), Fc := fun b hb => .inr hb, Fx := fun f hf => .inl (h.Fx f hf), Fd := fun f hf b hb => .inl (h.Fd f hf b hb) }, hc.mono hG⟩
  · show Own w2 tC v' (s.ch ++ _).length _
    rw [List.length_append]; exact ho.chg hc2 hv0
  · have hi' : (s.ch ++ [c])[i]? = some c' := hi
    rcases Nat.lt_or_ge i s.ch.length with hlt | hge
    · rw [List.getElem?_append_left (by omega)] at hv hi'
      exact h.kcha hc hG (fun _ h => h) i v c' hv hi'
    · rw [List.getElem?_append_right (by omega)] at hv hi'
      have h0 : i - s.ch.length = 0 := by
        have := (List.getElem?_eq_some_iff.1 hi').1; simp at this; omega
      rw [h0] at hi'
      rw [hl, h0] at hv
      simp at hv hi'
      subst hv; subst hi'
      exact hcv.chg hc (fun b hb hg => h.fk b (hG b hg) hb) fun _ h => h
/-- blocks that are new are told to be read alone -/
theorem FSL.moreK (h : FSL w g s F K vf vc vp r1 r2 r3 dv cvs) {K' : Nat → Prop} (hk : ∀ b, K b → K' b) (hf : ∀ b, F b → ¬ K' b) (hlt : ∀ b, K' b → b < w.heap.size) : FSL w g s F K' vf vc vp r1 r2 r3 dv cvs :=
  { h with cha := fun i v c hv hi => (h.cha i v c hv hi).chg (Chg.refl (fun _ => False) w) (fun _ _ h => h) hk, pk := fun b hb => hk b (h.pk b hb), klt := hlt, fk := hf }
end
end Go.Proofs.Ytcljmlgbmjjldaa.Fs
