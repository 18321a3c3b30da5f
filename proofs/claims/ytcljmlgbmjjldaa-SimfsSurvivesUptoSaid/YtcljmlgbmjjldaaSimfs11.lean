/- The file system: one call of a script; works. -/
import Derived.Test.YtcljmlgbmjjldaaSimfs10
namespace Go.Proofs.Ytcljmlgbmjjldaa.Fs
open Go Go.VC Go.RowKit Go.Proofs.Ytcljmlgbmjjldaa.F
set_option linter.unusedVariables false
set_option linter.unusedSimpArgs false
theorem mem_upd {k : Str} {v : Value} {p : Str × Value} : ∀ {m : Kvs}, p ∈ upd k v m → p = (k, v) ∨ p ∈ m
  | [], h => by simp [upd] at h; exact .inl h
  | q :: m, h => by
    simp only [upd] at h
    split at h
    · rcases List.mem_cons.1 h with h | h
      · exact .inl h
      · exact .inr (List.mem_cons_of_mem _ h)
    · rcases List.mem_cons.1 h with h | h
      · exact .inr (h ▸ List.mem_cons_self ..)
      · exact (mem_upd h).imp id (List.mem_cons_of_mem _)
theorem DirOk.upd {files : List Fl} {n : Nat} {d : Kvs} (h : DirOk files n d) {k : Str} (hk : k.size ≤ 64) {f : Fl} (hf : f ∈ files) : DirOk files (n + 1) (VC.upd k (fp f.g) d) :=
  ⟨upd_nodup h.nd, by rw [upd_length]; have := h.few; split <;> omega, fun p hp => by
    rcases mem_upd hp with rfl | hp
    · exact ⟨hk, f, hf, rfl⟩
    · exact h.ok p hp⟩
theorem DirOk.del {files : List Fl} {n : Nat} {d : Kvs} (h : DirOk files n d) (k : Str) : DirOk files n (VC.del k d) :=
  ⟨del_nodup h.nd, Nat.le_trans del_sub.length_le h.few, fun p hp => h.ok p (del_sub.mem hp)⟩
theorem looks_zero {s : FS} {b : Bool} {l : List Str} (h : looks s b l = 0) : l.all named = true := by
  unfold looks at h
  split at h
  · cases h
  split at h
  · assumption
  · cases h
section
variable {s : FS} {n : Nat}
theorem WF.sync (h : WF s n) (name : Str) : WF (s.sync name).1 (n + 1) := by
  unfold FS.sync
  split
  · exact h.mono (by omega)
  split
  · exact h.step
  · rename_i h1 h2
    have h0 : s.step.2.1 = 0 := by simpa using h2
    have hl : looks s true [name] = 0 := by simpa using h1
    obtain ⟨_, _, _, u, hu⟩ := looks_there hl
    obtain ⟨f, hf, hk, hof⟩ := there h (by rw [hu]; rfl)
    have hsf := (step_files (s := s) (by rw [h0]; decide)).1
    refine h.step.files (setF_gs (by intro _; rfl) _) fun f' hf' => ?_
    rcases mem_setF hf' with ⟨f1, q1, q2, rfl⟩ | ⟨q1, _⟩
    · have : f1 = f := same_file h.nd (hsf ▸ q1) hf (by rw [q2, hof])
      subst this
      rw [hof]; exact ⟨Nat.le_refl _, (h.fit _ hf).2⟩
    · exact h.step.fit f' q1
theorem WF.append (h : WF s n) (name data : Str) : WF (s.append name data).1 (n + 1) := by
  unfold FS.append
  split
  · exact h.mono (by omega)
  split
  · exact h.mono (by omega)
  split
  · exact h.step
  · rename_i h1 hlong h2
    have hl : looks s true [name] = 0 := by simpa using h1
    obtain ⟨_, _, _, u, hu⟩ := looks_there hl
    obtain ⟨f, hf, hk, hof⟩ := there h (by rw [hu]; rfl)
    rw [hof] at hlong ⊢
    have hsf := (step_files (s := s) h2).1
    refine h.step.files (setF_gs (by intro _; rfl) _) fun f' hf' => ?_
    rcases mem_setF hf' with ⟨f1, q1, q2, rfl⟩ | ⟨q1, _⟩
    · have : f1 = f := same_file h.nd (hsf ▸ q1) hf q2
      subst this
      have := h.fit _ hf
      simp only [ByteArray.size_append]
      have hle : (if s.step.2.1 = 200 then data.extract 0 (min s.step.2.2.toNat data.size) else data).size ≤ data.size := by
        split
        · rw [ByteArray.size_extract]; omega
        · exact Nat.le_refl _
      omega
    · exact h.step.fit f' q1
theorem WF.syncDir (h : WF s n) : WF s.syncDir.1 (n + 1) := by
  unfold FS.syncDir
  split
  · exact h.mono (by omega)
  split
  · exact h.step
  · exact { h.step with dirs := fun k hk => by show DirOk _ _ (List.foldl Ch.on _ (List.take k [])); rw [List.take_nil]; exact h.step.nowOk, now := rfl, chl := Nat.zero_le _ }
theorem WF.create (h : WF s n) (name : Str) {x : Nat} (hx : ∀ f ∈ s.files, f.g ≠ x) : WF (s.create name x).1 (n + 3) := by
  unfold FS.create
  split
  · exact h.mono (by omega)
  split
  · exact h.mono (by omega)
  split
  · exact h.step.mono (by omega)
  · rename_i h1 _ h2
    have h0 : s.step.2.1 = 0 := by simpa using h2
    have hl : looks s false [name] = 0 := by simpa using h1
    have hnm := looks_zero hl
    simp only [List.all_cons, List.all_nil, Bool.and_true] at hnm
    have hsf := (step_files (s := s) (by rw [h0]; decide)).1
    have h3 := h.step.addFile (x := x) (by rw [hsf]; exact hx)
    exact h3.change (by omega) (h3.nowOk.upd (named_size hnm) (f := ⟨x, ByteArray.empty, 0⟩) (by simp))
theorem WF.rename (h : WF s n) (name to : Str) : WF (s.rename name to).1 (n + 2) := by
  unfold FS.rename
  split
  · exact h.mono (by omega)
  split
  · exact h.step.mono (by omega)
  · rename_i h1 h2
    have h0 : s.step.2.1 = 0 := by simpa using h2
    have hl : looks s true [name, to] = 0 := by simpa using h1
    obtain ⟨_, _, hnm, u, hu⟩ := looks_there hl
    simp only [List.all_cons, List.all_nil, Bool.and_true] at hnm
    obtain ⟨f, hf, hk, hof⟩ := there h (by rw [hu]; rfl)
    obtain ⟨hsf, hsn, _, _⟩ := step_files (s := s) (by rw [h0]; decide)
    refine h.step.change (by omega) ?_
    show DirOk _ _ (upd to ((kget name s.step.1.now).getD (.pointer none)) (del name s.step.1.now))
    rw [hsn, hk]
    have := ((hsn ▸ h.step.nowOk).del name).upd (k := to) (named_size hnm) (f := f) (by rw [hsf]; exact hf)
    exact this
theorem WF.remove (h : WF s n) (name : Str) : WF (s.remove name).1 (n + 2) := by
  unfold FS.remove
  split
  · exact h.mono (by omega)
  split
  · exact h.step.mono (by omega)
  · exact h.step.change (by omega) ((h.step.nowOk.del name).mono (by omega) fun f hf => ⟨f, hf, rfl⟩)
theorem immem_upd {k : Int} {v : Value} {p : Int × Value} : ∀ {m : IM.Kvs}, p ∈ IM.upd k v m → p = (k, v) ∨ p ∈ m
  | [], h => by simp [IM.upd] at h; exact .inl h
  | q :: m, h => by
    simp only [IM.upd] at h
    split at h
    · rcases List.mem_cons.1 h with h | h
      · exact .inl h
      · exact .inr (List.mem_cons_of_mem _ h)
    · rcases List.mem_cons.1 h with h | h
      · exact .inr (h ▸ List.mem_cons_self ..)
      · exact (immem_upd h).imp id (List.mem_cons_of_mem _)
theorem WF.fail (h : WF s n) (m part : Int) : WF (s.fail m part).1 n := by
  unfold FS.fail
  split
  · exact h
  split
  · exact h
  · have hfok : ∀ p ∈ IM.upd (s.steps + m) (.agg #[.int .i64 part]) s.fails, ∃ k : Int, p.2 = .agg #[.int .i64 k] := fun p hp => by
      rcases immem_upd hp with rfl | hp
      · exact ⟨part, rfl⟩
      · exact h.fok p hp
    exact { h with dirs := h.dirs, now := h.now, fnd := IM.upd_nodup h.fnd, fok := hfok }
theorem WF.crashAt (h : WF s n) (m : Int) (picks : List Int) : WF (s.crashAt m picks).1 n := by
  unfold FS.crashAt
  split
  · exact h
  split
  · exact h
  split
  · exact (h.planned (by omega) (by omega) picks).fall
  · exact h.planned (by omega) (by omega) picks
theorem WF.start (h : WF s n) : WF s.start.1 n := by
  unfold FS.start
  split
  · exact { h with dirs := h.dirs, now := h.now }
  · exact h
end
/-- a call of a script -/
structure FOp where
  kind : Int
  name : Str
  to : Str
  data : Str
  n : Int
  part : Int
  picks : List Int
structure FOp.Ok (o : FOp) : Prop where
  name : o.name.size < 9223372036854775808
  to : o.to.size < 9223372036854775808
  data : o.data.size < 9223372036854775808
  picks : o.picks.length < big
def FS.done (s : FS) (o : FOp) (x : Nat) : FS × Int :=
  if o.kind = 0 then s.create o.name x else if o.kind = 1 then s.append o.name o.data else if o.kind = 2 then s.sync o.name else if o.kind = 3 then s.rename o.name o.to
  else if o.kind = 4 then s.syncDir else if o.kind = 5 then s.remove o.name else if o.kind = 6 then s.fail o.n o.part else if o.kind = 7 then s.crashAt o.n o.picks else if o.kind = 8 then s.start else (s, 0)
theorem WF.done {s : FS} {n : Nat} (h : WF s n) (o : FOp) {x : Nat} (hx : ∀ f ∈ s.files, f.g ≠ x) : WF (s.done o x).1 (n + 3) := by
  unfold FS.done
  split; exact h.create _ hx
  split; exact (h.append _ _).mono (by omega)
  split; exact (h.sync _).mono (by omega)
  split; exact (h.rename _ _).mono (by omega)
  split; exact h.syncDir.mono (by omega)
  split; exact (h.remove _).mono (by omega)
  split; exact (h.fail _ _).mono (by omega)
  split; exact (h.crashAt _ _).mono (by omega)
  split; exact h.start.mono (by omega)
  exact h.mono (by omega)
theorem done_ok {w : World} {g : Nat} {s : FS} {F K : Nat → Prop} {n : Nat} (h : FSAt w g s F K) (hw : WF s n) (hn : n + 2 < big) {o : FOp} (ho : o.Ok) {A : Option Addr} {pn pc : Nat} (hp : Rd w (.slice A pn pc) (ints o.picks)) :
    Calls Try.prog 40 #[.pointer (some ⟨g, 0, none⟩), .agg #[.int .i64 o.kind, .string o.name, .string o.to, .string o.data, .int .i64 o.n, .int .i64 o.part, .slice A pn pc]] w fun e w' =>
      ∃ x, e = .returned (.int .i64 (s.done o x).2) ∧ Went w w' g (s.done o x).1 F K ∧ ∀ f ∈ s.files, f.g ≠ x := by
  have hn' : n + 2 < 1099511627776 := hn
  have hfx : ∀ f ∈ s.files, f.g ≠ w.heap.size := fun f hf e => by
    obtain ⟨_, _, _, _, _, _, _, _, k0⟩ := h.ex
    have := k0.flt _ (k0.Fx f hf); omega
  refine v40 _ _ _ _ _ _ _ _ _ _ _ _ ?_
  intro G w1 hG hw1
  have c1 : Chg (fun _ => False) w w1 := by subst hw1; exact Chg.alloc _ _ _
  have hb : w1.heap[G]? = some (.cells #[.int .i64 o.kind, .string o.name, .string o.to, .string o.data, .int .i64 o.n, .int .i64 o.part, .slice A pn pc] 73 (0, 0)) := by subst hG; subst hw1; exact new_blk _ _
  have h1 := h.chg0 c1
  have fin : ∀ {t : FS × Int} {w'}, Went w1 w' g t.1 F K → s.done o w.heap.size = t → (∃ x, Ending.returned (.int .i64 t.2) = .returned (.int .i64 (s.done o x).2) ∧ Went w w' g (s.done o x).1 F K ∧ ∀ f ∈ s.files, f.g ≠ x) := by
    intro t w' hw' e
    exact ⟨w.heap.size, by rw [e], by rw [e]; exact hw'.pre c1, hfx⟩
  refine ⟨o.kind, cell_blk hb rfl, fun h0 => ?_, fun h0 => ?_⟩
  · have h0 : o.kind = 0 := by simpa using h0
    refine ⟨o.name, cell_blk hb rfl, (create_ok h1 hw hn ho.name).mono ?_⟩
    rintro e w2 ⟨x, rfl, hw2, hx⟩
    refine ⟨_, rfl, x, ?_⟩
    unfold FS.done; rw [if_pos h0]
    exact ⟨rfl, hw2.pre c1, hx⟩
  have n0 : o.kind ≠ 0 := by simpa using h0
  refine ⟨fun hk => ?_, fun hk => ?_⟩
  · have hk : o.kind = 1 := by simpa using hk
    refine ⟨o.name, cell_blk hb rfl, o.data, cell_blk hb rfl, (append_ok h1 hw (by omega) ho.name ho.data).mono ?_⟩
    rintro e w2 ⟨rfl, hw2⟩
    exact ⟨_, rfl, fin hw2 (by unfold FS.done; rw [if_neg n0, if_pos hk])⟩
  have n1 : o.kind ≠ 1 := by simpa using hk
  refine ⟨fun hk => ?_, fun hk => ?_⟩
  · have hk : o.kind = 2 := by simpa using hk
    refine ⟨o.name, cell_blk hb rfl, (sync_ok h1 hw (by omega) ho.name).mono ?_⟩
    rintro e w2 ⟨rfl, hw2⟩
    exact ⟨_, rfl, fin hw2 (by unfold FS.done; rw [if_neg n0, if_neg n1, if_pos hk])⟩
  have n2 : o.kind ≠ 2 := by simpa using hk
  refine ⟨fun hk => ?_, fun hk => ?_⟩
  · have hk : o.kind = 3 := by simpa using hk
    refine ⟨o.name, cell_blk hb rfl, o.to, cell_blk hb rfl, (rename_ok h1 hw (by omega) ho.name ho.to).mono ?_⟩
    rintro e w2 ⟨rfl, hw2⟩
    exact ⟨_, rfl, fin hw2 (by unfold FS.done; rw [if_neg n0, if_neg n1, if_neg n2, if_pos hk])⟩
  have n3 : o.kind ≠ 3 := by simpa using hk
  refine ⟨fun hk => ?_, fun hk => ?_⟩
  · have hk : o.kind = 4 := by simpa using hk
    refine (syncDir_ok h1 hw (by omega)).mono ?_
    rintro e w2 ⟨rfl, hw2⟩
    exact ⟨_, rfl, fin hw2 (by unfold FS.done; rw [if_neg n0, if_neg n1, if_neg n2, if_neg n3, if_pos hk])⟩
  have n4 : o.kind ≠ 4 := by simpa using hk
  refine ⟨fun hk => ?_, fun hk => ?_⟩
  · have hk : o.kind = 5 := by simpa using hk
    refine ⟨o.name, cell_blk hb rfl, (remove_ok h1 hw (by omega) ho.name).mono ?_⟩
    rintro e w2 ⟨rfl, hw2⟩
    exact ⟨_, rfl, fin hw2 (by unfold FS.done; rw [if_neg n0, if_neg n1, if_neg n2, if_neg n3, if_neg n4, if_pos hk])⟩
  have n5 : o.kind ≠ 5 := by simpa using hk
  refine ⟨fun hk => ?_, fun hk => ?_⟩
  · have hk : o.kind = 6 := by simpa using hk
    refine ⟨o.n, cell_blk hb rfl, o.part, cell_blk hb rfl, (fail_ok h1 hw (by omega) o.n o.part).mono ?_⟩
    rintro e w2 ⟨rfl, hw2⟩
    exact ⟨_, rfl, fin hw2 (by unfold FS.done; rw [if_neg n0, if_neg n1, if_neg n2, if_neg n3, if_neg n4, if_neg n5, if_pos hk])⟩
  have n6 : o.kind ≠ 6 := by simpa using hk
  refine ⟨fun hk => ?_, fun hk => ?_⟩
  · have hk : o.kind = 7 := by simpa using hk
    refine ⟨o.n, cell_blk hb rfl, A, pn, pc, cell_blk hb rfl, (crash_ok h1 hw (by omega) o.n (hp.chg c1 fun _ _ h => h) ho.picks).mono ?_⟩
    rintro e w2 ⟨rfl, hw2⟩
    exact ⟨_, rfl, fin hw2 (by unfold FS.done; rw [if_neg n0, if_neg n1, if_neg n2, if_neg n3, if_neg n4, if_neg n5, if_neg n6, if_pos hk])⟩
  have n7 : o.kind ≠ 7 := by simpa using hk
  refine ⟨fun hk => ?_, fun hk => ?_⟩
  · have hk : o.kind = 8 := by simpa using hk
    refine (start_ok h1).mono ?_
    rintro e w2 ⟨rfl, hw2⟩
    exact ⟨_, rfl, fin hw2 (by unfold FS.done; rw [if_neg n0, if_neg n1, if_neg n2, if_neg n3, if_neg n4, if_neg n5, if_neg n6, if_neg n7, if_pos hk])⟩
  have n8 : o.kind ≠ 8 := by simpa using hk
  exact fin (t := (s, 0)) (Went.refl h1) (by unfold FS.done; rw [if_neg n0, if_neg n1, if_neg n2, if_neg n3, if_neg n4, if_neg n5, if_neg n6, if_neg n7, if_neg n8])
end Go.Proofs.Ytcljmlgbmjjldaa.Fs
