/- The file system: Sync, Append, SyncDir, Create, Rename, Remove, Fail. -/
import Derived.Test.YtcljmlgbmjjldaaSimfs7
namespace Go.Proofs.Ytcljmlgbmjjldaa.Fs
open Go Go.VC Go.RowKit Go.Proofs.Ytcljmlgbmjjldaa.F
set_option linter.unusedVariables false
set_option linter.unusedSimpArgs false
theorem fall_files {s : FS} : s.fall.files.map (·.g) = s.files.map (·.g) := fall_gs _ _
theorem step_cases (s : FS) : (s.step.2.1 = 203 ∧ s.step.1 = ({ s with steps := s.steps + 1 } : FS).fall) ∨ (s.step.2.1 = 200 ∧ s.step.1 = { s with steps := s.steps + 1, fails := IM.del (s.steps + 1) s.fails }) ∨
    (s.step.2.1 = 0 ∧ s.step.1 = { s with steps := s.steps + 1 }) := by
  unfold FS.step
  split
  · exact .inl ⟨rfl, rfl⟩
  · split
    · exact .inr (.inl ⟨rfl, rfl⟩)
    · exact .inr (.inr ⟨rfl, rfl⟩)
theorem step_zero {s : FS} (h : s.step.2.1 = 0) : s.step.1 = { s with steps := s.steps + 1 } := by
  rcases step_cases s with ⟨h1, _⟩ | ⟨h1, _⟩ | ⟨_, h1⟩
  · rw [h] at h1; cases h1
  · rw [h] at h1; cases h1
  · exact h1
theorem step_files {s : FS} (h : s.step.2.1 ≠ 203) : s.step.1.files = s.files ∧ s.step.1.now = s.now ∧ s.step.1.safe = s.safe ∧ s.step.1.ch = s.ch := by
  rcases step_cases s with ⟨h1, _⟩ | ⟨_, h1⟩ | ⟨_, h1⟩
  · exact absurd h1 h
  · rw [h1]; exact ⟨rfl, rfl, rfl, rfl⟩
  · rw [h1]; exact ⟨rfl, rfl, rfl, rfl⟩
def FS.sync (s : FS) (name : Str) : FS × Int :=
  if looks s true [name] ≠ 0 then (s, looks s true [name])
  else if s.step.2.1 ≠ 0 then (s.step.1, s.step.2.1)
  else ({ s.step.1 with files := setF (s.of s.now name).g (fun f => { f with safe := (s.of s.now name).data.size }) s.step.1.files }, 0)
def FS.append (s : FS) (name data : Str) : FS × Int :=
  if looks s true [name] ≠ 0 then (s, looks s true [name])
  else if (data.size : Int) > 1073741824 - (s.of s.now name).data.size then (s, 2)
  else if s.step.2.1 = 203 then (s.step.1, 203)
  else ({ s.step.1 with files := setF (s.of s.now name).g (fun f => { f with data := (s.of s.now name).data ++ (if s.step.2.1 = 200 then data.extract 0 (min s.step.2.2.toNat data.size) else data) }) s.step.1.files }, s.step.2.1)
def FS.syncDir (s : FS) : FS × Int :=
  if s.down then (s, 203)
  else if s.step.2.1 ≠ 0 then (s.step.1, s.step.2.1)
  else ({ s.step.1 with safe := s.step.1.now, ch := [] }, 0)
def FS.create (s : FS) (name : Str) (x : Nat) : FS × Int :=
  if looks s false [name] ≠ 0 then (s, looks s false [name])
  else if (kget name s.now).isNone ∧ 64 ≤ s.now.length then (s, 3)
  else if s.step.2.1 ≠ 0 then (s.step.1, s.step.2.1)
  else (({ s.step.1 with files := s.step.1.files ++ [⟨x, ByteArray.empty, 0⟩] } : FS).change (.cre name x), 0)
def FS.rename (s : FS) (name to : Str) : FS × Int :=
  if looks s true [name, to] ≠ 0 then (s, looks s true [name, to])
  else if s.step.2.1 ≠ 0 then (s.step.1, s.step.2.1)
  else (s.step.1.change (.ren name to), 0)
def FS.remove (s : FS) (name : Str) : FS × Int :=
  if looks s true [name] ≠ 0 then (s, looks s true [name])
  else if s.step.2.1 ≠ 0 then (s.step.1, s.step.2.1)
  else (s.step.1.change (.rem name), 0)
def FS.fail (s : FS) (n part : Int) : FS × Int :=
  if s.down then (s, 203) else if n < 1 ∨ n > 1099511627776 then (s, 1) else ({ s with fails := IM.upd (s.steps + n) (.agg #[.int .i64 part]) s.fails }, 0)
theorem byteCells_app (a b : Str) : byteCells (a ++ b) = byteCells a ++ byteCells b := by simp [byteCells]
section
variable {w : World} {g : Nat} {s : FS} {F K : Nat → Prop} {n : Nat}
/-- where a name stands for a file -/
theorem there (hw : WF s n) {name : Str} (h : (kget name s.now).isSome) : ∃ f ∈ s.files, kget name s.now = some (fp f.g) ∧ s.of s.now name = f := by
  cases hk : kget name s.now with
  | none => rw [hk] at h; cases h
  | some v =>
    obtain ⟨f, hf, rfl⟩ := hw.nowOk.get hk
    exact ⟨f, hf, rfl, of_of hw.nd hf hk⟩
theorem went2 {F' K' F'' K'' : Nat → Prop} {wa w4 w5 : World} {s5 : FS} (hc0 : Chg (fun _ => False) w wa) (k2 : ∀ b, F' b → F b ∨ wa.heap.size ≤ b) (k3 : ∀ b, K' b → K b ∨ wa.heap.size ≤ b) (k4 : Chg F wa w4)
    (h : FSAt w5 g s5 F'' K'') (hF : ∀ b, F'' b → F' b ∨ wa.heap.size ≤ b) (hK : ∀ b, K'' b → K' b ∨ w.heap.size ≤ b) (hc : Chg F' w4 w5) : Went w w5 g s5 F K := by
  refine ⟨F'', K'', h, fun b hb => ?_, fun b hb => ?_, ?_⟩
  · rcases hF b hb with hb | hb
    · exact (k2 b hb).imp id (Nat.le_trans hc0.size)
    · exact .inr (Nat.le_trans hc0.size hb)
  · rcases hK b hb with hb | hb
    · exact (k3 b hb).imp id (Nat.le_trans hc0.size)
    · exact .inr hb
  · exact ((hc0.mono fun _ h => h.elim).trans' k4).trans hc fun b hb => (k2 b hb).imp id (Nat.le_trans hc0.size)
theorem sync_ok (h : FSAt w g s F K) (hw : WF s n) (hn : n + 1 < big) {name : Str} (hs : name.size < 9223372036854775808) :
    Calls Try.prog 50 #[.pointer (some ⟨g, 0, none⟩), .string name] w fun e w' => e = .returned (.int .i64 (s.sync name).2) ∧ Went w w' g (s.sync name).1 F K := by
  refine v50 _ _ _ _ ?_
  unfold V50
  intro G w1 hG hw1
  have c1 : Chg (fun _ => False) w w1 := by subst hw1; exact Chg.alloc _ _ _
  have hb : w1.heap[G]? = some (.cells (strs [name]).toArray 9 (0, 0)) := by subst hG; subst hw1; exact new_blk _ _
  have h1 := h.chg0 c1
  refine (looks_ok h1 hw (rd_new1 hb) (by simp) (by simp) (fun x hx => by rw [List.mem_singleton.1 hx]; exact hs) true).mono ?_
  rintro e w2 ⟨rfl, d2⟩
  have c2 := c1.drawn d2
  refine ⟨_, rfl, fun hne => ?_, fun he => ?_⟩
  · have hne : looks s true [name] ≠ 0 := by simpa using hne
    unfold FS.sync; rw [if_pos hne]
    exact ⟨rfl, (Went.refl (h.chg0 c2)).pre c2⟩
  have he : looks s true [name] = 0 := by simpa using he
  obtain ⟨_, _, _, u, hu⟩ := looks_there he
  obtain ⟨f, hf, hk, hof⟩ := there hw (by rw [hu]; rfl)
  obtain ⟨vf, vc, vp, r1, r2, r3, hcell, hm, _⟩ := cells_of (h.chg0 c2)
  simp only [add_mk, Nat.reduceAdd]
  refine ⟨some r1, cell_blk hcell rfl, some ⟨f.g, 0, none⟩, w2, by rw [run_lookup1 Try.underlying126 Try.underlying9 infoP.1 infoP.2.1 hm, hk]; rfl, (step_ok (h.chg0 c2) hw hn).mono ?_⟩
  rintro e w4 ⟨rfl, hw4⟩
  refine ⟨_, _, rfl, fun hne => ?_, fun h0 => ?_⟩
  · have hne : s.step.2.1 ≠ 0 := by simpa using hne
    unfold FS.sync; rw [if_neg (by rw [he]; exact fun h => h rfl), if_pos hne]
    exact ⟨rfl, hw4.pre c2⟩
  have h0 : s.step.2.1 = 0 := by simpa using h0
  unfold FS.sync; rw [if_neg (by rw [he]; exact fun h => h rfl), if_neg (by rw [h0]; exact fun h => h rfl), hof]
  obtain ⟨F', K', k1, k2, k3, k4⟩ := hw4.ex
  obtain ⟨vf, vc, vp, r1, r2, r3, dv, cvs, k⟩ := k1.ex
  have hsf := (step_files (s := s) (by rw [h0]; decide)).1
  have hf' : f ∈ s.step.1.files := by rw [hsf]; exact hf
  obtain ⟨A, c, hA⟩ := (k.data f hf').slice
  have hfb := k.fblk f hf'
  have hfb' := hfb
  rw [hA] at hfb'
  refine ⟨A, _, c, cell_blk hfb' rfl, ?_⟩
  refine ⟨⟨_, by rw [add_mk]; exact cell_blk hfb rfl⟩, by rw [add_mk]; exact frozen_blk hfb, fun w5 hw5 => ?_⟩
  rw [add_mk, Nat.zero_add] at hw5
  obtain ⟨k5, c5⟩ := k.putSure hw.step.nd hf' hw5
  exact ⟨rfl, went2 c2 k2 k3 k4 ⟨_, _, _, _, _, _, _, _, k5⟩ (fun b => .inl) (fun b => .inl) c5⟩
theorem append_ok (h : FSAt w g s F K) (hw : WF s n) (hn : n + 1 < big) {name data : Str} (hs : name.size < 9223372036854775808) (hd : data.size < 9223372036854775808) :
    Calls Try.prog 79 #[.pointer (some ⟨g, 0, none⟩), .string name, .string data] w fun e w' => e = .returned (.int .i64 (s.append name data).2) ∧ Went w w' g (s.append name data).1 F K := by
  refine v79 _ _ _ _ _ ?_
  unfold V79
  intro G w1 hG hw1
  have c1 : Chg (fun _ => False) w w1 := by subst hw1; exact Chg.alloc _ _ _
  have hb : w1.heap[G]? = some (.cells (strs [name]).toArray 9 (0, 0)) := by subst hG; subst hw1; exact new_blk _ _
  have h1 := h.chg0 c1
  refine (looks_ok h1 hw (rd_new1 hb) (by simp) (by simp) (fun x hx => by rw [List.mem_singleton.1 hx]; exact hs) true).mono ?_
  rintro e w2 ⟨rfl, d2⟩
  have c2 := c1.drawn d2
  refine ⟨_, rfl, fun hne => ?_, fun he => ?_⟩
  · have hne : looks s true [name] ≠ 0 := by simpa using hne
    unfold FS.append; rw [if_pos hne]
    exact ⟨rfl, (Went.refl (h.chg0 c2)).pre c2⟩
  have he : looks s true [name] = 0 := by simpa using he
  obtain ⟨_, _, _, u, hu⟩ := looks_there he
  obtain ⟨f, hf, hk, hof⟩ := there hw (by rw [hu]; rfl)
  obtain ⟨vf0, vc0, vp0, r10, r20, r30, dv0, cvs0, k0⟩ := (h.chg0 c2).ex
  obtain ⟨A0, c0, hA0⟩ := (k0.data f hf).slice
  have hfb0 := k0.fblk f hf
  rw [hA0] at hfb0
  have hfit := (hw.fit f hf).2
  simp only [add_mk, Nat.reduceAdd]
  refine ⟨some r10, cell_blk k0.blk rfl, some ⟨f.g, 0, none⟩, w2, by rw [run_lookup1 Try.underlying126 Try.underlying9 infoP.1 infoP.2.1 k0.now, hk]; rfl, ?_⟩
  refine ⟨A0, _, c0, cell_blk hfb0 rfl, ?_⟩
  rw [w64 (by omega) (by omega)]
  unfold FS.append; rw [if_neg (by rw [he]; exact fun h => h rfl), hof]
  refine ⟨fun hlong => ?_, fun hlong => ?_⟩
  · rw [if_pos (of_decide_eq_true hlong)]
    exact ⟨rfl, (Went.refl (h.chg0 c2)).pre c2⟩
  have hlong' := of_decide_eq_false hlong
  rw [if_neg hlong']
  refine (step_ok (h.chg0 c2) hw hn).mono ?_
  rintro e w4 ⟨rfl, hw4⟩
  refine ⟨_, _, rfl, fun h203 => ?_, fun h203 => ?_⟩
  · have h203 : s.step.2.1 = 203 := by simpa using h203
    rw [if_pos h203]
    exact ⟨by rw [h203], hw4.pre c2⟩
  have h203 : s.step.2.1 ≠ 203 := by simpa using h203
  rw [if_neg h203]
  obtain ⟨F', K', k1, k2, k3, k4⟩ := hw4.ex
  obtain ⟨vf, vc, vp, r1, r2, r3, dv, cvs, k⟩ := k1.ex
  have hsf := (step_files (s := s) h203).1
  have hf' : f ∈ s.step.1.files := by rw [hsf]; exact hf
  have hdat := k.data f hf'
  obtain ⟨A, c, hA⟩ := hdat.slice
  have hfb := k.fblk f hf'
  rw [hA] at hdat hfb
  have key : ∀ d : Str, d.size ≤ data.size → V79_k1 d (some ⟨f.g, 0, none⟩) s.step.2.1 w4 (fun e w' => e = .returned (.int .i64 s.step.2.1) ∧ Went w w' g { s.step.1 with files := setF f.g (fun x => { x with data := f.data ++ d }) s.step.1.files } F K) := by
    intro d hds
    refine ⟨A, _, c, cell_blk hfb rfl, ?_⟩
    obtain ⟨A', c', w7, hr, ho, hc, hnew⟩ := Own.appendS (P := Try.prog) (t := 138) (tx := 9) (ty := 138) Try.underlying138 infoB.1 infoB.2.1 infoB.2.2.1 rfl hdat (Src.ofString w4 Try.underlying9 d) (by rw [infoB.2.2.2]; omega) (by omega) #[false, false]
    refine ⟨A', _, c', w7, hr, ?_⟩
    have hfb7 : w7.heap[f.g]? = _ := k.kfblk hc (fun b hb => tag_own hdat hb) (by decide) f hf'
    refine ⟨⟨_, cell_blk hfb7 rfl⟩, frozen_blk hfb7, fun w8 hw8 => ⟨rfl, ?_⟩⟩
    have ho' : Own w7 tB (.slice A' (f.data.size + d.size) c') (f.data ++ d).size (byteCells (f.data ++ d)) := by
      rw [ByteArray.size_append, byteCells_app]; exact ho
    obtain ⟨k8, c8⟩ := k.putData hw.step.nd hf' (by rw [hA]; exact hc) ho' (by rw [hA]; exact hnew) hw8
    refine went2 c2 k2 k3 k4 ⟨_, _, _, _, _, _, _, _, k8⟩ (fun b hb => hb.elim .inl fun hb => ?_) (fun b => .inl) c8
    rcases hnew b hb with h1 | h1
    · exact .inl (k.Fd f hf' b (by rw [hA]; exact h1))
    · exact .inr (Nat.le_trans k4.size h1)
  refine ⟨fun h200 => ?_, fun h200 => ?_⟩
  · have h200 : s.step.2.1 = 200 := by simpa using h200
    have hp0 : 0 ≤ s.step.2.2 := by
      unfold FS.step
      split
      · exact Int.le_refl _
      · split
        · simp only; split <;> omega
        · exact Int.le_refl _
    have hmin : Int.toNat (if ((data.size : Nat) : Int) < s.step.2.2 then ((data.size : Nat) : Int) else s.step.2.2) = min s.step.2.2.toNat data.size := by split <;> omega
    refine ⟨by split <;> omega, by split <;> omega, ?_⟩
    rw [hmin, if_pos h200]
    exact key _ (by rw [ByteArray.size_extract]; omega)
  · have h200 : s.step.2.1 ≠ 200 := by simpa using h200
    rw [if_neg h200]
    exact key _ (Nat.le_refl _)
theorem syncDir_ok (h : FSAt w g s F K) (hw : WF s n) (hn : n + 1 < big) :
    Calls Try.prog 51 #[.pointer (some ⟨g, 0, none⟩)] w fun e w' => e = .returned (.int .i64 s.syncDir.2) ∧ Went w w' g s.syncDir.1 F K := by
  refine v51 _ _ _ ?_
  unfold V51
  obtain ⟨vf0, vc0, vp0, r10, r20, r30, hcell0, _, _⟩ := cells_of h
  simp only [add_mk, Nat.reduceAdd]
  refine ⟨s.down, cell_blk hcell0 rfl, fun hd => ?_, fun hd => ?_⟩
  · unfold FS.syncDir; rw [if_pos hd]
    exact ⟨rfl, Went.refl h⟩
  refine (step_ok h hw hn).mono ?_
  rintro e w1 ⟨rfl, hw1⟩
  unfold FS.syncDir; rw [if_neg (by rw [hd]; decide)]
  refine ⟨_, _, rfl, fun hne => ?_, fun h0 => ?_⟩
  · have hne : s.step.2.1 ≠ 0 := by simpa using hne
    rw [if_pos hne]; exact ⟨rfl, hw1⟩
  have h0 : s.step.2.1 = 0 := by simpa using h0
  rw [if_neg (by rw [h0]; exact fun h => h rfl)]
  obtain ⟨F', K', k1, k2, k3, k4⟩ := hw1.ex
  obtain ⟨vf, vc, vp, r1, r2, r3, dv, cvs, k⟩ := k1.ex
  refine ⟨some r1, cell_blk k.blk rfl, (mclone_ok k.now).mono ?_⟩
  rintro e w2 ⟨rfl, hm2, c2⟩
  have kk := k.chg c2 (fun _ h => h.elim) fun _ h => h.elim
  refine ⟨_, rfl, ⟨_, cell_blk kk.blk rfl⟩, frozen_blk kk.blk, fun w3 hw3 => ?_⟩
  have hc3 := (store_blk kk.blk hw3).2
  have kk3 := kk.newSafe hm2 (fun hb => by have := k.flt _ hb; omega) (fun hb => by have := k.klt _ hb; omega) hw3
  refine ⟨⟨_, cell_blk kk3.blk rfl⟩, frozen_blk kk3.blk, fun w4 hw4 => ⟨rfl, ?_⟩⟩
  have hc4 := (store_blk kk3.blk hw4).2
  have kk4 := kk3.noCh hw4
  refine went2 (Chg.refl _ w) k2 k3 k4 ⟨_, _, _, _, _, _, _, _, kk4⟩ (fun b hb => hb.elim .inl fun e => .inr (by rw [e]; exact k4.size)) (fun b => .inl) ?_
  exact ((c2.mono fun _ h => h.elim).trans hc3 fun b e => .inl (e ▸ k.Fg)).trans hc4 fun b e => .inl (e ▸ k.Fg)
theorem fail_ok (h : FSAt w g s F K) (hw : WF s n) (hn : n < big) (m part : Int) :
    Calls Try.prog 84 #[.pointer (some ⟨g, 0, none⟩), .int .i64 m, .int .i64 part] w fun e w' => e = .returned (.int .i64 (s.fail m part).2) ∧ Went w w' g (s.fail m part).1 F K := by
  refine v84 _ _ _ _ _ ?_
  unfold V84
  obtain ⟨vf, vc, vp, r1, r2, r3, dv, cvs, k⟩ := h.ex
  have hn' : n < 1099511627776 := hn
  have hst0 := hw.st0
  have hst1 := hw.st1
  simp only [add_mk, Nat.reduceAdd]
  have key : ∀ b : Bool, b = decide (m < 1 ∨ m > 1099511627776) → s.down = false → V84_k1 ⟨g, 0, none⟩ m part b w (fun e w' => e = .returned (.int .i64 (s.fail m part).2) ∧ Went w w' g (s.fail m part).1 F K) := by
    intro b hb hd
    unfold FS.fail; rw [if_neg (by rw [hd]; decide)]
    refine ⟨fun h1 => ?_, fun h1 => ?_⟩
    · rw [if_pos (of_decide_eq_true (hb.symm.trans h1))]
      exact ⟨rfl, Went.refl h⟩
    · have hm := of_decide_eq_false (hb.symm.trans h1)
      rw [if_neg hm]
      intro w2 d2
      have k2 := k.chg (d2.chg (fun _ => False)) (fun _ h => h.elim) fun _ h => h.elim
      simp only [add_mk, Nat.reduceAdd]
      refine ⟨some r3, cell_blk k2.blk rfl, s.steps, cell_blk k2.blk rfl, fun w3 d3 => ?_⟩
      have k3 := k2.chg (d3.chg (fun _ => False)) (fun _ h => h.elim) fun _ h => h.elim
      rw [w64 (by omega) (by omega)]
      obtain ⟨w4, hr4, hm4, c4⟩ := IM.run_mapUpdate (P := Try.prog) Try.underlying127 Try.underlying3 k3.fails (s.steps + m) (.agg #[.int .i64 part])
      refine ⟨w4, hr4, fun w5 d5 => ⟨trivial, ?_⟩⟩
      have k5 := (k3.putFails c4 hm4).chg (d5.chg (fun _ => False)) (fun _ h => h.elim) fun _ h => h.elim
      exact Went.of ⟨_, _, _, _, _, _, _, _, k5⟩ ((((d2.trans d3).chg F).trans c4 fun b e => .inl (e ▸ k.F3)).drawn d5)
  refine ⟨s.down, cell_blk k.blk rfl, fun hd => ?_, fun hd => ⟨fun h1 => ?_, fun h1 => ?_⟩⟩
  · unfold FS.fail; rw [if_pos hd]
    exact ⟨rfl, Went.refl h⟩
  · have h1 := of_decide_eq_false h1
    exact key _ (by by_cases h2 : m > 1099511627776 <;> simp [h1, h2]) hd
  · have h1 : m < 1 := of_decide_eq_true h1
    exact key _ (by simp [h1]) hd
theorem remove_ok (h : FSAt w g s F K) (hw : WF s n) (hn : n + 1 < big) {name : Str} (hs : name.size < 9223372036854775808) :
    Calls Try.prog 83 #[.pointer (some ⟨g, 0, none⟩), .string name] w fun e w' => e = .returned (.int .i64 (s.remove name).2) ∧ Went w w' g (s.remove name).1 F K := by
  refine v83 _ _ _ _ ?_
  unfold V83
  intro G w1 hG hw1
  have c1 : Chg (fun _ => False) w w1 := by subst hw1; exact Chg.alloc _ _ _
  have hb1 : w1.heap[G]? = some (.cells #[.string name] 9 (0, 0)) := by subst hG; subst hw1; exact new_blk _ _
  refine ⟨name, cell_blk hb1 rfl, fun G2 w2 hG2 hw2 => ?_⟩
  have c12 : Chg (fun _ => False) w1 w2 := by subst hw2; exact Chg.alloc _ _ _
  have hb : w2.heap[G2]? = some (.cells (strs [name]).toArray 9 (0, 0)) := by subst hG2; subst hw2; exact new_blk _ _
  have hbG := c12.blk hb1 id
  have c02 := c1.trans' c12
  have h2 := h.chg0 c02
  refine (looks_ok h2 hw (rd_new1 hb) (by simp) (by simp) (fun x hx => by rw [List.mem_singleton.1 hx]; exact hs) true).mono ?_
  rintro e w3 ⟨rfl, d3⟩
  have c3 := c02.drawn d3
  refine ⟨_, rfl, fun hne => ?_, fun he => ?_⟩
  · have hne : looks s true [name] ≠ 0 := by simpa using hne
    unfold FS.remove; rw [if_pos hne]
    exact ⟨rfl, (Went.refl (h.chg0 c3)).pre c3⟩
  have he : looks s true [name] = 0 := by simpa using he
  refine (step_ok (h.chg0 c3) hw hn).mono ?_
  rintro e w4 ⟨rfl, hw4⟩
  unfold FS.remove; rw [if_neg (by rw [he]; exact fun h => h rfl)]
  refine ⟨_, _, rfl, fun hne => ?_, fun h0 => ?_⟩
  · have hne : s.step.2.1 ≠ 0 := by simpa using hne
    rw [if_pos hne]; exact ⟨rfl, hw4.pre c3⟩
  have h0 : s.step.2.1 = 0 := by simpa using h0
  rw [if_neg (by rw [h0]; exact fun h => h rfl)]
  obtain ⟨F', K', k1, k2, k3, k4⟩ := hw4.ex
  have hGF : ¬ F G := fun hb => by have := h.flt hb; omega
  have hG0 : w.heap.size ≤ G := by omega
  have hG3 : G < w3.heap.size := by have := lt_blk hbG; have := (d3.chg (fun _ => False)).size; omega
  have hbG4 := k4.blk (d3.blk hbG) hGF
  refine (changed_ok (K' := fun b => K' b ∨ b = G) k1 hw.step (by omega) (fun b => .inl) (fun b hb hk => ?_) (fun b hb => hb.elim k1.klt fun e => e ▸ lt_blk hbG4) (c := .rem name) ⟨G, rfl, cell_blk hbG4 rfl, .inr rfl⟩).mono ?_
  · obtain ⟨_, _, _, _, _, _, _, _, kk⟩ := k1.ex
    rcases hk with hk | rfl
    · exact kk.fk b hb hk
    · rcases k2 b hb with h1 | h1
      · exact hGF h1
      · omega
  · rintro e w5 ⟨rfl, F'', k5, k6, k7⟩
    exact ⟨rfl, rfl, went2 c3 k2 k3 k4 k5 (fun b hb => (k6 b hb).imp id (Nat.le_trans k4.size)) (fun b hb => by
      rcases hb with hb | rfl
      · exact .inl hb
      · exact .inr hG0) k7⟩
theorem rename_ok (h : FSAt w g s F K) (hw : WF s n) (hn : n + 1 < big) {name to : Str} (hs : name.size < 9223372036854775808) (hs' : to.size < 9223372036854775808) :
    Calls Try.prog 82 #[.pointer (some ⟨g, 0, none⟩), .string name, .string to] w fun e w' => e = .returned (.int .i64 (s.rename name to).2) ∧ Went w w' g (s.rename name to).1 F K := by
  refine v82 _ _ _ _ _ ?_
  unfold V82
  intro G w1 hG hw1 G1 w1' hG1 hw1'
  have c1 : Chg (fun _ => False) w w1' := by subst hw1'; subst hw1; exact (Chg.alloc _ _ _).trans' (Chg.alloc _ _ _)
  have hb1 : w1'.heap[G]? = some (.cells #[.string name] 9 (0, 0)) := by subst hw1'; refine (Chg.alloc (fun _ => False) w1 _).blk ?_ id; subst hG; subst hw1; exact new_blk _ _
  have hb1' : w1'.heap[G1]? = some (.cells #[.string to] 9 (0, 0)) := by subst hG1; subst hw1'; exact new_blk _ _
  refine ⟨name, cell_blk hb1 rfl, to, cell_blk hb1' rfl, fun G2 w2 hG2 hw2 => ?_⟩
  have c12 : Chg (fun _ => False) w1' w2 := by subst hw2; exact Chg.alloc _ _ _
  have hb : w2.heap[G2]? = some (.cells (strs [name, to]).toArray 9 (0, 0)) := by subst hG2; subst hw2; exact new_blk _ _
  have hbG := c12.blk hb1 id
  have hbG1 := c12.blk hb1' id
  have c02 := c1.trans' c12
  have h2 := h.chg0 c02
  refine (looks_ok h2 hw (rd_new1 hb) (by simp) (by simp) (fun x hx => by
    rcases List.mem_cons.1 hx with rfl | hx
    · exact hs
    · rw [List.mem_singleton.1 hx]; exact hs') true).mono ?_
  rintro e w3 ⟨rfl, d3⟩
  have c3 := c02.drawn d3
  refine ⟨_, rfl, fun hne => ?_, fun he => ?_⟩
  · have hne : looks s true [name, to] ≠ 0 := by simpa using hne
    unfold FS.rename; rw [if_pos hne]
    exact ⟨rfl, (Went.refl (h.chg0 c3)).pre c3⟩
  have he : looks s true [name, to] = 0 := by simpa using he
  refine (step_ok (h.chg0 c3) hw hn).mono ?_
  rintro e w4 ⟨rfl, hw4⟩
  unfold FS.rename; rw [if_neg (by rw [he]; exact fun h => h rfl)]
  refine ⟨_, _, rfl, fun hne => ?_, fun h0 => ?_⟩
  · have hne : s.step.2.1 ≠ 0 := by simpa using hne
    rw [if_pos hne]; exact ⟨rfl, hw4.pre c3⟩
  have h0 : s.step.2.1 = 0 := by simpa using h0
  rw [if_neg (by rw [h0]; exact fun h => h rfl)]
  obtain ⟨F', K', k1, k2, k3, k4⟩ := hw4.ex
  have hG0 : w.heap.size ≤ G := by omega
  have hG10 : w.heap.size ≤ G1 := by subst hG1; subst hw1; simp
  have hGF : ¬ F G := fun hb => by have := h.flt hb; omega
  have hG1F : ¬ F G1 := fun hb => by have := h.flt hb; omega
  have hsz := (d3.chg (fun _ => False)).size
  have hG3 : G < w3.heap.size := by have := lt_blk hbG; omega
  have hG13 : G1 < w3.heap.size := by have := lt_blk hbG1; omega
  have hbG4 := k4.blk (d3.blk hbG) hGF
  have hbG14 := k4.blk (d3.blk hbG1) hG1F
  refine (changed_ok (K' := fun b => K' b ∨ b = G ∨ b = G1) k1 hw.step (by omega) (fun b => .inl) (fun b hb hk => ?_) (fun b hb => by
      rcases hb with hb | rfl | rfl
      · exact k1.klt hb
      · exact lt_blk hbG4
      · exact lt_blk hbG14) (c := .ren name to)
    ⟨G, G1, rfl, cell_blk hbG4 rfl, cell_blk hbG14 rfl, .inr (.inl rfl), .inr (.inr rfl)⟩).mono ?_
  · obtain ⟨_, _, _, _, _, _, _, _, kk⟩ := k1.ex
    rcases hk with hk | rfl | rfl
    · exact kk.fk b hb hk
    · rcases k2 b hb with h1 | h1
      · exact hGF h1
      · omega
    · rcases k2 b hb with h1 | h1
      · exact hG1F h1
      · omega
  · rintro e w5 ⟨rfl, F'', k5, k6, k7⟩
    exact ⟨rfl, rfl, went2 c3 k2 k3 k4 k5 (fun b hb => (k6 b hb).imp id (Nat.le_trans k4.size)) (fun b hb => by
      rcases hb with hb | rfl | rfl
      · exact .inl hb
      · exact .inr hG0
      · exact .inr hG10) k7⟩
end
end Go.Proofs.Ytcljmlgbmjjldaa.Fs
