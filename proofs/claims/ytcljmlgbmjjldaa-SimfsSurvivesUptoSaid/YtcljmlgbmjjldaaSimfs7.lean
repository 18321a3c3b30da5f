/- The file system: a step; a change of the directory. -/
import Derived.Test.YtcljmlgbmjjldaaSimfs6
namespace Go.Proofs.Ytcljmlgbmjjldaa.Fs
open Go Go.VC Go.RowKit Go.Proofs.Ytcljmlgbmjjldaa.F
set_option linter.unusedVariables false
set_option linter.unusedSimpArgs false
noncomputable def infPl : TypeInfo := (Try.prog.info? 147).getD default
theorem infoPl : Try.prog.info? 147 = some infPl ∧ infPl.zero = some (.agg #[.int .i64 0]) := ⟨by kernel_rfl, by kernel_rfl⟩
def intOf : Value → Int
  | .int _ p => p
  | _ => 0
def partOf : Value → Int
  | .agg cs => (cs[0]?).elim 0 intOf
  | _ => 0
def FS.step (s : FS) : FS × Int × Int :=
  if s.crash = s.steps + 1 then ({ s with steps := s.steps + 1 } : FS).fall |> fun t => (t, 203, 0)
  else match IM.kget (s.steps + 1) s.fails with
    | some v => ({ s with steps := s.steps + 1, fails := IM.del (s.steps + 1) s.fails }, 200, if partOf v > 0 then partOf v else 0)
    | none => ({ s with steps := s.steps + 1 }, 0, 0)
theorem imkget_mem {k : Int} {v : Value} : ∀ {m : IM.Kvs}, IM.kget k m = some v → (k, v) ∈ m
  | [], h => by simp [IM.kget] at h
  | p :: m, h => by
    simp only [IM.kget] at h
    split at h
    · rename_i e; injection h with h; subst h; subst e; exact List.mem_cons_self ..
    · exact List.mem_cons_of_mem _ (imkget_mem h)

/-! ### What stays well formed -/
theorem DirOk.mono {files files' : List Fl} {n m : Nat} {d : Kvs} (h : DirOk files n d) (hm : n ≤ m) (hf : ∀ f ∈ files, ∃ f' ∈ files', f'.g = f.g) : DirOk files' m d :=
  ⟨h.nd, Nat.le_trans h.few hm, fun p hp => by
    obtain ⟨h1, f, h2, h3⟩ := h.ok p hp
    obtain ⟨f', h4, h5⟩ := hf f h2
    exact ⟨h1, f', h4, by rw [h3, h5]⟩⟩
theorem gs_mem {l l' : List Fl} (h : l'.map (·.g) = l.map (·.g)) : ∀ f ∈ l, ∃ f' ∈ l', f'.g = f.g := fun f hf => by
  have : f.g ∈ l'.map (·.g) := by rw [h]; exact List.mem_map_of_mem (f := (·.g)) hf
  obtain ⟨f', h1, h2⟩ := List.mem_map.1 this
  exact ⟨f', h1, h2⟩
theorem WF.mono {s : FS} {n m : Nat} (h : WF s n) (hm : n ≤ m) : WF s m :=
  { h with few := Nat.le_trans h.few hm, dirs := fun k hk => (h.dirs k hk).mono hm fun f hf => ⟨f, hf, rfl⟩, chl := Nat.le_trans h.chl hm, st1 := by have := h.st1; omega, cr1 := by have := h.cr1; omega }
theorem WF.tick {s : FS} {n : Nat} (h : WF s n) : WF { s with steps := s.steps + 1 } (n + 1) :=
  { h.mono (Nat.le_succ n) with st0 := by have := h.st0; show 0 ≤ s.steps + 1; omega, st1 := by have := h.st1; show s.steps + 1 ≤ _; omega, dirs := (h.mono (Nat.le_succ n)).dirs, now := h.now }
theorem WF.files {s : FS} {n : Nat} (h : WF s n) {l : List Fl} (hg : l.map (·.g) = s.files.map (·.g)) (hf : ∀ f ∈ l, f.safe ≤ f.data.size ∧ f.data.size ≤ 1073741824) : WF { s with files := l } n := by
  have hl : l.length = s.files.length := by have := congrArg List.length hg; simpa using this
  exact { h with nd := by show (l.map _).Nodup; rw [hg]; exact h.nd, few := by show l.length ≤ n; rw [hl]; exact h.few, dirs := fun k hk => (h.dirs k hk).mono (Nat.le_refl _) (gs_mem hg), fit := hf, now := h.now }
theorem fallF_fit {picks : List Int} {j : Nat} {f : Fl} (h : f.safe ≤ f.data.size ∧ f.data.size ≤ 1073741824) : (fallF picks j f).safe ≤ (fallF picks j f).data.size ∧ (fallF picks j f).data.size ≤ 1073741824 := by
  have := pick_le picks (j + 1) (f.data.size - f.safe)
  unfold fallF
  simp only
  rw [size_take _ (by omega)]; omega
theorem WF.fall {s : FS} {n : Nat} (h : WF s n) : WF s.fall n := by
  have hf : ∀ f ∈ s.files.mapIdx (fallF s.picks), f.safe ≤ f.data.size ∧ f.data.size ≤ 1073741824 := fun f hf => by
    obtain ⟨i, hi, rfl⟩ := List.mem_mapIdx.1 hf
    exact fallF_fit (h.fit _ (List.getElem_mem hi))
  have h1 := h.files (fall_gs s.picks s.files) hf
  have hd := (h.dirs (pick s.picks 0 s.ch.length) (pick_le _ _ _)).mono (Nat.le_refl _) (gs_mem (fall_gs s.picks s.files))
  exact { nd := h1.nd, few := h1.few, dirs := fun k hk => by show DirOk _ n (List.foldl Ch.on _ (List.take k [])); rw [List.take_nil]; exact hd, now := rfl, chl := Nat.zero_le _, fit := hf, st0 := h.st0, st1 := h.st1, cr0 := Int.le_refl _,
          cr1 := by show (0 : Int) ≤ _; omega, fnd := List.nodup_nil, fok := fun p hp => (by cases hp) }
theorem WF.step {s : FS} {n : Nat} (h : WF s n) : WF s.step.1 (n + 1) := by
  unfold FS.step
  split
  · exact h.tick.fall
  · split
    · exact { h.tick with fnd := IM.del_nodup h.fnd, fok := fun p hp => h.fok p (IM.del_sub.mem hp), dirs := h.tick.dirs, now := h.now }
    · exact h.tick
def FS.change (s : FS) (c : Ch) : FS := { s with now := c.on s.now, ch := s.ch ++ [c] }
theorem WF.change {s : FS} {n m : Nat} (h : WF s n) {c : Ch} (hm : n < m) (hd : DirOk s.files m (c.on s.now)) : WF (s.change c) m := by
  have h1 := h.mono (Nat.le_of_lt hm)
  have hk : ∀ k, k ≤ s.ch.length → dirAt (s.change c) k = dirAt s k := fun k hk => by
    unfold dirAt FS.change
    show List.foldl _ _ (List.take k (s.ch ++ [c])) = _
    rw [List.take_append_of_le_length hk]
  have hl : dirAt (s.change c) (s.ch.length + 1) = c.on s.now := by
    rw [dirAt_succ (s := s.change c) (t := s.ch.length) (c := c) (by show (s.ch ++ [c])[s.ch.length]? = _; simp), hk _ (Nat.le_refl _), h.now]
  have hlen : (s.change c).ch.length = s.ch.length + 1 := by unfold FS.change; simp
  exact { nd := h1.nd, few := h1.few, fit := h1.fit, st0 := h1.st0, st1 := h1.st1, cr0 := h1.cr0, cr1 := h1.cr1, fnd := h1.fnd, fok := h1.fok,
          dirs := fun k hle => by
            rw [hlen] at hle
            rcases Nat.lt_or_ge s.ch.length k with h2 | h2
            · rw [show k = s.ch.length + 1 by omega, hl]; exact hd
            · rw [hk k h2]; exact h1.dirs k h2
          now := by rw [hlen, hl]; rfl
          chl := by rw [hlen]; have := h.chl; omega }
theorem WF.addFile {s : FS} {n : Nat} (h : WF s n) {x : Nat} (hx : ∀ f ∈ s.files, f.g ≠ x) : WF { s with files := s.files ++ [⟨x, ByteArray.empty, 0⟩] } (n + 1) := by
  have h1 := h.mono (Nat.le_succ n)
  exact { h1 with
    nd := by
      show ((s.files ++ _).map _).Nodup
      rw [List.map_append, List.nodup_append]
      refine ⟨h.nd, by simp, fun a ha b hb e => ?_⟩
      obtain ⟨f, hf, rfl⟩ := List.mem_map.1 ha
      simp at hb
      exact hx f hf (e.trans hb)
    few := by show (s.files ++ _).length ≤ _; rw [List.length_append]; have := h.few; simp; omega
    dirs := fun k hk => (h1.dirs k hk).mono (Nat.le_refl _) fun f hf => ⟨f, List.mem_append_left _ hf, rfl⟩
    now := h.now
    fit := fun f hf => by
      rcases List.mem_append.1 hf with hf | hf
      · exact h.fit f hf
      · rw [List.mem_singleton.1 hf]; exact ⟨Nat.le_refl _, by show (0 : Nat) ≤ _; omega⟩ }

section
variable {w : World} {g : Nat} {s : FS} {F K : Nat → Prop} {n : Nat}
theorem Went.after {w1 w' : World} {s' : FS} (h : Went w1 w' g s' F K) (hc : Chg F w w1) : Went w w' g s' F K := by
  obtain ⟨F', K', h1, h2, h3, h4⟩ := h.ex
  exact ⟨F', K', h1, fun b hb => (h2 b hb).imp id (Nat.le_trans hc.size), fun b hb => (h3 b hb).imp id (Nat.le_trans hc.size), hc.trans' h4⟩
theorem step_ok (h : FSAt w g s F K) (hw : WF s n) (hn : n + 1 < big) :
    Calls Try.prog 94 #[.pointer (some ⟨g, 0, none⟩)] w fun e w' => e = .returned (.tuple #[.int .i64 s.step.2.1, .int .i64 s.step.2.2]) ∧ Went w w' g s.step.1 F K := by
  obtain ⟨vf, vc, vp, r1, r2, r3, dv, cvs, k⟩ := h.ex
  have hn' : n + 1 < 1099511627776 := hn
  have hst0 := hw.st0
  have hst1 := hw.st1
  refine v94 _ _ _ ?_
  unfold V94
  simp only [add_mk, Nat.reduceAdd]
  refine ⟨s.steps, cell_blk k.blk rfl, ⟨_, cell_blk k.blk rfl⟩, frozen_blk k.blk, fun w1 hw1 w2 d2 => ?_⟩
  rw [w64 (by omega) (by omega)] at hw1
  obtain ⟨b1, c1⟩ := store_blk k.blk hw1
  have k1 := k.scal c1 (d := s.down) (n := s.steps + 1) (c := s.crash) b1
  have k2 := k1.chg (d2.chg (fun _ => False)) (fun _ h => h.elim) fun _ h => h.elim
  have c2 : Chg F w w2 := (c1.mono fun b e => e ▸ k.Fg).drawn d2
  refine ⟨s.crash, cell_blk k2.blk rfl, s.steps + 1, cell_blk k2.blk rfl, fun w3 d3 => ⟨fun he => ?_, fun he => ?_⟩⟩
  · have he : s.crash = s.steps + 1 := by simpa using he
    have k3 := k2.chg (d3.chg (fun _ => False)) (fun _ h => h.elim) fun _ h => h.elim
    refine (fall_ok (s := { s with steps := s.steps + 1 }) ⟨_, _, _, _, _, _, _, _, k3⟩ hw.tick hn).mono ?_
    rintro e w4 ⟨rfl, hw4⟩
    unfold FS.step; rw [if_pos he]
    exact ⟨rfl, rfl, hw4.after (c2.drawn d3)⟩
  · have he : s.crash ≠ s.steps + 1 := by simpa using he
    intro w5 d5
    have d35 := d3.trans d5
    have k5 := k2.chg (d35.chg (fun _ => False)) (fun _ h => h.elim) fun _ h => h.elim
    have hlook : ∀ w0, Ext w5 w0 → (Instr.lookup 127 (.map (some r3)) (.int .i64 (s.steps + 1)) true).run Try.prog w0 = .ok (.tuple #[(IM.kget (s.steps + 1) s.fails).getD (.agg #[.int .i64 0]), .bool (IM.kget (s.steps + 1) s.fails).isSome]) w0 := fun w0 hx => by
      obtain ⟨es, clk, h1, hst, h2⟩ := k5.fails.ex
      have : IM.MapAt w0 r3 s.fails := ⟨es, clk, by rw [hx.2 r3 (lt_blk h1)]; exact h1, hst, h2⟩
      exact IM.run_lookup2 Try.underlying127 Try.underlying3 infoPl.1 infoPl.2 this _
    obtain ⟨p, hp⟩ : ∃ p : Int, (IM.kget (s.steps + 1) s.fails).getD (.agg #[.int .i64 0]) = .agg #[.int .i64 p] := by
      cases hk : IM.kget (s.steps + 1) s.fails with
      | none => exact ⟨0, rfl⟩
      | some v => obtain ⟨p, hp⟩ := hw.fok _ (imkget_mem hk); exact ⟨p, hp⟩
    refine ⟨some r3, cell_blk k5.blk rfl, s.steps + 1, cell_blk k5.blk rfl, p, _, fun w0 hx => by rw [hlook w0 hx, hp], fun w6 d6 G w7 hG hw7 => ?_⟩
    have c7 : Chg (fun _ => False) w5 w7 := by subst hw7; exact (d6.chg _).trans' (Chg.alloc _ _ _)
    have b7 : w7.heap[G]? = some (.cells #[.int .i64 0] 147 (0, 0)) := by subst hw7; subst hG; exact new_blk _ _
    refine ⟨by subst hw7; exact (Chg.alloc (fun _ => False) _ _).ext, fun w8 d8 => ⟨⟨_, cell_blk (d8.blk b7) rfl⟩, frozen_blk (d8.blk b7), fun w9 hw9 w10 d10 => ?_⟩⟩
    obtain ⟨b9, c9⟩ := store_blk (d8.blk b7) hw9
    have hGs : w5.heap.size ≤ G := by subst hG; rw [d6.heap]; exact Nat.le_refl _
    have c10 : Chg (fun _ => False) w5 w10 := ((c7.drawn d8).trans c9 fun x e => .inr (by omega)).drawn d10
    have b10 := d10.blk b9
    have k10 := k5.chg c10 (fun _ h => h.elim) fun _ h => h.elim
    have e10 : Chg F w w10 := (c2.drawn d35).trans c10 fun _ h => h.elim
    unfold FS.step; rw [if_neg he]
    cases hk : IM.kget (s.steps + 1) s.fails with
    | none =>
      refine ⟨fun h => (by cases h), fun _ => ⟨rfl, Went.of ⟨_, _, _, _, _, _, _, _, k10⟩ e10⟩⟩
    | some v =>
      refine ⟨fun _ => ?_, fun h => (by cases h)⟩
      intro w11 d11
      have k11 := k10.chg (d11.chg (fun _ => False)) (fun _ h => h.elim) fun _ h => h.elim
      refine ⟨some r3, cell_blk k11.blk rfl, s.steps + 1, cell_blk k11.blk rfl, fun w12 d12 => ?_⟩
      have k12 := k11.chg (d12.chg (fun _ => False)) (fun _ h => h.elim) fun _ h => h.elim
      obtain ⟨w13, hr13, hm13, c13⟩ := IM.run_delete (P := Try.prog) Try.underlying127 Try.underlying3 k12.fails (s.steps + 1) 3 0 #[false, false]
      refine ⟨w13, hr13, fun w14 d14 w15 d15 => ?_⟩
      have k13 := k12.putFails c13 hm13
      have d1315 := d14.trans d15
      have b15 := d1315.blk (c13.blk ((d11.trans d12).blk b10) (fun e => by have := k12.flt r3 k12.F3; have := k5.flt r3 k5.F3; omega))
      refine ⟨p, cell_blk b15 rfl, fun w16 d16 => ?_⟩
      have d1316 := d1315.trans d16
      have k16 := k13.chg (d1316.chg (fun _ => False)) (fun _ h => h.elim) fun _ h => h.elim
      have e16 : Chg F w w16 := (((e10.drawn (d11.trans d12)).trans c13 fun b e => .inl (e ▸ k.F3))).drawn d1316
      have hv : v = .agg #[.int .i64 p] := by rw [hk] at hp; exact hp
      rw [hv]
      exact ⟨rfl, Went.of ⟨_, _, _, _, _, _, _, _, k16⟩ e16⟩
/-- a change befalls the directory now -/
theorem changed_ok {K' : Nat → Prop} {kc : Nat} {fi ca : Array Value} {c : Ch} (h : FSAt w g s F K) (hw : WF s n) (hn : n < big) (hkk : ∀ b, K b → K' b) (hfk : ∀ b, F b → ¬ K' b) (hlt : ∀ b, K' b → b < w.heap.size)
    (hv : ChAt w K' (.func (.func kc) fi ca) c) :
    Calls Try.prog 124 #[.pointer (some ⟨g, 0, none⟩), .func (.func kc) fi ca] w fun e w' => e = .returned (.tuple #[]) ∧ ∃ F', FSAt w' g (s.change c) F' K' ∧ (∀ b, F' b → F b ∨ w.heap.size ≤ b) ∧ Chg F w w' := by
  obtain ⟨vf, vc, vp, r1, r2, r3, dv, cvs, k0⟩ := h.ex
  have k := k0.moreK hkk hfk hlt
  have hn' : n < 1099511627776 := hn
  refine v124 _ _ _ _ _ _ ?_
  unfold V124
  simp only [add_mk, Nat.reduceAdd]
  generalize hcv : Value.func (.func kc) fi ca = cv at hv ⊢
  refine ⟨some r1, cell_blk k.blk rfl, ?_⟩
  refine change_ok hv k.now hw.nowOk.ptrs (fun hk => k.fk _ k.F1 hk) fun w1 hm1 c1 => ?_
  have k1 := k.putNow c1 hm1
  obtain ⟨A, cA, hA⟩ := k1.chs.slice
  have hb1 := k1.blk
  rw [hA] at hb1
  refine ⟨rfl, A, _, cA, cell_blk hb1 rfl, fun G w2 hG hw2 => ?_⟩
  have c2 : Chg (fun _ => False) w1 w2 := by subst hw2; exact Chg.alloc _ _ _
  have b2 : w2.heap[G]? = some (.cells #[cv] 149 (0, 0)) := by subst hw2; subst hG; exact new_blk _ _
  have k2 := k1.chg c2 (fun _ h => h.elim) fun _ h => h.elim
  have hch2 := k2.chs
  rw [hA] at hch2
  have hchl := hw.chl
  obtain ⟨A', c', w3, hr, ho, hc, hnew⟩ := Own.append (P := Try.prog) (ty := 129) (a := ⟨G, 0, none⟩) (m := 1) (c := 1) (news := [cv]) Try.underlying129 infoC.1 infoC.2.1 infoC.2.2.1 rfl hch2 rfl (fun j u hj => by
      rw [add_mk, Nat.zero_add]
      match j, hj with
      | 0, hj => simp at hj; subst hj; exact cell_blk b2 rfl
      | j + 1, hj => simp at hj) (fun u hu => by rw [List.mem_singleton.1 hu, ← hcv]; rfl) (by rw [infoC.2.2.2]; show (s.ch.length + 1) * 8 ≤ _; omega) (by show s.ch.length + 1 ≤ _; omega) #[false, false]
  refine ⟨A', _, c', w3, hr, ?_⟩
  have b3 : w3.heap[g]? = _ := k2.kblk hc (fun b hb => tag_own hch2 hb) (by decide)
  refine ⟨⟨_, cell_blk b3 rfl⟩, frozen_blk b3, fun w4 hw4 => ⟨trivial, ?_⟩⟩
  have hv2 := (hv.chg c1 (fun b hb e => k.fk b (e ▸ k.F1) hb) (fun _ h => h)).chg c2 (fun _ _ h => h) (fun _ h => h)
  obtain ⟨k4, c4⟩ := k2.addCh hv2 (by rw [hA]; exact hc) ho (by rw [hA]; exact hnew) hw4
  have e2 : Chg F w w2 := (c1.mono fun b e => e ▸ k.F1).trans c2 fun _ h => h.elim
  refine ⟨_, ⟨_, _, _, _, _, _, _, _, k4⟩, fun b hb => hb.elim .inl fun hb => ?_, e2.trans' c4⟩
  rcases hnew b hb with h1 | h1
  · exact .inl (k2.Fc b (by rw [hA]; exact h1))
  · exact .inr (Nat.le_trans e2.size h1)
end
end Go.Proofs.Ytcljmlgbmjjldaa.Fs
