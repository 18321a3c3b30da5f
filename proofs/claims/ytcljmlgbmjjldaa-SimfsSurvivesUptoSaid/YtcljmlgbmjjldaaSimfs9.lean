/- The file system: New, Create, Crash. -/
import Derived.Test.YtcljmlgbmjjldaaSimfs8
import Derived.Test.YtcljmlgbmjjldaaF9
namespace Go.Proofs.Ytcljmlgbmjjldaa.Fs
open Go Go.VC Go.RowKit Go.Proofs.Ytcljmlgbmjjldaa.F
set_option linter.unusedVariables false
set_option linter.unusedSimpArgs false
def FS.new : FS := ⟨[], [], [], [], false, 0, [], 0, []⟩
theorem WF.new : WF FS.new 0 :=
  { nd := List.nodup_nil, few := Nat.le_refl _, dirs := fun k hk => by show DirOk [] 0 (List.foldl Ch.on [] (List.take k [])); rw [List.take_nil]; exact ⟨List.nodup_nil, Nat.le_refl _, fun p hp => (by cases hp)⟩, now := rfl, chl := Nat.le_refl _,
    fit := fun f hf => (by cases hf), st0 := Int.le_refl _, st1 := Int.le_refl _, cr0 := Int.le_refl _, cr1 := (by show (0 : Int) ≤ _; omega), fnd := List.nodup_nil, fok := fun p hp => (by cases hp) }
theorem new_ok (w : World) : Calls Try.prog 38 #[] w fun e w' => ∃ g F K, e = .returned (.pointer (some ⟨g, 0, none⟩)) ∧ FSAt w' g FS.new F K ∧ (∀ b, F b → w.heap.size ≤ b) ∧ (∀ b, K b → w.heap.size ≤ b) ∧ Chg (fun _ => False) w w' := by
  refine v38 _ _ ?_
  intro r1 w1 hr1 hw1 r2 w2 hr2 hw2 r3 w3 hr3 hw3 g w4 hg hw4
  have c1 : Chg (fun _ => False) w w1 := by subst hw1; exact Chg.alloc _ _ _
  have c2 : Chg (fun _ => False) w1 w2 := by subst hw2; exact Chg.alloc _ _ _
  have c3 : Chg (fun _ => False) w2 w3 := by subst hw3; exact Chg.alloc _ _ _
  have c4 : Chg (fun _ => False) w3 w4 := by subst hw4; exact Chg.alloc _ _ _
  have m1 : MapAt w1 r1 [] := by subst hw1; subst hr1; exact MapAt.new _
  have m2 : MapAt w2 r2 [] := by subst hw2; subst hr2; exact MapAt.new _
  have m3 : IM.MapAt w3 r3 [] := by subst hw3; subst hr3; exact IM.MapAt.new _
  have b4 : w4.heap[g]? = some (.cells #[.slice none 0 0, .map (some r1), .map (some r2), .slice none 0 0, .bool false, .int .i64 0, .map (some r3), .int .i64 0, .slice none 0 0] tFS (0, 0)) := by subst hw4; subst hg; exact new_blk _ _
  have s1 := c1.size
  have l1 : w1.heap.size = w.heap.size + 1 := by subst hw1; simp
  have l2 : w2.heap.size = w1.heap.size + 1 := by subst hw2; simp
  have l3 : w3.heap.size = w2.heap.size + 1 := by subst hw3; simp
  have l4 : w4.heap.size = w3.heap.size + 1 := by subst hw4; simp
  refine ⟨g, fun b => b = g ∨ b = r1 ∨ b = r2 ∨ b = r3, fun _ => False, rfl, ⟨.slice none 0 0, .slice none 0 0, .slice none 0 0, r1, r2, r3, fun _ => .slice none 0 0, [], ?_⟩, fun b hb => by omega, fun b hb => hb.elim, ((c1.trans' c2).trans' c3).trans' c4⟩
  have no : ∀ b, (Value.slice none 0 0).ownBlock ≠ some b := fun b hb => by simp [Value.ownBlock] at hb
  exact
  { blk := b4, now := ((m1.chg c2 id).chg c3 id).chg c4 id, safe := (m2.chg c3 id).chg c4 id, fails := m3.chg c4 id, files := Own.nil _ _, fblk := fun f hf => (by cases hf), data := fun f hf => (by cases hf), dsep := fun f hf => (by cases hf),
    chs := Own.nil _ _, cha := fun i v c hv => (by simp at hv), picks := ⟨none, 0, rfl, Nat.le_refl _, .inl ⟨rfl, rfl, rfl⟩⟩, pk := fun b hb => absurd hb (no b), r12 := (by omega), r13 := (by omega), r23 := (by omega),
    flt := fun b hb => (by omega), klt := fun b hb => hb.elim, fk := fun _ _ h => h, Fg := .inl rfl, F1 := .inr (.inl rfl), F2 := .inr (.inr (.inl rfl)), F3 := .inr (.inr (.inr rfl)), Ff := fun b hb => absurd hb (no b), Fc := fun b hb => absurd hb (no b),
    Fx := fun f hf => (by cases hf), Fd := fun f hf => (by cases hf) }
section
variable {w : World} {g : Nat} {s : FS} {F K : Nat → Prop} {n : Nat}
theorem create_ok (h : FSAt w g s F K) (hw : WF s n) (hn : n + 2 < big) {name : Str} (hs : name.size < 9223372036854775808) :
    Calls Try.prog 78 #[.pointer (some ⟨g, 0, none⟩), .string name] w fun e w' => ∃ x, e = .returned (.int .i64 (s.create name x).2) ∧ Went w w' g (s.create name x).1 F K ∧ (∀ f ∈ s.files, f.g ≠ x) := by
  refine v78 _ _ _ _ ?_
  unfold V78
  intro G w1 hG hw1
  have c1 : Chg (fun _ => False) w w1 := by subst hw1; exact Chg.alloc _ _ _
  have hb1 : w1.heap[G]? = some (.cells #[.string name] 9 (0, 0)) := by subst hG; subst hw1; exact new_blk _ _
  refine ⟨name, cell_blk hb1 rfl, fun G2 w2 hG2 hw2 => ?_⟩
  have c12 : Chg (fun _ => False) w1 w2 := by subst hw2; exact Chg.alloc _ _ _
  have hb : w2.heap[G2]? = some (.cells (strs [name]).toArray 9 (0, 0)) := by subst hG2; subst hw2; exact new_blk _ _
  have hbG := c12.blk hb1 id
  have c02 := c1.trans' c12
  have h2 := h.chg0 c02
  have hfx : ∀ f ∈ s.files, f.g ≠ w.heap.size := fun f hf e => by
    obtain ⟨_, _, _, _, _, _, _, _, k0⟩ := h.ex
    have := k0.flt _ (k0.Fx f hf); omega
  refine (looks_ok h2 hw (rd_new1 hb) (by simp) (by simp) (fun x hx => by rw [List.mem_singleton.1 hx]; exact hs) false).mono ?_
  rintro e w3 ⟨rfl, d3⟩
  have c3 := c02.drawn d3
  refine ⟨_, rfl, fun hne => ?_, fun he => ?_⟩
  · have hne : looks s false [name] ≠ 0 := by simpa using hne
    refine ⟨w.heap.size, ?_⟩
    unfold FS.create; rw [if_pos hne]
    exact ⟨rfl, (Went.refl (h.chg0 c3)).pre c3, hfx⟩
  have he : looks s false [name] = 0 := by simpa using he
  intro w4 d4
  have c4 := c3.drawn d4
  obtain ⟨vf0, vc0, vp0, r10, r20, r30, hcell0, hm0, _⟩ := cells_of (h.chg0 c4)
  have hbG4 := (d3.trans d4).blk hbG
  simp only [add_mk, Nat.reduceAdd]
  have key : ∀ (b : Bool) (w5 : World), b = decide ((kget name s.now).isNone ∧ 64 ≤ s.now.length) → Drawn w4 w5 → V78_k1 ⟨g, 0, none⟩ ⟨G, 0, none⟩ b w5 (fun e w' => ∃ x, e = .returned (.int .i64 (s.create name x).2) ∧ Went w w' g (s.create name x).1 F K ∧ (∀ f ∈ s.files, f.g ≠ x)) := by
    intro b w5 hbb d5
    have c5 := c4.drawn d5
    refine ⟨fun hf => ?_, fun hf => ?_⟩
    · refine ⟨w.heap.size, ?_⟩
      unfold FS.create; rw [if_neg (by rw [he]; exact fun h => h rfl), if_pos (of_decide_eq_true (hbb.symm.trans hf))]
      exact ⟨rfl, (Went.refl (h.chg0 c5)).pre c5, hfx⟩
    have hnf := of_decide_eq_false (hbb.symm.trans hf)
    refine (step_ok (h.chg0 c5) hw (by omega)).mono ?_
    rintro e w7 ⟨rfl, hw7⟩
    refine ⟨_, _, rfl, fun hne => ?_, fun h0 => ?_⟩
    · have hne : s.step.2.1 ≠ 0 := by simpa using hne
      refine ⟨w.heap.size, ?_⟩
      unfold FS.create; rw [if_neg (by rw [he]; exact fun h => h rfl), if_neg hnf, if_pos hne]
      exact ⟨rfl, hw7.pre c5, hfx⟩
    have h0 : s.step.2.1 = 0 := by simpa using h0
    obtain ⟨F', K', k1, k2, k3, k4⟩ := hw7.ex
    have hGF : ¬ F G := fun hb => by have := h.flt hb; omega
    have hG0 : w.heap.size ≤ G := by omega
    have hbG7 := k4.blk (d5.blk hbG4) hGF
    have hG5 : G < w5.heap.size := lt_blk (d5.blk hbG4)
    have hGF' : ¬ F' G := fun hb => (k2 G hb).elim hGF fun hle => by omega
    intro gx w8 hgx hw8 g4 w9 hg4 hw9
    have c8 : Chg (fun _ => False) w7 w8 := by subst hw8; exact Chg.alloc _ _ _
    have c9 : Chg (fun _ => False) w8 w9 := by subst hw9; exact Chg.alloc _ _ _
    have b8 : w8.heap[gx]? = some (.cells #[.slice none 0 0, .int .i64 0] tF (0, 0)) := by subst hw8; subst hgx; exact new_blk _ _
    have b9 : w9.heap[g4]? = some (.cells #[.pointer none] 137 (0, 0)) := by subst hw9; subst hg4; exact new_blk _ _
    have hx49 : gx ≠ g4 := by subst hg4; have := lt_blk b8; omega
    refine ⟨⟨_, cell_blk b9 rfl⟩, frozen_blk b9, fun w10 hw10 w11 d11 => ?_⟩
    obtain ⟨b10, c10⟩ := store_blk b9 hw10
    have hs8 := c8.size
    have c11 : Chg (fun _ => False) w7 w11 := ((c8.trans' c9).trans c10 fun b e => .inr (by omega)).drawn d11
    have k11 := k1.chg0 c11
    obtain ⟨vf, vc, vp, r1, r2, r3, dv, cvs, k⟩ := k11.ex
    have bx11 := d11.blk (c10.blk (c9.blk b8 id) hx49)
    have b411 := d11.blk b10
    obtain ⟨A, cA, hA⟩ := k.files.slice
    have hbk := k.blk
    rw [hA] at hbk
    refine ⟨A, _, cA, cell_blk hbk rfl, some ⟨gx, 0, none⟩, cell_blk b411 rfl, fun w12 d12 g5 w13 hg5 hw13 => ?_⟩
    have c13 : Chg (fun _ => False) w11 w13 := by subst hw13; exact (d12.chg _).trans' (Chg.alloc _ _ _)
    have b13 : w13.heap[g5]? = some (.cells #[.pointer (some ⟨gx, 0, none⟩)] 137 (0, 0)) := by subst hw13; subst hg5; exact new_blk _ _
    refine ⟨by subst hw13; exact (Chg.alloc (fun _ => False) _ _).ext, fun w14 d14 => ?_⟩
    have c14 := c13.drawn d14
    have k14 := k.chg c14 (fun _ h => h.elim) fun _ h => h.elim
    have hfl14 := k14.files
    rw [hA] at hfl14
    have hfew := (hw.step).few
    obtain ⟨A', c', w15, hr, ho, hc, hnew⟩ := Own.append (P := Try.prog) (ty := 128) (a := ⟨g5, 0, none⟩) (m := 1) (c := 1) (news := [fp gx]) Try.underlying128 infoP.1 infoP.2.1 infoP.2.2.1 rfl hfl14 rfl (fun j u hj => by
        rw [add_mk, Nat.zero_add]
        match j, hj with
        | 0, hj => simp at hj; subst hj; exact cell_blk (d14.blk b13) rfl
        | j + 1, hj => simp at hj) (fun u hu => by rw [List.mem_singleton.1 hu]; rfl) (by rw [infoP.2.2.2]; have : n + 2 < 1099511627776 := hn; omega) (by have : n + 2 < 1099511627776 := hn; omega) #[false, false]
    refine ⟨A', _, c', w15, hr, fun w16 d16 => ?_⟩
    have b15 : w15.heap[g]? = _ := k14.kblk hc (fun b hb => tag_own hfl14 hb) (by decide)
    refine ⟨⟨_, cell_blk (d16.blk b15) rfl⟩, frozen_blk (d16.blk b15), fun w17 hw17 w18 d18 => ?_⟩
    have hgxF : ¬ F' gx := fun hb => by have := k1.flt hb; omega
    have hgxK : ¬ K' gx := fun hb => by have := k1.klt hb; omega
    have hs9 := c9.size
    have hg4F : ¬ F' g4 := fun hb => by have := k1.flt hb; omega
    obtain ⟨k17, c17⟩ := k14.addFile (c14.blk bx11 id) hgxF hgxK (by rw [hA]; exact hc.drawn d16) (d16.own ho) (by rw [hA]; exact hnew) hw17
    have k18 := k17.chg (d18.chg (fun _ => False)) (fun _ h => h.elim) fun _ h => h.elim
    have c718 : Chg F' w7 w18 := (((c11.mono fun _ h => h.elim).trans c14 fun _ h => h.elim).trans' c17).drawn d18
    have hbG18 := c718.blk hbG7 hGF'
    have hg414 : w14.heap[g4]? = _ := c14.blk b411 id
    have hg418 : w18.heap[g4]? = some (.cells #[.pointer (some ⟨gx, 0, none⟩)] 137 (0, 0)) := d18.blk (c17.blk hg414 hg4F)
    have hwf : WF ({ s.step.1 with files := s.step.1.files ++ [⟨gx, ByteArray.empty, 0⟩] } : FS) (n + 2) := hw.step.addFile fun f hf e => by
      obtain ⟨_, _, _, _, _, _, _, _, kk⟩ := k1.ex
      exact hgxF (e ▸ kk.Fx f hf)
    have hnewF : ∀ b, (Value.slice A' (s.step.1.files.length + 1) c').ownBlock = some b → F' b ∨ w14.heap.size ≤ b := fun b hb => (hnew b hb).imp (fun h1 => k14.Ff b (by rw [hA]; exact h1)) id
    have hs14 := c14.size
    have hs11 := c11.size
    have hG7 : G < w7.heap.size := lt_blk hbG7
    have hg414lt : g4 < w14.heap.size := lt_blk hg414
    refine (changed_ok (K' := fun b => K' b ∨ b = G ∨ b = g4) ⟨_, _, _, _, _, _, _, _, k18⟩ hwf hn (fun b => .inl) (fun b hb hk => ?_) (fun b hb => ?_) (c := .cre name gx) ⟨g4, G, rfl, cell_blk hg418 rfl, cell_blk hbG18 rfl, .inr (.inr rfl), .inr (.inl rfl)⟩).mono ?_
    · rcases hk with hk | rfl | rfl
      · exact k18.fk b hb hk
      · rcases hb with hb | rfl | hb
        · exact hGF' hb
        · omega
        · rcases hnewF _ hb with h1 | h1
          · exact hGF' h1
          · omega
      · rcases hb with hb | hb | hb
        · exact hg4F hb
        · exact hx49 hb.symm
        · rcases hnewF _ hb with h1 | h1
          · exact hg4F h1
          · omega
    · rcases hb with hb | rfl | rfl
      · exact k18.klt b hb
      · exact lt_blk hbG18
      · exact lt_blk hg418
    · rintro e w19 ⟨rfl, F'', k5, k6, k7⟩
      refine ⟨rfl, gx, ?_⟩
      have hs7 := k4.size
      unfold FS.create; rw [if_neg (by rw [he]; exact fun h => h rfl), if_neg hnf, if_neg (by rw [h0]; exact fun h => h rfl)]
      refine ⟨rfl, went2 c5 k2 k3 k4 k5 (fun b hb => ?_) (fun b hb => ?_) (c718.trans k7 fun b hb => ?_), fun f hf e => ?_⟩
      · rcases k6 b hb with (hb | rfl | hb) | hb
        · exact .inl hb
        · exact .inr (by omega)
        · rcases hnewF b hb with h1 | h1
          · exact .inl h1
          · exact .inr (by omega)
        · have := c718.size; exact .inr (by omega)
      · rcases hb with hb | rfl | rfl
        · exact .inl hb
        · exact .inr hG0
        · have := c5.size; exact .inr (by omega)
      · rcases hb with hb | rfl | hb
        · exact .inl hb
        · exact .inr (by omega)
        · rcases hnewF b hb with h1 | h1
          · exact .inl h1
          · exact .inr (by omega)
      · obtain ⟨_, _, _, _, _, _, _, _, kk⟩ := h.ex
        have := kk.flt _ (kk.Fx f hf)
        have := c5.size
        omega
  have hlook : ∀ w0, Ext w4 w0 → MapAt w0 r10 s.now := fun w0 hx => by
    obtain ⟨es, clk, h1, hst, h2⟩ := hm0.ex
    exact ⟨es, clk, by rw [hx.2 r10 (lt_blk h1)]; exact h1, hst, h2⟩
  refine ⟨some r10, cell_blk hcell0 rfl, name, cell_blk hbG4 rfl, ?_⟩
  cases hk : kget name s.now with
  | none =>
    refine ⟨none, fun w0 hx => by rw [run_lookup1 Try.underlying126 Try.underlying9 infoP.1 infoP.2.1 (hlook w0 hx), hk]; rfl, fun _ => ⟨some r10, cell_blk hcell0 rfl, s.now.length, fun w0 hx => (hlook w0 hx).len, fun w5 d5 => key _ w5 ?_ d5⟩, fun h => (by cases h)⟩
    rw [hk]
    by_cases h64 : 64 ≤ s.now.length
    · rw [decide_eq_true (by omega), decide_eq_true ⟨rfl, h64⟩]
    · rw [decide_eq_false (by omega), decide_eq_false fun hh => h64 hh.2]
  | some u =>
    obtain ⟨f, hf, rfl⟩ := hw.nowOk.get hk
    refine ⟨some ⟨f.g, 0, none⟩, fun w0 hx => by rw [run_lookup1 Try.underlying126 Try.underlying9 infoP.1 infoP.2.1 (hlook w0 hx), hk]; rfl, fun h => (by cases h), fun _ w20 d20 => key _ w20 ?_ d20⟩
    rw [hk, decide_eq_false fun hh => by cases hh.1]
end
end Go.Proofs.Ytcljmlgbmjjldaa.Fs
