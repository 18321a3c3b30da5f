/- The file system: Crash. -/
import Derived.Test.YtcljmlgbmjjldaaSimfs9
namespace Go.Proofs.Ytcljmlgbmjjldaa.Fs
open Go Go.VC Go.RowKit Go.Proofs.Ytcljmlgbmjjldaa.F
set_option linter.unusedVariables false
set_option linter.unusedSimpArgs false
noncomputable def infI : TypeInfo := (Try.prog.info? 3).getD default
theorem infoI : Try.prog.info? 3 = some infI ∧ infI.zero = some (.int .i64 0) ∧ infI.size = 1 ∧ infI.bytes = 8 := ⟨by kernel_rfl, by kernel_rfl, by kernel_rfl, by kernel_rfl⟩
theorem ints_one (l : List Int) : ∀ u ∈ ints l, u.oneCell' = true := fun u hu => by
  obtain ⟨x, _, rfl⟩ := List.mem_map.1 hu; rfl
theorem iclone_ok {w : World} {v : Value} {l : List Int} (h : Rd w v (ints l)) (hl : l.length < big) :
    Calls Try.prog 86 #[v] w fun e w' => ∃ A n c, e = .returned (.slice A n c) ∧ Rd w' (.slice A n c) (ints l) ∧ (∀ b, (Value.slice A n c).ownBlock = some b → w.heap.size ≤ b ∧ b < w'.heap.size) ∧ Chg (fun _ => False) w w' := by
  have hl' : l.length < 1099511627776 := hl
  have hlen : (ints l).length = l.length := by simp [ints]
  have hsrc0 : ∀ w', Chg (fun _ => False) w w' → Src Try.prog 1 31 v (ints l).length (ints l) w' := fun w' hc => (h.chg hc fun _ _ h => h).src Try.underlying31 (ints_one l)
  obtain ⟨A, c, rfl, hc, hA⟩ := h.ex
  refine v86 _ _ _ _ _ ?_
  refine ⟨fun hn => ?_, fun hn G w1 hG hw1 => ?_⟩
  · have hAn : A = none := by cases A with | none => rfl | some a => cases hn
    subst hAn
    rcases hA with ⟨_, h0, _⟩ | ⟨a, ha, _⟩
    · rw [h0]
      exact ⟨none, 0, 0, rfl, ⟨none, 0, rfl, Nat.le_refl _, .inl ⟨rfl, rfl, rfl⟩⟩, fun b hb => by simp [Value.ownBlock] at hb, Chg.refl _ _⟩
    · cases ha
  · have c1 : Chg (fun _ => False) w w1 := by subst hw1; exact Chg.alloc _ _ _
    have hG0 : w.heap.size ≤ G := by omega
    have hrd : Rd w1 (.slice (some ⟨G, 0, none⟩) 0 0) [] := ⟨some ⟨G, 0, none⟩, 0, rfl, Nat.le_refl _, .inr ⟨_, rfl, fun j u hj => by simp at hj⟩⟩
    obtain ⟨A', c', w2, hr, hres⟩ := Rd.append (P := Try.prog) (t := 31) (tx := 31) (ty := 31) Try.underlying31 infoI.1 infoI.2.1 infoI.2.2.1 rfl hrd (hsrc0 w1 c1) (by rw [infoI.2.2.2, hlen]; omega) (by rw [hlen]; omega) #[false, false]
    refine ⟨A', _, c', w2, hr, A', _, c', rfl, ?_⟩
    rcases hres with ⟨hm, rfl, rfl, rfl⟩ | ⟨hm, ho, hc2, hnew⟩
    · have h0 : ints l = [] := List.eq_nil_of_length_eq_zero hm
      rw [h0]
      exact ⟨hrd, fun b hb => by simp only [Value.ownBlock, Option.some.injEq] at hb; subst hw1; subst hb; exact ⟨hG0, by simp; omega⟩, c1⟩
    · exact ⟨ho.rd, fun b hb => ⟨Nat.le_trans c1.size (hnew b hb), ho.lt hb⟩, c1.trans' hc2⟩
def FS.crashAt (s : FS) (n : Int) (picks : List Int) : FS × Int :=
  if s.down then (s, 203) else if n < 0 ∨ n > 1099511627776 then (s, 1)
  else if n = 0 then (({ s with picks := picks, crash := s.steps + n } : FS).fall, 0) else ({ s with picks := picks, crash := s.steps + n }, 0)
theorem WF.planned {s : FS} {n : Nat} (h : WF s n) {m : Int} (h0 : 0 ≤ m) (h1 : m ≤ 1099511627776) (picks : List Int) : WF { s with picks := picks, crash := s.steps + m } n :=
  { h with dirs := h.dirs, now := h.now, cr0 := (by have := h.st0; show 0 ≤ s.steps + m; omega), cr1 := (by have := h.st1; show s.steps + m ≤ _; omega) }
theorem crash_ok {w : World} {g : Nat} {s : FS} {F K : Nat → Prop} {n : Nat} (h : FSAt w g s F K) (hw : WF s n) (hn : n < big) (m : Int) {v : Value} {l : List Int} (hv : Rd w v (ints l)) (hl : l.length < big) :
    Calls Try.prog 43 #[.pointer (some ⟨g, 0, none⟩), .int .i64 m, v] w fun e w' => e = .returned (.int .i64 (s.crashAt m l).2) ∧ Went w w' g (s.crashAt m l).1 F K := by
  have hn' : n < 1099511627776 := hn
  have hst0 := hw.st0
  have hst1 := hw.st1
  obtain ⟨vf, vc, vp, r1, r2, r3, dv, cvs, k⟩ := h.ex
  have hcl := iclone_ok hv hl
  obtain ⟨A, c, rfl, hc, hA⟩ := hv.ex
  refine v43 _ _ _ _ _ _ _ ?_
  unfold V43
  simp only [add_mk, Nat.reduceAdd]
  have key : ∀ b : Bool, b = decide (m < 0 ∨ m > 1099511627776) → s.down = false → V43_k1 ⟨g, 0, none⟩ m A (ints l).length c b w (fun e w' => e = .returned (.int .i64 (s.crashAt m l).2) ∧ Went w w' g (s.crashAt m l).1 F K) := by
    intro b hb hd
    unfold FS.crashAt; rw [if_neg (by rw [hd]; decide)]
    refine ⟨fun h1 => ?_, fun h1 => ?_⟩
    · rw [if_pos (of_decide_eq_true (hb.symm.trans h1))]
      exact ⟨rfl, Went.refl h⟩
    have hm := of_decide_eq_false (hb.symm.trans h1)
    rw [if_neg hm]
    refine hcl.mono ?_
    rintro e w2 ⟨B, bn, bc, rfl, hB, hnew, c2⟩
    have k2 := k.chg c2 (fun _ h => h.elim) fun _ h => h.elim
    refine ⟨B, bn, bc, rfl, ?_⟩
    simp only [add_mk, Nat.reduceAdd]
    refine ⟨⟨_, cell_blk k2.blk rfl⟩, frozen_blk k2.blk, fun w3 hw3 => ?_⟩
    have hc3 := (store_blk k2.blk hw3).2
    have k3 := k2.newPicks (K' := fun b => K b ∨ (Value.slice B bn bc).ownBlock = some b) hB (fun b hb => .inr hb) (fun b => .inl) (fun b hb hk => hk.elim (k2.fk b hb) fun hk => by have := (hnew b hk).1; have := k.flt b hb; omega)
      (fun b hb => hb.elim (k2.klt b) fun hb => (hnew b hb).2) hw3
    refine ⟨s.steps, cell_blk k3.blk rfl, ⟨_, cell_blk k3.blk rfl⟩, frozen_blk k3.blk, fun w4 hw4 => ?_⟩
    rw [w64 (by omega) (by omega)] at hw4
    obtain ⟨b4, c4⟩ := store_blk k3.blk hw4
    have k4 := k3.scal c4 (d := s.down) (n := s.steps) (c := s.steps + m) b4
    have e4 : Chg F w w4 := ((c2.mono fun _ h => h.elim).trans hc3 fun b e => .inl (e ▸ k.Fg)).trans c4 fun b e => .inl (e ▸ k.Fg)
    have hK : ∀ b, K b ∨ (Value.slice B bn bc).ownBlock = some b → K b ∨ w.heap.size ≤ b := fun b hb => hb.imp id fun hb => (hnew b hb).1
    refine ⟨fun hz => ?_, fun hz => ?_⟩
    · have hz : m = 0 := by simpa using hz
      rw [if_pos hz]
      refine (fall_ok (s := { s with picks := l, crash := s.steps + m }) ⟨_, _, _, _, _, _, _, _, k4⟩ (hw.planned (by omega) (by omega) l) hn).mono ?_
      rintro e w5 ⟨rfl, hw5⟩
      obtain ⟨F', K', q1, q2, q3, q4⟩ := hw5.ex
      refine ⟨rfl, rfl, ⟨F', K', q1, fun b hb => (q2 b hb).imp id (Nat.le_trans e4.size), fun b hb => ?_, e4.trans' q4⟩⟩
      rcases q3 b hb with hb | hb
      · exact hK b hb
      · exact .inr (Nat.le_trans e4.size hb)
    · have hz : m ≠ 0 := by simpa using hz
      rw [if_neg hz]
      exact ⟨rfl, ⟨F, _, ⟨_, _, _, _, _, _, _, _, k4⟩, fun b => .inl, hK, e4⟩⟩
  refine ⟨s.down, cell_blk k.blk rfl, fun hd => ?_, fun hd => ⟨fun h1 => ?_, fun h1 => ?_⟩⟩
  · unfold FS.crashAt; rw [if_pos hd]
    exact ⟨rfl, Went.refl h⟩
  · have h1 := of_decide_eq_false h1
    exact key _ (by by_cases h2 : m > 1099511627776 <;> simp [h1, h2]) hd
  · have h1 : m < 0 := of_decide_eq_true h1
    exact key _ (by simp [h1]) hd
end Go.Proofs.Ytcljmlgbmjjldaa.Fs
