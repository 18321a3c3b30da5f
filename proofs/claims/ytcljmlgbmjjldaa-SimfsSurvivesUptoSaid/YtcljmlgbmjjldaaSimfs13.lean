/- SimfsSurvives: the walk. -/
import Derived.Test.YtcljmlgbmjjldaaSimfsL
import Derived.Test.YtcljmlgbmjjldaaFsRow
namespace Go.Proofs.Ytcljmlgbmjjldaa.Fs
open Go Go.VC Go.RowKit Go.Proofs.Ytcljmlgbmjjldaa.F
set_option linter.unusedVariables false
set_option linter.unusedSimpArgs false
/-- a file system in new blocks, beside blocks of the law's own -/
structure RunX (w w1 : World) (g : Nat) (s : FS) (n : Nat) (X : Nat → Prop) : Prop where
  ex : ∃ F K, FSAt w1 g s F K ∧ (∀ b, F b → w.heap.size ≤ b) ∧ (∀ b, K b → w.heap.size ≤ b) ∧ ∀ b, X b → ¬ F b ∧ ¬ K b
  lt : ∀ b, X b → b < w1.heap.size
  new : ∀ b, X b → w.heap.size ≤ b
  chg : Chg (fun _ => False) w w1
  wf : WF s n
section
variable {w w1 w2 : World} {g : Nat} {s s' : FS} {n m : Nat} {X Y G : Nat → Prop}
theorem Run.x (h : Run w w1 g s n) : RunX w w1 g s n (fun _ => False) := by
  obtain ⟨F, K, h1, h2, h3⟩ := h.ex
  exact ⟨⟨F, K, h1, h2, h3, fun b hb => hb.elim⟩, fun b hb => hb.elim, fun b hb => hb.elim, h.chg, h.wf⟩
theorem RunX.more (h : RunX w w1 g s n X) (hc : Chg G w1 w2) (hG : ∀ b, G b → X b) (hY : ∀ b, Y b → X b ∨ (w1.heap.size ≤ b ∧ b < w2.heap.size)) : RunX w w2 g s n Y := by
  obtain ⟨F, K, h1, h2, h3, h4⟩ := h.ex
  refine ⟨⟨F, K, h1.chg hc (fun b hb => (h4 b (hG b hb)).1) (fun b hb => (h4 b (hG b hb)).2), h2, h3, fun b hb => ?_⟩, fun b hb => ?_, fun b hb => ?_, h.chg.trans hc fun b hb => .inr (h.new b (hG b hb)), h.wf⟩
  · rcases hY b hb with hb | ⟨hb, _⟩
    · exact h4 b hb
    · exact ⟨fun hf => by have := h1.flt hf; omega, fun hf => by have := h1.klt hf; omega⟩
  · rcases hY b hb with hb | ⟨_, hb⟩
    · exact Nat.lt_of_lt_of_le (h.lt b hb) hc.size
    · exact hb
  · rcases hY b hb with hb | ⟨hb, _⟩
    · exact h.new b hb
    · exact Nat.le_trans h.chg.size hb
theorem RunX.keep (h : RunX w w1 g s n X) (hc : Chg (fun _ => False) w1 w2) : RunX w w2 g s n X := h.more hc (fun _ h => h.elim) fun b hb => .inl hb
/-- a call of the file system -/
theorem RunX.by1 (h : RunX w w1 g s n X) {F K : Nat → Prop} (f2 : ∀ b, F b → w.heap.size ≤ b) (f3 : ∀ b, K b → w.heap.size ≤ b) (f4 : ∀ b, X b → ¬ F b ∧ ¬ K b) (hw : Went w1 w2 g s' F K) (hf : WF s' m) :
    RunX w w2 g s' m X ∧ Chg (fun b => ¬ X b) w1 w2 := by
  obtain ⟨F', K', k1, k2, k3, k4⟩ := hw.ex
  refine ⟨⟨⟨F', K', k1, fun b hb => (k2 b hb).elim (f2 b) (Nat.le_trans h.chg.size), fun b hb => (k3 b hb).elim (f3 b) (Nat.le_trans h.chg.size), fun b hb => ⟨fun hf => ?_, fun hf => ?_⟩⟩,
    fun b hb => Nat.lt_of_lt_of_le (h.lt b hb) k4.size, h.new, h.chg.trans k4 fun b hb => .inr (f2 b hb), hf⟩, k4.mono fun b hb hx => (f4 b hx).1 hb⟩
  · rcases k2 b hf with h1 | h1
    · exact (f4 b hb).1 h1
    · have := h.lt b hb; omega
  · rcases k3 b hf with h1 | h1
    · exact (f4 b hb).2 h1
    · have := h.lt b hb; omega
end
abbrev Row (w : World) (v : Value) (l : List (Str × Str)) (X : Nat → Prop) : Prop := OwnW w tPair 2 v l.length (pcells l) ∧ ∀ b, v.ownBlock = some b → X b
theorem pcells_one (l : List (Str × Str)) : ∀ u ∈ pcells l, u.oneCell' = true := fun u hu => by
  unfold pcells at hu
  obtain ⟨p, _, hp⟩ := List.mem_flatMap.1 hu
  rcases List.mem_cons.1 hp with rfl | hp
  · rfl
  · rw [List.mem_singleton.1 hp]; rfl
/-- a row of pairs behind another one -/
theorem rows_app {w : World} {v u : Value} {l m : List (Str × Str)} (h : OwnW w tPair 2 v l.length (pcells l)) (hu : OwnW w tPair 2 u m.length (pcells m)) (hb : (l.length + m.length) * 32 ≤ 140737488355328) :
    ∃ A' c' w', (builtin .append #[71, 71] 71 #[false, false] #[v, u]).run Try.prog w = .ok (.value (.slice A' (l.length + m.length) c')) w' ∧ OwnW w' tPair 2 (.slice A' (l.length + m.length) c') (l.length + m.length) (pcells (l ++ m)) ∧ Chg (fun b => v.ownBlock = some b) w w' ∧
      (∀ b, (Value.slice A' (l.length + m.length) c').ownBlock = some b → v.ownBlock = some b ∨ w.heap.size ≤ b) := by
  have := OwnW.app (P := Try.prog) (t := 71) (ty := 71) Try.underlying71 infoQ.1 infoQ.2.1 infoQ.2.2.1 rfl h (hu.src Try.underlying71 (pcells_one m)) (by rw [infoQ.2.2.2]; exact hb) (by omega) #[false, false]
  rwa [← pcells_app] at this
def nmB (name : Str) (e : Str × Str) : Bool := strEq e.1 name
def preB (v : Str) (e : Str × Str) : Bool := if e.2.size ≥ v.size then strEq (e.2.extract 0 v.size) v else false
theorem any_take {α : Type} {p : α → Bool} {l : List α} {t : Nat} {x : α} (h : l[t]? = some x) : (l.take (t + 1)).any p = ((l.take t).any p || p x) := by
  rw [List.take_add_one, h, List.any_append]; simp
/-- a call of the script is walked -/
theorem fok_ok {o : FOp} (h : FOp.Fit o 1048576) : o.Ok := ⟨h.name, h.to, h.data, by have := h.picks; show _ < 1099511627776; omega⟩
set_option maxHeartbeats 1000000 in
set_option maxRecDepth 10000 in
theorem survives_walk {w : World} {A : Option Addr} {c : Nat} {ops : List FOp} (hops : FOpsAt w A ops) (hok : ∀ o ∈ ops, FOp.Fit o 1048576) (hl : ops.length ≤ 1048576) {B : Option Addr} {bn bc : Nat} {picks : List Int} (hpk : Rd w (.slice B bn bc) (ints picks)) (hpl : picks.length ≤ 1048576) :
    Calls Try.prog 11 #[.slice A ops.length c, .slice B bn bc] w fun e w' => e = .returned (.bool true) ∧ Chg (fun _ => False) w w' := by
  have hbn : bn = picks.length := by
    obtain ⟨A', c', e, _⟩ := hpk.ex; injection e with e1 e2 e3; rw [e2]; simp [ints]
  refine v11 _ _ _ _ _ _ _ _ ?_
  unfold V11
  refine (run_new w).mono ?_
  rintro e w1 ⟨g, rfl, r1⟩
  refine ⟨_, rfl, (works_ok w1).mono ?_⟩
  rintro e w2 ⟨rfl, c2⟩
  have r2 := (r1.keep c2).x
  refine ⟨_, rfl, fun _ => ?_, fun h => (by cases h)⟩
  refine ⟨fun h => (by cases h), fun _ => ?_⟩
  refine ⟨fun ever evern everc i w4 => ∃ (j : Nat) (s : FS) (ev : List (Str × Str)) (X : Nat → Prop), i = j ∧ j ≤ ops.length ∧ RunX w w4 g s (3 * j) X ∧ Rec s ev ∧ evern = ev.length ∧ Row w4 (.slice ever evern everc) ev X ∧ ev.length ≤ j * 3145731,
    fun _ _ _ i _ => ops.length - i.toNat, ⟨0, FS.new, [], _, rfl, Nat.zero_le _, r2, Rec.new, rfl, ⟨OwnW.nil _ _ _, fun b hb => by simp [Value.ownBlock] at hb⟩, Nat.zero_le _⟩, ?_⟩
  rintro ever evern everc i w4 ⟨j, s, ev, X, rfl, hj, r4, hrec, rfl, ⟨hO, hX⟩, hlen⟩
  refine ⟨fun hd => ?_, fun hd => ?_⟩
  · have hjl : j < ops.length := by have := of_decide_eq_true hd; omega
    have hget := List.getElem?_eq_getElem hjl
    have hfit := hok _ (List.getElem_mem hjl)
    generalize ops[j] = o at hget hfit
    obtain ⟨a, rfl, q0, q1, q2, q3, q4, q5, P, pn, pc, q6, hP⟩ := (hops.chg r4.chg) j o hget
    refine ⟨by omega, by omega, o.kind, by rw [toNatN]; exact q0, o.name, by rw [toNatN]; exact q1, o.to, by rw [toNatN]; exact q2, o.data, by rw [toNatN]; exact q3, o.n, by rw [toNatN]; exact q4, o.part, by rw [toNatN]; exact q5, P, pn, pc, by rw [toNatN]; exact q6, fun G w5 hG hw5 => ?_⟩
    have b5 : w5.heap[G]? = some (.cells #[.int .i64 0, .string (ByteArray.mk #[]), .string (ByteArray.mk #[]), .string (ByteArray.mk #[]), .int .i64 0, .int .i64 0, .slice none 0 0] 73 (0, 0)) := by subst hG; subst hw5; exact new_blk _ _
    have c5 : Chg (fun _ => False) w4 w5 := by subst hw5; exact Chg.alloc _ _ _
    refine storeN_blk b5 (by simp) rfl fun w6 b6 c6 w7 hw7 => ?_
    subst hw7
    have b7 : w7.heap[G]? = some (.cells #[.int .i64 o.kind, .string o.name, .string o.to, .string o.data, .int .i64 o.n, .int .i64 o.part, .slice P pn pc] 73 (0, 0)) := b6
    have c47 : Chg (fun _ => False) w4 w7 := c5.trans c6 fun x e => .inr (by omega)
    have hG0 : w4.heap.size ≤ G := by omega
    have r7 : RunX w w7 g s (3 * j) (fun b => X b ∨ b = G) := r4.more c47 (fun _ h => h.elim) fun b hb => by
      rcases hb with hb | rfl
      · exact .inl hb
      · exact .inr ⟨hG0, lt_blk b7⟩
    have hO7 := hO.chg c47 fun _ _ h => h
    -- the loop goes on
    have next : ∀ {A' : Option Addr} {n' c' : Nat} {w10 : World} {s' : FS} {ev' : List (Str × Str)} {X' : Nat → Prop}, RunX w w10 g s' (3 * (j + 1)) X' → Rec s' ev' → n' = ev'.length → Row w10 (.slice A' n' c') ev' X' → ev'.length ≤ (j + 1) * 3145731 →
        (∃ (j' : Nat) (s : FS) (ev : List (Str × Str)) (X : Nat → Prop), IntKind.wrap .i64 ((j : Int) + 1) = j' ∧ j' ≤ ops.length ∧ RunX w w10 g s (3 * j') X ∧ Rec s ev ∧ n' = ev.length ∧ Row w10 (.slice A' n' c') ev X ∧ ev.length ≤ j' * 3145731) ∧
          ops.length - (IntKind.wrap .i64 ((j : Int) + 1)).toNat < ops.length - ((j : Nat) : Int).toNat := by
      intro A' n' c' w10 s' ev' X' h1 h2 h3 h4 h5
      rw [w64s (by omega)]
      exact ⟨⟨j + 1, s', ev', X', rfl, hjl, h1, h2, h3, h4, h5⟩, by omega⟩
    have skip : ∀ {R}, V11_k2 (fun ever evern everc i w4 => ∃ (j : Nat) (s : FS) (ev : List (Str × Str)) (X : Nat → Prop), i = j ∧ j ≤ ops.length ∧ RunX w w4 g s (3 * j) X ∧ Rec s ev ∧ evern = ev.length ∧ Row w4 (.slice ever evern everc) ev X ∧ ev.length ≤ j * 3145731)
        (fun _ _ _ i _ => ops.length - i.toNat) ever ev.length everc j w4 (some a) ops.length c B bn bc (some ⟨g, 0, none⟩) ever ev.length everc j ⟨G, 0, none⟩ true w7 R := by
      intro R
      refine ⟨fun _ => ?_, fun h => (by cases h)⟩
      have h5 : ev.length ≤ (j + 1) * 3145731 := by rw [Nat.add_mul]; exact Nat.le_trans hlen (Nat.le_add_right _ _)
      exact next (A' := ever) (n' := ev.length) (c' := everc) (w10 := w7) (s' := s) (ev' := ev) (X' := fun b => X b ∨ b = G) ⟨r7.ex, r7.lt, r7.new, r7.chg, r7.wf.mono (by rw [Nat.mul_add]; exact Nat.le_add_right _ _)⟩ hrec rfl ⟨hO7, fun b hb => .inl (hX b hb)⟩ h5
    refine ⟨o.kind, cell_blk b7 rfl, fun h7 => ⟨o.kind, cell_blk b7 rfl, ?_⟩, fun _ => skip⟩
    have k7 : o.kind ≠ 7 := by simpa using h7
    by_cases k6 : o.kind = 6
    · have : ((o.kind : Int) == 6) = true := by simp [k6]
      rw [this]; exact skip
    have : ((o.kind : Int) == 6) = false := by simp [k6]
    rw [this]
    refine ⟨fun h => (by cases h), fun _ => ?_⟩
    simp only [add_mk, Nat.reduceAdd]
    refine ⟨_, cell_blk b7 rfl, _, cell_blk b7 rfl, _, cell_blk b7 rfl, _, cell_blk b7 rfl, _, cell_blk b7 rfl, _, cell_blk b7 rfl, _, _, _, cell_blk b7 rfl, ?_⟩
    obtain ⟨F, K, f1, f2, f3, f4⟩ := r7.ex
    refine (done_ok f1 r7.wf (by show _ < 1099511627776; omega) (fok_ok hfit) (hP.chg c47 fun _ _ h => h)).mono ?_
    rintro e w11 ⟨x, rfl, hw11, hx⟩
    obtain ⟨r11, c11⟩ := r7.by1 f2 f3 f4 hw11 (r7.wf.done o hx)
    have hrec11 := hrec.done r7.wf k6 k7 hx
    have hO11 := hO7.chg c11 fun b hb hn => hn (.inl (hX b hb))
    have b11 := c11.blk b7 (fun hn => hn (.inr rfl))
    have hnow11 := r11.wf.nowOk.few
    -- Now, and the row grows
    have k5 : ∀ {A' : Option Addr} {n' c' : Nat} {ev' : List (Str × Str)}, n' = ev'.length → OwnW w11 tPair 2 (.slice A' n' c') ev'.length (pcells ev') → (∀ b, (Value.slice A' n' c').ownBlock = some b → X b ∨ b = G) → ev'.length ≤ j * 3145731 → Rec (s.done o x).1 (ev' ++ (s.done o x).1.nowP) → ∀ {R},
        V11_k5 (fun ever evern everc i w4 => ∃ (j : Nat) (s : FS) (ev : List (Str × Str)) (X : Nat → Prop), i = j ∧ j ≤ ops.length ∧ RunX w w4 g s (3 * j) X ∧ Rec s ev ∧ evern = ev.length ∧ Row w4 (.slice ever evern everc) ev X ∧ ev.length ≤ j * 3145731)
          (fun _ _ _ i _ => ops.length - i.toNat) ever ev.length everc j w4 (some a) ops.length c B bn bc (some ⟨g, 0, none⟩) A' n' c' j w11 R := by
      intro A' n' c' ev' hn' hO' hX' hl' hrec' R
      subst hn'
      obtain ⟨F1, K1, z1, z2, z3, z4⟩ := r11.ex
      refine (now_ok z1 r11.wf (by show _ < 1099511627776; omega)).mono ?_
      rintro e w13 ⟨v, rfl, hP13, hN13, c13⟩
      obtain ⟨Q, qc, rfl⟩ := hP13.slice
      refine ⟨Q, _, qc, rfl, ?_⟩
      have hpl2 : (s.done o x).1.nowP.length = (s.done o x).1.now.length := by unfold FS.nowP; simp
      obtain ⟨A2, c2', w14, hr, hO14, hc14, hN14⟩ := rows_app (hO'.chg c13 fun _ _ h => h) hP13 (by omega)
      refine ⟨A2, _, c2', w14, hr, ?_⟩
      refine next (X' := fun b => (Value.slice A2 (ev'.length + (s.done o x).1.nowP.length) c2').ownBlock = some b) ?_ hrec' (by rw [List.length_append]) ⟨by rw [List.length_append]; exact hO14, fun b hb => hb⟩ (by rw [List.length_append]; omega)
      have r13 := r11.keep c13
      have := r13.more (Y := fun b => (Value.slice A2 (ev'.length + (s.done o x).1.nowP.length) c2').ownBlock = some b) hc14 (fun b hb => hX' b hb) fun b hb => (hN14 b hb).imp (hX' b) fun hle => ⟨hle, hO14.lt hb⟩
      exact this
    refine ⟨_, rfl, o.kind, cell_blk b11 rfl, fun h4 => ?_, fun h4 => ?_⟩
    · have k4 : o.kind = 4 := by simpa using h4
      rw [if_pos k4] at hrec11
      exact k5 (ev' := []) rfl (OwnW.nil _ _ _) (fun b hb => by simp [Value.ownBlock] at hb) (Nat.zero_le _) hrec11
    · have k4 : o.kind ≠ 4 := by simpa using h4
      rw [if_neg k4] at hrec11
      exact k5 (ev' := ev) rfl hO11 (fun b hb => .inl (hX b hb)) hlen hrec11
  · have hje : j = ops.length := by have := of_decide_eq_false hd; omega
    subst hje
    obtain ⟨F, K, f1, f2, f3, f4⟩ := r4.ex
    have hnow := r4.wf.safeOk.few
    refine (safe_ok f1 r4.wf (by show _ < 1099511627776; omega)).mono ?_
    rintro e w15 ⟨v5, rfl, hP5, hN5, c15⟩
    obtain ⟨Q5, q5c, rfl⟩ := hP5.slice
    have hs5 : s.safeP.length = s.safe.length := by unfold FS.safeP; simp
    generalize hsp : s.safeP = sp at hP5 hN5 hs5
    refine ⟨Q5, _, q5c, rfl, ?_⟩
    have r15 : RunX w w15 g s (3 * ops.length) (fun b => X b ∨ (Value.slice Q5 sp.length q5c).ownBlock = some b) := r4.more c15 (fun _ h => h.elim) fun b hb => hb.imp id fun hb => ⟨hN5 b hb, hP5.lt hb⟩
    refine ⟨fun ever evern everc i w16 => ∃ (t : Nat) (X' : Nat → Prop), i = t ∧ t ≤ sp.length ∧ RunX w w16 g s (3 * ops.length) X' ∧ evern = ev.length + t ∧ OwnW w16 tPair 2 (.slice ever evern everc) evern (pcells (ev ++ sp.take t)) ∧ (∀ b, (Value.slice ever evern everc).ownBlock = some b → X' b) ∧
        OwnW w16 tPair 2 (.slice Q5 sp.length q5c) sp.length (pcells sp) ∧ (∀ b, (Value.slice Q5 sp.length q5c).ownBlock = some b → X' b) ∧ (∀ b, (Value.slice ever evern everc).ownBlock = some b → (Value.slice Q5 sp.length q5c).ownBlock ≠ some b),
      fun _ _ _ i _ => sp.length - i.toNat, ⟨0, _, rfl, Nat.zero_le _, r15, rfl, by simpa using hO.chg c15 fun _ _ h => h, fun b hb => .inl (hX b hb), hP5, fun b => .inr, fun b hb h5 => by have := hN5 b h5; have := hO.lt hb; omega⟩, ?_⟩
    rintro ever2 evern2 everc2 i w16 ⟨t, X', rfl, ht, r16, rfl, hO16, hX16, hP16, hX5, hsep⟩
    refine ⟨fun hd2 => ?_, fun hd2 => ?_⟩
    · have htl : t < sp.length := by have := of_decide_eq_true hd2; omega
      have hget := List.getElem?_eq_getElem htl
      generalize sp[t] = p at hget
      obtain ⟨Q5', q5c', e5, _, hpa⟩ := OwnW.pairs hP16
      injection e5 with e5 _ _
      subst e5
      obtain ⟨a2, rfl, y1, y2⟩ := hpa t p hget
      refine ⟨by omega, by omega, p.1, by rw [toNatN]; exact y1, p.2, by rw [toNatN]; exact y2, fun G2 w17 hG2 hw17 => ?_⟩
      have c17 : Chg (fun _ => False) w16 w17 := by subst hw17; exact Chg.alloc _ _ _
      have b17 : w17.heap[G2]? = some (.cells #[.string p.1, .string p.2] 77 (0, 0)) := by subst hG2; subst hw17; exact new_blk _ _
      have hone : OwnW w17 tPair 2 (.slice (some ⟨G2, 0, none⟩) 1 1) [p].length (pcells [p]) := ⟨rfl, .inr ⟨G2, 1, _, rfl, Nat.zero_le _, b17, Nat.le_refl _, by unfold maxLen; omega, rfl, rfl⟩⟩
      have hel : (ev ++ sp.take t).length = ev.length + t := by rw [List.length_append, List.length_take]; omega
      have hO17 := hO16.chg c17 fun _ _ h => h
      rw [← hel] at hO17
      obtain ⟨A', c', w18, hr, hO18, hC18, hN18⟩ := rows_app hO17 hone (by rw [hel]; simp only [List.length_singleton]; omega)
      rw [hel] at hr hO18 hC18 hN18
      refine ⟨A', _, c', w18, hr, ?_⟩
      rw [w64s (by omega)]
      refine ⟨⟨t + 1, fun b => X' b ∨ (Value.slice A' (ev.length + t + [p].length) c').ownBlock = some b, rfl, htl, (r16.keep c17).more hC18 hX16 fun b hb => ?_, rfl, ?_, fun b => .inr, (hP16.chg c17 fun _ _ h => h).chg hC18 fun b hb hb' => hsep b hb' hb, fun b hb => .inl (hX5 b hb), fun b hb hb' => ?_⟩, by show sp.length - (((t + 1 : Nat) : Int)).toNat < sp.length - ((t : Nat) : Int).toNat; rw [toNatN, toNatN]; omega⟩
      · rcases hb with hb | hb
        · exact .inl hb
        · exact (hN18 b hb).imp (hX16 b) fun hle => ⟨hle, hO18.lt hb⟩
      · rw [List.take_add_one, hget, ← List.append_assoc]; exact hO18
      · rcases hN18 b hb with h1 | h1
        · exact hsep b h1 hb'
        · have := hP16.lt hb'; have := c17.size; omega
    have hte : t = sp.length := by have := of_decide_eq_false hd2; omega
    subst hte
    rw [List.take_length] at hO16
    obtain ⟨F6, K6, z1, z2, z3, z4⟩ := r16.ex
    have hpk16 := hpk.chg r16.chg fun _ _ h => h
    refine (crash_ok z1 r16.wf (by show _ < 1099511627776; omega) 0 hpk16 (by show _ < 1099511627776; omega)).mono ?_
    rintro e w19 ⟨rfl, hw19⟩
    have hwf19 := down0_wf r16.wf picks
    rw [crashAt_zero hrec.up] at hw19 ⊢
    obtain ⟨r19, c19⟩ := r16.by1 z2 z3 z4 hw19 hwf19
    have hO19 := hO16.chg c19 fun b hb hn => hn (hX16 b hb)
    have hP19 := hP16.chg c19 fun b hb hn => hn (hX5 b hb)
    refine ⟨_, rfl, fun h => (by cases h), fun _ => ?_⟩
    obtain ⟨F9, K9, y1, y2, y3, y4⟩ := r19.ex
    refine (now_ok y1 r19.wf (by show _ < 1099511627776; omega)).mono ?_
    rintro e w20 ⟨v7, rfl, hP20, hN20, c20⟩
    have hpl20 : (s.down0 picks).nowP.length = (s.down0 picks).now.length := by unfold FS.nowP; simp
    have hnf : (s.down0 picks).now.length ≤ 3 * ops.length := r19.wf.nowOk.few
    have hlaw := fun (e : Str × Str) (he : e ∈ (s.down0 picks).nowP) => hrec.crash r4.wf picks he
    have hleast := fun hp => Rec.least (s := s) (n := 3 * ops.length) r4.wf (picks := picks) hp
    rw [hsp] at hleast
    generalize hnp : (s.down0 picks).nowP = np at hP20 hN20 hpl20 hlaw hleast
    have hcw : Chg (fun _ => False) w w20 := (r19.keep c20).chg
    obtain ⟨Q7, q7c, e7, _, hpn⟩ := OwnW.pairs hP20
    subst e7
    obtain ⟨Qe, qec, ee, hel, hpe⟩ := OwnW.pairs (hO19.chg c20 fun _ _ h => h)
    injection ee with ee1 _ ee3
    subst ee1; subst ee3
    obtain ⟨Qs, qsc, es, _, hps⟩ := OwnW.pairs (hP19.chg c20 fun _ _ h => h)
    injection es with es1 _ es3
    subst es1; subst es3
    have hpk20 := hpk.chg hcw fun _ _ h => h
    obtain ⟨PA, pcp, ep, hpp⟩ := rdAt hpk20
    injection ep with ep1 ep2 ep3
    subst ep1; subst ep3
    generalize hevF : ev ++ sp = evF at hpe hel
    have hsub : ∀ q ∈ ev, q ∈ evF := fun q hq => by rw [← hevF]; exact List.mem_append_left _ hq
    have hevl : evF.length ≤ 4398046511104 := by rw [← hel]; omega
    refine ⟨Q7, _, q7c, rfl, ?_⟩
    refine ⟨fun i w21 => Drawn w20 w21 ∧ ∃ t : Nat, i = t ∧ t ≤ np.length, fun i _ => np.length - i.toNat, ⟨Drawn.refl _, 0, rfl, Nat.zero_le _⟩, ?_⟩
    rintro i w21 ⟨d21, t, rfl, ht3⟩
    have pc : ∀ {w' : World} {a : Addr} {u : Value}, Drawn w20 w' → w20.cell? a = some u → w'.cell? a = some u := fun hd hu => hd.ext.cell hu
    refine ⟨fun hd3 => ?_, fun hd3 => ?_⟩
    · have htl : t < np.length := by have := of_decide_eq_true hd3; omega
      have hget := List.getElem?_eq_getElem htl
      have hmem : np[t] ∈ np := List.getElem_mem htl
      generalize np[t] = p at hget hmem
      obtain ⟨⟨qn, hqn, hqn'⟩, qv, hqv, hqv'⟩ := hlaw p hmem
      obtain ⟨a3, rfl, y1, y2⟩ := hpn t p hget
      refine ⟨fun named was k w22 => Drawn w20 w22 ∧ ∃ u : Nat, k = u ∧ u ≤ evF.length ∧ named = (evF.take u).any (nmB p.1) ∧ was = (evF.take u).any (preB p.2), fun _ _ k _ => evF.length - k.toNat, ⟨d21, 0, rfl, Nat.zero_le _, rfl, rfl⟩, ?_⟩
      rintro named was k w22 ⟨d22, u, rfl, hu, hnm, hws⟩
      rw [hel]
      refine ⟨fun hd4 => ?_, fun hd4 => ?_⟩
      · have hul : u < evF.length := by have := of_decide_eq_true hd4; omega
        have hgete := List.getElem?_eq_getElem hul
        generalize evF[u] = q at hgete
        obtain ⟨a4, rfl, x1, x2⟩ := hpe u q hgete
        refine ⟨by omega, by omega, p.2, by rw [toNatN]; exact pc d22 y2, fun w23 d23 => ?_⟩
        have d223 := d22.trans d23
        have k7 : ∀ {nm ws : Bool} {w25 : World} {R : Ending → World → Prop}, Drawn w20 w25 → nm = (evF.take (u + 1)).any (nmB p.1) → ws = (evF.take (u + 1)).any (preB p.2) →
            V11_k7 (fun named was k w22 => Drawn w20 w22 ∧ ∃ u : Nat, k = u ∧ u ≤ evF.length ∧ named = (evF.take u).any (nmB p.1) ∧ was = (evF.take u).any (preB p.2)) (fun _ _ k _ => evF.length - k.toNat) named was u w22 B bn bc (some a4) evF.length everc2 Q5 sp.length q5c false (some a3) np.length q7c t nm ws u w25 R := by
          intro nm ws w25 R d h1 h2
          show (_ ∧ _) ∧ _
          rw [w64s (by omega)]
          exact ⟨⟨d, u + 1, rfl, hul, h1, h2⟩, by show evF.length - (((u + 1 : Nat) : Int)).toNat < evF.length - ((u : Nat) : Int).toNat; rw [toNatN, toNatN]; omega⟩
        have k6 : ∀ {nm : Bool} {w25 : World} {R : Ending → World → Prop}, Drawn w20 w25 → nm = (evF.take (u + 1)).any (nmB p.1) →
            V11_k6 (fun named was k w22 => Drawn w20 w22 ∧ ∃ u : Nat, k = u ∧ u ≤ evF.length ∧ named = (evF.take u).any (nmB p.1) ∧ was = (evF.take u).any (preB p.2)) (fun _ _ k _ => evF.length - k.toNat) named was u w22 B bn bc (some a4) evF.length everc2 Q5 sp.length q5c false (some a3) np.length q7c t nm was u p.2 w25 R := by
          intro nm w25 R d h1
          refine ⟨fun hw => ?_, fun hw => k7 d h1 (by rw [any_take hgete, ← hws, hw]; rfl)⟩
          refine ⟨by omega, by omega, q.2, by rw [toNatN]; exact pc d x2, fun hsz => ?_, fun hsz => k7 d h1 ?_⟩
          · have hsz := of_decide_eq_true hsz
            refine ⟨by omega, by omega, q.2, by rw [toNatN]; exact pc d x2, by omega, by omega, k7 d h1 ?_⟩
            rw [any_take hgete, ← hws, hw, toNatN]
            unfold preB; rw [if_pos (by omega)]; rfl
          · have hsz : ¬ ((q.2.size : Nat) : Int) ≥ ((p.2.size : Nat) : Int) := of_decide_eq_false hsz
            rw [any_take hgete, ← hws, hw]
            unfold preB; rw [if_neg (by omega)]; rfl
        refine ⟨fun hn => ?_, fun hn w28 d28 => k6 (d223.trans d28) (by rw [any_take hgete, ← hnm, hn]; rfl)⟩
        refine ⟨by omega, by omega, by omega, by omega, q.1, by rw [toNatN]; exact pc d223 x1, p.1, by rw [toNatN]; exact pc d223 y1, fun w24 d24 => k6 (d223.trans d24) (by rw [any_take hgete, ← hnm, hn]; rfl)⟩
      · have hue : u = evF.length := by have := of_decide_eq_false hd4; omega
        subst hue
        rw [List.take_length] at hnm hws
        have n1 : named = true := by
          rw [hnm, List.any_eq_true]
          exact ⟨qn, hsub _ hqn, strEq_iff.2 hqn'⟩
        have n2 : was = true := by
          rw [hws, List.any_eq_true]
          refine ⟨qv, hsub _ hqv, ?_⟩
          unfold preB; rw [if_pos hqv'.1]; exact strEq_iff.2 hqv'.2
        subst n1
        rw [n2]
        refine ⟨fun _ => ⟨fun h => (by cases h), fun _ => ?_⟩, fun h => (by cases h)⟩
        rw [w64s (by omega)]
        exact ⟨⟨d22, t + 1, rfl, htl⟩, by show np.length - (((t + 1 : Nat) : Int)).toNat < np.length - ((t : Nat) : Int).toNat; rw [toNatN, toNatN]; omega⟩
    · have fin : ∀ {w' : World}, Drawn w20 w' → Chg (fun _ => False) w w' := fun d => hcw.drawn d
      subst hbn
      refine ⟨fun ch i w30 => w30 = w21 ∧ ∃ u : Nat, i = u ∧ u ≤ picks.length ∧ ch = ((picks.take u)[0]?).any fun p => decide (p > 0), fun _ i _ => picks.length - i.toNat, ⟨rfl, 0, rfl, Nat.zero_le _, rfl⟩, ?_⟩
      rintro ch i w30 ⟨rfl, u, rfl, hu, hch⟩
      refine ⟨fun hd5 => ?_, fun hd5 => ?_⟩
      · have hul : u < picks.length := by have := of_decide_eq_true hd5; omega
        have k10 : ∀ {b : Bool}, b = (((picks.take (u + 1))[0]?).any fun p => decide (p > 0)) →
            V11_k10 (fun ch i w30 => w30 = w30 ∧ ∃ u : Nat, i = u ∧ u ≤ picks.length ∧ ch = ((picks.take u)[0]?).any fun p => decide (p > 0)) (fun _ i _ => picks.length - i.toNat) ch u w30 B picks.length bc Q5 sp.length q5c b Q7 np.length q7c u w30 (fun e w' => e = .returned (.bool true) ∧ Chg (fun _ => False) w w') := by
          intro b hb
          show (_ ∧ _) ∧ _
          rw [w64s (by omega)]
          exact ⟨⟨rfl, u + 1, rfl, hul, hb⟩, by show picks.length - (((u + 1 : Nat) : Int)).toNat < picks.length - ((u : Nat) : Int).toNat; rw [toNatN, toNatN]; omega⟩
        have hsame : u ≠ 0 → (picks.take (u + 1))[0]? = (picks.take u)[0]? := fun h => by
          rw [List.getElem?_take, List.getElem?_take, if_pos (by omega), if_pos (by omega)]
        refine ⟨fun hc => ⟨fun h0 => ?_, fun h0 => ?_⟩, fun hc => k10 ?_⟩
        · have h0 : u = 0 := by simpa using h0
          subst h0
          obtain ⟨a8, rfl, hcell⟩ := hpp 0 picks[0] (List.getElem?_eq_getElem hul)
          refine ⟨by omega, by omega, picks[0], pc d21 hcell, k10 ?_⟩
          rw [List.getElem?_take, if_pos (by omega), List.getElem?_eq_getElem hul]; rfl
        · have h0 : u ≠ 0 := by simpa using h0
          refine k10 ?_
          rw [hsame h0, ← hch, hc]
        · have hc : ch = true := hc
          have h0 : u ≠ 0 := fun e => by subst e; rw [hc] at hch; simp at hch
          rw [hsame h0, ← hch, hc]
      · have hue : u = picks.length := by have := of_decide_eq_false hd5; omega
        subst hue
        rw [List.take_length] at hch
        refine ⟨fun _ => ⟨rfl, fin d21⟩, fun hc => ?_⟩
        have hp0 : ∀ p, picks[0]? = some p → p ≤ 0 := fun p hp => by
          rw [hc, hp] at hch
          have : decide (p > 0) = false := hch.symm
          have := of_decide_eq_false this; omega
        obtain ⟨_, hlen2, hall⟩ := hleast hp0
        refine ⟨fun i w33 => Drawn w20 w33 ∧ ∃ u : Nat, i = u ∧ u ≤ sp.length, fun i _ => sp.length - i.toNat, ⟨d21, 0, rfl, Nat.zero_le _⟩, ?_⟩
        rintro i w33 ⟨d33, u, rfl, hu6⟩
        refine ⟨fun hd6 => ?_, fun hd6 => ?_⟩
        · have hul : u < sp.length := by have := of_decide_eq_true hd6; omega
          have hgets := List.getElem?_eq_getElem hul
          have hmems : sp[u] ∈ sp := List.getElem_mem hul
          generalize sp[u] = p at hgets hmems
          obtain ⟨v, hv1, hv2, hv3⟩ := hall p hmems
          obtain ⟨a9, rfl, y1, y2⟩ := hps u p hgets
          have hpn33 : PairsAt w33 Q7 np := hpn.chg (d33.chg _)
          refine ⟨by omega, by omega, p.1, by rw [toNatN]; exact pc d33 y1, (find_ok hpn33 (by omega) p.1).mono ?_⟩
          rintro e w34 ⟨rfl, rfl⟩
          rw [hv1]
          refine ⟨_, _, rfl, fun w35 d35 => ⟨fun _ => ?_, fun h => (by cases h)⟩⟩
          have d335 := d33.trans d35
          have hvs : (Option.getD (some v) (ByteArray.mk #[])) = v := rfl
          rw [hvs]
          refine ⟨by omega, by omega, p.2, by rw [toNatN]; exact pc d335 y2, fun _ => ?_, fun h => absurd (of_decide_eq_true h) (by omega)⟩
          refine ⟨by omega, by omega, by omega, by omega, p.2, by rw [toNatN]; exact pc d335 y2, by omega, by omega, p.2, by rw [toNatN]; exact pc d335 y2, fun w36 d36 => ?_⟩
          rw [toNatN, hv3, strEq_self]
          refine ⟨fun h => (by cases h), fun _ => ?_⟩
          rw [w64s (by omega)]
          exact ⟨⟨d335.trans d36, u + 1, rfl, hul⟩, by show sp.length - (((u + 1 : Nat) : Int)).toNat < sp.length - ((u : Nat) : Int).toNat; rw [toNatN, toNatN]; omega⟩
        · refine ⟨?_, fin d33⟩
          rw [hlen2]; simp
end Go.Proofs.Ytcljmlgbmjjldaa.Fs
