/- The dict: Set, Get, Len, Tables, Step. -/
import Derived.Test.YtcljmlgbmjjldaaDict4
namespace Go.Proofs.Ytcljmlgbmjjldaa
open Go Go.VC Go.RowKit Go.Proofs.Ytcljmlgbmjjldaa.F
set_option linter.unusedVariables false
set_option linter.unusedSimpArgs false

noncomputable def inf3 : TypeInfo := (Try.prog.info? 3).getD default
theorem info3 : Try.prog.info? 3 = some inf3 ∧ inf3.zero = some (.int .i64 0) ∧ inf3.size = 1 ∧ inf3.bytes = 8 := ⟨by kernel_rfl, by kernel_rfl, by kernel_rfl, by kernel_rfl⟩
/-- all values are numbers -/
def Ints (m : Kvs) : Prop := ∀ k v, kget k m = some v → ∃ n : Int, v = .int .i64 n
theorem Ints.upd {m : Kvs} (h : Ints m) (k : Str) (n : Int) : Ints (upd k (.int .i64 n) m) := fun j v hj => by
  by_cases e : k = j
  · subst e; rw [look_upd_same] at hj; injection hj with hj; exact ⟨n, hj.symm⟩
  · rw [look_upd_ne e] at hj; exact h j v hj
theorem Ints.del {m : Kvs} (h : Ints m) (hn : NodupK m) (k : Str) : Ints (del k m) := fun j v hj => by
  by_cases e : k = j
  · subst e; rw [look_del_same hn] at hj; cases hj
  · rw [look_del_ne e] at hj; exact h j v hj
def intOf : Option Value → Int
  | some (.int _ n) => n
  | _ => 0
theorem Ints.get {m : Kvs} (h : Ints m) (k : Str) : (kget k m).getD (.int .i64 0) = .int .i64 (intOf (kget k m)) := by
  cases hl : kget k m with
  | none => rfl
  | some v => obtain ⟨n, rfl⟩ := h k v hl; rfl
theorem look_int {w : World} {r : Nat} {m : Kvs} (hi : Ints m) (h : MapAt w r m) (k : Str) :
    (Instr.lookup 100 (.map (some r)) (.string k) true).run Try.prog w = .ok (.tuple #[.int .i64 (intOf (kget k m)), .bool (kget k m).isSome]) w := by
  have := run_lookup2 (P := Try.prog) Try.underlying100 Try.underlying9 info3.1 info3.2.1 h k
  rw [hi.get] at this; exact this

theorem joins_vc {w : World} {g : Nat} {d : D} {F : Nat → Prop} {key : Str} {R : Ending → World → Prop} (h : DictAt w g d F) (hf : key.size < 9223372036854775808)
    (h1 : d.moves = true → D.Pow d.b2.length ∧ used d.b2 < big) (h2 : d.moves = false → D.Pow d.b1.length ∧ used d.b1 < big)
    (hR : ∀ w', Went w w' g F (d.joins key) → R (.returned (.bool true)) w') : V19_k2 ⟨g, 0, none⟩ key w R := by
  unfold V19_k2
  refine (moves_ok h).mono ?_
  rintro e w1 ⟨rfl, rfl⟩
  refine ⟨_, rfl, fun hm w2 d2 => ?_, fun hm w2 d2 => ?_⟩
  all_goals
    have hd := h.drawn d2
    obtain ⟨s1, F1, s2, F2, r, k1, k2⟩ := hd.ex
    simp only [add_mk, Nat.reduceAdd]
    refine ⟨_, cell_blk k1.blk rfl, _, fun w0 _ => hash_quiet hf w0, fun w3 d3 => ?_⟩
    have k3 := k1.drawn d3
  · obtain ⟨hp, hu⟩ := h1 hm
    refine (join_dw2 k3 key hp hu).mono ?_
    rintro e w4 ⟨rfl, F2', k4, hF, c4⟩
    refine ⟨rfl, fun w5 d5 => hR w5 (Went.of_drawn (d2.trans d3) (Went.drawn ⟨fun x => x = g ∨ x = r ∨ F1 x ∨ F2' x, ⟨s1, F1, s2, F2', r, ?_, fun x => Iff.rfl⟩, ?_, c4.mono ?_⟩ d5))⟩
    · have hj : d.joins key = { d with b2 := joinB d.seed d.b2 key } := by unfold D.joins; rw [if_pos hm]
      have hl : 0 < d.b2.length := by obtain ⟨k, _, _, e⟩ := hp; rw [e]; exact Nat.two_pow_pos k
      rw [hj]
      show DW w4 g d.seed s1 d.b1 (used d.b1) F1 s2 (joinB d.seed d.b2 key) ((used (joinB d.seed d.b2 key) : Nat) : Int) F2' d.idx r d.m
      rw [used_joinB hl, ← w64s (by unfold big at hu; omega)]; exact k4
    · rintro x (rfl | rfl | hx | hx)
      · exact .inl ((k2 _).2 (.inl rfl))
      · exact .inl ((k2 _).2 (.inr (.inl rfl)))
      · exact .inl ((k2 _).2 (.inr (.inr (.inl hx))))
      · exact (hF x hx).imp (fun h' => (k2 _).2 (.inr (.inr (.inr h')))) id
    · rintro x (rfl | hx)
      · exact (k2 _).2 (.inl rfl)
      · exact (k2 _).2 (.inr (.inr (.inr hx)))
  · obtain ⟨hp, hu⟩ := h2 hm
    refine (join_dw1 k3 key hp hu).mono ?_
    rintro e w4 ⟨rfl, F1', k4, hF, c4⟩
    refine ⟨rfl, fun w5 d5 => hR w5 (Went.of_drawn (d2.trans d3) (Went.drawn ⟨fun x => x = g ∨ x = r ∨ F1' x ∨ F2 x, ⟨s1, F1', s2, F2, r, ?_, fun x => Iff.rfl⟩, ?_, c4.mono ?_⟩ d5))⟩
    · have hj : d.joins key = { d with b1 := joinB d.seed d.b1 key } := by unfold D.joins; rw [if_neg (by simp [hm])]
      have hl : 0 < d.b1.length := by obtain ⟨k, _, _, e⟩ := hp; rw [e]; exact Nat.two_pow_pos k
      rw [hj]
      show DW w4 g d.seed s1 (joinB d.seed d.b1 key) ((used (joinB d.seed d.b1 key) : Nat) : Int) F1' s2 d.b2 (used d.b2) F2 d.idx r d.m
      rw [used_joinB hl, ← w64s (by unfold big at hu; omega)]; exact k4
    · rintro x (rfl | rfl | hx | hx)
      · exact .inl ((k2 _).2 (.inl rfl))
      · exact .inl ((k2 _).2 (.inr (.inl rfl)))
      · exact (hF x hx).imp (fun h' => (k2 _).2 (.inr (.inr (.inl h')))) id
      · exact .inl ((k2 _).2 (.inr (.inr (.inr hx))))
    · rintro x (rfl | hx)
      · exact (k2 _).2 (.inl rfl)
      · exact (k2 _).2 (.inr (.inr (.inl hx)))

theorem quiet_of {P : Program} {f : FuncId} {args : Array Value} {w : World} {v : Value} (h : Calls P f args w fun e w' => e = .returned v ∧ w = w') : Calls P f args w fun e w' => e = .returned v ∧ Drawn w w' :=
  h.mono fun e w' h => ⟨h.1, by rw [h.2]; exact Drawn.refl _⟩
/-- a dict stands on in worlds that have only grown -/
theorem DictAt.ext {w w' : World} {g : Nat} {d : D} {F : Nat → Prop} (h : DictAt w g d F) (he : Ext w w') : DictAt w' g d F := by
  obtain ⟨s1, F1, s2, F2, r, h1, h2⟩ := h.ex
  have hT : ∀ {s : Value} {b : Bks} {G : Nat → Prop}, Tab tS tR w s b G → Tab tS tR w' s b G := by
    intro s b G ht
    obtain ⟨vs, k1, k2, k3⟩ := ht.ex
    have ho : ∀ {e : TypeId} {v : Value} {n : Nat} {xs : List Value}, Own w e v n xs → Own w' e v n xs := by
      intro e v n xs ho
      obtain ⟨o1, o2⟩ := ho
      refine ⟨o1, ?_⟩
      rcases o2 with o2 | ⟨g, cap, cur, rfl, hb, hh, rest⟩
      · exact .inl o2
      · exact .inr ⟨g, cap, cur, rfl, hb, he.obj hh, rest⟩
    exact ⟨vs, ho k1, ⟨k2.len, fun i v b hv hb => ho (k2.own i v b hv hb), k2.sep⟩, k3⟩
  obtain ⟨es, clk, m1, mst, m2⟩ := h1.map.ex
  exact ⟨s1, F1, s2, F2, r, ⟨he.obj h1.blk, hT h1.t1, hT h1.t2, h1.sep, ⟨es, clk, he.obj m1, mst, m2⟩⟩, h2⟩

theorem set_ok {w : World} {g : Nat} {d : D} {F : Nat → Prop} {key : Str} {v : Int} (h : DictAt w g d F) (hi : D.Inv d) (hints : Ints d.m) (hf : key.size < 9223372036854775808) (hbig : d.m.length < 549755813888) :
    Calls Try.prog 19 #[.pointer (some ⟨g, 0, none⟩), .string key, .int .i64 v] w fun e w' => e = .returned (.bool (d.set key (.int .i64 v)).2) ∧ Went w w' g F (d.set key (.int .i64 v)).1 := by
  refine v19 _ _ _ _ _ ?_
  unfold V19
  refine (step_ok h hi (by unfold big; omega)).mono ?_
  rintro e w1 ⟨rfl, hw1⟩
  obtain ⟨F0, h1, hF0, c1⟩ := hw1.ex
  have hsi := hi.step
  obtain ⟨s1, F1, s2, F2, r, k1, k2⟩ := h1.ex
  have hints' : Ints d.step.m := by rw [D.step_m]; exact hints
  simp only [add_mk, Nat.reduceAdd]
  refine ⟨trivial, _, cell_blk k1.blk rfl, _, _, w1, look_int hints' k1.map key, _, cell_blk k1.blk rfl, ?_⟩
  obtain ⟨w3, hr3, hm3, c3⟩ := run_mapUpdate (P := Try.prog) (T := 100) Try.underlying100 Try.underlying9 k1.map key (.int .i64 v)
  have k3 : DW w3 g d.step.seed s1 d.step.b1 (used d.step.b1) F1 s2 d.step.b2 (used d.step.b2) F2 d.step.idx r (upd key (.int .i64 v) d.step.m) :=
    ⟨c3.blk k1.blk (Ne.symm k1.rg), k1.t1.chg c3 fun x hx e => k1.r1 (e ▸ hx), k1.t2.chg c3 fun x hx e => k1.r2 (e ▸ hx), k1.sep, hm3⟩
  have h3 : DictAt w3 g (d.step.puts key (.int .i64 v)) F0 := ⟨s1, F1, s2, F2, r, k3, k2⟩
  have hw3 : Went w w3 g F (d.step.puts key (.int .i64 v)) := ⟨F0, h3, hF0, c1.trans c3 fun x hx => hF0 x ((k2 x).2 (.inr (.inl hx)))⟩
  refine ⟨w3, hr3, fun hb => ?_, fun hb => ?_⟩
  · unfold D.set; rw [if_pos hb]; exact ⟨rfl, hw3⟩
  have hset : d.set key (.int .i64 v) = (((d.step.puts key (.int .i64 v)).grows).joins key, true) := by unfold D.set; rw [if_neg (by simp [hb])]
  rw [hset]
  have hn : kget key d.step.m = none := by simpa using hb
  have hI := hsi.puts_new (v := .int .i64 v) hn hf
  have hlen : (d.step.puts key (.int .i64 v)).m.length ≤ 549755813888 := by
    show (upd key (.int .i64 v) d.step.m).length ≤ _
    rw [upd_none hn, D.step_m]; simp; omega
  obtain ⟨hI2, hI3, hI4⟩ := D.grows_spec hI (fun hm => (hsi.mv hm).1) hlen
  generalize hd2 : d.step.puts key (.int .i64 v) = d2 at *
  have hgm : d2.grows.m = d2.m := by unfold D.grows; split; rfl; split; exact D.ends_m _; rfl
  have hul := hI2.used_le
  rw [hgm] at hul
  have hj : ∀ w8, Went w w8 g F d2.grows → V19_k1 ⟨g, 0, none⟩ key w8 (fun e w' => e = .returned (.bool true) ∧ Went w w' g F (d2.grows.joins key)) := by
    intro w8 hw8
    obtain ⟨F8, h8, hF8, c8⟩ := hw8.ex
    unfold V19_k1
    refine joins_vc h8 hf (fun hm => ⟨hI2.p2.resolve_left (D.moves_iff.1 hm), by unfold big; omega⟩) (fun hm => ⟨hI2.p1.resolve_left hI3, by unfold big; omega⟩) fun w' hw' => ⟨rfl, Went.via hF8 c8 hw'⟩
  refine (size1_ok h3).mono ?_
  rintro e w4 ⟨rfl, rfl⟩
  refine ⟨_, rfl, fun h0 => ?_, fun h0 w5 d5 => ?_⟩
  · rw [beq0] at h0
    refine ⟨by decide, by decide, by decide, by decide, fun G w5 hG hw5 => ?_⟩
    have ht := Tab.fresh (n := 4) hG hw5 (by unfold maxLen; omega)
    have c5 : Chg (fun _ => False) w3 w5 := by subst hw5; exact Chg.alloc _ _ _
    obtain ⟨s1, F1, s2, F2, r, k3, k2⟩ := h3.ex
    have k5 := k3.chg c5 id id (fun _ _ h => h) (fun _ _ h => h)
    refine ⟨⟨_, cell_blk k5.blk rfl⟩, frozen_blk k5.blk, fun w6 hw6 => hj w6 ?_⟩
    obtain ⟨k6, c6⟩ := store_blk k5.blk hw6
    have hgG : G ≠ g := fun e => by have := lt_blk k3.blk; omega
    have hgr : d2.grows = { d2 with b1 := List.replicate 4 [] } := by unfold D.grows; rw [if_pos h0]
    have hb1 : d2.b1 = [] := List.eq_nil_of_length_eq_zero h0
    have hu : used d2.b1 = 0 := by rw [hb1]; rfl
    refine Went.via (F1 := F0) hF0 hw3.ex.choose_spec.2.2 ⟨fun x => x = g ∨ x = r ∨ x = G ∨ F2 x, ⟨.slice (some ⟨G, 0, none⟩) 4 4, fun x => x = G, s2, F2, r, ?_, fun x => Iff.rfl⟩, ?_, ?_⟩
    · rw [hgr]
      refine ⟨?_, ht.chg c6 fun x hx e => hgG (hx ▸ e), k5.t2.chg c6 fun x hx e => k5.g2 (e ▸ hx), fun x hx hx2 => ?_, k5.map.chg c6 k5.rg⟩
      · show w6.heap[g]? = some (Obj.cells #[_, _, .int .i64 ((used (List.replicate 4 []) : Nat) : Int), _, _, _, _] _ _)
        rw [show used (List.replicate 4 []) = used d2.b1 by rw [hu]; rfl]
        exact k6
      · have := k3.t2.lt hx2; omega
    · rintro x (rfl | rfl | rfl | hx)
      · exact .inl ((k2 _).2 (.inl rfl))
      · exact .inl ((k2 _).2 (.inr (.inl rfl)))
      · exact .inr (by omega)
      · exact .inl ((k2 _).2 (.inr (.inr (.inr hx))))
    · exact (c5.mono fun _ h => h.elim).trans' (c6.mono fun x hx => (k2 x).2 (.inl hx))
  · rw [beq0'] at h0
    have h5 := h3.drawn d5
    have hw5 := hw3.drawn d5
    refine ⟨_, fun w0 he => quiet_of (moves_ok (h5.ext he)), fun hm => ?_, fun hm => ?_⟩
    · have hm' : d2.moves = false := by simpa using hm
      obtain ⟨s1, F1, s2, F2, r, k5, k2'⟩ := h5.ex
      refine ⟨_, cell_blk k5.blk rfl, _, fun w0 he => quiet_of (size1_ok (h5.ext he)), fun w6 d6 => ⟨fun hc => ?_, fun hc => ?_⟩⟩
      · have h6 := h5.drawn d6
        have hle : d2.b1.length ≤ used d2.b1 := by simpa using hc
        have hgr : d2.grows = d2.begins (2 * d2.b1.length) := by unfold D.grows; rw [if_neg h0, if_pos (by simp [hm', hle])]
        refine (size1_ok h6).mono ?_
        rintro e w7 ⟨rfl, rfl⟩
        refine ⟨_, rfl, ?_⟩
        have h2u := hI.used_le
        have hwr : IntKind.wrap .i64 (2 * ((d2.b1.length : Nat) : Int)) = ((2 * d2.b1.length : Nat) : Int) := by rw [w64 (by omega) (by omega)]; omega
        rw [hwr]
        refine (begins_ok h6 (by unfold big; omega)).mono ?_
        rintro e w8 ⟨rfl, hw8⟩
        rw [hgr] at hj ⊢
        exact ⟨rfl, hj w8 (Went.via hF0 ((hw5.drawn d6).ex.choose_spec.2.2) hw8)⟩
      · have hle : ¬ d2.b1.length ≤ used d2.b1 := by simpa using hc
        have hgr : d2.grows = d2 := by unfold D.grows; rw [if_neg h0, if_neg (by simp [hm', hle])]
        exact hj w6 (by rw [hgr]; exact hw5.drawn d6)
    · have hm' : d2.moves = true := by simpa using hm
      intro w6 d6
      have hgr : d2.grows = d2 := by unfold D.grows; rw [if_neg h0, if_neg (by simp [hm'])]
      exact ⟨fun h => (by cases h), fun _ => hj w6 (by rw [hgr]; exact hw5.drawn d6)⟩
end Go.Proofs.Ytcljmlgbmjjldaa
