/- DictPlays: the walk. -/
import Derived.Test.YtcljmlgbmjjldaaRef8
namespace Go.Proofs.Ytcljmlgbmjjldaa
open Go Go.VC Go.RowKit Go.Proofs.Ytcljmlgbmjjldaa.F
set_option linter.unusedVariables false
set_option linter.unusedSimpArgs false
/-- a dict, and the document's beside it: all in new blocks, apart -/
structure PM (w w' : World) (g : Nat) (d : D) (F : Nat → Prop) (gr : Nat) (r : RD) (A1 : Option Addr) (c1 : Nat) (A2 : Option Addr) (c2 : Nat) : Prop where
  dict : DictAt w' g d F
  fresh : ∀ x, F x → w.heap.size ≤ x
  chg : Chg (fun x => w.heap.size ≤ x) w w'
  blk : w'.heap[gr]? = some (.cells (cR r (.slice A1 r.l1.length c1) (.slice A2 r.l2.length c2)) 55 (0, 0))
  grw : w.heap.size ≤ gr
  grF : ¬ F gr
  at_ : RAt w' (.slice A1 r.l1.length c1) (.slice A2 r.l2.length c2) r (fun b => w.heap.size ≤ b ∧ ¬ F b)
section
variable {w w1 w2 : World} {g gr : Nat} {d d' : D} {F F' : Nat → Prop} {r r' : RD} {A1 A2 : Option Addr} {c1 c2 : Nat}
theorem PM.chg' (h : PM w w1 g d F gr r A1 c1 A2 c2) (hc : Chg (fun _ => False) w1 w2) : PM w w2 g d F gr r A1 c1 A2 c2 :=
  ⟨h.dict.chg hc fun _ _ h => h, h.fresh, h.chg.trans hc fun _ h => h.elim, hc.blk h.blk id, h.grw, h.grF, h.at_.chg' hc⟩
theorem RAt.went' {s1 s2 : Value} (h : RAt w1 s1 s2 r (fun b => w.heap.size ≤ b ∧ ¬ F b)) (k2 : ∀ x, F' x → F x ∨ w1.heap.size ≤ x) (k3 : Chg F w1 w2) : RAt w2 s1 s2 r (fun b => w.heap.size ≤ b ∧ ¬ F' b) :=
  ⟨h.o1.chg k3 fun b hb => (h.b1 b hb).2, h.o2.chg k3 fun b hb => (h.b2 b hb).2, fun b hb => ⟨(h.b1 b hb).1, fun hx => (k2 b hx).elim (h.b1 b hb).2 fun hle => by have := h.o1.lt hb; omega⟩, fun b hb => ⟨(h.b2 b hb).1, fun hx => (k2 b hx).elim (h.b2 b hb).2 fun hle => by have := h.o2.lt hb; omega⟩⟩
theorem PM.went' (h : PM w w1 g d F gr r A1 c1 A2 c2) (k1 : DictAt w2 g d' F') (k2 : ∀ x, F' x → F x ∨ w1.heap.size ≤ x) (k3 : Chg F w1 w2) : PM w w2 g d' F' gr r A1 c1 A2 c2 :=
  ⟨k1, fun x hx => (k2 x hx).elim (h.fresh x) fun hle => Nat.le_trans h.chg.size hle, h.chg.trans k3 fun x hx => .inl (h.fresh x hx), k3.blk h.blk h.grF, h.grw, fun hx => (k2 gr hx).elim h.grF fun hle => by have := lt_blk h.blk; omega, h.at_.went' k2 k3⟩
/-- what a call gave lies apart from the dict -/
theorem PM.rows (h : PM w w1 g d F gr r A1 c1 A2 c2) {s1 s2 : Value} (hr : RAt w2 s1 s2 r' (fun b => (w.heap.size ≤ b ∧ ¬ F b) ∨ w1.heap.size ≤ b)) : RAt w2 s1 s2 r' (fun b => w.heap.size ≤ b ∧ ¬ F b) :=
  hr.mono fun b hb => hb.elim id fun hle => ⟨Nat.le_trans h.chg.size hle, fun hx => by have := h.dict.lt hx; omega⟩
/-- the document's dict is another one now -/
theorem PM.put (h : PM w w1 g d F gr r A1 c1 A2 c2) {A3 A4 : Option Addr} {c3 c4 : Nat} (hr : RAt w1 (.slice A3 r'.l1.length c3) (.slice A4 r'.l2.length c4) r' (fun b => w.heap.size ≤ b ∧ ¬ F b)) {K : World → Prop} (hK : ∀ w2, PM w w2 g d F gr r' A3 c3 A4 c4 → K w2) :
    storeN ⟨gr, 0, none⟩ [(.int .i64 r'.seed : Value), .int .i64 r'.n1, .slice A3 r'.l1.length c3, .int .i64 r'.n2, .slice A4 r'.l2.length c4, .int .i64 r'.idx] 0 w1 fun w4 => ∀ w5 : World, w5 = w4 → K w5 := by
  refine storeN_blk h.blk (by simp) rfl fun w4 b4 ch4 w5 e => ?_
  subst e
  exact hK _ ⟨h.dict.chg ch4 fun x hx e => h.grF (e ▸ hx), h.fresh, h.chg.trans ch4 fun x hx => .inl (hx ▸ h.grw), b4, h.grw, h.grF, hr.other h.blk ch4⟩
end
theorem stepD_m {d : D} {n : Nat} (h : Good d n) (k : Nat) : (d.steps k).m.length ≤ n := by rw [steps_m]; exact h.few
set_option maxHeartbeats 2000000 in
theorem plays_walk {w : World} {seed : Int} {A : Option Addr} {c : Nat} {ops : List Op} (hops : OpsAt w A ops) (hok : ∀ o ∈ ops, o.Ok) (hl : ops.length ≤ 1048576) :
    Calls Try.prog 9 #[.int .i64 seed, .slice A ops.length c] w fun e w' => e = .returned (.bool true) ∧ Chg (fun _ => False) w w' := by
  refine v9 _ _ _ _ _ _ ?_
  unfold V9
  refine (new_ok seed w).mono ?_
  rintro e w1 ⟨g, F, rfl, hd1, hF1, ch1⟩
  refine ⟨_, rfl, (rnew_ok seed w1).mono ?_⟩
  rintro e w2 ⟨rfl, ch2⟩
  refine ⟨_, _, _, _, _, _, _, _, _, _, rfl, ?_⟩
  intro gr w3 hgr hw3
  obtain ⟨b3, ch3, s3⟩ := blk_alloc hgr hw3
  refine storeN_blk b3 (by simp) rfl fun w4 b4 ch4 w5 e => ?_
  subst e
  have hd2 := hd1.chg ch2 fun _ _ h => h
  have hgrF : ¬ F gr := fun hx => by have := hd2.lt hx; omega
  have hgrw : w.heap.size ≤ gr := by have := ch1.size; have := ch2.size; omega
  have cw3 : Chg (fun x => w.heap.size ≤ x) w w3 := ((ch1.trans' ch2).trans' ch3).mono fun _ h => h.elim
  have pm : PM w w5 g (D.new seed) F gr (RD.new seed) none 0 none 0 :=
    ⟨(hd2.chg ch3 fun _ _ h => h).chg ch4 fun x hx e => hgrF (e ▸ hx), hF1, cw3.trans ch4 fun x hx => .inl (hx ▸ hgrw), b4, hgrw, hgrF, ⟨OwnI.nil _, OwnI.nil _, fun b hb => by simp [Value.ownBlock] at hb, fun b hb => by simp [Value.ownBlock] at hb⟩⟩
  clear hd1 hF1 ch1 ch2 ch3 ch4 hd2 hgrF hgrw cw3 b3 b4
  refine (works_ok w5).mono ?_
  rintro e w6 ⟨rfl, ch6⟩
  have pm := pm.chg' ch6
  refine ⟨_, rfl, fun _ => ?_, fun h => (by cases h)⟩
  have fin : ∀ {w' : World}, Chg (fun x => w.heap.size ≤ x) w w' → Chg (fun _ => False) w w' := fun h => h.newer fun x hx => .inr hx
  unfold V9_k1
  refine ⟨fun h => (by cases h), fun _ => ?_⟩
  refine ⟨fun dp i w' => ∃ (j g : Nat) (d : D) (F : Nat → Prop) (r : RD) (A1 : Option Addr) (c1 : Nat) (A2 : Option Addr) (c2 : Nat), dp = some ⟨g, 0, none⟩ ∧ i = j ∧ j ≤ ops.length ∧ PM w w' g d F gr r A1 c1 A2 c2 ∧ Rel d r ∧ Good d j,
    fun _ i _ => ops.length - i.toNat, ⟨0, g, _, F, _, none, 0, none, 0, rfl, rfl, Nat.zero_le _, pm, Rel.new seed, Good.new seed⟩, ?_⟩
  clear pm ch6
  rintro dp i w8 ⟨j, g, d, F, r, A1, c1, A2, c2, rfl, rfl, hj, pm, hr, hg⟩
  refine ⟨fun hd => ?_, fun hd => ⟨rfl, fin pm.chg⟩⟩
  have hjl : j < ops.length := by have := of_decide_eq_true hd; omega
  have hget : ops[j]? = some ops[j] := List.getElem?_eq_getElem hjl
  obtain ⟨a, rfl, q1, q2, q3⟩ := hops.later pm.chg j _ hget
  have ho := hok _ (List.getElem_mem hjl)
  generalize ops[j] = o at q1 q2 q3 ho
  have hfew := hg.few
  have hfit := rel_fit hr hg.inv (by omega)
  refine ⟨by omega, by omega, _, by rw [toNatN]; exact q1, _, by rw [toNatN]; exact q2, _, by rw [toNatN]; exact q3, ?_⟩
  intro go w9 hgo hw9
  obtain ⟨b9, ch9, s9⟩ := blk_alloc hgo hw9
  refine storeN_blk b9 (by simp) rfl fun w10 b10 ch10 w11 e => ?_
  subst e
  have cw11 : Chg (fun _ => False) w8 w11 := ch9.trans ch10 fun x hx => .inr (by omega)
  have hgoF : ¬ F go := fun hx => by have := pm.dict.lt hx; omega
  have pm := pm.chg' cw11
  have hbo : w11.heap[go]? = some (.cells #[.int .i64 o.kind, .string o.key, .int .i64 o.n] 33 (0, 0)) := b10
  clear b9 b10 ch9 ch10 hw9
  -- behind the step
  generalize hgz : g = gz at *
  have k2 : ∀ {w' : World} {g : Nat} {d : D} {F : Nat → Prop} {r : RD} {A1 A2 : Option Addr} {c1 c2 : Nat} {ok : Bool}, PM w w' g d F gr r A1 c1 A2 c2 → Rel d r → Good d (j + 1) → ok = true →
      V9_k2 (fun dp i w' => ∃ (j g : Nat) (d : D) (F : Nat → Prop) (r : RD) (A1 : Option Addr) (c1 : Nat) (A2 : Option Addr) (c2 : Nat), dp = some ⟨g, 0, none⟩ ∧ i = j ∧ j ≤ ops.length ∧ PM w w' g d F gr r A1 c1 A2 c2 ∧ Rel d r ∧ Good d j)
        (fun _ i _ => ops.length - i.toNat) (some ⟨gz, 0, none⟩) j w8 (some a) ops.length c (some ⟨g, 0, none⟩) ⟨gr, 0, none⟩ j ok w' (fun e w' => e = .returned (.bool true) ∧ Chg (fun _ => False) w w') := by
    rintro w' g d F r A1 A2 c1 c2 ok pm hr hg rfl
    unfold V9_k2 V9_k3
    simp only [add_mk, Nat.reduceAdd]
    refine ⟨fun _ => ld6 pm.blk ((as_ok pm.dict pm.at_ hr hg.inv (by have := hg.few; omega)).mono ?_), fun h => (by cases h)⟩
    rintro e w21 ⟨rfl, ch21⟩
    refine ⟨_, rfl, ?_⟩
    unfold V9_k4
    refine ⟨fun h => (by cases h), fun _ => ?_⟩
    rw [w64s (by omega)]
    exact ⟨⟨j + 1, g, d, F, r, A1, c1, A2, c2, rfl, rfl, hjl, pm.chg' ch21, hr, hg⟩, by dsimp only; omega⟩
  refine ⟨_, cell_blk hbo rfl, fun h0 => ?_, fun h0 => ?_⟩
  · -- Set
    have h0' : o.kind = 0 := by simpa using h0
    simp only [add_mk, Nat.reduceAdd]
    have hst := hr.step hg.inv
    have hfs := rel_fit hst hg.inv.step (by rw [D.step_m]; omega)
    refine ld6 pm.blk ⟨_, cell_blk hbo rfl, _, cell_blk hbo rfl, (rset_ok pm.at_ hfit hfs o.key o.n).mono ?_⟩
    rintro e w12 ⟨x, rfl, A3, c3, A4, c4, rfl, hx, ch12⟩
    obtain ⟨hrel, hflag⟩ := hr.set hg.inv o.key o.n (by omega)
    refine ⟨_, _, _, _, _, _, _, _, _, _, _, rfl, ?_⟩
    intro g3 w13 hg3 hw13
    obtain ⟨b13, ch13, s13⟩ := blk_alloc hg3 hw13
    refine storeN_blk b13 (by simp) rfl fun w14 b14 ch14 w15 e => ?_
    subst e
    have c1115 : Chg (fun _ => False) w11 w15 := (ch12.trans' ch13).trans ch14 fun x hx => .inr (by have := ch12.size; omega)
    have hrows := pm.rows hx
    have hrows15 := hrows.chg' (ch13.trans ch14 fun x hx => .inr (by omega))
    have hg3F : ¬ F g3 := fun hx => by
      have := pm.dict.lt hx
      have := ch12.size
      omega
    have pm := pm.chg' c1115
    refine ⟨_, cell_blk (c1115.blk hbo id) rfl, _, cell_blk (c1115.blk hbo id) rfl, (set_ok pm.dict hg.inv hg.ints ho.f (by omega)).mono ?_⟩
    rintro e w16 ⟨rfl, hw16⟩
    obtain ⟨F', k1', k2', k3'⟩ := hw16.ex
    have pm16 := pm.went' k1' k2' k3'
    have hr16 := hrows15.went' k2' k3'
    refine ⟨_, rfl, ld6 (k3'.blk b14 hg3F) ?_⟩
    refine pm16.put hr16 fun w17 pm17 => k2 pm17 hrel (hg.set (by omega) ho.f o.n) ?_
    rw [hflag]; simp
  · have h0' : o.kind ≠ 0 := by simpa using h0
    refine ⟨fun h1 => ?_, fun h1 => ?_⟩
    · -- Delete
      simp only [add_mk, Nat.reduceAdd]
      have hst := hr.step hg.inv
      have hfs := rel_fit hst hg.inv.step (by rw [D.step_m]; omega)
      refine ld6 pm.blk ⟨_, cell_blk hbo rfl, (rdelete_ok pm.at_ hfit hfs o.key).mono ?_⟩
      rintro e w12 ⟨x, rfl, A3, c3, A4, c4, rfl, hx, ch12⟩
      obtain ⟨hrel, hflag⟩ := hr.delete hg.inv o.key
      refine ⟨_, _, _, _, _, _, _, _, _, _, _, rfl, ?_⟩
      intro g3 w13 hg3 hw13
      obtain ⟨b13, ch13, s13⟩ := blk_alloc hg3 hw13
      refine storeN_blk b13 (by simp) rfl fun w14 b14 ch14 w15 e => ?_
      subst e
      have c1115 : Chg (fun _ => False) w11 w15 := (ch12.trans' ch13).trans ch14 fun x hx => .inr (by have := ch12.size; omega)
      have hrows := pm.rows hx
      have hrows15 := hrows.chg' (ch13.trans ch14 fun x hx => .inr (by omega))
      have hg3F : ¬ F g3 := fun hx => by
        have := pm.dict.lt hx
        have := ch12.size
        omega
      have pm := pm.chg' c1115
      refine ⟨_, cell_blk (c1115.blk hbo id) rfl, (delete_dict_ok pm.dict hg.inv hg.ints ho.f (by unfold big; omega)).mono ?_⟩
      rintro e w16 ⟨rfl, hw16⟩
      obtain ⟨F', k1', k2', k3'⟩ := hw16.ex
      have pm16 := pm.went' k1' k2' k3'
      have hr16 := hrows15.went' k2' k3'
      refine ⟨_, rfl, ld6 (k3'.blk b14 hg3F) ?_⟩
      refine pm16.put hr16 fun w17 pm17 => k2 pm17 hrel ((hg.delete o.key).mono (Nat.le_succ j)) ?_
      rw [hflag]; simp
    · refine ⟨fun h2 => ?_, fun h2 => ?_⟩
      · -- Step
        have ht : -100 < Int.tmod o.n 100 ∧ Int.tmod o.n 100 < 100 := by
          constructor
          · have := Int.lt_tmod_of_pos o.n (show (0 : Int) < 100 by decide); omega
          · exact Int.tmod_lt_of_pos o.n (by decide)
        refine ⟨_, cell_blk hbo rfl, by decide, (steps_ok pm.dict hg.inv (by unfold big; omega) (by omega)).mono ?_⟩
        rintro e w30 ⟨rfl, hw30⟩
        obtain ⟨F', k1', k2', k3'⟩ := hw30.ex
        have pm30 := pm.went' k1' k2' k3'
        simp only [add_mk, Nat.reduceAdd]
        refine ⟨trivial, ld6 pm30.blk ⟨_, cell_blk (k3'.blk hbo hgoF) rfl, by decide, ?_⟩⟩
        refine (rsteps_ok pm30.at_ (fun q => rel_fit (hr.steps hg.inv q) (hg.inv.steps q) (by rw [steps_m]; omega)) (by omega)).mono ?_
        rintro e w31 ⟨x, rfl, A3, c3, A4, c4, rfl, hx, ch31⟩
        refine ⟨_, _, _, _, _, _, _, _, _, _, rfl, ?_⟩
        have hrows := pm30.rows hx
        exact (pm30.chg' ch31).put hrows fun w17 pm17 => k2 pm17 (hr.steps hg.inv _) ((hg.steps _).mono (Nat.le_succ j)) rfl
      · refine ⟨fun h3 => ?_, fun h3 => ?_⟩
        · -- Scan
          have ht : -7 < Int.tmod (j : Int) 7 ∧ Int.tmod (j : Int) 7 < 7 := by
            constructor
            · have := Int.lt_tmod_of_pos (j : Int) (show (0 : Int) < 7 by decide); omega
            · exact Int.tmod_lt_of_pos (j : Int) (by decide)
          have hn1 := ho.n1
          have hsl := D.scan_len hg.inv o.n (Int.tmod (j : Int) 7)
          refine ⟨_, cell_blk hbo rfl, by decide, (scan_ok' pm.dict hg.inv ho.n1 (by omega) (by unfold big; omega) (by unfold big; omega)).mono ?_⟩
          rintro e w34 ⟨A5, c5, rfl, hO5, hB5, ch34⟩
          have pm := pm.chg' ch34
          simp only [add_mk, Nat.reduceAdd]
          refine ⟨_, _, _, _, rfl, ld6 pm.blk ⟨_, cell_blk (ch34.blk hbo id) rfl, by decide, ?_⟩⟩
          refine (rscan_ok pm.at_ hfit hr hg.inv ho.n1 (by omega)).mono ?_
          rintro e w35 ⟨v, rfl, A6, c6, rfl, hO6, hB6, ch35⟩
          have pm := pm.chg' ch35
          refine ⟨_, _, _, _, rfl, (same_ok ((Own.rd hO5).ext ch35.ext) (Own.rd hO6) (by omega)).mono ?_⟩
          rintro e w36 ⟨rfl, d36⟩
          refine ⟨_, rfl, fun _ => k2 (pm.chg' (d36.chg _)) hr (hg.mono (Nat.le_succ j)) (by simp), fun h => by simp at h⟩
        · refine ⟨fun h4 => ?_, fun h4 => ?_⟩
          · -- Clone
            refine (clone_dict_ok pm.dict hg.inv (by unfold big; omega)).mono ?_
            rintro e w37 ⟨g', F', rfl, hd', hF', ch37⟩
            refine ⟨_, rfl, k2 (F := F') ⟨hd', fun x hx => Nat.le_trans pm.chg.size (hF' x hx), pm.chg.trans ch37 fun _ h => h.elim, ch37.blk pm.blk id, pm.grw, fun hx => by (have := hF' _ hx; have := lt_blk pm.blk; omega), ?_⟩ hr (hg.mono (Nat.le_succ j)) rfl⟩
            have h1 := pm.at_.chg' ch37
            exact ⟨h1.o1, h1.o2, fun b hb => ⟨(h1.b1 b hb).1, fun hx => by (have := hF' _ hx; have := pm.at_.o1.lt hb; omega)⟩, fun b hb => ⟨(h1.b2 b hb).1, fun hx => by (have := hF' _ hx; have := pm.at_.o2.lt hb; omega)⟩⟩
          · -- Get
            refine ⟨_, cell_blk hbo rfl, (get_ok pm.dict hg.ints o.key).mono ?_⟩
            rintro e w38 ⟨rfl, rfl⟩
            simp only [add_mk, Nat.reduceAdd]
            refine ⟨_, _, rfl, ld6 pm.blk ⟨_, cell_blk hbo rfl, (rget_ok pm.at_ hfit o.key).mono ?_⟩⟩
            rintro e w39 ⟨rfl, ch39⟩
            have hge := hr.get hg.inv o.key
            have e1 : (r.get o.key).1 = intOf (kget o.key d.m) := by rw [hge]; rfl
            have e2 : (r.get o.key).2 = (kget o.key d.m).isSome := by rw [hge]
            refine ⟨_, _, rfl, fun _ => k2 (pm.chg' ch39) hr (hg.mono (Nat.le_succ j)) (by rw [e2]; simp), fun h => by rw [e1] at h; simp at h⟩
end Go.Proofs.Ytcljmlgbmjjldaa
