/- The document's dict: step. -/
import Derived.Test.YtcljmlgbmjjldaaRef2
namespace Go.Proofs.Ytcljmlgbmjjldaa
open Go Go.VC Go.RowKit Go.Proofs.Ytcljmlgbmjjldaa.F
set_option linter.unusedVariables false
set_option linter.unusedSimpArgs false
theorem nat_beq {a b : Nat} (h : (((a : Nat) : Int) == ((b : Nat) : Int)) = true) : a = b := by
  have := eq_of_beq h
  omega
theorem nat_bne {a b : Nat} (h : (((a : Nat) : Int) != ((b : Nat) : Int)) = false) : a = b := nat_beq (by simpa using h)
abbrev zeroR : Array Value := #[.int .i64 0, .int .i64 0, .slice none 0 0, .int .i64 0, .slice none 0 0, .int .i64 0]
/-- what holds of a document's dict that is met -/
structure Fit (r : RD) : Prop where
  keys : ∀ p ∈ r.l1 ++ r.l2, p.1.size < 9223372036854775808
  few : r.l1.length + r.l2.length ≤ 1099511627776
  n1 : r.n1 ≤ 1099511627776
  idx : r.idx ≤ 1099511627777
theorem stay_snoc {seed : Int} {n b : Nat} {l : List It} {j : Nat} (h : j < l.length) : RD.stay seed n b (l.take (j + 1)) = if slot seed l[j].1 n = b then RD.stay seed n b (l.take j) else RD.stay seed n b (l.take j) ++ [l[j]] := by
  unfold RD.stay
  rw [List.take_succ_eq_append_getElem h, List.filter_append]
  by_cases hc : slot seed l[j].1 n = b
  · rw [if_pos hc]; simp [hc]
  · rw [if_neg hc]; simp [hc]
theorem goes_snoc {seed : Int} {n b : Nat} {l : List It} {j : Nat} (h : j < l.length) : RD.goes seed n b (l.take (j + 1)) = if slot seed l[j].1 n = b then RD.goes seed n b (l.take j) ++ [l[j]] else RD.goes seed n b (l.take j) := by
  unfold RD.goes
  rw [List.take_succ_eq_append_getElem h, List.filter_append]
  by_cases hc : slot seed l[j].1 n = b
  · rw [if_pos hc]; simp [hc]
  · rw [if_neg hc]; simp [hc]
theorem goes_len {seed : Int} {n b : Nat} (l : List It) (j : Nat) : (RD.goes seed n b (l.take j)).length ≤ l.length :=
  Nat.le_trans (List.length_filter_le _ _) (by simp; omega)
theorem stay_le {seed : Int} {n b : Nat} (l : List It) (j : Nat) : (RD.stay seed n b (l.take j)).length ≤ l.length :=
  Nat.le_trans (List.length_filter_le _ _) (by simp; omega)
/-- an item read -/
theorem item_at {w : World} {A : Option Addr} {c : Nat} {l : List It} (h : OwnI w (.slice A l.length c) l) {j : Nat} (hj : j < l.length) : ∃ g, A = some ⟨g, 0, none⟩ ∧ w.cell? (Addr.add ⟨g, 0, none⟩ (Int.toNat ((j : Nat) : Int) * 2)) = some (.string l[j].1) ∧ w.cell? ((Addr.add ⟨g, 0, none⟩ (Int.toNat ((j : Nat) : Int) * 2)).add 1) = some (.int .i64 l[j].2) := by
  obtain ⟨A', c', e, hg⟩ := h.get
  injection e with e1 _ _
  subst e1
  obtain ⟨g, rfl, h1, h2⟩ := hg j _ (List.getElem?_eq_getElem hj)
  exact ⟨g, rfl, by rw [toNatN, add_mk, Nat.zero_add]; exact h1, by rw [toNatN, add_mk, add_mk, Nat.zero_add]; exact h2⟩
theorem Ext.chg {w w' : World} (h : Chg (fun _ => False) w w') : Ext w w' := h.ext

set_option maxHeartbeats 1000000 in
theorem rstep_ok {w : World} {r : RD} {A1 A2 : Option Addr} {c1 c2 : Nat} {B : Nat → Prop} (h : RAt w (.slice A1 r.l1.length c1) (.slice A2 r.l2.length c2) r B) (hf : Fit r) :
    Calls Try.prog 65 #[valR r (.slice A1 r.l1.length c1) (.slice A2 r.l2.length c2)] w fun e w' => ∃ v, e = .returned v ∧ GivesR w w' r.step B v := by
  have hk1 : ∀ {j : Nat} (hj : j < r.l1.length), r.l1[j].1.size < 9223372036854775808 := fun hj => hf.keys _ (List.mem_append_left _ (List.getElem_mem hj))
  have hfew := hf.few
  have hn1 := hf.n1
  have hix := hf.idx
  refine v65 _ _ _ _ _ _ _ _ _ _ _ _ ?_
  unfold V65
  intro g w1 hg hw1
  obtain ⟨b1, ch1, s1⟩ := blk_alloc hg hw1
  intro g2 w2 hg2 hw2
  obtain ⟨b2, ch2, s2⟩ := blk_alloc hg2 hw2
  have b1 := ch2.blk b1 id
  refine ld6 b1 ((rmoving_ok w2 r).mono ?_)
  rintro e w3 ⟨rfl, ch3⟩
  have b1 := ch3.blk b1 id
  have b2 := ch3.blk b2 id
  have ch : Chg (fun _ => False) w w3 := (ch1.trans' ch2).trans' ch3
  have hgw : w.heap.size ≤ g := by omega
  have hg2w : w.heap.size ≤ g2 := by omega
  have hgg : g2 ≠ g := by omega
  have h3 := h.chg' ch
  clear hw1 hw2 ch1 ch2 ch3 hg hg2 s1 s2
  refine ⟨_, rfl, fun hm => ?_, fun hm => ?_⟩
  · have hm' : ¬ 0 < r.n2 := of_decide_eq_false (by simpa using hm)
    have he : r.step = r := by unfold RD.step; rw [if_neg hm']
    rw [he]
    refine ld6 b1 (ret6 b2 fun w5 hc => ⟨_, rfl, A1, c1, A2, c2, rfl, (h3.other b2 hc).mono fun _ => .inl, ch.trans hc fun x hx => .inr (by omega)⟩)
  have hm' : 0 < r.n2 := of_decide_eq_true (by simpa using hm)
  refine ⟨_, cell_blk b1 rfl, ?_⟩
  refine ⟨fun b w6 => ∃ bb : Nat, b = bb ∧ bb ≤ r.n1 + r.idx ∧ r.step = r.stepL (r.n1 - bb) bb ∧ Chg (fun x => w3.heap.size ≤ x) w3 w6, fun b _ => r.n1 + r.idx + 1 - b.toNat, ⟨r.idx, rfl, by omega, by unfold RD.step; rw [if_pos hm'], Chg.refl _ _⟩, ?_⟩
  rintro b w6 ⟨bb, rfl, hbb, hst, ch6⟩
  have b6 := ch6.blk b1 (by have := lt_blk b1; omega)
  have b62 := ch6.blk b2 (by have := lt_blk b2; omega)
  have chw6 : Chg (fun _ => False) w w6 := ch.trans ch6 fun x hx => .inr (Nat.le_trans ch.size hx)
  have h6 := h.chg' chw6
  refine ⟨_, cell_blk b6 rfl, fun hlt => ?_, fun hlt => ?_⟩
  · have hblt : bb < r.n1 := by have := of_decide_eq_true hlt; omega
    refine ⟨fun st stn stc i w7 => ∃ j : Nat, i = j ∧ j ≤ r.l1.length ∧ stn = (RD.stay r.seed r.n1 bb (r.l1.take j)).length ∧ OwnI w7 (.slice st stn stc) (RD.stay r.seed r.n1 bb (r.l1.take j)) ∧ (∀ x, (Value.slice st stn stc).ownBlock = some x → w6.heap.size ≤ x) ∧ Chg (fun x => w6.heap.size ≤ x) w6 w7,
      fun _ _ _ i _ => r.l1.length - i.toNat, ⟨0, rfl, Nat.zero_le _, rfl, OwnI.nil _, fun x hx => by simp [Value.ownBlock] at hx, Chg.refl _ _⟩, ?_⟩
    rintro st stn stc i w7 ⟨j, rfl, hj, rfl, hO7, hB7, ch7⟩
    have lt6 : g < w6.heap.size ∧ g2 < w6.heap.size := ⟨lt_blk b6, lt_blk b62⟩
    have b7 := ch7.blk b6 (by omega)
    have b72 := ch7.blk b62 (by omega)
    have chw7 : Chg (fun _ => False) w w7 := chw6.trans ch7 fun x hx => .inr (Nat.le_trans chw6.size hx)
    have h7 := h.chg' chw7
    refine ⟨_, _, _, cell_blk b7 rfl, fun hd => ?_, fun hd => ?_⟩
    · have hjl : j < r.l1.length := by have := of_decide_eq_true hd; omega
      intro w8 d8
      have b8 := d8.blk b7
      have h8 := h7.drawn d8
      obtain ⟨q, eq, hc1, hc2⟩ := item_at h8.o1 hjl
      refine ld6 b8 ⟨_, _, _, cell_blk b8 rfl, ?_⟩
      rw [eq]
      refine ⟨by omega, by omega, _, hc1, _, cell_blk b8 rfl, fun w9 d9 => ?_⟩
      refine (rbucket_ok r (hk1 hjl) (by omega)).mono ?_
      rintro e w10 ⟨rfl, ch10⟩
      refine ⟨_, rfl, ch10.ext, fun w11 d11 => ?_⟩
      have b11 := d11.blk (ch10.blk (d9.blk b8) id)
      have c711 : Chg (fun _ => False) w7 w11 := (((d8.trans d9).chg _).trans' ch10).drawn d11
      have hO11 := hO7.chg c711 fun _ _ h => h
      have h11 := h7.chg' c711
      have next : ∀ {st' : Option Addr} {stn' stc' : Nat} {w' : World}, stn' = (RD.stay r.seed r.n1 bb (r.l1.take (j + 1))).length → OwnI w' (.slice st' stn' stc') (RD.stay r.seed r.n1 bb (r.l1.take (j + 1))) → (∀ x, (Value.slice st' stn' stc').ownBlock = some x → w6.heap.size ≤ x) → Chg (fun x => w6.heap.size ≤ x) w6 w' →
          (∃ j' : Nat, IntKind.wrap .i64 ((j : Int) + 1) = j' ∧ j' ≤ r.l1.length ∧ stn' = (RD.stay r.seed r.n1 bb (r.l1.take j')).length ∧ OwnI w' (.slice st' stn' stc') (RD.stay r.seed r.n1 bb (r.l1.take j')) ∧ (∀ x, (Value.slice st' stn' stc').ownBlock = some x → w6.heap.size ≤ x) ∧ Chg (fun x => w6.heap.size ≤ x) w6 w') ∧
          r.l1.length - (IntKind.wrap .i64 ((j : Int) + 1)).toNat < r.l1.length - ((j : Nat) : Int).toNat := by
        intro st' stn' stc' w' e1 e2 e3 e4
        rw [w64s (by omega)]
        exact ⟨⟨j + 1, rfl, hjl, e1, e2, e3, e4⟩, by omega⟩
      refine ⟨fun hne => ?_, fun heq => ?_⟩
      · have hne' : slot r.seed r.l1[j].1 r.n1 ≠ bb := fun e => by rw [e] at hne; simp at hne
        obtain ⟨q', eq', hc1', hc2'⟩ := item_at h11.o1 hjl
        rw [eq] at eq'
        injection eq' with eq'
        rw [← eq'] at hc1' hc2'
        refine ⟨_, _, _, cell_blk b11 rfl, ?_⟩
        rw [eq]
        refine ⟨by omega, by omega, _, hc1', _, hc2', ?_⟩
        intro g3 w12 hg3 hw12
        obtain ⟨b12, ch12, s12⟩ := blk_alloc hg3 hw12
        have hsrc : Src Try.prog 2 51 (.slice (some ⟨g3, 0, none⟩) 1 1) 1 (flatI [r.l1[j]]) w12 := Src.ofSlice w12 Try.underlying51 _ _ _ _ rfl (fun j' u hu => by
          match j', hu with
          | 0, hu => simp [flatI] at hu; subst hu; rw [add_mk]; exact cell_blk b12 rfl
          | 1, hu => simp [flatI] at hu; subst hu; rw [add_mk]; exact cell_blk b12 rfl) (flatI_one _)
        have hsl := stay_le (seed := r.seed) (n := r.n1) (b := bb) r.l1 j
        obtain ⟨st', stc', w13, hr13, hO13, ch13, hn13⟩ := OwnI.app (hO11.chg ch12 fun _ _ h => h) hsrc rfl (by simp; omega)
        refine ⟨st', _, stc', w13, hr13, ?_⟩
        unfold V65_k1 V65_k2
        have hsn := stay_snoc (seed := r.seed) (n := r.n1) (b := bb) hjl
        rw [if_neg hne'] at hsn
        refine next (by rw [hsn]) (by rw [hsn]; exact hO13) (fun x hx => (hn13 x hx).elim (hB7 x) fun hle => Nat.le_trans (Nat.le_trans (Nat.le_trans ch7.size c711.size) ch12.size) hle) ?_
        exact (ch7.trans (c711.trans' ch12) fun _ h => h.elim).trans ch13 fun x hx => .inl (hB7 x hx)
      · have heq' : slot r.seed r.l1[j].1 r.n1 = bb := nat_bne heq
        unfold V65_k1 V65_k2
        have hsn := stay_snoc (seed := r.seed) (n := r.n1) (b := bb) hjl
        rw [if_pos heq'] at hsn
        exact next (by rw [hsn]) (by rw [hsn]; exact hO11) hB7 (ch7.trans c711 fun _ h => h.elim)
    · have hje : j = r.l1.length := by have := of_decide_eq_false hd; omega
      subst hje
      rw [List.take_length] at hO7 hB7 ⊢
      have hstl : (RD.stay r.seed r.n1 bb r.l1).length ≤ r.l1.length := List.length_filter_le _ _
      refine ⟨_, _, _, cell_blk b7 rfl, fun he => ?_, fun he => ?_⟩
      · have he' : (RD.stay r.seed r.n1 bb r.l1).length = r.l1.length := nat_beq he
        rw [w64s (by omega)]
        refine ⟨⟨bb + 1, rfl, by omega, ?_, ch6.trans ch7 fun x hx => .inr (Nat.le_trans ch6.size hx)⟩, by dsimp only; omega⟩
        rw [hst, show r.n1 - bb = (r.n1 - (bb + 1)) + 1 by omega, RD.stepL_succ, if_pos he']
      · have he' : ¬ (RD.stay r.seed r.n1 bb r.l1).length = r.l1.length := fun e => by rw [e] at he; simp at he
        have hstep : r.step = RD.over { r with l1 := RD.stay r.seed r.n1 bb r.l1, l2 := r.l2 ++ RD.goes r.seed r.n1 bb r.l1, idx := bb + 1 } := by
          rw [hst, show r.n1 - bb = (r.n1 - (bb + 1)) + 1 by omega, RD.stepL_succ, if_neg he']
        -- the keys of the bucket go over
        refine ⟨fun i w16 => ∃ (j : Nat) (A2' : Option Addr) (c2' : Nat), i = j ∧ j ≤ r.l1.length ∧ w16.heap[g]? = some (.cells (cR { r with l2 := r.l2 ++ RD.goes r.seed r.n1 bb (r.l1.take j) } (.slice A1 r.l1.length c1) (.slice A2' (r.l2 ++ RD.goes r.seed r.n1 bb (r.l1.take j)).length c2')) 55 (0, 0)) ∧
            OwnI w16 (.slice A2' (r.l2 ++ RD.goes r.seed r.n1 bb (r.l1.take j)).length c2') (r.l2 ++ RD.goes r.seed r.n1 bb (r.l1.take j)) ∧ (∀ x, (Value.slice A2' (r.l2 ++ RD.goes r.seed r.n1 bb (r.l1.take j)).length c2').ownBlock = some x → B x ∨ w.heap.size ≤ x) ∧ Chg (fun x => x = g) w7 w16,
          fun i _ => r.l1.length - i.toNat, ⟨0, A2, c2, rfl, Nat.zero_le _, by simpa [RD.goes] using b7, by simpa [RD.goes] using h7.o2, fun x hx => .inl (h.b2 x (by rw [show RD.goes r.seed r.n1 bb (r.l1.take 0) = [] by simp [RD.goes], List.append_nil] at hx; exact hx)), Chg.refl _ _⟩, ?_⟩
        rintro i w16 ⟨j, A2', c2', rfl, hj, b16, hO16, hB16, ch16⟩
        have h16 : OwnI w16 (.slice A1 r.l1.length c1) r.l1 := h7.o1.chg ch16 fun x hx e => OwnW.blk_ne h7.o1 b7 (by decide) (e ▸ hx)
        refine ⟨_, _, _, cell_blk b16 rfl, fun hd => ?_, fun hd => ?_⟩
        · have hjl : j < r.l1.length := by have := of_decide_eq_true hd; omega
          intro w17 d17
          have b17 := d17.blk b16
          obtain ⟨q, rfl, hc1, hc2⟩ := item_at (h16.chg (d17.chg (fun _ => False)) fun _ _ h => h) hjl
          refine ld6 b17 ⟨_, _, _, cell_blk b17 rfl, ?_⟩
          refine ⟨by omega, by omega, _, hc1, _, cell_blk b17 rfl, fun w18 d18 => ?_⟩
          refine (rbucket_ok { r with l2 := r.l2 ++ RD.goes r.seed r.n1 bb (r.l1.take j) } (hk1 hjl) (show r.n1 ≠ 0 by omega)).mono ?_
          rintro e w19 ⟨rfl, ch19⟩
          refine ⟨_, rfl, ch19.ext, fun w20 d20 => ?_⟩
          have c1620 : Chg (fun _ => False) w16 w20 := (((d17.trans d18).chg _).trans' ch19).drawn d20
          have b20 := c1620.blk b16 id
          have hgo := goes_snoc (seed := r.seed) (n := r.n1) (b := bb) hjl
          have next : ∀ {A' : Option Addr} {c' : Nat} {w' : World}, w'.heap[g]? = some (.cells (cR { r with l2 := r.l2 ++ RD.goes r.seed r.n1 bb (r.l1.take (j + 1)) } (.slice (some ⟨q, 0, none⟩) r.l1.length c1) (.slice A' (r.l2 ++ RD.goes r.seed r.n1 bb (r.l1.take (j + 1))).length c')) 55 (0, 0)) →
              OwnI w' (.slice A' (r.l2 ++ RD.goes r.seed r.n1 bb (r.l1.take (j + 1))).length c') (r.l2 ++ RD.goes r.seed r.n1 bb (r.l1.take (j + 1))) → (∀ x, (Value.slice A' (r.l2 ++ RD.goes r.seed r.n1 bb (r.l1.take (j + 1))).length c').ownBlock = some x → B x ∨ w.heap.size ≤ x) → Chg (fun x => x = g) w7 w' →
              (∃ (j' : Nat) (A2' : Option Addr) (c2' : Nat), IntKind.wrap .i64 ((j : Int) + 1) = j' ∧ j' ≤ r.l1.length ∧ w'.heap[g]? = some (.cells (cR { r with l2 := r.l2 ++ RD.goes r.seed r.n1 bb (r.l1.take j') } (.slice (some ⟨q, 0, none⟩) r.l1.length c1) (.slice A2' (r.l2 ++ RD.goes r.seed r.n1 bb (r.l1.take j')).length c2')) 55 (0, 0)) ∧
                OwnI w' (.slice A2' (r.l2 ++ RD.goes r.seed r.n1 bb (r.l1.take j')).length c2') (r.l2 ++ RD.goes r.seed r.n1 bb (r.l1.take j')) ∧ (∀ x, (Value.slice A2' (r.l2 ++ RD.goes r.seed r.n1 bb (r.l1.take j')).length c2').ownBlock = some x → B x ∨ w.heap.size ≤ x) ∧ Chg (fun x => x = g) w7 w') ∧
              r.l1.length - (IntKind.wrap .i64 ((j : Int) + 1)).toNat < r.l1.length - ((j : Nat) : Int).toNat := by
            intro A' c' w' e1 e2 e3 e4
            rw [w64s (by omega)]
            exact ⟨⟨j + 1, A', c', rfl, hjl, e1, e2, e3, e4⟩, by omega⟩
          refine ⟨fun heq => ?_, fun hne => ?_⟩
          · have heq' : slot r.seed r.l1[j].1 r.n1 = bb := nat_beq heq
            rw [if_pos heq'] at hgo
            intro w21 d21
            have b21 := d21.blk b20
            have c1621 := c1620.drawn d21
            obtain ⟨q', eq', hc1', hc2'⟩ := item_at (h16.chg c1621 fun _ _ h => h) hjl
            injection eq' with eq'
            rw [← eq'] at hc1' hc2'
            refine ⟨_, _, _, cell_blk b21 rfl, _, _, _, cell_blk b21 rfl, ?_⟩
            refine ⟨by omega, by omega, _, hc1', _, hc2', fun w22 d22 => ?_⟩
            have c1622 := c1621.drawn d22
            have hgl := goes_len (seed := r.seed) (n := r.n1) (b := bb) r.l1 j
            refine (rwith_ok (hO16.chg c1622 fun _ _ h => h) (by simp; omega) r.l1[j]).mono ?_
            rintro e w23 ⟨A3, c3, rfl, hO23, hB23, ch23⟩
            refine ⟨_, _, _, rfl, ch23.ext, fun w24 d24 => ?_⟩
            have b24 := d24.blk (ch23.blk (d22.blk b21) id)
            refine ⟨⟨_, cell_blk b24 rfl⟩, frozen_blk b24, fun w25 hw25 w26 d26 => ?_⟩
            obtain ⟨b25, ch25⟩ := store_blk b24 hw25
            unfold V65_k3 V65_k4
            have hO24 := hO23.chg (d24.chg (fun _ => False)) fun _ _ h => h
            have hO26 := (hO24.chg ch25 fun x hx e => OwnW.blk_ne hO24 b24 (by decide) (e ▸ hx)).chg (d26.chg (fun _ => False)) fun _ _ h => h
            rw [List.append_assoc, ← hgo] at hO26
            have e26 := d26.blk b25
            rw [List.append_assoc, ← hgo] at e26
            rw [List.append_assoc, ← hgo] at hB23
            refine next (A' := A3) (c' := c3) e26 hO26 (fun x hx => .inr ?_) ?_
            · exact Nat.le_trans (Nat.le_trans chw7.size (Nat.le_trans ch16.size c1622.size)) (hB23 x hx)
            · exact ((ch16.trans (c1622.trans' (ch23.drawn d24)) fun _ h => h.elim).trans' ch25).drawn d26
          · have hne' : slot r.seed r.l1[j].1 r.n1 ≠ bb := fun e => by
              have hne : ((slot r.seed r.l1[j].1 r.n1 : Int) == (bb : Int)) = false := hne
              rw [e] at hne; simp at hne
            rw [if_neg hne'] at hgo
            unfold V65_k3 V65_k4
            refine next (A' := A2') (c' := c2') (by rw [hgo]; exact b20) (by rw [hgo]; exact hO16.chg c1620 fun _ _ h => h) (by rw [hgo]; exact hB16) (ch16.trans c1620 fun _ h => h.elim)
        · have hje : j = r.l1.length := by have := of_decide_eq_false hd; omega
          subst hje
          rw [List.take_length] at b16 hO16 hB16
          have hst16 : OwnI w16 (.slice st (RD.stay r.seed r.n1 bb r.l1).length stc) (RD.stay r.seed r.n1 bb r.l1) := hO7.chg ch16 fun x hx e => OwnW.blk_ne hO7 b7 (by decide) (e ▸ hx)
          refine ⟨⟨_, cell_blk b16 rfl⟩, frozen_blk b16, fun w29 hw29 => ?_⟩
          obtain ⟨b29, ch29⟩ := store_blk b16 hw29
          refine ⟨⟨_, cell_blk b29 rfl⟩, frozen_blk b29, fun w30 hw30 => ?_⟩
          obtain ⟨b30, ch30⟩ := store_blk b29 hw30
          have c1630 := ch29.trans' ch30
          have c30 : Chg (fun _ => False) w w30 := chw7.trans (ch16.trans' c1630) fun x hx => .inr (hx ▸ hgw)
          have hO30 : RAt w30 (.slice st (RD.stay r.seed r.n1 bb r.l1).length stc) (.slice A2' (r.l2 ++ RD.goes r.seed r.n1 bb r.l1).length c2') { r with l1 := RD.stay r.seed r.n1 bb r.l1, l2 := r.l2 ++ RD.goes r.seed r.n1 bb r.l1, idx := bb + 1 } (fun x => B x ∨ w.heap.size ≤ x) :=
            ⟨hst16.chg c1630 fun x hx e => OwnW.blk_ne hst16 b16 (by decide) (e ▸ hx), hO16.chg c1630 fun x hx e => OwnW.blk_ne hO16 b16 (by decide) (e ▸ hx), fun x hx => .inr (Nat.le_trans chw6.size (hB7 x hx)), hB16⟩
          have b30' : w30.heap[g]? = some (.cells (cR { r with l1 := RD.stay r.seed r.n1 bb r.l1, l2 := r.l2 ++ RD.goes r.seed r.n1 bb r.l1, idx := bb + 1 } (.slice st (RD.stay r.seed r.n1 bb r.l1).length stc) (.slice A2' (r.l2 ++ RD.goes r.seed r.n1 bb r.l1).length c2')) 55 (0, 0)) := by
            have hww : IntKind.wrap .i64 ((bb : Int) + 1) = ((bb + 1 : Nat) : Int) := w64s (by omega)
            rw [hww] at b30
            exact b30
          refine ld6 b30' ((rover_ok hO30).mono ?_)
          rintro e w31 ⟨v, rfl, A3, c3, A4, c4, rfl, h31, ch31⟩
          refine ⟨_, _, _, _, _, _, _, _, _, _, rfl, ?_⟩
          have b312 := ch31.blk (c1630.blk (ch16.blk b72 hgg) hgg) id
          rw [hstep]
          refine ret6 b312 fun w33 hc => ⟨_, rfl, A3, c3, A4, c4, rfl, (h31.other b312 hc).mono fun x hx => hx.elim id fun h => .inr (Nat.le_trans c30.size h), (c30.trans' ch31).trans hc fun x hx => .inr (by omega)⟩
  · have hbge : r.n1 ≤ bb := by have := of_decide_eq_false hlt; omega
    have he : r.step = r := by rw [hst, Nat.sub_eq_zero_of_le hbge]; rfl
    rw [he]
    refine ld6 b6 (ret6 b62 fun w5 hc => ⟨_, rfl, A1, c1, A2, c2, rfl, (h6.other b62 hc).mono fun _ => .inl, chw6.trans hc fun x hx => .inr (by omega)⟩)
end Go.Proofs.Ytcljmlgbmjjldaa
