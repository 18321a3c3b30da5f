/- The file system: the machine goes down. -/
import Derived.Test.YtcljmlgbmjjldaaSimfs5
namespace Go.Proofs.Ytcljmlgbmjjldaa.Fs
open Go Go.VC Go.RowKit Go.Proofs.Ytcljmlgbmjjldaa.F
set_option linter.unusedVariables false
set_option linter.unusedSimpArgs false
def fallF (picks : List Int) (j : Nat) (f : Fl) : Fl :=
  ⟨f.g, f.data.extract 0 (f.safe + pick picks (j + 1) (f.data.size - f.safe)), f.safe + pick picks (j + 1) (f.data.size - f.safe)⟩
def fallUpto (picks : List Int) (t : Nat) (l : List Fl) : List Fl := l.mapIdx fun j f => if j < t then fallF picks j f else f
def FS.fall (s : FS) : FS :=
  { files := s.files.mapIdx (fallF s.picks), now := dirAt s (pick s.picks 0 s.ch.length), safe := dirAt s (pick s.picks 0 s.ch.length), ch := [], down := true, steps := s.steps, fails := [], crash := 0, picks := [] }
theorem fallUpto_zero (picks : List Int) (l : List Fl) : fallUpto picks 0 l = l := by
  unfold fallUpto; apply List.ext_getElem?; intro i; simp
theorem fallUpto_all (picks : List Int) (l : List Fl) : fallUpto picks l.length l = l.mapIdx (fallF picks) := by
  unfold fallUpto; apply List.ext_getElem?; intro i
  rw [List.getElem?_mapIdx, List.getElem?_mapIdx]
  cases h : l[i]? with
  | none => rfl
  | some f =>
    have := (List.getElem?_eq_some_iff.1 h).1
    simp [this]
theorem fallUpto_gs (picks : List Int) (t : Nat) (l : List Fl) : (fallUpto picks t l).map (·.g) = l.map (·.g) := by
  unfold fallUpto; apply List.ext_getElem?; intro i
  rw [List.getElem?_map, List.getElem?_mapIdx, List.getElem?_map]
  cases h : l[i]? with
  | none => rfl
  | some f => simp only [Option.map_some]; split <;> rfl
theorem fall_gs (picks : List Int) (l : List Fl) : (l.mapIdx (fallF picks)).map (·.g) = l.map (·.g) := by rw [← fallUpto_all]; exact fallUpto_gs _ _ _
@[simp] theorem fallUpto_length (picks : List Int) (t : Nat) (l : List Fl) : (fallUpto picks t l).length = l.length := by simp [fallUpto]
theorem fallUpto_get {picks : List Int} {t : Nat} {l : List Fl} {f : Fl} (h : l[t]? = some f) : (fallUpto picks t l)[t]? = some f := by
  unfold fallUpto; rw [List.getElem?_mapIdx, h]; simp
theorem gs_inj {l : List Fl} (hn : (l.map (·.g)).Nodup) {i j : Nat} {f f' : Fl} (hi : l[i]? = some f) (hj : l[j]? = some f') (e : f.g = f'.g) : i = j := by
  have h1 : (l.map (·.g))[i]? = some f.g := by rw [List.getElem?_map, hi]; rfl
  have h2 : (l.map (·.g))[j]? = some f.g := by rw [List.getElem?_map, hj, e]; rfl
  have hlt : i < (l.map (·.g)).length := (List.getElem?_eq_some_iff.1 h1).1
  exact (List.getElem?_inj hlt hn).1 (h1.trans h2.symm)
theorem fallUpto_succ {picks : List Int} {t : Nat} {l : List Fl} (hn : (l.map (·.g)).Nodup) {f : Fl} (h : l[t]? = some f) :
    setF f.g (fun x => { x with safe := (fallF picks t f).safe }) (setF f.g (fun x => { x with data := (fallF picks t f).data }) (fallUpto picks t l)) = fallUpto picks (t + 1) l := by
  unfold setF fallUpto
  apply List.ext_getElem?; intro i
  rw [List.getElem?_map, List.getElem?_map, List.getElem?_mapIdx, List.getElem?_mapIdx]
  cases hi : l[i]? with
  | none => rfl
  | some f' =>
    simp only [Option.map_some, Option.some.injEq]
    by_cases hit : i = t
    · subst hit
      have : f' = f := by rw [hi] at h; injection h
      subst this
      simp only [Nat.lt_irrefl, if_false, if_true, Nat.lt_succ_self]
      rfl
    · have hg : f'.g ≠ f.g := fun e => hit (gs_inj hn hi h e)
      have hg' : (if i < t then fallF picks i f' else f').g = f'.g := by split <;> rfl
      have hlt : (i < t + 1) ↔ i < t := by omega
      have hg2 : (if i < t then fallF picks i f' else f').g ≠ f.g := by rw [hg']; exact hg
      rw [if_neg hg2, if_neg hg2]
      simp only [hlt]
theorem dirAt_succ {s : FS} {t : Nat} {c : Ch} (h : s.ch[t]? = some c) : dirAt s (t + 1) = c.on (dirAt s t) := by
  unfold dirAt
  rw [List.take_add_one, h, List.foldl_append]; rfl
theorem own_le {w : World} {e : TypeId} {A : Option Addr} {n c : Nat} {xs : List Value} (h : Own w e (.slice A n c) n xs) : n ≤ c := by
  rcases h.2 with ⟨h0, hz⟩ | ⟨g, cap, cur, hv, hb, hh, h1, h2, h3, h4⟩
  · omega
  · injection hv with e1 e2 e3; omega
theorem cut_block {w : World} {e : TypeId} {A : Option Addr} {n c k : Nat} {xs : List Value} (h : Own w e (.slice A n c) n xs) {b : Nat} (hb : (Value.slice (cutA A 0 c 1) k c).ownBlock = some b) : (Value.slice A n c).ownBlock = some b := by
  rcases h.2 with ⟨h0, hz⟩ | ⟨g, cap, cur, hv, hbb, hh, h1, h2, h3, h4⟩
  · injection h0 with e1 e2 e3
    subst e1; subst e3
    have : cutA none 0 0 1 = none := by unfold cutA; split <;> rfl
    rw [this] at hb; simp [Value.ownBlock] at hb
  · injection hv with e1 e2 e3
    subst e1
    rw [cut0] at hb; exact hb

theorem fall_ok {w : World} {g : Nat} {s : FS} {F K : Nat → Prop} {n : Nat} (h : FSAt w g s F K) (hw : WF s n) (hn : n < big) :
    Calls Try.prog 87 #[.pointer (some ⟨g, 0, none⟩)] w fun e w' => e = .returned (.tuple #[]) ∧ Went w w' g s.fall F K := by
  obtain ⟨vf, vc, vp, r1, r2, r3, dv, cvs, k⟩ := h.ex
  have hn' : n < 1099511627776 := hn
  have hchl := hw.chl
  have hfew := hw.few
  obtain ⟨Ac, cc, hvc⟩ := k.chs.slice
  obtain ⟨Af, cf, hvf⟩ := k.files.slice
  have hglt := k.flt g k.Fg
  refine v87 _ _ _ ?_
  unfold V87
  intro gf w1 hgf hw1 gi w2 hgi hw2
  have c2 : Chg (fun _ => False) w w2 := by subst hw2; subst hw1; exact (Chg.alloc _ _ _).trans' (Chg.alloc _ _ _)
  have hgf0 : w.heap.size ≤ gf := by subst hgf; omega
  have hgi0 : w.heap.size ≤ gi := by subst hgi; subst hw1; simp
  have hne : gf ≠ gi := by subst hgf; subst hgi; subst hw1; simp
  have bf2 : w2.heap[gf]? = some (.cells #[.pointer (some ⟨g, 0, none⟩)] 69 (0, 0)) := by
    subst hw2; refine (Chg.alloc (fun _ => False) w1 _).blk ?_ id
    subst hgf; subst hw1; exact new_blk _ _
  have bi2 : w2.heap[gi]? = some (.cells #[.int .i64 0] 3 (0, 0)) := by subst hw2; subst hgi; exact new_blk _ _
  refine ⟨⟨_, cell_blk bi2 rfl⟩, frozen_blk bi2, fun w3 hw3 w4 d4 => ?_⟩
  obtain ⟨bi3, c3⟩ := store_blk bi2 hw3
  have bi4 : w4.heap[gi]? = some (.cells #[.int .i64 ((0 : Nat) : Int)] 3 (0, 0)) := d4.blk bi3
  have bf4 : w4.heap[gf]? = some (.cells #[.pointer (some ⟨g, 0, none⟩)] 69 (0, 0)) := d4.blk (c3.blk bf2 hne)
  have c4 : Chg (fun _ => False) w w4 := (c2.trans c3 fun x hx => .inr (by omega)).drawn d4
  have k4 := k.chg c4 (fun _ h => h.elim) fun _ h => h.elim
  have hb4 := k4.blk
  rw [hvc] at hb4
  refine ⟨fun b => b = gi, hne, some ⟨g, 0, none⟩, cell_blk bf4 rfl, ?_⟩
  show ¬ _ ∧ _
  simp only [add_mk, Nat.reduceAdd]
  refine ⟨(by show g ≠ gi; omega), Ac, _, cc, cell_blk hb4 rfl, some ⟨g, 0, none⟩, cell_blk bf4 rfl, ?_⟩
  show ∃ (q : Option Addr) (qn qc : Nat), _
  simp only [add_mk, Nat.reduceAdd]
  refine ⟨Ac, _, cc, cell_blk hb4 rfl, fun w5 d5 => ?_⟩
  have k5 := k4.chg (d5.chg (fun _ => False)) (fun _ h => h.elim) fun _ h => h.elim
  refine (pick_ok k5 (d5.blk bi4) (d5.blk bf4) (i := 0) (many := s.ch.length) (by omega) (by omega)).mono ?_
  rintro e w6 ⟨rfl, bi6, c6⟩
  have hple := pick_le s.picks 0 s.ch.length
  refine ⟨_, rfl, c6.extB, by omega, ?_, fun w7 d7 => ?_⟩
  · have := own_le (hvc ▸ k.chs); omega
  rw [toNatN, Nat.sub_zero]
  generalize hkk : pick s.picks 0 s.ch.length = kk at hple
  have c7 : Chg (fun _ => False) w w7 := ((c4.drawn d5).trans c6 fun x hx => .inr (by omega)).drawn d7
  have bi7 : w7.heap[gi]? = some (.cells #[.int .i64 ((1 : Nat) : Int)] 3 (0, 0)) := d7.blk bi6
  have bf7 : w7.heap[gf]? = some (.cells #[.pointer (some ⟨g, 0, none⟩)] 69 (0, 0)) := d7.blk (c6.blk (d5.blk bf4) hne)
  have k7 := k.chg c7 (fun _ h => h.elim) fun _ h => h.elim
  refine ⟨fun i w8 => ∃ t : Nat, i = t ∧ t ≤ kk ∧ FSL w8 g { s with safe := dirAt s t } F K vf vc vp r1 r2 r3 dv cvs ∧ w8.heap[gi]? = some (.cells #[.int .i64 ((1 : Nat) : Int)] 3 (0, 0)) ∧ w8.heap[gf]? = some (.cells #[.pointer (some ⟨g, 0, none⟩)] 69 (0, 0)) ∧ Chg F w w8,
    fun i _ => kk - i.toNat, ⟨0, rfl, Nat.zero_le _, k7, bi7, bf7, c7.mono fun _ h => h.elim⟩, ?_⟩
  rintro i w8 ⟨t, rfl, ht, k8, bi8, bf8, c8⟩
  refine ⟨fun hlt => ?_, fun hlt => ?_⟩
  · have htl : t < kk := by have := of_decide_eq_true hlt; omega
    have htc : t < s.ch.length := by omega
    have hcl : cvs.length = s.ch.length := k.chs.len
    have hcv := List.getElem?_eq_getElem (l := cvs) (i := t) (by omega)
    have hch := List.getElem?_eq_getElem (l := s.ch) (i := t) htc
    generalize cvs[t] = cv at hcv
    generalize s.ch[t] = c at hch
    obtain ⟨G, cG, _, eG, _, _, hcell, _⟩ := k8.chs.at hcv
    rw [hvc] at eG
    injection eG with e1 e2 e3
    subst e1
    rw [cut0]
    refine ⟨by omega, by omega, cv, by rw [toNatN, Nat.mul_one, add_mk, Nat.zero_add]; exact hcell, some ⟨g, 0, none⟩, cell_blk bf8 rfl, ?_⟩
    show ∃ m : Option Nat, _
    simp only [add_mk, Nat.reduceAdd]
    refine ⟨some r2, cell_blk k8.blk rfl, ?_⟩
    refine change_ok (k8.cha t cv c hcv hch) k8.safe (hw.dirs t (by omega)).ptrs (fun hk => k.fk _ k.F2 hk) fun w' hm' hc' => ?_
    have h2lt := k.flt r2 k.F2
    refine ⟨rfl, ?_⟩
    rw [w64s (by omega)]
    refine ⟨⟨t + 1, rfl, htl, ?_, hc'.blk bi8 (by omega), hc'.blk bf8 (by omega), c8.trans hc' fun x e => .inl (e ▸ k.F2)⟩, by show kk - (((t + 1 : Nat) : Int)).toNat < kk - ((t : Nat) : Int).toNat; rw [toNatN, toNatN]; omega⟩
    rw [dirAt_succ hch]
    exact k8.putSafe hc' hm'
  · have htk : t = kk := by have := of_decide_eq_false hlt; omega
    subst htk
    have hb8 := k8.blk
    rw [hvf] at hb8
    refine ⟨some ⟨g, 0, none⟩, cell_blk bf8 rfl, ?_⟩
    refine ⟨Af, _, cf, cell_blk hb8 rfl, ?_⟩
    refine ⟨fun i w11 => ∃ (j : Nat) (F' : Nat → Prop) (dv' : Nat → Value), i = j ∧ j ≤ s.files.length ∧ FSL w11 g { s with safe := dirAt s t, files := fallUpto s.picks j s.files } F' K vf vc vp r1 r2 r3 dv' cvs ∧ (∀ b, F' b → F b) ∧
        w11.heap[gi]? = some (.cells #[.int .i64 ((j + 1 : Nat) : Int)] 3 (0, 0)) ∧ w11.heap[gf]? = some (.cells #[.pointer (some ⟨g, 0, none⟩)] 69 (0, 0)) ∧ Chg F w w11,
      fun i _ => s.files.length - i.toNat, ⟨0, F, dv, rfl, Nat.zero_le _, by rw [fallUpto_zero]; exact k8, fun _ h => h, bi8, bf8, c8⟩, ?_⟩
    rintro i w11 ⟨j, F', dv', rfl, hj, k11, hFF, bi11, bf11, c11⟩
    have offF : ∀ b, F' b → b < w.heap.size := fun b hb => k.flt b (hFF b hb)
    refine ⟨fun hlt2 => ?_, fun hlt2 => ?_⟩
    · have hjl : j < s.files.length := by have := of_decide_eq_true hlt2; omega
      have hfj := List.getElem?_eq_getElem (l := s.files) (i := j) hjl
      have hfm : s.files[j] ∈ s.files := List.getElem_mem hjl
      generalize s.files[j] = f at hfj hfm
      have hfu := fallUpto_get (picks := s.picks) hfj
      have hfmu : f ∈ fallUpto s.picks j s.files := List.mem_of_getElem? hfu
      have hnd' : ((fallUpto s.picks j s.files).map (·.g)).Nodup := by rw [fallUpto_gs]; exact hw.nd
      obtain ⟨G, cG, _, eG, _, _, hcell, _⟩ := k11.files.at (i := j) (x := fp f.g) (by show ((fallUpto s.picks j s.files).map _)[j]? = _; rw [List.getElem?_map, hfu]; rfl)
      rw [hvf] at eG
      injection eG with e1 e2 e3
      subst e1
      refine ⟨by omega, by omega, some ⟨f.g, 0, none⟩, by rw [toNatN, Nat.mul_one, add_mk, Nat.zero_add]; exact hcell, fun w12 d12 => ?_⟩
      have hdat := k11.data f hfmu
      obtain ⟨B, cB, hB⟩ := hdat.slice
      have hfb := k11.fblk f hfmu
      rw [hB] at hdat hfb
      have hfit := hw.fit f hfm
      refine ⟨B, _, cB, cell_blk (d12.blk hfb) rfl, (f.safe : Int), by rw [add_mk]; exact cell_blk (d12.blk hfb) rfl, fun w13 d13 => ?_⟩
      have d3 := d12.trans d13
      have hwr : IntKind.wrap .i64 (((f.data.size : Nat) : Int) - (f.safe : Int)) = ((f.data.size - f.safe : Nat) : Int) := by rw [w64 (by omega) (by omega)]; omega
      rw [hwr]
      have k13 := k11.chg (d3.chg (fun _ => False)) (fun _ h => h.elim) fun _ h => h.elim
      refine (pick_ok k13 (d3.blk bi11) (d3.blk bf11) (i := j + 1) (by omega) (by omega)).mono ?_
      rintro e w14 ⟨rfl, bi14, c14⟩
      refine ⟨_, rfl, fun w15 d15 w16 d16 => ?_⟩
      have hpl := pick_le s.picks (j + 1) (f.data.size - f.safe)
      have d56 := d15.trans d16
      have k16 := (k13.chg c14 (fun b e hb => by have := offF b hb; omega) fun b e hb => by have := k.klt b hb; omega).chg (d56.chg (fun _ => False)) (fun _ h => h.elim) fun _ h => h.elim
      have hdat16 := k16.data f hfmu
      have hfb16 := k16.fblk f hfmu
      rw [hB] at hdat16 hfb16
      have hfF := k16.Fx f hfmu
      have hfg : f.g < w.heap.size := offF _ hfF
      have hfit2 := hfit.2
      have hwr2 : IntKind.wrap .i64 ((f.safe : Int) + ((pick s.picks (j + 1) (f.data.size - f.safe) : Nat) : Int)) = ((f.safe + pick s.picks (j + 1) (f.data.size - f.safe) : Nat) : Int) := by rw [w64 (by omega) (by omega)]; omega
      have hle : f.safe + pick s.picks (j + 1) (f.data.size - f.safe) ≤ f.data.size := by omega
      obtain ⟨hcut, _, hcap⟩ := own_cut hdat16 hle
      refine ⟨B, _, cB, cell_blk hfb16 rfl, (f.safe : Int), by rw [add_mk]; exact cell_blk hfb16 rfl, by rw [hwr2]; omega, by rw [hwr2]; omega, ?_⟩
      intro w17 d17
      have hfb17 := d17.blk hfb16
      refine ⟨⟨_, cell_blk hfb17 rfl⟩, frozen_blk hfb17, fun w18 hw18 w19 d19 => ?_⟩
      simp only [hwr2, toNatN, Nat.sub_zero] at hw18
      have k17 := k16.chg (d17.chg (fun _ => False)) (fun _ h => h.elim) fun _ h => h.elim
      have hvb : ∀ b, (Value.slice (cutA B 0 cB 1) (f.safe + pick s.picks (j + 1) (f.data.size - f.safe)) cB).ownBlock = some b → (dv' f.g).ownBlock = some b := fun b hb => by
        rw [hB]; exact cut_block hdat16 hb
      obtain ⟨k18, c18⟩ := k17.putData hnd' hfmu (Chg.refl _ _) (d17.own hcut) (fun b hb => .inl (hvb b hb)) hw18
      have k19 := k18.chg (d19.chg (fun _ => False)) (fun _ h => h.elim) fun _ h => h.elim
      have hm19 : (⟨f.g, f.data.extract 0 (f.safe + pick s.picks (j + 1) (f.data.size - f.safe)), f.safe⟩ : Fl) ∈ setF f.g (fun x => { x with data := f.data.extract 0 (f.safe + pick s.picks (j + 1) (f.data.size - f.safe)) }) (fallUpto s.picks j s.files) :=
        List.mem_map.2 ⟨f, hfmu, by rw [if_pos rfl]⟩
      have hfb19 := k19.fblk _ hm19
      simp only [if_true] at hfb19
      refine ⟨_, _, _, cell_blk hfb19 rfl, ⟨_, by rw [add_mk]; exact cell_blk hfb19 rfl⟩, by rw [add_mk]; exact frozen_blk hfb19, fun w20 hw20 => ?_⟩
      rw [add_mk, Nat.zero_add] at hw20
      obtain ⟨k20, c20⟩ := k19.putSure (by
        have hgs := setF_gs (x := f.g) (p := fun x : Fl => { x with data := f.data.extract 0 (f.safe + pick s.picks (j + 1) (f.data.size - f.safe)) }) (fun _ => rfl) (fallUpto s.picks j s.files)
        rw [← hgs] at hnd'; exact hnd') hm19 hw20
      have hF18 : ∀ b, F' b ∨ (Value.slice (cutA B 0 cB 1) (f.safe + pick s.picks (j + 1) (f.data.size - f.safe)) cB).ownBlock = some b → F b := fun b hb => hb.elim (hFF b) fun hb => hFF b (k16.Fd f hfmu b (hvb b hb))
      have hgiF : ¬ F gi := fun hb => by have := k.flt gi hb; omega
      have hgfF : ¬ F gf := fun hb => by have := k.flt gf hb; omega
      have e14 : Chg F w w14 := (c11.drawn d3).trans c14 fun x e => .inr (by omega)
      have e17 := (e14.drawn d56).drawn d17
      have e20 : Chg F w17 w20 := ((c18.mono hFF).drawn d19).trans' (c20.mono hF18)
      rw [w64s (by omega)]
      refine ⟨⟨j + 1, _, fun x => if x = f.g then .slice (cutA B 0 cB 1) (f.safe + pick s.picks (j + 1) (f.data.size - f.safe)) cB else dv' x, rfl, hjl, ?_, hF18, ?_, ?_, e17.trans' e20⟩, by show s.files.length - (((j + 1 : Nat) : Int)).toNat < s.files.length - ((j : Nat) : Int).toNat; rw [toNatN, toNatN]; omega⟩
      · rw [← fallUpto_succ hw.nd hfj]; exact k20
      · exact e20.blk (d17.blk (d56.blk bi14)) hgiF
      · exact e20.blk (d17.blk (d56.blk (c14.blk (d3.blk bf11) hne))) hgfF
    · have hjl : j = s.files.length := by have := of_decide_eq_false hlt2; omega
      subst hjl
      rw [fallUpto_all] at k11
      have hgfF : ∀ b, b = g → b ≠ gf := fun b e => by omega
      intro w21 d21
      have bf21 := d21.blk bf11
      have k21 := k11.chg (d21.chg (fun _ => False)) (fun _ h => h.elim) fun _ h => h.elim
      refine ⟨fun b => b = g, (by show gf ≠ g; omega), some ⟨g, 0, none⟩, cell_blk bf21 rfl, some ⟨g, 0, none⟩, cell_blk bf21 rfl, ?_⟩
      show ∃ m : Option Nat, _
      simp only [add_mk, Nat.reduceAdd]
      refine ⟨some r2, cell_blk k21.blk rfl, fun w22 d22 => (mclone_ok (k21.safe.chg (d22.chg (fun _ => False)) id)).mono ?_⟩
      rintro e w23 ⟨rfl, hm23, c23⟩
      refine ⟨_, rfl, ⟨c23.size, fun b hb _ => c23.block b hb id⟩, ?_⟩
      intro w24 d24
      have k24 := (k21.chg ((d22.chg (fun _ => False)).trans' c23) (fun _ h => h.elim) fun _ h => h.elim).chg (d24.chg (fun _ => False)) (fun _ h => h.elim) fun _ h => h.elim
      have hm24 := hm23.chg (d24.chg (fun _ => False)) id
      have hsz22 : w.heap.size ≤ w22.heap.size := ((c11.drawn d21).drawn d22).size
      have hrF : ¬ F' w22.heap.size := fun hb => by have := offF _ hb; omega
      have hrK : ¬ K w22.heap.size := fun hb => by have := k.klt _ hb; omega
      have bf24 := d24.blk (c23.blk (d22.blk bf21) id)
      simp only [add_mk, Nat.reduceAdd]
      refine ⟨⟨_, cell_blk k24.blk rfl⟩, frozen_blk k24.blk, fun w25 hw25 => ?_⟩
      have c25 : Chg (fun b => b = g) w24 w25 := (store_blk k24.blk hw25).2
      have k25 := k24.newNow hm24 hrF hrK hw25
      refine ⟨c25.extB, fun w26 d26 => ?_⟩
      have k26 := k25.chg (d26.chg (fun _ => False)) (fun _ h => h.elim) fun _ h => h.elim
      have bf26 := d26.blk (c25.blk bf24 (by omega))
      refine ⟨some ⟨g, 0, none⟩, cell_blk bf26 rfl, ?_⟩
      show _ ∧ _ ∧ _
      simp only [add_mk, Nat.reduceAdd]
      refine ⟨⟨_, cell_blk k26.blk rfl⟩, frozen_blk k26.blk, fun w27 hw27 => ?_⟩
      have k27 := k26.noCh hw27
      have c27 : Chg (fun b => b = g) w26 w27 := (store_blk k26.blk hw27).2
      have bf27 := c27.blk bf26 (by omega)
      refine ⟨some ⟨g, 0, none⟩, cell_blk bf27 rfl, ?_⟩
      show _ ∧ _ ∧ _
      simp only [add_mk, Nat.reduceAdd]
      refine ⟨⟨_, cell_blk k27.blk rfl⟩, frozen_blk k27.blk, fun w28 hw28 => ?_⟩
      obtain ⟨b28, c28⟩ := store_blk k27.blk hw28
      have k28 := k27.scal c28 (d := true) (n := s.steps) (c := s.crash) b28
      have bf28 := c28.blk bf27 (by omega)
      refine ⟨some ⟨g, 0, none⟩, cell_blk bf28 rfl, fun G w29 hG hw29 => ?_⟩
      have c29 : Chg (fun _ => False) w28 w29 := by subst hw29; exact Chg.alloc _ _ _
      have m29 : IM.MapAt w29 G [] := by subst hw29; subst hG; exact IM.MapAt.new _
      have k29 := k28.chg c29 (fun _ h => h.elim) fun _ h => h.elim
      have e28 : Chg F w w28 := ((((((((c11.drawn d21).drawn d22).trans c23 fun _ h => h.elim).drawn d24).trans c25 fun b e => .inl (e ▸ k.Fg)).drawn d26).trans c27 fun b e => .inl (e ▸ k.Fg)).trans c28 fun b e => .inl (e ▸ k.Fg))
      have hG0 : w28.heap.size ≤ G := by omega
      have hGF : ¬ (F' G ∨ G = w22.heap.size) := fun hb => hb.elim (fun hb => by have := offF _ hb; have := e28.size; omega) fun e => by have := k28.flt w22.heap.size (.inr rfl); omega
      have hGK : ¬ K G := fun hb => by have := k28.klt _ hb; omega
      show _ ∧ _ ∧ _
      simp only [add_mk, Nat.reduceAdd]
      refine ⟨⟨_, cell_blk k29.blk rfl⟩, frozen_blk k29.blk, fun w30 hw30 w31 d31 => ?_⟩
      have k30 := k29.newFails m29 hGF hGK hw30
      have c30 : Chg (fun b => b = g) w29 w30 := (store_blk k29.blk hw30).2
      have k31 := k30.chg (d31.chg (fun _ => False)) (fun _ h => h.elim) fun _ h => h.elim
      have bf31 := d31.blk (c30.blk (c29.blk bf28 id) (by omega))
      refine ⟨fun b => b = g, some ⟨g, 0, none⟩, cell_blk bf31 rfl, ?_⟩
      show ¬ _ ∧ _
      refine ⟨(by show gf ≠ g; omega), some ⟨g, 0, none⟩, cell_blk bf31 rfl, fun w32 d32 => ?_⟩
      simp only [add_mk, Nat.reduceAdd]
      have k32 := k31.chg (d32.chg (fun _ => False)) (fun _ h => h.elim) fun _ h => h.elim
      refine ⟨⟨_, cell_blk k32.blk rfl⟩, frozen_blk k32.blk, fun w33 hw33 => ?_⟩
      obtain ⟨b33, c33⟩ := store_blk k32.blk hw33
      have k33 := k32.scal c33 (d := true) (n := s.steps) (c := 0) b33
      refine ⟨c33.extB, ?_⟩
      intro w34 d34
      have k34 := k33.chg (d34.chg (fun _ => False)) (fun _ h => h.elim) fun _ h => h.elim
      simp only [add_mk, Nat.reduceAdd]
      refine ⟨⟨_, cell_blk k34.blk rfl⟩, frozen_blk k34.blk, fun w35 hw35 => ?_⟩
      have c35 : Chg (fun b => b = g) w34 w35 := (store_blk k34.blk hw35).2
      have k35 := k34.newPicks (l := []) (K' := K) (v := .slice none 0 0) ⟨none, 0, rfl, Nat.le_refl _, .inl ⟨rfl, rfl, rfl⟩⟩ (fun b hb => by simp [Value.ownBlock] at hb) (fun _ h => h) k34.fk k34.klt hw35
      refine ⟨c35.extB, fun w36 d36 => ⟨trivial, ?_⟩⟩
      have k36 := k35.chg (d36.chg (fun _ => False)) (fun _ h => h.elim) fun _ h => h.elim
      have e36 : Chg F w w36 := (((((((e28.trans c29 fun _ h => h.elim).trans c30 fun b e => .inl (e ▸ k.Fg)).drawn d31).drawn d32).trans c33 fun b e => .inl (e ▸ k.Fg)).drawn d34).trans c35 fun b e => .inl (e ▸ k.Fg)).drawn d36
      unfold FS.fall
      rw [hkk]
      refine ⟨_, K, ⟨_, _, _, _, _, _, _, _, k36⟩, ?_, fun b hb => .inl hb, e36⟩
      rintro b ((hb | rfl) | rfl)
      · exact .inl (hFF b hb)
      · exact .inr hsz22
      · exact .inr (by have := e28.size; omega)
end Go.Proofs.Ytcljmlgbmjjldaa.Fs
