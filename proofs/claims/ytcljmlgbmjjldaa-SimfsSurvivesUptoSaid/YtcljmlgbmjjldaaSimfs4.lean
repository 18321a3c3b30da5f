/- The file system: Read, List, Now, Safe. -/
import Derived.Test.YtcljmlgbmjjldaaSimfs3
namespace Go.Proofs.Ytcljmlgbmjjldaa.Fs
open Go Go.VC Go.RowKit Go.Proofs.Ytcljmlgbmjjldaa.F
set_option linter.unusedVariables false
set_option linter.unusedSimpArgs false
theorem own_string {w : World} {v : Value} {d : Str} (h : Own w tB v d.size (byteCells d)) : (convert 138 9 v).run Try.prog w = .ok (.string d) w := by
  rcases h.2 with ⟨rfl, h0⟩ | ⟨g, cap, cur, rfl, hb, hh, h1, h2, h3, h4⟩
  · rw [run_convert_bytes_nil w 138 5 Try.underlying138 Try.underlying5 _ _ _ Try.underlying9]
    have : d = ByteArray.empty := by
      cases d with | mk a => show _ = ByteArray.mk #[]; congr 1; exact Array.eq_empty_of_size_eq_zero h0
    rw [this]
  · have hlen : d.size = d.data.toList.length := by cases d; simp [ByteArray.size]
    have := run_convert_bytes_back (P := Try.prog) w 138 9 5 ⟨g, 0, none⟩ cap d.data.toList Try.underlying138 Try.underlying5 Try.underlying9 (fun j hj => by
      obtain ⟨g', c', cur', e', _, _, hcell, _⟩ := h.at (i := j) (x := .int .u8 (d.data.toList[j].toNat : Int)) (by unfold byteCells; rw [List.getElem?_map, List.getElem?_eq_getElem hj]; rfl)
      injection e' with e1 e2 e3
      injection e1 with e1
      injection e1 with e1
      subst e1
      rw [add_mk, Nat.zero_add]; exact hcell)
    rw [hlen, this]
theorem cut0 (g m : Nat) : cutA (some ⟨g, 0, none⟩) 0 m 1 = some ⟨g, 0, none⟩ := by
  unfold cutA; split
  · rfl
  · simp [add_mk]
theorem byteCells_take (d : Str) {k : Nat} (hk : k ≤ d.size) : byteCells (d.extract 0 k) = (byteCells d).take k := by
  unfold byteCells
  rw [← List.map_take]
  congr 1
  simp [ByteArray.data_extract]
theorem size_take (d : Str) {k : Nat} (hk : k ≤ d.size) : (d.extract 0 k).size = k := by
  rw [ByteArray.size_extract]; omega
/-- a beginning of a row of bytes -/
theorem own_cut {w : World} {A : Option Addr} {n c : Nat} {d : Str} (h : Own w tB (.slice A n c) d.size (byteCells d)) {k : Nat} (hk : k ≤ d.size) :
    Own w tB (.slice (cutA A 0 c 1) k c) (d.extract 0 k).size (byteCells (d.extract 0 k)) ∧ n = d.size ∧ n ≤ c := by
  have hn : n = d.size := by obtain ⟨A', c', e⟩ := h.slice; injection e
  subst hn
  have hs := h.shrink hk
  rw [size_take d hk, byteCells_take d hk]
  rcases h.2 with ⟨h0, hz⟩ | ⟨g, cap, cur, hv, hb, hh, h1, h2, h3, h4⟩
  · injection h0 with e1 e2 e3
    subst e1; subst e3
    have : cutA none 0 0 1 = none := by unfold cutA; split <;> rfl
    rw [this]; exact ⟨hs, rfl, by omega⟩
  · injection hv with e1 e2 e3
    subst e1; subst e3
    rw [cut0]; exact ⟨hs, rfl, h1⟩

def pcells (l : List (Str × Str)) : List Value := l.flatMap fun p => [.string p.1, .string p.2]
theorem pcells_app (a b : List (Str × Str)) : pcells (a ++ b) = pcells a ++ pcells b := by simp [pcells]
theorem pair_app {w : World} {v : Value} {n : Nat} {l : List (Str × Str)} (h : OwnW w tPair 2 v n (pcells l)) (x y : Str) {g : Nat} (hg : w.heap[g]? = some (.cells #[.string x, .string y] 77 (0, 0))) (hn : n < big) :
    ∃ A' c' w', (builtin .append #[71, 71] 71 #[false, false] #[v, .slice (some ⟨g, 0, none⟩) 1 1]).run Try.prog w = .ok (.value (.slice A' (n + 1) c')) w' ∧ OwnW w' tPair 2 (.slice A' (n + 1) c') (n + 1) (pcells (l ++ [(x, y)])) ∧ Chg (fun b => v.ownBlock = some b) w w' ∧
      (∀ b, (Value.slice A' (n + 1) c').ownBlock = some b → v.ownBlock = some b ∨ w.heap.size ≤ b) := by
  have hsrc : Src Try.prog 2 71 (.slice (some ⟨g, 0, none⟩) 1 1) 1 [.string x, .string y] w := Src.ofSlice w Try.underlying71 ⟨g, 0, none⟩ 1 1 [.string x, .string y] rfl (fun j u hu => by
    rw [add_mk, Nat.zero_add]
    match j, hu with
    | 0, hu => simp at hu; subst hu; exact cell_blk hg rfl
    | 1, hu => simp at hu; subst hu; exact cell_blk hg rfl
    | j + 2, hu => simp at hu) (fun u hu => by
      rcases List.mem_cons.1 hu with rfl | hu
      · rfl
      · rw [List.mem_singleton.1 hu]; rfl)
  unfold big at hn
  have := OwnW.app (P := Try.prog) (t := 71) (ty := 71) Try.underlying71 infoQ.1 infoQ.2.1 infoQ.2.2.1 rfl h hsrc (by rw [infoQ.2.2.2]; omega) (by omega) #[false, false]
  rwa [show pcells l ++ [Value.string x, Value.string y] = pcells (l ++ [(x, y)]) by rw [pcells_app]; rfl] at this

def FS.pairs (s : FS) (d : Kvs) (val : Fl → Str) : List (Str × Str) := (sortS (d.map (·.1))).map fun n => (n, val (s.of d n))
def FS.nowP (s : FS) : List (Str × Str) := s.pairs s.now (·.data)
def sureOf (f : Fl) : Str := f.data.extract 0 f.safe
def FS.safeP (s : FS) : List (Str × Str) := s.pairs s.safe sureOf
@[simp] theorem pairs_length (s : FS) (d : Kvs) (val : Fl → Str) : (s.pairs d val).length = d.length := by simp [FS.pairs]
def FS.read (s : FS) (name : Str) : Str × Int := if looks s true [name] = 0 then ((s.of s.now name).data, 0) else (ByteArray.mk #[], looks s true [name])

/-- a row of pairs that is new -/
def NewPairs (w w' : World) (v : Value) (l : List (Str × Str)) : Prop :=
  OwnW w' tPair 2 v l.length (pcells l) ∧ (∀ b, v.ownBlock = some b → w.heap.size ≤ b) ∧ Chg (fun _ => False) w w'

theorem rd_new1 {w : World} {G : Nat} {t : TypeId} {l : List Str} (hb : w.heap[G]? = some (.cells (strs l).toArray t (0, 0))) : Rd w (.slice (some ⟨G, 0, none⟩) l.length l.length) (strs l) :=
  ⟨some ⟨G, 0, none⟩, l.length, by rw [strs_length], by rw [strs_length]; exact Nat.le_refl _, .inr ⟨_, rfl, fun j u hj => by rw [add_mk, Nat.zero_add]; exact cell_blk hb (by simpa using hj)⟩⟩

section
variable {w : World} {g : Nat} {s : FS} {F K : Nat → Prop} {n : Nat}
theorem sorted_dir {r : Nat} {d : Kvs} {files : List Fl} (hm : MapAt w r d) (hd : DirOk files n d) (hn : n < big) :
    Calls Try.prog 85 #[.map (some r)] w fun e w1 => ∃ v, e = .returned v ∧ Calls Try.prog 62 #[v] w1 fun e w' => ∃ A c, e = .returned (.slice A d.length c) ∧ Own w' tS (.slice A d.length c) d.length (strs (sortS (d.map (·.1)))) ∧
      (∀ b, (Value.slice A d.length c).ownBlock = some b → w.heap.size ≤ b) ∧ Chg (fun _ => False) w w' := by
  refine (keys_ok r w).mono ?_
  rintro e w1 ⟨rfl, rfl⟩
  refine ⟨_, rfl, sorted_keys_ok hm (fun k hk => ?_) ?_⟩
  · obtain ⟨p, hp, rfl⟩ := List.mem_map.1 hk
    have := (hd.ok p hp).1; omega
  · have := hd.few; omega
theorem key_get {files : List Fl} {d : Kvs} (hd : DirOk files n d) {j : Nat} {k : Str} (hk : (sortS (d.map (·.1)))[j]? = some k) : ∃ f ∈ files, kget k d = some (fp f.g) := by
  have hmem : k ∈ d.map (·.1) := (sortS_perm _).mem_iff.1 (List.mem_of_getElem? hk)
  cases hg : kget k d with
  | none => exact absurd hmem (look_none.1 hg)
  | some v => obtain ⟨f, hf, rfl⟩ := hd.get hg; exact ⟨f, hf, rfl⟩
theorem read_ok (h : FSAt w g s F K) (hw : WF s n) {name : Str} (hs : name.size < 9223372036854775808) :
    Calls Try.prog 80 #[.pointer (some ⟨g, 0, none⟩), .string name] w fun e w' => e = .returned (.tuple #[.string (s.read name).1, .int .i64 (s.read name).2]) ∧ Chg (fun _ => False) w w' := by
  refine v80 _ _ _ _ ?_
  unfold V80
  intro G w1 hG hw1
  have c1 : Chg (fun _ => False) w w1 := by subst hw1; exact Chg.alloc _ _ _
  have hb : w1.heap[G]? = some (.cells (strs [name]).toArray 9 (0, 0)) := by subst hG; subst hw1; exact new_blk _ _
  have h1 := h.chg0 c1
  refine (looks_ok h1 hw (rd_new1 hb) (by simp) (by simp) (fun x hx => by rw [List.mem_singleton.1 hx]; exact hs) true).mono ?_
  rintro e w2 ⟨rfl, d2⟩
  refine ⟨_, rfl, fun hne => ?_, fun he => ?_⟩
  · have : looks s true [name] ≠ 0 := by simpa using hne
    unfold FS.read; rw [if_neg this]
    exact ⟨rfl, c1.drawn d2⟩
  · have h0 : looks s true [name] = 0 := by simpa using he
    obtain ⟨_, _, _, u, hu⟩ := looks_there h0
    obtain ⟨f, hf, rfl⟩ := hw.nowOk.get hu
    have h2 := h1.chg0 (d2.chg (fun _ => False))
    obtain ⟨vf, vc, vp, r1, r2, r3, dv, cvs, k⟩ := h2.ex
    have hdat := k.data f hf
    obtain ⟨A, c, hA⟩ := hdat.slice
    have hfb := k.fblk f hf
    rw [hA] at hdat hfb
    simp only [add_mk, Nat.reduceAdd]
    refine ⟨some r1, cell_blk k.blk rfl, some ⟨f.g, 0, none⟩, w2, by rw [run_lookup1 Try.underlying126 Try.underlying9 infoP.1 infoP.2.1 k.now, hu]; rfl, A, _, c, cell_blk hfb rfl, f.data, w2, own_string hdat, ?_⟩
    unfold FS.read; rw [if_pos h0, of_of hw.nd hf hu]
    exact ⟨rfl, c1.drawn d2⟩
def FS.list (s : FS) : List Str × Int := if s.down then ([], 203) else (sortS (s.now.map (·.1)), 0)
theorem list_ok (h : FSAt w g s F K) (hw : WF s n) (hn : n < big) :
    Calls Try.prog 49 #[.pointer (some ⟨g, 0, none⟩)] w fun e w' => ∃ v, e = .returned (.tuple #[v, .int .i64 s.list.2]) ∧ Own w' tS v s.list.1.length (strs s.list.1) ∧ (∀ b, v.ownBlock = some b → w.heap.size ≤ b) ∧ Chg (fun _ => False) w w' := by
  obtain ⟨vf, vc, vp, r1, r2, r3, dv, cvs, k⟩ := h.ex
  refine v49 _ _ _ ?_
  unfold V49
  simp only [add_mk, Nat.reduceAdd]
  refine ⟨s.down, cell_blk k.blk rfl, fun hd => ?_, fun hd => ⟨some r1, cell_blk k.blk rfl, (sorted_dir k.now hw.nowOk hn).mono ?_⟩⟩
  · unfold FS.list; rw [if_pos hd]
    exact ⟨_, rfl, Own.nil _ _, fun b hb => by simp [Value.ownBlock] at hb, Chg.refl _ _⟩
  · rintro e w1 ⟨v, rfl, hcall⟩
    refine ⟨v, rfl, hcall.mono ?_⟩
    rintro e w2 ⟨A, c, rfl, ho, hnew, hc⟩
    refine ⟨A, _, c, rfl, ?_⟩
    unfold FS.list; rw [if_neg (by rw [hd]; decide)]
    refine ⟨_, rfl, ?_, hnew, hc⟩
    simpa using ho
theorem now_ok (h : FSAt w g s F K) (hw : WF s n) (hn : n < big) :
    Calls Try.prog 41 #[.pointer (some ⟨g, 0, none⟩)] w fun e w' => ∃ v, e = .returned v ∧ NewPairs w w' v s.nowP := by
  obtain ⟨vf, vc, vp, r1, r2, r3, dv, cvs, k⟩ := h.ex
  refine v41 _ _ _ ?_
  unfold V41
  simp only [add_mk, Nat.reduceAdd]
  refine ⟨some r1, cell_blk k.blk rfl, (sorted_dir k.now hw.nowOk hn).mono ?_⟩
  rintro e w1 ⟨v, rfl, hcall⟩
  refine ⟨v, rfl, hcall.mono ?_⟩
  rintro e w2 ⟨A, c, rfl, ho, hnew, hc⟩
  have hfew := hw.nowOk.few
  have hn' : n < 1099511627776 := hn
  refine ⟨A, _, c, rfl, ?_⟩
  refine ⟨fun out outn outc i w3 => ∃ j : Nat, i = j ∧ j ≤ s.now.length ∧ outn = j ∧ OwnW w3 tPair 2 (.slice out outn outc) j (pcells (s.nowP.take j)) ∧ (∀ b, (Value.slice out outn outc).ownBlock = some b → w2.heap.size ≤ b) ∧ Chg (fun _ => False) w2 w3,
    fun _ _ _ i _ => s.now.length - i.toNat, ⟨0, rfl, Nat.zero_le _, rfl, OwnW.nil _ _ _, fun b hb => by simp [Value.ownBlock] at hb, Chg.refl _ _⟩, ?_⟩
  rintro out outn outc i w3 ⟨j, rfl, hj, rfl, hO, hN, hC⟩
  refine ⟨fun hd => ?_, fun hd => ?_⟩
  · have hjl : outn < s.now.length := by have := of_decide_eq_true hd; omega
    have hl : outn < (sortS (s.now.map (·.1))).length := by simpa using hjl
    have hget := List.getElem?_eq_getElem hl
    generalize hkk : (sortS (s.now.map (·.1)))[outn] = key at hget
    obtain ⟨f, hf, hkf⟩ := key_get hw.nowOk hget
    obtain ⟨gA, cA, _, eA, _, _, hcell, _⟩ := (ho.chg hC fun _ _ h => h).at (strs_get hget)
    injection eA with e1 e2 e3
    subst e1
    have k3 := (k.chg hc (fun _ h => h.elim) fun _ h => h.elim).chg hC (fun _ h => h.elim) fun _ h => h.elim
    have hdat := k3.data f hf
    obtain ⟨B, cB, hB⟩ := hdat.slice
    have hfb := k3.fblk f hf
    rw [hB] at hdat hfb
    refine ⟨by omega, by omega, key, by rw [toNatN, Nat.mul_one, add_mk, Nat.zero_add]; exact hcell, some r1, cell_blk k3.blk rfl, some ⟨f.g, 0, none⟩, w3, by rw [run_lookup1 Try.underlying126 Try.underlying9 infoP.1 infoP.2.1 k3.now, hkf]; rfl,
      B, _, cB, cell_blk hfb rfl, f.data, w3, own_string hdat, fun G w6 hG hw6 => ?_⟩
    have c6 : Chg (fun _ => False) w3 w6 := by subst hw6; exact Chg.alloc _ _ _
    have hb6 : w6.heap[G]? = some (.cells #[.string key, .string f.data] 77 (0, 0)) := by subst hG; subst hw6; exact new_blk _ _
    obtain ⟨A', c', w7, hr, hO', hC', hN'⟩ := pair_app (hO.chg c6 fun _ _ h => h) key f.data hb6 (by omega)
    refine ⟨A', _, c', w7, hr, ?_⟩
    rw [w64s (by omega)]
    have c26 : Chg (fun _ => False) w2 w6 := hC.trans' c6
    refine ⟨⟨outn + 1, rfl, hjl, rfl, ?_, fun b hb => (hN' b hb).elim (hN b) fun hle => Nat.le_trans c26.size hle, c26.trans hC' fun x hx => .inr (hN x hx)⟩, by show s.now.length - (((outn + 1 : Nat) : Int)).toNat < s.now.length - ((outn : Nat) : Int).toNat; rw [toNatN, toNatN]; omega⟩
    have hp : s.nowP[outn]? = some (key, f.data) := by
      unfold FS.nowP FS.pairs
      rw [List.getElem?_map, hget]
      simp only [Option.map_some, of_of hw.nd hf hkf]
    rw [List.take_add_one, hp]
    exact hO'
  · have hje : outn = s.now.length := by have := of_decide_eq_false hd; omega
    subst hje
    refine ⟨_, rfl, ?_, fun b hb => Nat.le_trans hc.size (hN b hb), hc.trans' hC⟩
    rw [List.take_of_length_le (by unfold FS.nowP; simp)] at hO
    unfold FS.nowP at hO ⊢
    rw [pairs_length]; exact hO
theorem safe_ok (h : FSAt w g s F K) (hw : WF s n) (hn : n < big) :
    Calls Try.prog 42 #[.pointer (some ⟨g, 0, none⟩)] w fun e w' => ∃ v, e = .returned v ∧ NewPairs w w' v s.safeP := by
  obtain ⟨vf, vc, vp, r1, r2, r3, dv, cvs, k⟩ := h.ex
  refine v42 _ _ _ ?_
  unfold V42
  simp only [add_mk, Nat.reduceAdd]
  refine ⟨some r2, cell_blk k.blk rfl, (sorted_dir k.safe hw.safeOk hn).mono ?_⟩
  rintro e w1 ⟨v, rfl, hcall⟩
  refine ⟨v, rfl, hcall.mono ?_⟩
  rintro e w2 ⟨A, c, rfl, ho, hnew, hc⟩
  have hfew := hw.safeOk.few
  have hn' : n < 1099511627776 := hn
  refine ⟨A, _, c, rfl, ?_⟩
  refine ⟨fun out outn outc i w3 => ∃ j : Nat, i = j ∧ j ≤ s.safe.length ∧ outn = j ∧ OwnW w3 tPair 2 (.slice out outn outc) j (pcells (s.safeP.take j)) ∧ (∀ b, (Value.slice out outn outc).ownBlock = some b → w2.heap.size ≤ b) ∧ Chg (fun _ => False) w2 w3,
    fun _ _ _ i _ => s.safe.length - i.toNat, ⟨0, rfl, Nat.zero_le _, rfl, OwnW.nil _ _ _, fun b hb => by simp [Value.ownBlock] at hb, Chg.refl _ _⟩, ?_⟩
  rintro out outn outc i w3 ⟨j, rfl, hj, rfl, hO, hN, hC⟩
  refine ⟨fun hd => ?_, fun hd => ?_⟩
  · have hjl : outn < s.safe.length := by have := of_decide_eq_true hd; omega
    have hl : outn < (sortS (s.safe.map (·.1))).length := by simpa using hjl
    have hget := List.getElem?_eq_getElem hl
    generalize hkk : (sortS (s.safe.map (·.1)))[outn] = key at hget
    obtain ⟨f, hf, hkf⟩ := key_get hw.safeOk hget
    obtain ⟨gA, cA, _, eA, _, _, hcell, _⟩ := (ho.chg hC fun _ _ h => h).at (strs_get hget)
    injection eA with e1 e2 e3
    subst e1
    have k3 := (k.chg hc (fun _ h => h.elim) fun _ h => h.elim).chg hC (fun _ h => h.elim) fun _ h => h.elim
    have hdat := k3.data f hf
    obtain ⟨B, cB, hB⟩ := hdat.slice
    have hfb := k3.fblk f hf
    rw [hB] at hdat hfb
    have hfit := (hw.fit f hf).1
    obtain ⟨hcut, _, hle⟩ := own_cut hdat hfit
    refine ⟨by omega, by omega, key, by rw [toNatN, Nat.mul_one, add_mk, Nat.zero_add]; exact hcell, some r2, cell_blk k3.blk rfl, some ⟨f.g, 0, none⟩, w3, by rw [run_lookup1 Try.underlying126 Try.underlying9 infoP.1 infoP.2.1 k3.safe, hkf]; rfl, ?_⟩
    intro w5 d5
    have hfb5 := d5.blk hfb
    refine ⟨B, _, cB, cell_blk hfb5 rfl, (f.safe : Int), by rw [add_mk]; exact cell_blk hfb5 rfl, by omega, by omega, fun w6 d6 => ?_⟩
    have d36 := d5.trans d6
    rw [toNatN, Nat.sub_zero, Nat.sub_zero]
    have hcut6 := d36.own hcut
    rw [size_take f.data hfit] at hcut6
    refine ⟨f.data.extract 0 f.safe, w6, own_string (d36.own hcut), Ext.refl _, fun w8 d8 => ?_⟩
    intro G w9 hG hw9
    have c9 : Chg (fun _ => False) w3 w9 := by subst hw9; exact ((d36.trans d8).chg _).trans' (Chg.alloc _ _ _)
    have hb9 : w9.heap[G]? = some (.cells #[.string key, .string (f.data.extract 0 f.safe)] 77 (0, 0)) := by subst hG; subst hw9; exact new_blk _ _
    refine ⟨by subst hw9; exact (Chg.alloc (fun _ => False) _ _).ext, fun w10 d10 => ?_⟩
    have c10 := c9.drawn d10
    obtain ⟨A', c', w11, hr, hO', hC', hN'⟩ := pair_app (hO.chg c10 fun _ _ h => h) key (f.data.extract 0 f.safe) (d10.blk hb9) (by omega)
    refine ⟨A', _, c', w11, hr, fun w12 d12 => ?_⟩
    rw [w64s (by omega)]
    have c26 : Chg (fun _ => False) w2 w10 := hC.trans' c10
    refine ⟨⟨outn + 1, rfl, hjl, rfl, ?_, fun b hb => (hN' b hb).elim (hN b) fun hle => Nat.le_trans c26.size hle, (c26.trans hC' fun x hx => .inr (hN x hx)).drawn d12⟩, by show s.safe.length - (((outn + 1 : Nat) : Int)).toNat < s.safe.length - ((outn : Nat) : Int).toNat; rw [toNatN, toNatN]; omega⟩
    have hp : s.safeP[outn]? = some (key, f.data.extract 0 f.safe) := by
      unfold FS.safeP FS.pairs
      rw [List.getElem?_map, hget]
      simp only [Option.map_some, of_of hw.nd hf hkf]
      rfl
    rw [List.take_add_one, hp]
    exact hO'.chg (d12.chg (fun _ => False)) fun _ _ h => h
  · have hje : outn = s.safe.length := by have := of_decide_eq_false hd; omega
    subst hje
    refine ⟨_, rfl, ?_, fun b hb => Nat.le_trans hc.size (hN b hb), hc.trans' hC⟩
    rw [List.take_of_length_le (by unfold FS.safeP; simp)] at hO
    unfold FS.safeP at hO ⊢
    rw [pairs_length]; exact hO
end
end Go.Proofs.Ytcljmlgbmjjldaa.Fs
