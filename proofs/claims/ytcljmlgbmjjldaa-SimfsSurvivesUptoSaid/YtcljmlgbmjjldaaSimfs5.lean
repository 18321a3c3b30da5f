/- The file system: changes, the machine goes down. -/
import Derived.Test.YtcljmlgbmjjldaaSimfs4
import Derived.Laws.Externs
import Derived.Shelf.SlMaps.Clone
namespace Go.Proofs.Ytcljmlgbmjjldaa.Fs
open Go Go.VC Go.RowKit Go.Proofs.Ytcljmlgbmjjldaa.F
set_option linter.unusedVariables false
set_option linter.unusedSimpArgs false
theorem mclone_ok {w : World} {r : Nat} {m : Kvs} (h : MapAt w r m) :
    Calls Try.prog 95 #[.map (some r)] w fun e w' => e = .returned (.map (some w.heap.size)) ∧ MapAt w' w.heap.size m ∧ Chg (fun _ => False) w w' := by
  refine v95 _ _ _ ?_
  obtain ⟨es, clk, h1, hst, h2⟩ := h.ex
  refine ⟨fun h => (by cases h), fun _ => ?_⟩
  refine ⟨.iface 126 (.map (some w.heap.size)), w.alloc (.map es clk), ?_, some w.heap.size, w.alloc (.map es clk), ?_, rfl, ⟨es, clk, new_blk w _, hst, h2⟩, Chg.alloc _ _ _⟩
  · rw [run_callFunc_extern Try.func122 (by kernel_rfl) (by kernel_rfl) (by kernel_rfl) (e := Extern.MapsClone.clone) (by kernel_rfl), run_maps_clone_sl w 126 h1]
    rfl
  · rw [run_typeAssert_map_sl _ 126 20 _ _ _ Try.underlying126]
/-- all values are pointers to something -/
def Ptrs (d : Kvs) : Prop := ∀ (k : Str) (v : Value), kget k d = some v → ∃ x, v = fp x
theorem DirOk.ptrs {files : List Fl} {n : Nat} {d : Kvs} (h : DirOk files n d) : Ptrs d := fun k v hk => by
  obtain ⟨f, hf, rfl⟩ := h.get hk; exact ⟨_, rfl⟩
theorem enters125 : entersB Try.prog kCre = true := by kernel_rfl
theorem enters126 : entersB Try.prog kRen = true := by kernel_rfl
theorem enters127 : entersB Try.prog kRem = true := by kernel_rfl
theorem cond_en {b : Bool} {A B : Prop} (h : b = true) (hA : A) : cond b A B := by subst h; exact hA
/-- a change befalls a directory -/
theorem change_ok {w : World} {K : Nat → Prop} {v : Value} {c : Ch} {r : Nat} {d : Kvs} (hv : ChAt w K v c) (hm : MapAt w r d) (hp : Ptrs d) (hr : ¬ K r) {Q : Ending → World → Prop} {Z : Nat → Array Value → Array Value → Prop}
    (hQ : ∀ w', MapAt w' r (c.on d) → Chg (fun b => b = r) w w' → Q (.returned (.tuple #[])) w') :
    funcC v fun f fi ca => cond (entersB Try.prog f) (Calls Try.prog f (fi ++ #[.map (some r)] ++ ca) w Q) (Z f fi ca) := by
  have kr : ∀ {b w'}, K b → Chg (fun b => b = r) w w' → ∀ {u}, w.cell? ⟨b, 0, none⟩ = some u → w'.cell? ⟨b, 0, none⟩ = some u := fun {b w'} hb hc {u} hu => cell_chg hc (fun e => hr (e ▸ hb)) hu
  cases c with
  | cre n x =>
    obtain ⟨cx, cn, hv0, h2, h3, h4, h5⟩ := hv
    rw [hv0]
    simp only [funcC, enters125, cond_true]
    show Calls Try.prog 125 #[.map (some r), .pointer (some ⟨cx, 0, none⟩), .pointer (some ⟨cn, 0, none⟩)] w Q
    refine v125 _ _ _ _ _ ?_
    obtain ⟨w1, hr1, hm1, hc1⟩ := run_mapUpdate (P := Try.prog) Try.underlying126 Try.underlying9 hm n (fp x)
    exact ⟨n, h3, some ⟨x, 0, none⟩, h2, w1, hr1, hQ w1 hm1 hc1⟩
  | ren a b =>
    obtain ⟨ca, cb, hv0, h2, h3, h4, h5⟩ := hv
    rw [hv0]
    simp only [funcC, enters126, cond_true]
    show Calls Try.prog 126 #[.map (some r), .pointer (some ⟨ca, 0, none⟩), .pointer (some ⟨cb, 0, none⟩)] w Q
    refine v126 _ _ _ _ _ ?_
    obtain ⟨p, hpv⟩ : ∃ p : Option Addr, (kget a d).getD (.pointer none) = .pointer p := by
      cases hk : kget a d with
      | none => exact ⟨none, rfl⟩
      | some u => obtain ⟨x, rfl⟩ := hp _ _ hk; exact ⟨_, rfl⟩
    obtain ⟨w2, hr2, hm2, hc2⟩ := run_delete (P := Try.prog) Try.underlying126 Try.underlying9 hm a 9 0 #[false, false]
    obtain ⟨w3, hr3, hm3, hc3⟩ := run_mapUpdate (P := Try.prog) Try.underlying126 Try.underlying9 hm2 b (.pointer p)
    refine ⟨a, h2, p, w, by rw [run_lookup1 Try.underlying126 Try.underlying9 infoP.1 infoP.2.1 hm, hpv], a, h2, w2, hr2, b, kr h5 hc2 h3, w3, hr3, hQ w3 ?_ (hc2.trans' hc3)⟩
    show MapAt w3 r (upd b ((kget a d).getD (.pointer none)) (del a d))
    rw [hpv]; exact hm3
  | rem a =>
    obtain ⟨ca, hv0, h2, h4⟩ := hv
    rw [hv0]
    simp only [funcC, enters127, cond_true]
    show Calls Try.prog 127 #[.map (some r), .pointer (some ⟨ca, 0, none⟩)] w Q
    refine v127 _ _ _ _ ?_
    obtain ⟨w2, hr2, hm2, hc2⟩ := run_delete (P := Try.prog) Try.underlying126 Try.underlying9 hm a 9 0 #[false, false]
    exact ⟨a, h2, w2, hr2, hQ w2 hm2 hc2⟩

/-! ### picks -/
def pick (picks : List Int) (i many : Nat) : Nat :=
  match picks[i]? with
  | some p => p.toNat % (many + 1)
  | none => 0
theorem pick_le (picks : List Int) (i many : Nat) : pick picks i many ≤ many := by
  unfold pick; split
  · rename_i p _; have := Nat.mod_lt p.toNat (show many + 1 > 0 by omega); omega
  · omega
theorem rdAt {w : World} {v : Value} {l : List Int} (h : Rd w v (ints l)) : ∃ A c, v = .slice A l.length c ∧ ∀ (j : Nat) (x : Int), l[j]? = some x → ∃ a, A = some a ∧ w.cell? (a.add j) = some (.int .i64 x) := by
  obtain ⟨A, c, rfl, hc, h⟩ := h.ex
  refine ⟨A, c, by simp [ints], fun j s hs => ?_⟩
  rcases h with ⟨_, h0, _⟩ | ⟨a, rfl, ha⟩
  · have : l = [] := by cases l <;> simp_all [ints]
    subst this; simp at hs
  · exact ⟨a, rfl, ha j _ (by simp [ints, hs])⟩
section
variable {w : World} {g : Nat} {s : FS} {F K : Nat → Prop} {n : Nat}
theorem pick_ok {vf vc vp : Value} {r1 r2 r3 : Nat} {dv : Nat → Value} {cvs : List Value} {gi gf i many : Nat} (h : FSL w g s F K vf vc vp r1 r2 r3 dv cvs) (hgi : w.heap[gi]? = some (.cells #[.int .i64 i] 3 (0, 0))) (hgf : w.heap[gf]? = some (.cells #[.pointer (some ⟨g, 0, none⟩)] 69 (0, 0)))
    (hi : i < 4611686018427387904) (hm : many < 4611686018427387904) :
    Calls Try.prog 129 #[.int .i64 many, .pointer (some ⟨gi, 0, none⟩), .pointer (some ⟨gf, 0, none⟩)] w fun e w' => e = .returned (.int .i64 (pick s.picks i many)) ∧ w'.heap[gi]? = some (.cells #[.int .i64 ((i + 1 : Nat) : Int)] 3 (0, 0)) ∧ Chg (fun b => b = gi) w w' := by
  refine v129 _ _ _ _ _ ?_
  intro w1 d1
  obtain ⟨A, c, hvp, hg⟩ := rdAt h.picks
  have hb := h.blk
  rw [hvp] at hb
  have fin : ∀ {w2}, Drawn w w2 → ∀ x : Int, x = (pick s.picks i many : Nat) → V129_k1 ⟨gi, 0, none⟩ x w2 (fun e w' => e = .returned (.int .i64 (pick s.picks i many)) ∧ w'.heap[gi]? = some (.cells #[.int .i64 ((i + 1 : Nat) : Int)] 3 (0, 0)) ∧ Chg (fun b => b = gi) w w') := by
    intro w2 d2 x hx
    refine ⟨_, cell_blk (d2.blk hgi) rfl, ⟨_, cell_blk (d2.blk hgi) rfl⟩, frozen_blk (d2.blk hgi), fun w6 hw6 => ⟨by rw [hx], ?_⟩⟩
    obtain ⟨k1, k2⟩ := store_blk (d2.blk hgi) hw6
    rw [w64s (by omega)] at k1
    exact ⟨k1, (d2.chg _).trans' k2⟩
  refine ⟨(i : Int), cell_blk (d1.blk hgi) rfl, some ⟨g, 0, none⟩, cell_blk (d1.blk hgf) rfl, ?_⟩
  show ∃ (q : Option Addr) (qn qc : Nat), _
  simp only [add_mk, Nat.reduceAdd]
  refine ⟨A, _, c, cell_blk (d1.blk hb) rfl, fun w2 d2 => ⟨fun hlt w3 d3 => ?_, fun hlt => ?_⟩⟩
  · have hil : i < s.picks.length := by have := of_decide_eq_true hlt; omega
    have d := (d1.trans d2).trans d3
    obtain ⟨a, rfl, hcell⟩ := hg i s.picks[i] (List.getElem?_eq_getElem hil)
    refine ⟨some ⟨g, 0, none⟩, cell_blk (d.blk hgf) rfl, ?_⟩
    show ∃ (q : Option Addr) (qn qc : Nat), _
    simp only [add_mk, Nat.reduceAdd]
    refine ⟨some a, _, c, cell_blk (d.blk hb) rfl, (i : Int), cell_blk (d.blk hgi) rfl, by omega, by omega, s.picks[i], by rw [toNatN, Nat.mul_one]; exact d.ext.cell hcell, by rw [w64s (by omega)]; omega, fun w4 d4 => fin (d.trans d4) _ ?_⟩
    rw [w64s (by omega)]
    unfold pick
    rw [List.getElem?_eq_getElem hil]
    have : (if s.picks[i] > 0 then s.picks[i] else 0) = ((s.picks[i].toNat : Nat) : Int) := by split <;> omega
    rw [this, Int.ofNat_tmod]
  · refine fin (d1.trans d2) 0 ?_
    have hil : ¬ i < s.picks.length := by have := of_decide_eq_false hlt; omega
    unfold pick
    rw [List.getElem?_eq_none (by omega)]; rfl
end
end Go.Proofs.Ytcljmlgbmjjldaa.Fs
