/- What is read of old memory is read again where the old blocks are as they were; over any program. -/
import Derived.ChangeOld
import Derived.Test.YtcljmlgbmjjldaaVC
namespace Go.VC
open Go
set_option linter.unusedVariables false
set_option linter.unusedSimpArgs false
theorem mapM_mono {α β : Type} {f f' : α → Option β} (hf : ∀ x y, f x = some y → f' x = some y) : ∀ {l : List α} {r : List β}, l.mapM f = some r → l.mapM f' = some r
  | [], r, h => by simpa using h
  | x :: l, r, h => by
    simp only [List.mapM_cons, Option.bind_eq_bind, Option.bind_eq_some_iff, Option.pure_def, Option.some.injEq] at h ⊢
    obtain ⟨y, h1, ys, h2, rfl⟩ := h
    exact ⟨y, hf x y h1, ys, mapM_mono hf h2, rfl⟩
theorem mapM_mem {α β : Type} {f f' : α → Option β} : ∀ {l : List α} {r : List β}, (∀ x ∈ l, ∀ y, f x = some y → f' x = some y) → l.mapM f = some r → l.mapM f' = some r
  | [], r, hf, h => by simpa using h
  | x :: l, r, hf, h => by
    simp only [List.mapM_cons, Option.bind_eq_bind, Option.bind_eq_some_iff, Option.pure_def, Option.some.injEq] at h ⊢
    obtain ⟨y, h1, ys, h2, rfl⟩ := h
    exact ⟨y, hf x (by simp) y h1, ys, mapM_mem (fun z hz => hf z (by simp [hz])) h2, rfl⟩
section
variable {H : Type} {enc : TypeId × Value → H} {P : Program} {w w' : World} {base : Nat} {sp : Nat → Bool} {held : Bool}
theorem cells_ext (he : Ext w w') {a : Addr} {n : Nat} {cs : List Value} (h : w.cells? base a n = some cs) : w'.cells? base a n = some cs := by
  unfold World.cells? at h ⊢
  split at h
  · rename_i hb
    rw [if_pos hb]
    exact mapM_mono (fun i v hv => he.cell hv) h
  · cases h
/-- types without interfaces, whose slices have elements of a cell or more -/
def okT (P : Program) : Nat → TypeId → Bool
  | 0, _ => false
  | m + 1, t => match P.underlying t with
    | some (.slice e) => decide (0 < P.cellsOf e) && okT P m e
    | some (.pointer e) => okT P m e
    | some (.array _ e) => okT P m e
    | some (.map _ e) => okT P m e
    | some (.struct fs) => fs.toList.all fun f => okT P m f.type
    | some (.interface _) => false
    | _ => true
theorem trodStep_ext {m : Nat} {r r' : TypeId → List Value → Option (DataW H × List MemPlace)} (hr : ∀ t cs x, okT P m t = true → r t cs = some x → r' t cs = some x) (he : Ext w w') (hs : ∀ b, b < w.heap.size → sp b = true) {t : TypeId} (hz : okT P (m + 1) t = true) {cs : List Value} {x : DataW H × List MemPlace}
    (h : DataW.trodStep enc P w base (fun _ => true) held r t cs = some x) : DataW.trodStep enc P w' base sp held r' t cs = some x := by
  unfold DataW.trodStep at h ⊢
  split at h
  case h_6 e a heq1 =>
    simp only [Option.map_eq_some_iff, Option.bind_eq_some_iff] at h ⊢
    obtain ⟨y, ⟨cs', hc, hy⟩, rfl⟩ := h
    exact ⟨y, ⟨cs', cells_ext he hc, hr _ _ _ (by simpa [okT, heq1] using hz) hy⟩, rfl⟩
  case h_8 e a len cap heq1 =>
    simp only at h ⊢
    have hel : ∀ i y, (w.cells? base (a.add (i * P.cellsOf e)) (P.cellsOf e)).bind (r e) = some y → (w'.cells? base (a.add (i * P.cellsOf e)) (P.cellsOf e)).bind (r' e) = some y := fun i y hy => by
      simp only [Option.bind_eq_some_iff] at hy ⊢
      obtain ⟨cs', hc, hy⟩ := hy
      exact ⟨cs', cells_ext he hc, hr _ _ _ (by simp [okT, heq1] at hz; exact hz.2) hy⟩
    split at h
    · rename_i hc
      rw [if_pos hc]
      simp only [Option.map_eq_some_iff, Option.bind_eq_some_iff] at h ⊢
      obtain ⟨elems, h1, rest, h2, rfl⟩ := h
      refine ⟨elems, mapM_mono (fun i y hy => hel i y hy) h1, rest, ?_, rfl⟩
      rw [if_pos trivial] at h2
      by_cases hsp : sp a.block = true
      · rw [if_pos hsp]; exact mapM_mono (fun j y hy => hel _ y hy) h2
      · rw [if_neg hsp]
        have hcl : cap - len = 0 := by
          refine Classical.byContradiction fun hne => ?_
          obtain ⟨k, hk⟩ : ∃ k, cap - len = k + 1 := ⟨cap - len - 1, by omega⟩
          rw [hk, List.range_succ_eq_map] at h2
          simp only [List.mapM_cons, Option.bind_eq_bind, Option.bind_eq_some_iff] at h2
          obtain ⟨y, ⟨cs', hcs, _⟩, _⟩ := h2
          have hb := World.cells?_block hcs (by simp [okT, heq1] at hz; exact hz.1)
          have e1 : (a.add ((len + 0) * P.cellsOf e)).block = a.block := by unfold Addr.add; split <;> rfl
          rw [e1] at hb
          exact hsp (hs _ hb)
        rw [hcl] at h2
        simpa using h2
    · cases h
  case h_9 =>
    rename_i heq1
    split at h
    · rename_i hc
      rw [if_pos hc]
      simp only [Option.map_eq_some_iff] at h ⊢
      obtain ⟨xs, hx, rfl⟩ := h
      refine ⟨xs, mapM_mem (fun f hf y hy => hr _ _ _ ?_ hy) hx, rfl⟩
      unfold okT at hz
      rw [heq1] at hz
      first | exact List.all_eq_true.1 hz _ hf | exact hz
    · cases h
  case h_10 =>
    rename_i heq1
    split at h
    · rename_i hc
      rw [if_pos hc]
      simp only [Option.map_eq_some_iff] at h ⊢
      obtain ⟨xs, hx, rfl⟩ := h
      refine ⟨xs, mapM_mem (fun f hf y hy => hr _ _ _ ?_ hy) hx, rfl⟩
      unfold okT at hz
      rw [heq1] at hz
      first | exact List.all_eq_true.1 hz _ hf | exact hz
    · cases h
  case h_12 =>
    rename_i heq1
    simp [okT, heq1] at hz
  case h_14 k e b heq1 =>
    split at h
    · rename_i es clock hb
      rw [he.obj hb]
      simp only
      split at h
      · rename_i hc
        rw [if_pos hc]
        simp only [Option.bind_eq_some_iff] at h ⊢
        obtain ⟨entries, h1, hd⟩ := h
        refine ⟨entries, mapM_mono (fun x y hx => ?_) h1, hd⟩
        simp only [Option.bind_eq_some_iff] at hx ⊢
        obtain ⟨key, hk, hz⟩ := hx
        refine ⟨key, hk, ?_⟩
        split at hz
        · rename_i hf
          rw [if_pos hf]
          simp only [Option.map_eq_some_iff] at hz ⊢
          obtain ⟨q, hq, rfl⟩ := hz
          exact ⟨q, hr _ _ _ (by simpa [okT, heq1] using hz) hq, rfl⟩
        · cases hz
      · cases h
    · cases h
  all_goals first | exact h | (split at h <;> simp_all)
theorem trod_ext (he : Ext w w') (hs : ∀ b, b < w.heap.size → sp b = true) : ∀ (n m : Nat) (t : TypeId) (cs : List Value) (x : DataW H × List MemPlace), okT P m t = true → DataW.trod enc P w base (fun _ => true) held n t cs = some x → DataW.trod enc P w' base sp held n t cs = some x := by
  intro n
  induction n with
  | zero => intro m t cs x _ h; simp [DataW.trod] at h
  | succ n ih =>
    intro m t cs x hz h
    cases m with
    | zero => simp [okT] at hz
    | succ m =>
      rw [DataW.trod_step] at h ⊢
      exact trodStep_ext (m := m) (fun t cs x hm h => ih m t cs x hm h) he hs hz h
theorem trodAll_ext {m : Nat} (he : Ext w w') (hs : ∀ b, b < w.heap.size → sp b = true) : ∀ {ts : List TypeId} {vs : List Value} {ds : List (DataW H)} {ps : List MemPlace}, (ts.all (okT P m) = true) → DataW.TrodAll enc P w base (fun _ => true) held ts vs ds ps → DataW.TrodAll enc P w' base sp held ts vs ds ps
  | [], [], [], _, _, h => h
  | t :: ts, _ :: _, _ :: _, _, hz, ⟨a, b, ⟨n, h1⟩, h2, e⟩ => by
    simp only [List.all_cons, Bool.and_eq_true] at hz
    exact ⟨a, b, ⟨n, trod_ext he hs n m _ _ _ hz.1 h1⟩, trodAll_ext he hs hz.2 h2, e⟩
end
end Go.VC
