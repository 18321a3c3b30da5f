/- Maps whose keys are strings, as lists of pairs: kget-up, store, delete, length; and some words on strings. -/
import Derived.Test.YtcljmlgbmjjldaaHeap
import Derived.Laws.Strings
import Derived.MapKept
namespace Go.VC
open Go Go.RowKit
set_option linter.unusedVariables false
set_option linter.unusedSimpArgs false

/-! ### Strings -/
theorem toList_inj {x y : ByteArray} (h : x.toList = y.toList) : x = y := by
  rw [ByteArray.toList_eq, ByteArray.toList_eq] at h
  cases x; cases y
  congr 1
  exact Array.ext' h
theorem bytes_beq {x y : ByteArray} : (x == y) = true ↔ x = y := by
  show ByteArray.beq x y = true ↔ _
  unfold ByteArray.beq
  cases x; cases y
  simp
instance lawfulBytes : LawfulBEq ByteArray where
  eq_of_beq h := bytes_beq.1 h
  rfl := bytes_beq.2 rfl
theorem strEq_iff {x y : ByteArray} : strEq x y = true ↔ x = y := by
  unfold strEq
  rw [beq_iff_eq]
  exact ⟨toList_inj, fun h => by rw [h]⟩
theorem strEq_self (x : ByteArray) : strEq x x = true := strEq_iff.2 rfl
theorem strEq_ne {x y : ByteArray} (h : x ≠ y) : strEq x y = false := by
  cases hb : strEq x y with
  | false => rfl
  | true => exact absurd (strEq_iff.1 hb) h

/-! ### Pairs -/
abbrev Kvs := List (ByteArray × Value)
def kget (k : ByteArray) : Kvs → Option Value
  | [] => none
  | p :: r => if p.1 = k then some p.2 else kget k r
def upd (k : ByteArray) (v : Value) : Kvs → Kvs
  | [] => [(k, v)]
  | p :: r => if p.1 = k then (k, v) :: r else p :: upd k v r
def del (k : ByteArray) : Kvs → Kvs
  | [] => []
  | p :: r => if p.1 = k then r else p :: del k r
theorem look_upd_same (k : ByteArray) (v : Value) (m : Kvs) : kget k (upd k v m) = some v := by
  induction m with
  | nil => simp [upd, kget]
  | cons p r ih => simp only [upd]; split <;> simp [kget, *]
theorem look_upd_ne {k j : ByteArray} (h : k ≠ j) (v : Value) (m : Kvs) : kget j (upd k v m) = kget j m := by
  induction m with
  | nil => simp [upd, kget, h]
  | cons p r ih =>
    simp only [upd]
    split
    · rename_i e; simp [kget, h, e]
    · simp [kget, ih]
theorem keys_upd {k j : ByteArray} {v : Value} {m : Kvs} : j ∈ (upd k v m).map (·.1) ↔ j = k ∨ j ∈ m.map (·.1) := by
  induction m with
  | nil => simp [upd]
  | cons p r ih =>
    simp only [upd]
    split
    · rename_i e; simp [e]
    · simp only [List.map_cons, List.mem_cons, ih]
      constructor
      · rintro (h | h | h) <;> simp_all
      · rintro (h | h | h) <;> simp_all
theorem look_none {k : ByteArray} {m : Kvs} : kget k m = none ↔ k ∉ m.map (·.1) := by
  induction m with
  | nil => simp [kget]
  | cons p r ih =>
    simp only [kget, List.map_cons, List.mem_cons]
    split
    · rename_i e; simp [e]
    · rename_i e; rw [ih]; simp [Ne.symm e]
def NodupK (m : Kvs) : Prop := (m.map (·.1)).Nodup
theorem upd_nodup {k : ByteArray} {v : Value} {m : Kvs} (h : NodupK m) : NodupK (upd k v m) := by
  unfold NodupK at *
  induction m with
  | nil => simp [upd]
  | cons p r ih =>
    simp only [List.map_cons, List.nodup_cons] at h
    simp only [upd]
    split
    · rename_i e; simp only [List.map_cons, List.nodup_cons]; rw [← e]; exact h
    · rename_i e
      simp only [List.map_cons, List.nodup_cons]
      refine ⟨fun hm => ?_, ih h.2⟩
      rcases keys_upd.1 hm with h1 | h1
      · exact e h1
      · exact h.1 h1
theorem del_sub {k : ByteArray} {m : Kvs} : (del k m).Sublist m := by
  induction m with
  | nil => simp [del]
  | cons p r ih => simp only [del]; split; exact List.sublist_cons_self _ _; exact ih.cons_cons _
theorem del_nodup {k : ByteArray} {m : Kvs} (h : NodupK m) : NodupK (del k m) := List.Nodup.sublist (del_sub.map _) h
theorem look_del_same {k : ByteArray} {m : Kvs} (h : NodupK m) : kget k (del k m) = none := by
  unfold NodupK at h
  induction m with
  | nil => rfl
  | cons p r ih =>
    simp only [List.map_cons, List.nodup_cons] at h
    simp only [del]
    split
    · rename_i e; rw [look_none, ← e]; exact h.1
    · rename_i e; simp [kget, e, ih h.2]
theorem look_del_ne {k j : ByteArray} (h : k ≠ j) (m : Kvs) : kget j (del k m) = kget j m := by
  induction m with
  | nil => rfl
  | cons p r ih =>
    simp only [del]
    split
    · rename_i e; simp [kget, show p.1 ≠ j from by rw [e]; exact h]
    · simp [kget, ih]
theorem upd_length (k : ByteArray) (v : Value) (m : Kvs) : (upd k v m).length = if (kget k m).isSome then m.length else m.length + 1 := by
  induction m with
  | nil => simp [upd, kget]
  | cons p r ih =>
    simp only [upd, kget]
    split
    · simp
    · simp only [List.length_cons, ih]; split <;> omega
theorem del_length (k : ByteArray) (m : Kvs) : (del k m).length = if (kget k m).isSome then m.length - 1 else m.length := by
  induction m with
  | nil => simp [del, kget]
  | cons p r ih =>
    simp only [del, kget]
    split
    · simp
    · simp only [List.length_cons, ih]
      split
      · have : r ≠ [] := by rintro rfl; simp [kget] at *
        have : 0 < r.length := List.length_pos_iff.2 this
        omega
      · rfl

/-! ### A map's block -/
def entP (e : MapEntry) : Value × Value := (e.key, e.val)
structure MapAt (w : World) (r : Nat) (m : Kvs) : Prop where
  ex : ∃ es clk, w.heap[r]? = some (.map es clk) ∧ MapKept.Stamped es clk ∧ es.toList.map entP = m.map fun p => (Value.string p.1, p.2)
theorem MapAt.chg {F : Nat → Prop} {w w' : World} {r : Nat} {m : Kvs} (h : MapAt w r m) (hc : Chg F w w') (hn : ¬ F r) : MapAt w' r m := by
  obtain ⟨es, clk, h1, hst, h2⟩ := h.ex
  exact ⟨es, clk, hc.blk h1 hn, hst, h2⟩
theorem MapAt.new (w : World) : MapAt (w.alloc (.map #[] 0)) w.heap.size [] := ⟨#[], 0, new_blk w _, MapKept.stamped_empty 0, by simp⟩
theorem MapAt.len {w : World} {r : Nat} {m : Kvs} (h : MapAt w r m) : mapLen w (some r) = some m.length := by
  obtain ⟨es, clk, h1, hst, h2⟩ := h.ex
  have : es.size = m.length := by have := congrArg List.length h2; simpa using this
  simp [mapLen, h1, this]

theorem findNow_look (k : ByteArray) : ∀ (es : List MapEntry) (m : Kvs) (i : Nat), es.map entP = m.map (fun p => (Value.string p.1, p.2)) →
    Instr.findNow .string (.string k) es i = some (match kget k m with
      | none => none
      | some v => some (i + (m.map (·.1)).idxOf k, v))
  | [], m, i, h => by
    have : m = [] := by cases m <;> simp_all
    subst this; rfl
  | e :: es, [], i, h => by simp at h
  | e :: es, p :: m, i, h => by
    simp only [List.map_cons, List.cons.injEq] at h
    obtain ⟨h0, h1⟩ := h
    have hk : e.key = .string p.1 := congrArg Prod.fst h0
    have hv : e.val = p.2 := congrArg Prod.snd h0
    simp only [Instr.findNow, hk, Instr.sameNow]
    by_cases hb : p.1 = k
    · subst hb
      simp [kget, hv]
    · have : (k == p.1) = false := by simp [Ne.symm hb]
      simp only [this, findNow_look k es m (i + 1) h1, kget, if_neg hb]
      cases kget k m with
      | none => rfl
      | some v =>
        have : List.idxOf k (p.1 :: m.map (·.1)) = (m.map (·.1)).idxOf k + 1 := by
          rw [List.idxOf_cons, show (p.1 == k) = false from beq_false_of_ne hb]; rfl
        simp [this]; omega

section ops
variable {P : Program} {T K E : TypeId} {i : TypeInfo} {z : Value}
theorem run_checkKey {b : Bool} (hk : P.underlying K = some .string) (k : ByteArray) (w : World) : (Instr.checkKey b 10000 K (.string k)).run P w = .ok () w := by
  have : ∀ n, (Instr.checkKey b (n + 1) K (.string k)).run P w = .ok () w := fun n => by simp [Instr.checkKey, run_underlying' hk]
  exact this 9999
theorem run_findKey (hk : P.underlying K = some .string) (k : ByteArray) {es : List MapEntry} {m : Kvs} (h : es.map entP = m.map (fun p => (Value.string p.1, p.2))) (w : World) :
    (Instr.findKey K (.string k) es).run P w = .ok (match kget k m with | none => none | some v => some ((m.map (·.1)).idxOf k, v)) w := by
  have := findNow_look k es m 0 h
  simp only [Instr.findKey, Sem.run_bind, run_underlying' hk, Result.andThen_ok, this]
  cases kget k m <;> simp
theorem run_lookup2 (hT : P.underlying T = some (.map K E)) (hk : P.underlying K = some .string) (hi : P.info? E = some i) (hz : i.zero = some z) {w : World} {r : Nat} {m : Kvs} (h : MapAt w r m) (k : ByteArray) :
    (Instr.lookup T (.map (some r)) (.string k) true).run P w = .ok (.tuple #[(kget k m).getD z, .bool (kget k m).isSome]) w := by
  obtain ⟨es, clk, h1, hst, h2⟩ := h.ex
  simp only [Instr.lookup, Sem.run_bind, run_underlying' hT, Result.andThen_ok]
  have hg : (getObj r).run P w = .ok (.map es clk) w := by simp [getObj, Sem.run, h1]
  simp only [Sem.run_bind, hg, Result.andThen_ok, Sem.run_pure, run_checkKey hk, run_findKey hk k h2]
  cases kget k m <;> simp [zeroValue, typeInfo, hi, hz]
theorem run_lookup1 (hT : P.underlying T = some (.map K E)) (hk : P.underlying K = some .string) (hi : P.info? E = some i) (hz : i.zero = some z) {w : World} {r : Nat} {m : Kvs} (h : MapAt w r m) (k : ByteArray) :
    (Instr.lookup T (.map (some r)) (.string k) false).run P w = .ok ((kget k m).getD z) w := by
  obtain ⟨es, clk, h1, hst, h2⟩ := h.ex
  simp only [Instr.lookup, Sem.run_bind, run_underlying' hT, Result.andThen_ok]
  have hg : (getObj r).run P w = .ok (.map es clk) w := by simp [getObj, Sem.run, h1]
  simp only [Sem.run_bind, hg, Result.andThen_ok, Sem.run_pure, run_checkKey hk, run_findKey hk k h2]
  cases kget k m <;> simp [zeroValue, typeInfo, hi, hz]

theorem map_modify {k : ByteArray} {v : Value} : ∀ (es : List MapEntry) (m : Kvs), es.map entP = m.map (fun p => (Value.string p.1, p.2)) → (kget k m).isSome →
    (es.modify ((m.map (·.1)).idxOf k) (fun e => { e with key := .string k, val := v })).map entP = (upd k v m).map (fun p => (Value.string p.1, p.2))
  | [], m, h, hs => by
    have : m = [] := by cases m <;> simp_all
    subst this; simp [kget] at hs
  | e :: es, [], h, _ => by simp at h
  | e :: es, p :: m, h, hs => by
    simp only [List.map_cons, List.cons.injEq] at h
    obtain ⟨h0, h1⟩ := h
    by_cases hb : p.1 = k
    · simp [upd, hb, entP, h1]
    · have : List.idxOf k (p.1 :: m.map (·.1)) = (m.map (·.1)).idxOf k + 1 := by
        rw [List.idxOf_cons, show (p.1 == k) = false from beq_false_of_ne hb]; rfl
      simp only [List.map_cons, this, List.modify_succ_cons, upd, if_neg hb, h0]
      rw [map_modify es m h1 (by simpa [kget, hb] using hs)]
theorem upd_none {k : ByteArray} {v : Value} : ∀ {m : Kvs}, kget k m = none → upd k v m = m ++ [(k, v)]
  | [], _ => rfl
  | p :: m, h => by
    simp only [kget] at h
    split at h
    · cases h
    · rename_i e; simp [upd, e, upd_none h]
theorem map_erase {k : ByteArray} : ∀ (es : List MapEntry) (m : Kvs), es.map entP = m.map (fun p => (Value.string p.1, p.2)) → (kget k m).isSome →
    (es.eraseIdx ((m.map (·.1)).idxOf k)).map entP = (del k m).map (fun p => (Value.string p.1, p.2))
  | [], m, h, hs => by
    have : m = [] := by cases m <;> simp_all
    subst this; simp [kget] at hs
  | e :: es, [], h, _ => by simp at h
  | e :: es, p :: m, h, hs => by
    simp only [List.map_cons, List.cons.injEq] at h
    obtain ⟨h0, h1⟩ := h
    by_cases hb : p.1 = k
    · simp [del, hb, h1]
    · have : List.idxOf k (p.1 :: m.map (·.1)) = (m.map (·.1)).idxOf k + 1 := by
        rw [List.idxOf_cons, show (p.1 == k) = false from beq_false_of_ne hb]; rfl
      simp only [List.map_cons, this, List.eraseIdx_cons_succ, del, if_neg hb, h0]
      rw [map_erase es m h1 (by simpa [kget, hb] using hs)]
theorem del_none {k : ByteArray} : ∀ {m : Kvs}, kget k m = none → del k m = m
  | [], _ => rfl
  | p :: m, h => by
    simp only [kget] at h
    split at h
    · cases h
    · rename_i e; simp [del, e, del_none h]

theorem setObj_heap {w : World} {r : Nat} {o o' : Obj} (ho : w.heap[r]? = some o) : ({ w with heap := w.heap.setIfInBounds r o' } : World).heap[r]? = some o' := by
  have : r < w.heap.size := lt_blk ho
  simp [this]
theorem setObj_chg (w : World) (r : Nat) (o : Obj) : Chg (fun b => b = r) w { w with heap := w.heap.setIfInBounds r o } :=
  ⟨rfl, rfl, rfl, by simp, fun b hb hn => by simp [Array.getElem?_setIfInBounds_ne (Ne.symm hn)]⟩

theorem run_mapUpdate (hT : P.underlying T = some (.map K E)) (hk : P.underlying K = some .string) {w : World} {r : Nat} {m : Kvs} (h : MapAt w r m) (k : ByteArray) (v : Value) :
    ∃ w', (Instr.mapUpdate T (.map (some r)) (.string k) v).run P w = .ok () w' ∧ MapAt w' r (upd k v m) ∧ Chg (fun b => b = r) w w' := by
  obtain ⟨es, clk, h1, hst, h2⟩ := h.ex
  have hg : (getObj r).run P w = .ok (.map es clk) w := by simp [getObj, Sem.run, h1]
  have hset : ∀ o : Obj, (setObj r o).run P w = .ok () { w with heap := w.heap.setIfInBounds r o } := fun o => by simp [setObj, Sem.run, h1]
  simp only [Instr.mapUpdate, Sem.run_bind, run_underlying' hT, Result.andThen_ok, hg, run_checkKey hk, run_findKey hk k h2]
  cases hl : kget k m with
  | none =>
    simp only [hset]
    refine ⟨_, rfl, ⟨_, _, setObj_heap h1, MapKept.stamped_push hst fun x hx e => ?_, ?_⟩, setObj_chg _ _ _⟩
    · have hmem : entP x ∈ m.map (fun p => (Value.string p.1, p.2)) := by rw [← h2]; exact List.mem_map_of_mem hx
      obtain ⟨p, hp, he⟩ := List.mem_map.1 hmem
      have he1 : Value.string p.1 = x.key := congrArg Prod.fst he
      rw [e] at he1
      injection he1 with he1
      exact look_none.1 hl (he1 ▸ List.mem_map_of_mem hp)
    simp [h2, upd_none hl, entP]
  | some u =>
    have hs : (kget k m).isSome := by rw [hl]; rfl
    have hidx : (m.map (·.1)).idxOf k < m.length := by
      have hmem : k ∈ m.map (·.1) := by
        refine Classical.byContradiction fun hn => ?_
        rw [look_none.2 hn] at hl; cases hl
      have := List.idxOf_lt_length_of_mem hmem
      simpa using this
    have hlen : es.size = m.length := by have := congrArg List.length h2; simpa using this
    have hkey : (es[(m.map (·.1)).idxOf k]?).map (·.key) = some (.string k) := by
      have e1 : (es.toList.map entP)[(m.map (·.1)).idxOf k]? = some (Value.string k, (m[(m.map (·.1)).idxOf k]'hidx).2) := by
        rw [h2]
        simp only [List.getElem?_map, List.getElem?_eq_getElem hidx, Option.map_some]
        have : (m[(m.map (·.1)).idxOf k]'hidx).1 = k := by
          have := List.getElem_idxOf (x := k) (xs := m.map (·.1)) (by simpa using hidx)
          rwa [List.getElem_map] at this
        rw [this]
      simp only [List.getElem?_map] at e1
      cases he : es[(m.map (·.1)).idxOf k]? with
      | none => simp [he] at e1
      | some x =>
        have he' : es.toList[(m.map (·.1)).idxOf k]? = some x := by simpa using he
        rw [he'] at e1
        simp [entP] at e1
        simp [e1.1]
    have hstay : (Instr.keyThatStays (.string k) (.string k)).run P w = .ok (.string k) w := by
      have hsb : Instr.sameBits 10000 (.string k) (.string k) = true := by
        have : ∀ n, Instr.sameBits (n + 1) (.string k) (.string k) = true := fun n => by simp [Instr.sameBits]
        exact this 9999
      simp [Instr.keyThatStays, hsb]
    simp only [hkey, Option.getD_some, Sem.run_bind, hstay, Result.andThen_ok, hset]
    refine ⟨_, rfl, ⟨_, _, setObj_heap h1, MapKept.stamped_modify hst _ _ (fun _ _ => rfl) (fun e _ he => ?_), ?_⟩, setObj_chg _ _ _⟩
    · rw [he] at hkey; simp at hkey; simp [hkey]
    rw [Array.toList_modify]
    exact map_modify es.toList m h2 hs

theorem run_delete (hT : P.underlying T = some (.map K E)) (hk : P.underlying K = some .string) {w : World} {r : Nat} {m : Kvs} (h : MapAt w r m) (k : ByteArray) (T2 ty : TypeId) (cs : Array Bool) :
    ∃ w', (builtin .delete #[T, T2] ty cs #[.map (some r), .string k]).run P w = .ok (.value (.tuple #[])) w' ∧ MapAt w' r (del k m) ∧ Chg (fun b => b = r) w w' := by
  obtain ⟨es, clk, h1, hst, h2⟩ := h.ex
  have hg : (getObj r).run P w = .ok (.map es clk) w := by simp [getObj, Sem.run, h1]
  have hset : ∀ o : Obj, (setObj r o).run P w = .ok () { w with heap := w.heap.setIfInBounds r o } := fun o => by simp [setObj, Sem.run, h1]
  have key : ∀ w', (Builtin.delete_ #[T, T2] ty #[.map (some r), .string k]).run P w = .ok (.tuple #[]) w' → (builtin .delete #[T, T2] ty cs #[.map (some r), .string k]).run P w = .ok (.value (.tuple #[])) w' := fun w' h => by
    simp only [builtin]; exact run_v h
  cases hl : kget k m with
  | none =>
    refine ⟨_, key { w with heap := w.heap.setIfInBounds r (.map es clk) } ?_, ⟨_, _, setObj_heap h1, hst, ?_⟩, setObj_chg _ _ _⟩
    · simp [Builtin.delete_, run_underlying' hT, hg, run_checkKey hk, run_findKey hk k h2, hl, hset]
    · rw [del_none hl]; exact h2
  | some u =>
    refine ⟨_, key { w with heap := w.heap.setIfInBounds r (.map (es.eraseIdxIfInBounds ((m.map (·.1)).idxOf k)) clk) } ?_, ⟨_, _, setObj_heap h1, MapKept.stamped_erase hst _, ?_⟩, setObj_chg _ _ _⟩
    · simp [Builtin.delete_, run_underlying' hT, hg, run_checkKey hk, run_findKey hk k h2, hl, hset]
    · rw [Array.toList_eraseIdxIfInBounds]
      exact map_erase es.toList m h2 (by rw [hl]; rfl)
end ops
end Go.VC
