/- The dict in plain words: hash, two tables of buckets, a move. -/
import Derived.Test.YtcljmlgbmjjldaaMaps
import Derived.Test.YtcljmlgbmjjldaaWords
namespace Go.VC
open Go
set_option linter.unusedVariables false
set_option linter.unusedSimpArgs false

/-! ### The hash -/
def hashN (seed : Int) (s : ByteArray) : Nat → Int
  | 0 => xorI .u64 14695981039346656037 (IntKind.wrap .u64 seed)
  | n + 1 => IntKind.wrap .u64 ((xorI .u64 (hashN seed s n) (IntKind.wrap .u64 (byteAt s n))) * 1099511628211)
def hashEnd (h : Int) : Int :=
  IntKind.wrap .i64 (Int.fdiv (xorI .u64 (IntKind.wrap .u64 ((xorI .u64 h (Int.fdiv h (2 ^ (min (Int.toNat 32) (IntKind.bits .u64))))) * 11400714819323198485)) (Int.fdiv (IntKind.wrap .u64 ((xorI .u64 h (Int.fdiv h (2 ^ (min (Int.toNat 32) (IntKind.bits .u64))))) * 11400714819323198485)) (2 ^ (min (Int.toNat 29) (IntKind.bits .u64))))) (2 ^ (min (Int.toNat 1) (IntKind.bits .u64))))
def hashI (seed : Int) (s : ByteArray) : Int := hashEnd (hashN seed s s.size)
theorem wrapU_range (n : Int) : 0 ≤ IntKind.wrap .u64 n ∧ IntKind.wrap .u64 n < 18446744073709551616 := by
  have : IntKind.wrap .u64 n = n % 18446744073709551616 := by simp [IntKind.wrap, IntKind.bits, IntKind.signed]
  omega
theorem xorU_range (a b : Int) : 0 ≤ xorI .u64 a b ∧ xorI .u64 a b < 18446744073709551616 := wrapU_range _
theorem hashEnd_range (h : Int) : 0 ≤ hashEnd h ∧ hashEnd h < 9223372036854775808 := by
  unfold hashEnd
  generalize IntKind.wrap .u64 ((xorI .u64 h (Int.fdiv h (2 ^ (min (Int.toNat 32) (IntKind.bits .u64))))) * 11400714819323198485) = a
  have h1 := xorU_range a (Int.fdiv a (2 ^ (min (Int.toNat 29) (IntKind.bits .u64))))
  generalize xorI .u64 a (Int.fdiv a (2 ^ (min (Int.toNat 29) (IntKind.bits .u64)))) = b at h1 ⊢
  have h2 : Int.fdiv b (2 ^ (min (Int.toNat 1) (IntKind.bits .u64))) = b / 2 := by
    show Int.fdiv b 2 = _
    rw [Int.fdiv_eq_ediv_of_nonneg _ (by omega)]
  rw [h2, w64 (by omega) (by omega)]
  omega
def hashOf (seed : Int) (s : ByteArray) : Nat := (hashI seed s).toNat
theorem hashOf_eq (seed : Int) (s : ByteArray) : hashI seed s = (hashOf seed s : Int) := by
  have := hashEnd_range (hashN seed s s.size)
  unfold hashOf hashI; omega
theorem hashOf_lt (seed : Int) (s : ByteArray) : hashOf seed s < 9223372036854775808 := by
  have := hashEnd_range (hashN seed s s.size)
  unfold hashOf hashI; omega

/-! ### Tables -/
abbrev Bks := List (List ByteArray)
def used (b : Bks) : Nat := (b.map List.length).sum
def slot (seed : Int) (k : ByteArray) (n : Nat) : Nat := hashOf seed k % n
def bucket (b : Bks) (i : Nat) : List ByteArray := b.getD i []
def joinB (seed : Int) (b : Bks) (k : ByteArray) : Bks := b.set (slot seed k b.length) (bucket b (slot seed k b.length) ++ [k])
def joinAll (seed : Int) (b : Bks) (ks : List ByteArray) : Bks := ks.foldl (joinB seed) b
def leaveB (seed : Int) (b : Bks) (k : ByteArray) : Bks :=
  b.set (slot seed k b.length) ((bucket b (slot seed k b.length)).eraseIdx ((bucket b (slot seed k b.length)).idxOf k))
@[simp] theorem joinB_length (seed : Int) (b : Bks) (k : ByteArray) : (joinB seed b k).length = b.length := by simp [joinB]
@[simp] theorem joinAll_length (seed : Int) (b : Bks) (ks : List ByteArray) : (joinAll seed b ks).length = b.length := by
  induction ks generalizing b with
  | nil => rfl
  | cons k ks ih => simp only [joinAll, List.foldl_cons]; exact (ih _).trans (joinB_length _ _ _)
theorem joinAll_snoc (seed : Int) (b : Bks) (ks : List ByteArray) (k : ByteArray) : joinAll seed b (ks ++ [k]) = joinB seed (joinAll seed b ks) k := by simp [joinAll]
@[simp] theorem leaveB_length (seed : Int) (b : Bks) (k : ByteArray) : (leaveB seed b k).length = b.length := by simp [leaveB]

structure D where
  seed : Int
  b1 : Bks
  b2 : Bks
  idx : Nat
  m : Kvs
namespace D
def moves (d : D) : Bool := decide (0 < d.b2.length)
def ends (d : D) : D := if d.moves && used d.b1 == 0 then { d with b1 := d.b2, b2 := [], idx := 0 } else d
def begins (d : D) (n : Nat) : D := ends { d with b2 := List.replicate n [], idx := 0 }
/-- the first bucket from i on that holds a key -/
def full (b : Bks) : Nat → Nat → Nat
  | 0, i => i
  | n + 1, i => if bucket b i = [] then full b n (i + 1) else i
def at1 (d : D) : Nat := full d.b1 (d.b1.length - d.idx) d.idx
def step (d : D) : D :=
  if d.moves then ends { d with b1 := d.b1.set d.at1 [], b2 := joinAll d.seed d.b2 (bucket d.b1 d.at1), idx := d.at1 + 1 } else d
def joins (d : D) (k : ByteArray) : D := if d.moves then { d with b2 := joinB d.seed d.b2 k } else { d with b1 := joinB d.seed d.b1 k }
def grows (d : D) : D :=
  if d.b1.length = 0 then { d with b1 := List.replicate 4 [] }
  else if !d.moves && decide (d.b1.length ≤ used d.b1) then d.begins (2 * d.b1.length) else d
def puts (d : D) (k : ByteArray) (v : Value) : D := { d with m := upd k v d.m }
def set (d : D) (k : ByteArray) (v : Value) : D × Bool :=
  if (kget k d.step.m).isSome then (d.step.puts k v, false) else (((d.step.puts k v).grows).joins k, true)
def shrunk (n : Nat) : Nat → Nat → Nat
  | 0, s => s
  | f + 1, s => if s < n then shrunk n f (s * 2) else s
def shrinks (d : D) : D :=
  if !d.moves && decide (4 < d.b1.length) && decide (used d.b1 ≤ d.b1.length / 8) then d.begins (shrunk (used d.b1) 64 4) else d
def takes (d : D) (k : ByteArray) : D :=
  let d := { d with m := del k d.m }
  if k ∈ bucket d.b1 (slot d.seed k d.b1.length) then { d with b1 := leaveB d.seed d.b1 k } else { d with b2 := leaveB d.seed d.b2 k }
def delete (d : D) (k : ByteArray) : D × Bool :=
  if (kget k d.step.m).isSome then ((d.step.takes k).ends.shrinks, true) else (d.step, false)
def steps (d : D) : Nat → D
  | 0 => d
  | n + 1 => if d.moves then steps d.step n else d
def new (seed : Int) : D := ⟨seed, [], [], 0, []⟩

/-! ### What holds of every dict -/
def Pow (n : Nat) : Prop := ∃ k, 2 ≤ k ∧ k ≤ 40 ∧ n = 2 ^ k
def Placed (seed : Int) (b : Bks) : Prop := ∀ i, ∀ k ∈ bucket b i, slot seed k b.length = i
structure Inv (d : D) : Prop where
  p1 : d.b1 = [] ∨ Pow d.b1.length
  p2 : d.b2 = [] ∨ Pow d.b2.length
  e : d.b1 = [] → d.b2 = []
  w1 : Placed d.seed d.b1
  w2 : Placed d.seed d.b2
  keys : (d.b1.flatten ++ d.b2.flatten).Perm (d.m.map (·.1))
  nd : NodupK d.m
  mv : d.b2 ≠ [] → 0 < used d.b1 ∧ ∀ i, i < d.idx → bucket d.b1 i = []
  st : d.b2 = [] → d.idx = 0
  fit : ∀ k ∈ d.m.map (·.1), k.size < 9223372036854775808
end D

theorem used_eq (b : Bks) : used b = b.flatten.length := by
  induction b with
  | nil => rfl
  | cons x b ih => simp only [used, List.map_cons, List.sum_cons, List.flatten_cons, List.length_append] at *; omega
theorem bucket_get {b : Bks} {i : Nat} (h : i < b.length) : b[i]? = some (bucket b i) := by
  unfold bucket; rw [List.getD_eq_getElem?_getD, List.getElem?_eq_getElem h]; rfl
theorem bucket_out {b : Bks} {i : Nat} (h : b.length ≤ i) : bucket b i = [] := by
  unfold bucket; rw [List.getD_eq_getElem?_getD, List.getElem?_eq_none h]; rfl
theorem bucket_set {b : Bks} {i j : Nat} {x : List ByteArray} (h : i < b.length) : bucket (b.set i x) j = if i = j then x else bucket b j := by
  unfold bucket
  simp only [List.getD_eq_getElem?_getD, List.getElem?_set]
  split
  · simp [h]
  · rfl
theorem mem_flatten_bucket {b : Bks} {k : ByteArray} : k ∈ b.flatten ↔ ∃ i, i < b.length ∧ k ∈ bucket b i := by
  rw [List.mem_flatten]
  constructor
  · rintro ⟨l, hl, hk⟩
    obtain ⟨i, hi, rfl⟩ := List.mem_iff_getElem.1 hl
    refine ⟨i, hi, ?_⟩
    have := bucket_get hi
    rw [List.getElem?_eq_getElem hi] at this
    injection this with this
    rw [← this]; exact hk
  · rintro ⟨i, hi, hk⟩
    exact ⟨bucket b i, List.mem_of_getElem? (bucket_get hi), hk⟩
theorem bucket_le_used {b : Bks} (i : Nat) : (bucket b i).length ≤ used b := by
  by_cases hi : i < b.length
  · rw [used_eq]
    have : bucket b i ∈ b := List.mem_of_getElem? (bucket_get hi)
    exact (List.sublist_flatten_of_mem this).length_le
  · rw [bucket_out (by omega)]; simp
theorem slot_lt (seed : Int) (k : ByteArray) {n : Nat} (h : 0 < n) : slot seed k n < n := Nat.mod_lt _ h
/-- the keys behind a change of one bucket -/
theorem flatten_set {b : Bks} {i : Nat} {x : List ByteArray} (h : i < b.length) : ((b.set i x).flatten).Perm (x ++ (b.set i []).flatten) := by
  induction b generalizing i with
  | nil => simp at h
  | cons y b ih =>
    cases i with
    | zero => simp
    | succ i =>
      simp only [List.set_cons_succ, List.flatten_cons]
      have := ih (i := i) (by simpa using h)
      refine (List.Perm.append_left y this).trans ?_
      rw [← List.append_assoc, ← List.append_assoc]
      exact List.Perm.append_right _ List.perm_append_comm
theorem flatten_out {b : Bks} {i : Nat} (h : i < b.length) : b.flatten.Perm (bucket b i ++ (b.set i []).flatten) := by
  have h1 := flatten_set (x := bucket b i) h
  have h2 : b.set i (bucket b i) = b := by
    apply List.ext_getElem?
    intro j
    rw [List.getElem?_set]
    split
    · rename_i e; subst e; exact (bucket_get h).symm
    · rfl
  rwa [h2] at h1
end Go.VC
