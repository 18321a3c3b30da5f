/- The verification conditions of a Go function: a predicate that the kernel reckons out of the function's code, and the proof that it serves (no program in sight). -/
import Derived.Calls
import Derived.Orders
import Derived.Tactics
import Derived.Deep.Draws
import Derived.Laws.Sem
import Derived.Deep.Quiet
import Derived.KernelRfl
namespace Go.VC
open Go
set_option linter.unusedVariables false
set_option linter.unusedSimpArgs false

/-! ### What is known of a frame -/
abbrev Env := List (Nat × Value)
def Env.has : Env → Nat → Bool
  | [], _ => false
  | p :: r, t => cond (Nat.beq p.1 t) true (Env.has r t)
def Env.get : Env → Nat → Value
  | [], _ => undef
  | p :: r, t => cond (Nat.beq p.1 t) p.2 (Env.get r t)
def Env.ev (e : Env) : Operand → Value
  | .tmp t => e.get t
  | .const v => v
  | .global g => .pointer (some ⟨g, 0, none⟩)
  | .func f => .func (.func f) #[] #[]
def Env.knows (e : Env) : Operand → Bool
  | .tmp t => e.has t
  | _ => true
def Env.put (e : Env) (d : Option Nat) (v : Value) : Env :=
  match d with
  | some d => (d, v) :: e
  | none => e
def memb : Nat → List Nat → Bool
  | _, [] => false
  | t, s :: r => cond (Nat.beq t s) true (memb t r)
def Env.drop (ts : List Nat) : Env → Env
  | [] => []
  | p :: r => cond (memb p.1 ts) (Env.drop ts r) (p :: Env.drop ts r)

theorem beq_ne {d t : Nat} (h : d ≠ t) : Nat.beq d t = false := by
  cases hb : Nat.beq d t with
  | false => rfl
  | true => exact absurd (Nat.eq_of_beq_eq_true hb) h

theorem memb_iff {t : Nat} {l : List Nat} : memb t l = true ↔ t ∈ l := by
  induction l with
  | nil => simp [memb]
  | cons s r ih =>
    simp only [memb, List.mem_cons]
    cases h : Nat.beq t s with
    | true => simp [Nat.eq_of_beq_eq_true h]
    | false =>
      have : t ≠ s := Nat.ne_of_beq_eq_false h
      simp [this, ih]

theorem Env.has_put (e : Env) (d t : Nat) (v : Value) : (Env.put e (some d) v).has t = (Nat.beq d t || e.has t) := by
  simp only [Env.put, Env.has]; cases Nat.beq d t <;> rfl
theorem Env.get_put_same (e : Env) (d : Nat) (v : Value) : (Env.put e (some d) v).get d = v := by
  simp [Env.put, Env.get, Nat.beq_refl]
theorem Env.get_put_ne (e : Env) {d t : Nat} (v : Value) (h : d ≠ t) : (Env.put e (some d) v).get t = e.get t := by
  simp [Env.put, Env.get, beq_ne h]

structure Fits (n : Nat) (e : Env) (a : Act) : Prop where
  size : a.tmps.size = n
  defers : a.defers = []
  has : ∀ t, e.has t = true → t < n
  get : ∀ t, e.has t = true → a.tmps.getD t undef = e.get t

theorem Fits.eval {n : Nat} {e : Env} {a : Act} (h : Fits n e a) (x : Operand) (hx : e.knows x = true) : a.eval x = e.ev x := by
  cases x with
  | tmp t => exact h.get t hx
  | _ => rfl

theorem Fits.put {n : Nat} {e : Env} {a : Act} (h : Fits n e a) (d : Option Nat) (hd : ∀ t, d = some t → t < n) (v : Value) : Fits n (e.put d v) (a.put d v) := by
  cases d with
  | none => exact h
  | some d =>
    have hdn := hd d rfl
    refine ⟨by simp [Act.put, h.size], h.defers, fun t ht => ?_, fun t ht => ?_⟩
    · rw [Env.has_put] at ht
      by_cases e : d = t
      · exact e ▸ hdn
      · have : Nat.beq d t = false := beq_ne e
        rw [this, Bool.false_or] at ht
        exact h.has t ht
    · by_cases he : d = t
      · subst he
        rw [Env.get_put_same]
        simp [Act.put, h.size, hdn]
      · rw [Env.get_put_ne _ _ he]
        rw [Env.has_put] at ht
        have : Nat.beq d t = false := beq_ne he
        rw [this, Bool.false_or] at ht
        rw [← h.get t ht]
        simp [Act.put, Array.getElem?_setIfInBounds_ne he]

/-- What lies outside these slots is as it was. -/
def Keeps (ts : List Nat) (e e' : Env) : Prop := ∀ t, memb t ts = false → e.has t = true → e'.has t = true ∧ e'.get t = e.get t
theorem Keeps.refl (ts : List Nat) (e : Env) : Keeps ts e e := fun _ _ h => ⟨h, rfl⟩
theorem Keeps.trans {ts us : List Nat} {e e' e'' : Env} (h : Keeps ts e e') (h' : Keeps us e' e'') : Keeps (ts ++ us) e e'' := by
  intro t ht hh
  have h1 : memb t ts = false := by
    cases hm : memb t ts with
    | false => rfl
    | true => rw [memb_iff] at hm; have := memb_iff.2 (List.mem_append_left us hm); rw [ht] at this; cases this
  have h2 : memb t us = false := by
    cases hm : memb t us with
    | false => rfl
    | true => rw [memb_iff] at hm; have := memb_iff.2 (List.mem_append_right ts hm); rw [ht] at this; cases this
  obtain ⟨a, b⟩ := h t h1 hh
  obtain ⟨c, d⟩ := h' t h2 a
  exact ⟨c, d.trans b⟩
theorem Keeps.mono {ts us : List Nat} {e e' : Env} (h : Keeps ts e e') (hs : ∀ t, t ∈ ts → t ∈ us) : Keeps us e e' := by
  intro t ht hh
  refine h t ?_ hh
  cases hm : memb t ts with
  | false => rfl
  | true => rw [memb_iff] at hm; have := memb_iff.2 (hs t hm); rw [ht] at this; cases this
theorem Keeps.put (e : Env) (d : Option Nat) (v : Value) : Keeps d.toList e (e.put d v) := by
  cases d with
  | none => exact Keeps.refl _ _
  | some d =>
    intro t ht hh
    have hne : d ≠ t := by
      intro he; subst he
      simp [memb, Nat.beq_refl] at ht
    exact ⟨by rw [Env.has_put, hh]; simp, Env.get_put_ne _ _ hne⟩

theorem Env.drop_has {ts : List Nat} {e : Env} {t : Nat} (h : (e.drop ts).has t = true) : memb t ts = false ∧ e.has t = true ∧ (e.drop ts).get t = e.get t := by
  induction e with
  | nil => simp [Env.drop, Env.has] at h
  | cons p r ih =>
    simp only [Env.drop] at h ⊢
    cases hm : memb p.1 ts with
    | true =>
      rw [hm, cond_true] at h
      obtain ⟨a, b, c⟩ := ih h
      have hne : Nat.beq p.1 t = false := by
        cases hb : Nat.beq p.1 t with
        | false => rfl
        | true => have := Nat.eq_of_beq_eq_true hb; subst this; rw [hm] at a; cases a
      rw [cond_true]
      refine ⟨a, by simp [Env.has, hne, b], by simp [Env.get, hne, c]⟩
    | false =>
      rw [hm, cond_false] at h
      rw [cond_false]
      simp only [Env.has] at h
      cases hb : Nat.beq p.1 t with
      | true =>
        have := Nat.eq_of_beq_eq_true hb; subst this
        exact ⟨hm, by simp [Env.has, Nat.beq_refl], by simp [Env.get, Nat.beq_refl]⟩
      | false =>
        rw [hb, cond_false] at h
        obtain ⟨a, b, c⟩ := ih h
        exact ⟨a, by simp [Env.has, hb, b], by simp [Env.get, hb, c]⟩

theorem Env.drop_of {ts : List Nat} {e : Env} {t : Nat} (hm : memb t ts = false) (h : e.has t = true) : (e.drop ts).has t = true := by
  induction e with
  | nil => simp [Env.has] at h
  | cons p r ih =>
    simp only [Env.drop]
    simp only [Env.has] at h
    cases hb : Nat.beq p.1 t with
    | true =>
      have := Nat.eq_of_beq_eq_true hb; subst this
      rw [hm, cond_false]
      simp [Env.has, Nat.beq_refl]
    | false =>
      rw [hb, cond_false] at h
      cases memb p.1 ts with
      | true => rw [cond_true]; exact ih h
      | false => rw [cond_false]; simp [Env.has, hb, ih h]

def findN {α : Type} (d : α) : List (Nat × α) → Nat → α
  | [], _ => d
  | p :: r, t => cond (Nat.beq p.1 t) p.2 (findN d r t)
abbrev Tys := List (Nat × List TypeId)

/-! ### Worlds -/
/-- nothing that was there has changed -/
def Ext (w w' : World) : Prop := w.heap.size ≤ w'.heap.size ∧ ∀ b, b < w.heap.size → w'.heap[b]? = w.heap[b]?
theorem Ext.refl (w : World) : Ext w w := ⟨Nat.le_refl _, fun _ _ => rfl⟩
theorem Ext.trans {a b c : World} (h : Ext a b) (k : Ext b c) : Ext a c := ⟨Nat.le_trans h.1 k.1, fun i hi => (k.2 i (Nat.lt_of_lt_of_le hi h.1)).trans (h.2 i hi)⟩
theorem Ext.obj {w w' : World} (h : Ext w w') {r : Nat} {o : Obj} (ho : w.heap[r]? = some o) : w'.heap[r]? = some o := (h.2 r (Array.getElem?_eq_some_iff.1 ho).1).trans ho
theorem Ext.cell {w w' : World} (h : Ext w w') {p : Addr} {v : Value} (hv : w.cell? p = some v) : w'.cell? p = some v := by
  unfold World.cell? at *
  cases hb : w.heap[p.block]? with
  | none => rw [hb] at hv; cases hv
  | some o => rw [h.obj hb]; rw [hb] at hv; exact hv
/-- nothing that was there has changed but for these blocks -/
def ExtB (B : Nat → Prop) (w w' : World) : Prop := w.heap.size ≤ w'.heap.size ∧ ∀ b, b < w.heap.size → ¬ B b → w'.heap[b]? = w.heap[b]?
/-- 'none': nothing has changed -/
def ExtO : Option (Nat → Prop) → World → World → Prop
  | none, w, w' => Ext w w'
  | some B, w, w' => ExtB B w w'
def notIn : Option (Nat → Prop) → Nat → Prop → Prop
  | none, _, p => p
  | some B, b, p => ¬ B b ∧ p
theorem ExtB.trans {B : Nat → Prop} {a b c : World} (h : ExtB B a b) (k : ExtB B b c) : ExtB B a c :=
  ⟨Nat.le_trans h.1 k.1, fun i hi hb => (k.2 i (Nat.lt_of_lt_of_le hi h.1) hb).trans (h.2 i hi hb)⟩
theorem Ext.extO {o : Option (Nat → Prop)} {w w' : World} (h : Ext w w') : ExtO o w w' := by
  cases o with
  | none => exact h
  | some B => exact ⟨h.1, fun b hb _ => h.2 b hb⟩
theorem ExtO.trans {o : Option (Nat → Prop)} {a b c : World} (h : ExtO o a b) (k : ExtO o b c) : ExtO o a c := by
  cases o with
  | none => exact Ext.trans h k
  | some B => exact ExtB.trans h k
theorem ExtO.cell {o : Option (Nat → Prop)} {w w' : World} (h : ExtO o w w') {p : Addr} {q : Prop} (hn : notIn o p.block q) {v : Value} (hv : w.cell? p = some v) : w'.cell? p = some v := by
  cases o with
  | none => exact Ext.cell h hv
  | some B =>
    unfold World.cell? at *
    cases hb : w.heap[p.block]? with
    | none => rw [hb] at hv; cases hv
    | some x =>
      have h1 := h.2 p.block (Array.getElem?_eq_some_iff.1 hb).1 hn.1
      rw [h1, hb]; rw [hb] at hv; exact hv
theorem notIn.out {o : Option (Nat → Prop)} {b : Nat} {p : Prop} (h : notIn o b p) : p := by
  cases o with
  | none => exact h
  | some B => exact h.2
def Drawn (w w' : World) : Prop := ∃ k, w' = w.drewN k
theorem Drawn.ext {w w' : World} (h : Drawn w w') : Ext w w' := by obtain ⟨k, rfl⟩ := h; exact ⟨Nat.le_refl _, fun _ _ => rfl⟩

/-! ### Kinds of cells -/
inductive Kd where
  | int (k : IntKind) | bool | str | ptr | slice | map | any
  deriving DecidableEq, Inhabited
def Kd.of : TypeDesc → Kd
  | .int k => .int k
  | .bool => .bool
  | .string => .str
  | .pointer _ => .ptr
  | .slice _ => .slice
  | .map _ _ => .map
  | _ => .any
/-- There is a value of that kind .. -/
def Kd.ex : Kd → (Value → Prop) → Prop
  | .int k, f => ∃ n : Int, f (.int k n)
  | .bool, f => ∃ b : Bool, f (.bool b)
  | .str, f => ∃ s : ByteArray, f (.string s)
  | .ptr, f => ∃ p : Option Addr, f (.pointer p)
  | .slice, f => ∃ (A : Option Addr) (n c : Nat), f (.slice A n c)
  | .map, f => ∃ r : Option Nat, f (.map r)
  | .any, f => ∃ v : Value, f v
theorem Kd.ex_out {k : Kd} {f : Value → Prop} (h : k.ex f) : ∃ v, f v := by
  cases k <;> simp only [Kd.ex] at h
  case slice => obtain ⟨A, n, c, h⟩ := h; exact ⟨_, h⟩
  all_goals (obtain ⟨x, h⟩ := h; exact ⟨_, h⟩)

def kindsF (P : Program) : Nat → TypeId → List Kd
  | 0, _ => []
  | f + 1, t =>
    match P.underlying t with
    | some (.struct fs) => fs.toList.flatMap fun x => kindsF P f x.type
    | some (.array n e) => (List.replicate n (kindsF P f e)).flatten
    | some d => [Kd.of d]
    | none => []
def kinds (P : Program) (t : TypeId) : List Kd := kindsF P 30 t

/-! ### Words of the conditions -/
def strEq (x y : ByteArray) : Bool := x.toList == y.toList
def strLt (x y : ByteArray) : Bool := Op.bytesLess x.toList y.toList
def andI (k : IntKind) (x y : Int) : Int := k.wrap ((BitVec.ofInt k.bits x &&& BitVec.ofInt k.bits y).toNat)
def orI (k : IntKind) (x y : Int) : Int := k.wrap ((BitVec.ofInt k.bits x ||| BitVec.ofInt k.bits y).toNat)
def xorI (k : IntKind) (x y : Int) : Int := k.wrap ((BitVec.ofInt k.bits x ^^^ BitVec.ofInt k.bits y).toNat)
def andNotI (k : IntKind) (x y : Int) : Int := k.wrap ((BitVec.ofInt k.bits x &&& ~~~(BitVec.ofInt k.bits y)).toNat)

/-- There is a result of that type .. -/
def kindsEx : List Kd → List Value → (List Value → Prop) → Prop
  | [], acc, f => f acc.reverse
  | k :: r, acc, f => k.ex fun v => kindsEx r (v :: acc) f
def oneEx (P : Program) (t : TypeId) (f : Value → Prop) : Prop :=
  match P.underlying t with
  | some (.struct _) => kindsEx (kinds P t) [] fun vs => f (.agg vs.toArray)
  | some (.array _ _) => kindsEx (kinds P t) [] fun vs => f (.agg vs.toArray)
  | some d => (Kd.of d).ex f
  | none => False
def tupEx (P : Program) : List TypeId → List Value → (List Value → Prop) → Prop
  | [], acc, f => f acc.reverse
  | t :: r, acc, f => oneEx P t fun v => tupEx P r (v :: acc) f
def resEx (P : Program) (t : TypeId) (f : Value → Prop) : Prop :=
  match P.underlying t with
  | some (.tuple ts) => tupEx P ts.toList [] fun vs => f (.tuple vs.toArray)
  | _ => oneEx P t f
theorem kindsEx_out : ∀ {ks : List Kd} {acc : List Value} {f : List Value → Prop}, kindsEx ks acc f → ∃ vs, f vs
  | [], _, _, h => ⟨_, h⟩
  | _ :: _, _, _, h => by obtain ⟨v, h⟩ := Kd.ex_out h; exact kindsEx_out h
theorem oneEx_out {P : Program} {t : TypeId} {f : Value → Prop} (h : oneEx P t f) : ∃ v, f v := by
  unfold oneEx at h
  split at h
  · obtain ⟨vs, h⟩ := kindsEx_out h; exact ⟨_, h⟩
  · obtain ⟨vs, h⟩ := kindsEx_out h; exact ⟨_, h⟩
  · exact Kd.ex_out h
  · exact h.elim
theorem tupEx_out {P : Program} : ∀ {ts : List TypeId} {acc : List Value} {f : List Value → Prop}, tupEx P ts acc f → ∃ vs, f vs
  | [], _, _, h => ⟨_, h⟩
  | _ :: _, _, _, h => by obtain ⟨v, h⟩ := oneEx_out h; exact tupEx_out h
theorem resEx_out {P : Program} {t : TypeId} {f : Value → Prop} (h : resEx P t f) : ∃ v, f v := by
  unfold resEx at h
  split at h
  · obtain ⟨vs, h⟩ := tupEx_out h; exact ⟨_, h⟩
  · exact oneEx_out h

/-! ### Single steps -/
def upV (K : Value → World → Prop) : Result Value → Prop
  | .ok v w => K v w
  | .halt _ _ => False
def upU (K : World → Prop) : Result Unit → Prop
  | .ok _ w => K w
  | .halt _ _ => False
def ptrC : Option Addr → (Addr → Prop) → Prop
  | some a, k => k a
  | none, _ => False
/-- an operation's own meaning -/
def opV (P : Program) (s : Sem Value) (w : World) (K : Value → World → Prop) : Prop := upV K (s.run P w)
def opU (P : Program) (s : Sem Unit) (w : World) (K : World → Prop) : Prop := upU K (s.run P w)
/-- an operation's own meaning: a result of that type -/
def opT (P : Program) (t : TypeId) (s : Sem Value) (w : World) (K : Value → World → Prop) : Prop := resEx P t fun v => ∃ w1, s.run P w = .ok v w1 ∧ K v w1
/-- and one without a result -/
def opX (P : Program) (s : Sem Unit) (w : World) (K : World → Prop) : Prop := ∃ w1, s.run P w = .ok () w1 ∧ K w1
/-- a step of an iterator: over, or a key and a value -/
def nextC (P : Program) (isS : Bool) (s : Sem Value) (w : World) (K : Value → World → Prop) : Prop :=
  (∃ w1, s.run P w = .ok (.tuple #[.bool false]) w1 ∧ K (.tuple #[.bool false]) w1) ∨
    cond isS (∃ (x y : Int) (w1 : World), s.run P w = .ok (.tuple #[.bool true, .int .i64 x, .int .i32 y]) w1 ∧ K (.tuple #[.bool true, .int .i64 x, .int .i32 y]) w1)
      (∃ (x y : Value) (w1 : World), s.run P w = .ok (.tuple #[.bool true, x, y]) w1 ∧ K (.tuple #[.bool true, x, y]) w1)
def entryC (P : Program) (ts : List TypeId) (s : Sem Value) (w : World) (K : Value → World → Prop) : Prop :=
  tupEx P ts [] fun vs => ∃ w1, s.run P w = .ok (.tuple vs.toArray) w1 ∧ K (.tuple vs.toArray) w1
/-- new memory -/
def newC (cs : Array Value) (t : TypeId) (w : World) (K : Value → World → Prop) : Prop :=
  ∀ (g : Nat) (w1 : World), g = w.heap.size → w1 = w.alloc (.cells cs t) → K (.pointer (some ⟨g, 0, none⟩)) w1
def allocC (P : Program) (t : TypeId) (w : World) (K : Value → World → Prop) : Prop :=
  match (P.info? t).bind (·.zero) with
  | some z => newC z.cells t w K
  | none => False
def makeMapC (w : World) (K : Value → World → Prop) : Prop :=
  ∀ (g : Nat) (w1 : World), g = w.heap.size → w1 = w.alloc (.map #[] 0) → K (.map (some g)) w1
def zeroRow (z : Array Value) (n : Nat) : Array Value := (Array.range n).map (z[· % z.size]!)
def makeSliceC (P : Program) (t : TypeId) (l c : Value) (w : World) (K : Value → World → Prop) : Prop :=
  match P.underlying t, l, c with
  | some (.slice e), .int .i64 l, .int .i64 c => match P.info? e with
    | some i => match i.zero with
      | some z => 0 ≤ l ∧ l ≤ c ∧ c < 9223372036854775808 ∧ i.bytes * c ≤ 281474976710656 ∧
        ∀ (g : Nat) (w1 : World), g = w.heap.size → w1 = w.alloc (.cells (zeroRow z.cells (c.toNat * i.size)) e) → K (.slice (some ⟨g, 0, none⟩) l.toNat c.toNat) w1
      | none => False
    | none => False
  | _, _, _ => False
def bsCells (P : Program) (t : TypeId) (n : Nat) (ps : Array (Nat × Value)) : Option (TypeId × Array Value) :=
  match P.underlying t with
  | some (.slice e) => match P.info? e with
    | some i => match i.zero with
      | some z => cond (Nat.ble (n * i.size) 16777216) ((Instr.fill (fun j => some (j * i.size, i.size)) ((Array.range (n * i.size)).map (z.cells[· % z.cells.size]!)) ps.toList).map fun c => (e, c)) none
      | none => none
    | none => none
  | _ => none
def buildSliceC (P : Program) (t : TypeId) (n : Nat) (ps : Array (Nat × Value)) (w : World) (K : Value → World → Prop) : Prop :=
  match bsCells P t n ps with
  | some (e, cs) => ∀ (g : Nat) (w1 : World), g = w.heap.size → w1 = w.alloc (.cells cs e) → K (.slice (some ⟨g, 0, none⟩) n n) w1
  | none => False
def bndC : Option Value → Nat → Nat → (Nat → Prop) → Prop
  | none, d, _, k => k d
  | some (.int _ i), _, u, k => 0 ≤ i ∧ i ≤ u ∧ k i.toNat
  | some _, _, _, _ => False
def cutA (A : Option Addr) (l m z : Nat) : Option Addr := if m = l then A else A.map (·.add (l * z))
def sizeC (P : Program) (t : TypeId) (k : Nat → Prop) : Prop :=
  match P.info? t with
  | some i => k i.size
  | none => False
/-- x[lo:hi:mx]; 'three': mx and not hi is no slice expression -/
def sliceP (P : Program) (t : TypeId) (x : Value) (lo hi mx : Option Value) (K : Value → Prop) : Prop :=
  match P.underlying t, x with
  | some .string, .string s => match mx with
    | none => bndC hi s.size s.size fun h => bndC lo 0 h fun l => K (.string (s.extract l h))
    | some _ => False
  | some (.slice e), .slice A n c => match mx with
    | none => bndC hi n c fun h => bndC lo 0 h fun l => sizeC P e fun z => K (.slice (cutA A l c z) (h - l) (c - l))
    | some m => match hi with
      | none => False
      | some hi => bndC (some m) c c fun m => bndC (some hi) n m fun h => bndC lo 0 h fun l => sizeC P e fun z => K (.slice (cutA A l m z) (h - l) (m - l))
  | some (.array n e), .pointer A => ptrC A fun a => match mx with
    | none => bndC hi n n fun h => bndC lo 0 h fun l => sizeC P e fun z => K (.slice (cutA (some a) l n z) (h - l) (n - l))
    | some _ => False
  | _, _ => False
def notAgg : Value → Prop → Prop
  | .agg _, _ => False
  | .tuple _, _ => False
  | _, p => p
def isAggT (P : Program) (t : TypeId) : Bool :=
  match P.underlying t with
  | some (.struct _) => true
  | some (.array _ _) => true
  | _ => false
/-- cells from i on, one by one -/
def loadN (a : Addr) (w : World) : List Kd → Nat → List Value → (List Value → Prop) → Prop
  | [], _, acc, K => K acc.reverse
  | k :: ks, i, acc, K => k.ex fun v => w.cell? (a.add i) = some v ∧ loadN a w ks (i + 1) (v :: acc) K
def loadC (P : Program) (t : TypeId) (a : Addr) (w : World) (K : Value → Prop) : Prop :=
  match P.underlying t with
  | some (.struct _) => cond (Nat.beq (kinds P t).length (P.cellsOf t)) (loadN a w (kinds P t) 0 [] fun vs => K (.agg vs.toArray)) False
  | some (.array _ _) => cond (Nat.beq (kinds P t).length (P.cellsOf t)) (loadN a w (kinds P t) 0 [] fun vs => K (.agg vs.toArray)) False
  | some d => (Kd.of d).ex fun v => w.cell? a = some v ∧ K v
  | none => False
def storeN (a : Addr) : List Value → Nat → World → (World → Prop) → Prop
  | [], _, w, K => K w
  | v :: vs, i, w, K => notAgg v ((∃ v0, w.cell? (a.add i) = some v0) ∧ w.frozen? (a.add i) = false ∧ storeN a vs (i + 1) (w.setCell (a.add i) v) K)
def storeC (P : Program) (t : TypeId) (a : Addr) (v : Value) (w : World) (K : World → Prop) : Prop :=
  match P.info? t with
  | some i => cond (Nat.beq v.cells.toList.length i.size) (storeN a v.cells.toList 0 w fun w2 => ∀ w1, w1 = w2 → K w1) False
  | none => False
def retC (K : Value → World → Prop) : Ending → World → Prop
  | .returned v, w => K v w
  | _, _ => False
def entersB (P : Program) (f : FuncId) : Bool :=
  match P.funcs[f]? with
  | some fn => !(fn.name == "runtime.NumGoroutine") && fn.body.isSome
  | none => false
def callC (P : Program) (t : TypeId) (f : FuncId) (args : Array Value) (w : World) (K : Value → World → Prop) : Prop :=
  cond (entersB P f) (Calls P f args w fun e w1 => resEx P t fun v => e = .returned v ∧ K v w1) (resEx P t fun v => ∃ w1, (callFunc f args).run P w = .ok (.value v) w1 ∧ K v w1)
def funcC : Value → (FuncId → Array Value → Array Value → Prop) → Prop
  | .func (.func g) first captured, k => k g first captured
  | _, _ => False
def valueC (P : Program) (t : TypeId) (f : Value) (args : Array Value) (w : World) (K : Value → World → Prop) : Prop :=
  funcC f fun g first captured => callC P t g (first ++ args ++ captured) w K
def byteAt (s : ByteArray) (i : Int) : Int := ((s[i.toNat]?).getD 0).toNat
def biT (P : Program) (b : Builtin) (ats : Array TypeId) (t : TypeId) (cs : Array Bool) (args : Array Value) (w : World) (K : Value → World → Prop) : Prop :=
  resEx P t fun v => ∃ w1, (builtin b ats t cs args).run P w = .ok (.value v) w1 ∧ K v w1
def bi (P : Program) (b : Builtin) (ats : Array TypeId) (t : TypeId) (cs : Array Bool) (args : Array Value) (w : World) (K : Value → World → Prop) : Prop :=
  match (builtin b ats t cs args).run P w with
  | .ok (.value v) w' => K v w'
  | _ => False
def mapLen (w : World) : Option Nat → Option Nat
  | none => some 0
  | some r => match w.heap[r]? with
    | some (.map es _) => some es.size
    | _ => none
def lenC (P : Program) (ats : Array TypeId) (args : Array Value) (w : World) (K : Value → World → Prop) : Prop :=
  match ats.toList with
  | [T] => match P.underlying T, args.toList with
    | some .string, [.string s] => K (.int .i64 s.size) w
    | some (.slice _), [.slice _ n _] => K (.int .i64 n) w
    | some (.map _ _), [.map r] => ∃ n : Nat, mapLen w r = some n ∧ K (.int .i64 n) w
    | some (.array n _), [_] => K (.int .i64 n) w
    | _, _ => False
  | _ => False
def isPtrC (P : Program) (t : TypeId) (p : Prop) : Prop :=
  match P.underlying t with
  | some (.pointer _) => p
  | _ => False
def isSliceC (P : Program) (t : TypeId) (p : Prop) : Prop :=
  match P.underlying t with
  | some (.slice _) => p
  | _ => False
def isMapC (P : Program) (t : TypeId) (p : Prop) : Prop :=
  match P.underlying t with
  | some (.map _ _) => p
  | _ => False
def binC (P : Program) (op : BinOp) (xT : TypeId) (x y : Operand) (vx vy : Value) (w : World) (K : Value → World → Prop) : Prop :=
  match op, vx, vy with
  | .quo, .int k a, .int k' b => cond (k == k') (b ≠ 0 ∧ K (.int k (k.wrap (a.tdiv b))) w) False
  | .rem, .int k a, .int k' b => cond (k == k') (b ≠ 0 ∧ K (.int k (a.tmod b)) w) False
  | .shl, .int k a, .int _ b => 0 ≤ b ∧ K (.int k (k.wrap (a * 2 ^ (min b.toNat k.bits)))) w
  | .shr, .int k a, .int _ b => 0 ≤ b ∧ K (.int k (a.fdiv (2 ^ (min b.toNat k.bits)))) w
  | .add, .string a, .string b => a.size + b.size ≤ 9223372036854775807 ∧ K (.string (a ++ b)) w
  | .eql, .pointer p, .pointer none => isPtrC P xT (K (.bool p.isNone) w)
  | .neq, .pointer p, .pointer none => isPtrC P xT (K (.bool !p.isNone) w)
  | .eql, .slice p _ _, .slice none _ _ => isSliceC P xT (K (.bool p.isNone) w)
  | .neq, .slice p _ _, .slice none _ _ => isSliceC P xT (K (.bool !p.isNone) w)
  | .eql, .map p, .map none => isMapC P xT (K (.bool p.isNone) w)
  | .neq, .map p, .map none => isMapC P xT (K (.bool !p.isNone) w)
  | op, .int k a, vy => opV P (do eqGuard op xT x y (.int k a) vy; binOp op xT (.int k a) vy) w K
  | op, .string a, vy => opV P (do eqGuard op xT x y (.string a) vy; binOp op xT (.string a) vy) w K
  | op, .bool a, vy => opV P (do eqGuard op xT x y (.bool a) vy; binOp op xT (.bool a) vy) w K
  | op, vx, vy => ∃ (r : Bool) (w1 : World), (do eqGuard op xT x y vx vy; binOp op xT vx vy : Sem Value).run P w = .ok (.bool r) w1 ∧ K (.bool r) w1
def indexC (P : Program) (T t : TypeId) (vx vi : Value) (w : World) (K : Value → World → Prop) : Prop :=
  match P.underlying t, vx, vi with
  | some .string, .string s, .int _ i => 0 ≤ i ∧ i < s.size ∧ K (.int .u8 (byteAt s i)) w
  | _, vx, vi => opT P T (Instr.index t vx vi) w K
def convC (P : Program) (T s d : TypeId) (v : Value) (w : World) (K : Value → World → Prop) : Prop :=
  match v with
  | .int k n => opV P (convert s d (.int k n)) w K
  | v => opT P T (convert s d v) w K
/-- an iterator is made -/
def opR (P : Program) (s : Sem Value) (w : World) (K : Value → World → Prop) : Prop := ∃ (g : Nat) (w1 : World), s.run P w = .ok (.pointer (some ⟨g, 0, none⟩)) w1 ∧ K (.pointer (some ⟨g, 0, none⟩)) w1
def indexAddrC (P : Program) (t : TypeId) (vx vi : Value) (w : World) (K : Value → World → Prop) : Prop :=
  match P.underlying t, vx, vi with
  | some (.slice e), .slice A n _, .int _ i => ptrC A fun a => 0 ≤ i ∧ i < n ∧ sizeC P e fun z => K (.pointer (some (a.add (i.toNat * z)))) w
  | some (.array n e), .pointer A, .int _ i => ptrC A fun a => 0 ≤ i ∧ i < n ∧ sizeC P e fun z => K (.pointer (some (a.add (i.toNat * z)))) w
  | _, vx, vi => opV P (Instr.indexAt t vx vi) w K
def fieldAddrC (P : Program) (t : TypeId) (vx : Value) (f : Nat) (w : World) (K : Value → World → Prop) : Prop :=
  match vx with
  | .pointer A => ptrC A fun a => opV P (Instr.fieldAt t (.pointer (some a)) f) w K
  | _ => False
def nilC (P : Program) (v : Value) (w : World) (K : Value → World → Prop) : Prop :=
  match v with
  | .pointer A => ptrC A fun a => K (.pointer (some a)) w
  | .func (.func g) x y => K (.func (.func g) x y) w
  | _ => False

def isConst : Operand → Bool
  | .const _ => true
  | _ => false

def vcOp (P : Program) (ty : Tys) (o : Oper) (e : Env) (w : World) (K : Value → World → Prop) : Prop :=
  match o.op with
  | .move x => K (e.ev x) w
  | .assign x => K (e.ev x) w
  | .alloc t => allocC P t w K
  | .box t x => newC (e.ev x).cells t w K
  | .build t ps => opV P (Instr.build t (ps.map fun p => (p.1, e.ev p.2))) w K
  | .buildSlice t n ps => buildSliceC P t n (ps.map fun p => (p.1, e.ev p.2)) w K
  | .load t a => match e.ev a with
    | .pointer p => ptrC p fun ad => loadC P t ad w fun v => K v w
    | _ => False
  | .store t a x => match e.ev a with
    | .pointer p => ptrC p fun ad => storeC P t ad (e.ev x) w fun w' => K undef w'
    | _ => False
  | .nilCheck x => nilC P (e.ev x) w K
  | .binOp op xT x y _ => binC P op xT x y (e.ev x) (e.ev y) w K
  | .unOp op _ x => opV P (Op.unary op (e.ev x)) w K
  | .convert s d x => convC P o.type s d (e.ev x) w K
  | .makeInterface t x => opV P (Instr.makeInterface t (e.ev x)) w K
  | .makeFunc fn first cap => opV P (Instr.makeFunc fn (first.map e.ev) (cap.map e.ev)) w K
  | .makeMap t r => match r with
    | none => makeMapC w K
    | some x => opT P o.type (Instr.makeMap t (some (e.ev x))) w K
  | .makeSlice t l c => makeSliceC P t (e.ev l) (e.ev c) w K
  | .slice t x lo hi mx => sliceP P t (e.ev x) (lo.map e.ev) (hi.map e.ev) (mx.map e.ev) fun v => K v w
  | .fieldAddr t x f => fieldAddrC P t (e.ev x) f w K
  | .field t x f => opV P (Instr.field t (e.ev x) f) w K
  | .indexAddr t x i => indexAddrC P t (e.ev x) (e.ev i) w K
  | .index t x i => indexC P o.type t (e.ev x) (e.ev i) w K
  | .lookup t x i ok => opT P o.type (Instr.lookup t (e.ev x) (e.ev i) ok) w K
  | .mapUpdate t m k x => opX P (Instr.mapUpdate t (e.ev m) (e.ev k) (e.ev x)) w fun w' => K undef w'
  | .insert t m k x => opX P (Instr.mapUpdate t (e.ev m) (e.ev k) (e.ev x)) w fun w' => K undef w'
  | .range t x => opR P (Instr.range t (e.ev x)) w K
  | .next it s => nextC P s (Instr.next (e.ev it) s o.type) w K
  | .entry it => entryC P (findN [] ty (o.dst.getD 0)) (Instr.entry (e.ev it)) w K
  | .mapEntry t m k => opT P o.type (Instr.mapEntry t (e.ev m) (e.ev k)) w K
  | .entryStore t m s x => opX P (Instr.entryStore t (e.ev m) (e.ev s) (e.ev x)) w fun w' => K undef w'
  | .typeAssert x xT a ok => opT P o.type (Instr.typeAssert (e.ev x) xT a ok) w K
  | .extract t i => opV P (Instr.extract (e.ev t) i) w K
  | .call c => match c.callee with
    | .builtin .len => lenC P c.argTypes (c.args.map e.ev) w K
    | .builtin .max => bi P .max c.argTypes o.type (c.args.map isConst) (c.args.map e.ev) w K
    | .builtin .min => bi P .min c.argTypes o.type (c.args.map isConst) (c.args.map e.ev) w K
    | .builtin .cap => bi P .cap c.argTypes o.type (c.args.map isConst) (c.args.map e.ev) w K
    | .builtin b => biT P b c.argTypes o.type (c.args.map isConst) (c.args.map e.ev) w K
    | .value f => valueC P o.type (e.ev f) (c.args.map e.ev) w K
    | .invoke _ _ => False
  | _ => False

/-! ### Soundness of a step -/
theorem andThen_of_opV {P : Program} {s : Sem Value} {w : World} {K : Value → World → Prop} (h : opV P s w K) :
    ∃ v w', s.run P w = .ok v w' ∧ K v w' := by
  unfold opV at h
  cases hr : s.run P w with
  | ok v w' => rw [hr] at h; exact ⟨v, w', rfl, h⟩
  | halt x w' => rw [hr] at h; exact h.elim
theorem andThen_of_opU {P : Program} {s : Sem Unit} {w : World} {K : World → Prop} (h : opU P s w K) :
    ∃ w', s.run P w = .ok () w' ∧ K w' := by
  unfold opU at h
  cases hr : s.run P w with
  | ok v w' => rw [hr] at h; exact ⟨w', rfl, h⟩
  | halt x w' => rw [hr] at h; exact h.elim

theorem of_opT {P : Program} {t : TypeId} {s : Sem Value} {w : World} {K : Value → World → Prop} (h : opT P t s w K) :
    ∃ v w', s.run P w = .ok v w' ∧ K v w' := by
  obtain ⟨v, w1, h1, h2⟩ := resEx_out h
  exact ⟨v, w1, h1, h2⟩
theorem of_opR {P : Program} {s : Sem Value} {w : World} {K : Value → World → Prop} (h : opR P s w K) :
    ∃ v w', s.run P w = .ok v w' ∧ K v w' := by
  obtain ⟨g, w1, h1, h2⟩ := h
  exact ⟨_, w1, h1, h2⟩
theorem of_convC {P : Program} {T s d : TypeId} {v : Value} {w : World} {K : Value → World → Prop} (h : convC P T s d v w K) :
    ∃ u w', (convert s d v).run P w = .ok u w' ∧ K u w' := by
  unfold convC at h
  split at h
  · exact andThen_of_opV h
  · exact of_opT h
theorem of_nextC {P : Program} {isS : Bool} {s : Sem Value} {w : World} {K : Value → World → Prop} (h : nextC P isS s w K) :
    ∃ v w', s.run P w = .ok v w' ∧ K v w' := by
  unfold nextC at h
  rcases h with ⟨w1, h1, h2⟩ | h
  · exact ⟨_, _, h1, h2⟩
  · cases isS with
    | true => obtain ⟨x, y, w1, h1, h2⟩ := h; exact ⟨_, _, h1, h2⟩
    | false => obtain ⟨x, y, w1, h1, h2⟩ := h; exact ⟨_, _, h1, h2⟩
theorem of_entryC {P : Program} {ts : List TypeId} {s : Sem Value} {w : World} {K : Value → World → Prop} (h : entryC P ts s w K) :
    ∃ v w', s.run P w = .ok v w' ∧ K v w' := by
  obtain ⟨vs, w1, h1, h2⟩ := tupEx_out h
  exact ⟨_, w1, h1, h2⟩
theorem ptrC_out {p : Option Addr} {k : Addr → Prop} (h : ptrC p k) : ∃ a, p = some a ∧ k a := by
  cases p with
  | none => exact h.elim
  | some a => exact ⟨a, rfl, h⟩
theorem notAgg_out {v : Value} {p : Prop} (h : notAgg v p) : v.oneCell' = true ∧ p := by
  cases v <;> first | exact ⟨rfl, h⟩ | exact h.elim

theorem cond_out {b : Bool} {p : Prop} (h : cond b p False) : b = true ∧ p := by
  cases b
  · exact h.elim
  · exact ⟨rfl, h⟩

theorem add_block (a : Addr) (n : Nat) : (a.add n).block = a.block := by unfold Addr.add; split <;> rfl
theorem loadN_out {P : Program} {a : Addr} {w : World} : ∀ (ks : List Kd) (i : Nat) (acc : List Value) (K : List Value → Prop), loadN a w ks i acc K →
    ∃ vs : List Value, (∀ w' : World, (∀ p v, p.block = a.block → w.cell? p = some v → w'.cell? p = some v) → (loadCellsFrom a i ks.length acc.reverse.toArray).run P w' = .ok (acc.reverse ++ vs).toArray w') ∧ K (acc.reverse ++ vs)
  | [], i, acc, K, h => ⟨[], fun w' _ => by simp [loadCellsFrom], by simpa [loadN] using h⟩
  | k :: ks, i, acc, K, h => by
    obtain ⟨v, hv, h⟩ := Kd.ex_out h
    obtain ⟨vs, h1, h2⟩ := loadN_out (P := P) ks (i + 1) (v :: acc) K h
    refine ⟨v :: vs, fun w' hw => ?_, by simpa using h2⟩
    simp only [List.length_cons, loadCellsFrom, Sem.run_bind, run_load, hw _ _ (add_block a i) hv, Result.andThen_ok]
    have : (acc.reverse.toArray.push v) = (v :: acc).reverse.toArray := by simp
    rw [this, h1 w' hw]
    simp

theorem run_underlying' {P : Program} {t : TypeId} {d : TypeDesc} (h : P.underlying t = some d) (w : World) : (underlying t).run P w = .ok d w := by
  simp [underlying, h]
theorem cellsOf_info {P : Program} {t : TypeId} {d : TypeDesc} (h : P.underlying t = some d) (w : World) : (sizeOf t).run P w = .ok (P.cellsOf t) w := by
  unfold Program.underlying at h
  cases hi : P.info? t with
  | none => rw [hi] at h; cases h
  | some i => simp [sizeOf, typeInfo, hi, Program.cellsOf]

theorem loadC_all {P : Program} {t : TypeId} {a : Addr} {w : World} {K : Value → Prop} (h : loadC P t a w K) :
    ∃ v, (∀ w' : World, (∀ p v, p.block = a.block → w.cell? p = some v → w'.cell? p = some v) → (loadVar t a).run P w' = .ok v w') ∧ K v := by
  unfold loadC at h
  cases hu : P.underlying t with
  | none => rw [hu] at h; exact h.elim
  | some d =>
    rw [hu] at h
    have agg : ∀ (hd : isAggT P t = true), cond (Nat.beq (kinds P t).length (P.cellsOf t)) (loadN a w (kinds P t) 0 [] fun vs => K (.agg vs.toArray)) False →
        ∃ v, (∀ w' : World, (∀ p v, p.block = a.block → w.cell? p = some v → w'.cell? p = some v) → (loadVar t a).run P w' = .ok v w') ∧ K v := by
      intro hd h
      obtain ⟨hb, h⟩ := cond_out h
      obtain ⟨vs, h1, h2⟩ := loadN_out (P := P) _ _ _ _ h
      have hl : (kinds P t).length = P.cellsOf t := Nat.eq_of_beq_eq_true hb
      refine ⟨_, fun w' hw => ?_, h2⟩
      have hs := cellsOf_info hu w'
      have hag : (isAgg t).run P w' = .ok true w' := by
        unfold isAggT at hd; rw [hu] at hd
        simp only [isAgg, Sem.run_bind, run_underlying' hu, Result.andThen_ok]
        cases d <;> first | (simp at hd; done) | simp
      simp only [loadVar, Sem.run_bind, hag, Result.andThen_ok, if_true, hs, loadCells, ← hl]
      have h1 := h1 w' hw
      simp only [List.reverse_nil] at h1
      rw [h1]
      simp
    have one : isAggT P t = false → (∃ v, w.cell? a = some v ∧ K v) → ∃ v, (∀ w' : World, (∀ p v, p.block = a.block → w.cell? p = some v → w'.cell? p = some v) → (loadVar t a).run P w' = .ok v w') ∧ K v := by
      rintro hd ⟨v, hv, hk⟩
      refine ⟨v, fun w' hw => ?_, hk⟩
      have hag : (isAgg t).run P w' = .ok false w' := by
        unfold isAggT at hd; rw [hu] at hd
        simp only [isAgg, Sem.run_bind, run_underlying' hu, Result.andThen_ok]
        cases d <;> first | (simp at hd; done) | simp
      simp [loadVar, hag, hw _ _ rfl hv]
    cases d <;> first
      | exact agg (by simp [isAggT, hu]) h
      | exact one (by simp [isAggT, hu]) (Kd.ex_out h)
theorem loadC_out {P : Program} {t : TypeId} {a : Addr} {w : World} {K : Value → Prop} (h : loadC P t a w K) :
    ∃ v, (loadVar t a).run P w = .ok v w ∧ K v :=
  let ⟨v, h1, h2⟩ := loadC_all h
  ⟨v, h1 w (fun _ _ _ h => h), h2⟩

theorem storeN_out {P : Program} {a : Addr} {K : World → Prop} : ∀ (vs : List Value) (i : Nat) (w : World), storeN a vs i w K →
    ∃ w', (storeCells a vs i).run P w = .ok () w' ∧ K w'
  | [], i, w, h => ⟨w, by simp [storeCells], h⟩
  | v :: vs, i, w, h => by
    obtain ⟨hv, ⟨v0, hc⟩, hf, h⟩ := notAgg_out h
    obtain ⟨w', h1, h2⟩ := storeN_out (P := P) vs (i + 1) _ h
    refine ⟨w', ?_, h2⟩
    simp only [storeCells, Sem.run_bind]
    have : (store (a.add i) v).run P w = .ok () (w.setCell (a.add i) v) := by
      unfold store
      cases v <;> first | (simp [Value.oneCell'] at hv; done) | simp [Sem.run, hc, hf]
    rw [this]
    exact h1

theorem storeC_out {P : Program} {t : TypeId} {a : Addr} {v : Value} {w : World} {K : World → Prop} (h : storeC P t a v w K) :
    ∃ w', (storeVar t a v).run P w = .ok () w' ∧ K w' := by
  unfold storeC at h
  cases hi : P.info? t with
  | none => rw [hi] at h; exact h.elim
  | some i =>
    rw [hi] at h
    obtain ⟨hb, h⟩ := cond_out h
    obtain ⟨w', h1, h2⟩ := storeN_out (P := P) _ _ _ h
    refine ⟨w', ?_, h2 w' rfl⟩
    have hl : v.cells.size = i.size := by have := Nat.eq_of_beq_eq_true hb; simpa using this
    have hs : (sizeOf t).run P w = .ok i.size w := by simp [sizeOf, typeInfo, hi]
    simp only [storeVar, Sem.run_bind, hs, Result.andThen_ok, hl, ne_eq, not_true_eq_false, if_false]
    exact h1

theorem callC_out {P : Program} {t : TypeId} {f : FuncId} {args : Array Value} {w : World} {K : Value → World → Prop} (h : callC P t f args w K) :
    ((callFunc f args).run P w = .ok (.enter f args) w ∧ Calls P f args w (retC K)) ∨ ∃ v w1, (callFunc f args).run P w = .ok (.value v) w1 ∧ K v w1 := by
  unfold callC at h
  cases hb : entersB P f with
  | false => rw [hb, cond_false] at h; obtain ⟨v, w1, h1, h2⟩ := resEx_out h; exact .inr ⟨v, w1, h1, h2⟩
  | true =>
    rw [hb, cond_true] at h
    refine .inl ⟨?_, h.mono fun e w1 hr => by obtain ⟨v, he, hk⟩ := resEx_out hr; subst he; exact hk⟩
    unfold entersB at hb
    cases hf : P.funcs[f]? with
    | none => rw [hf] at hb; cases hb
    | some fn =>
      rw [hf] at hb
      simp only [Bool.and_eq_true, Bool.not_eq_true'] at hb
      obtain ⟨hn, hs⟩ := hb
      have hn2 : fn.body.isNone = false := by cases hbd : fn.body <;> simp_all
      simp only [callFunc, Sem.run_bind, run_program, Result.andThen_ok, hf, hn, hn2, Bool.false_eq_true, if_false, Sem.run_pure]

/-- a value, nothing, or a call that hands back: no other end -/
def wUpon (P : Program) (o : Oper) (a : Act) (K2 : Act → World → Prop) : Result Next → Prop
  | .ok (.value v) w => K2 (a.put o.dst v) w
  | .ok .skip w => K2 (a.put o.dst undef) w
  | .ok (.enter f args) w => Calls P f args w (retC fun v w' => K2 (a.put o.dst v) w')
  | _ => False
def wpC (P : Program) (o : Oper) (a : Act) (w : World) (K2 : Act → World → Prop) : Prop := wUpon P o a K2 ((execOp a.eval o).run P w)
theorem wpC.wp {P : Program} {o : Oper} {a : Act} {w : World} {K2 : Act → World → Prop} {Q : Exit → Act → World → Prop} (h : wpC P o a w K2) : o.wp P a w K2 Q := by
  unfold wpC at h
  unfold Oper.wp
  generalize (execOp a.eval o).run P w = r at *
  cases r with
  | halt x w' => cases x <;> exact h.elim
  | ok x w' =>
    cases x <;> simp only [wUpon] at h <;> try exact h.elim
    · exact h
    · exact h
    · rw [Oper.upon_enter]
      refine h.mono fun e w' hr => ?_
      cases e with
      | returned v => exact hr
      | panicked c => exact hr.elim
      | outgrown => exact hr.elim
theorem wpC.mono {P : Program} {o : Oper} {a : Act} {w : World} {K2 K3 : Act → World → Prop} (hK : ∀ a w, K2 a w → K3 a w) (h : wpC P o a w K2) : wpC P o a w K3 := by
  unfold wpC at *
  generalize (execOp a.eval o).run P w = r at *
  cases r with
  | halt x w' => cases x <;> exact h.elim
  | ok x w' =>
    cases x <;> simp only [wUpon] at h ⊢ <;> try exact h.elim
    · exact hK _ _ h
    · exact hK _ _ h
    · refine h.mono fun e w' hr => ?_
      cases e with
      | returned v => exact hK _ _ hr
      | panicked c => exact hr.elim
      | outgrown => exact hr.elim
theorem upon_call {P : Program} {o : Oper} {a : Act} {K2 : Act → World → Prop} {f : FuncId} {args : Array Value} {w : World} {K : Value → World → Prop}
    (hK : ∀ v w', K v w' → K2 (a.put o.dst v) w') (h : Calls P f args w (retC K)) : wUpon P o a K2 (.ok (.enter f args) w) := by
  show Calls P f args w (retC fun v w' => K2 (a.put o.dst v) w')
  refine h.mono fun e w' hr => ?_
  cases e with
  | returned v => exact hK _ _ hr
  | panicked c => exact hr.elim
  | outgrown => exact hr.elim

theorem run_v {P : Program} {s : Sem Value} {w w' : World} {v : Value} (h : s.run P w = .ok v w') :
    (do pure (.value (← s)) : Sem Next).run P w = .ok (.value v) w' := by simp [h]
theorem run_u {P : Program} {s : Sem Unit} {w w' : World} (h : s.run P w = .ok () w') :
    (do s; pure .skip : Sem Next).run P w = .ok .skip w' := by simp [h]

theorem run_addStr {P : Program} (w : World) (xT : TypeId) (x y : Operand) {a b : ByteArray} (hb : a.size + b.size ≤ 9223372036854775807) :
    (do eqGuard .add xT x y (.string a) (.string b); binOp .add xT (.string a) (.string b) : Sem Value).run P w = .ok (.string (a ++ b)) w := by
  have : ¬ ((a.size + b.size : Nat) : Int) > IntKind.i64.max := by
    have : IntKind.i64.max = 9223372036854775807 := by decide
    omega
  simp only [Sem.run_bind]
  have h1 : (eqGuard .add xT x y (.string a) (.string b)).run P w = .ok () w := by simp [eqGuard]
  rw [h1]
  simp only [Result.andThen_ok, binOp, Op.stringOp, if_neg this, Sem.run_pure]
theorem equalIn_ptr {P : Program} {t : TypeId} {e : TypeId} (h : P.underlying t = some (.pointer e)) (w : World) (d : Nat) (p : Option Addr) : (Op.equalIn (d + 1) t (.pointer p) (.pointer none)).run P w = .ok p.isNone w := by
  cases p <;> simp [Op.equalIn, run_underlying' h]
theorem equal_ptr {P : Program} {t : TypeId} {e : TypeId} (h : P.underlying t = some (.pointer e)) (w : World) (p : Option Addr) : (Op.equal t (.pointer p) (.pointer none)).run P w = .ok p.isNone w := equalIn_ptr h w 9999 p
theorem equalIn_slice {P : Program} {t : TypeId} {e : TypeId} (h : P.underlying t = some (.slice e)) (w : World) (d : Nat) (p : Option Addr) (n c n' c' : Nat) : (Op.equalIn (d + 1) t (.slice p n c) (.slice none n' c')).run P w = .ok p.isNone w := by
  cases p <;> simp [Op.equalIn, run_underlying' h]
theorem equal_slice {P : Program} {t : TypeId} {e : TypeId} (h : P.underlying t = some (.slice e)) (w : World) (p : Option Addr) (n c n' c' : Nat) : (Op.equal t (.slice p n c) (.slice none n' c')).run P w = .ok p.isNone w := equalIn_slice h w 9999 p n c n' c'
theorem equalIn_map {P : Program} {t : TypeId} {e f : TypeId} (h : P.underlying t = some (.map e f)) (w : World) (d : Nat) (p : Option Nat) : (Op.equalIn (d + 1) t (.map p) (.map none)).run P w = .ok p.isNone w := by
  cases p <;> simp [Op.equalIn, run_underlying' h]
theorem equal_map {P : Program} {t : TypeId} {e f : TypeId} (h : P.underlying t = some (.map e f)) (w : World) (p : Option Nat) : (Op.equal t (.map p) (.map none)).run P w = .ok p.isNone w := equalIn_map h w 9999 p
theorem run_eqlPtr {P : Program} {t e : TypeId} (h : P.underlying t = some (.pointer e)) (w : World) (x y : Operand) (p : Option Addr) :
    (do eqGuard .eql t x y (.pointer p) (.pointer none); binOp .eql t (.pointer p) (.pointer none) : Sem Value).run P w = .ok (.bool p.isNone) w := by
  simp [eqGuard, binOp, equal_ptr h]
theorem run_neqPtr {P : Program} {t e : TypeId} (h : P.underlying t = some (.pointer e)) (w : World) (x y : Operand) (p : Option Addr) :
    (do eqGuard .neq t x y (.pointer p) (.pointer none); binOp .neq t (.pointer p) (.pointer none) : Sem Value).run P w = .ok (.bool !p.isNone) w := by
  simp [eqGuard, binOp, equal_ptr h]
theorem run_eqlSlice {P : Program} {t e : TypeId} (h : P.underlying t = some (.slice e)) (w : World) (x y : Operand) (p : Option Addr) (n c n' c' : Nat) :
    (do eqGuard .eql t x y (.slice p n c) (.slice none n' c'); binOp .eql t (.slice p n c) (.slice none n' c') : Sem Value).run P w = .ok (.bool p.isNone) w := by
  simp [eqGuard, binOp, equal_slice h]
theorem run_neqSlice {P : Program} {t e : TypeId} (h : P.underlying t = some (.slice e)) (w : World) (x y : Operand) (p : Option Addr) (n c n' c' : Nat) :
    (do eqGuard .neq t x y (.slice p n c) (.slice none n' c'); binOp .neq t (.slice p n c) (.slice none n' c') : Sem Value).run P w = .ok (.bool !p.isNone) w := by
  simp [eqGuard, binOp, equal_slice h]
theorem run_eqlMap {P : Program} {t e f : TypeId} (h : P.underlying t = some (.map e f)) (w : World) (x y : Operand) (p : Option Nat) :
    (do eqGuard .eql t x y (.map p) (.map none); binOp .eql t (.map p) (.map none) : Sem Value).run P w = .ok (.bool p.isNone) w := by
  simp [eqGuard, binOp, equal_map h]
theorem run_neqMap {P : Program} {t e f : TypeId} (h : P.underlying t = some (.map e f)) (w : World) (x y : Operand) (p : Option Nat) :
    (do eqGuard .neq t x y (.map p) (.map none); binOp .neq t (.map p) (.map none) : Sem Value).run P w = .ok (.bool !p.isNone) w := by
  simp [eqGuard, binOp, equal_map h]
theorem isSliceC_out {P : Program} {t : TypeId} {p : Prop} (h : isSliceC P t p) : (∃ e, P.underlying t = some (.slice e)) ∧ p := by
  unfold isSliceC at h
  split at h
  · exact ⟨⟨_, ‹_›⟩, h⟩
  · exact h.elim
theorem isMapC_out {P : Program} {t : TypeId} {p : Prop} (h : isMapC P t p) : (∃ e f, P.underlying t = some (.map e f)) ∧ p := by
  unfold isMapC at h
  split at h
  · exact ⟨⟨_, _, ‹_›⟩, h⟩
  · exact h.elim
theorem isPtrC_out {P : Program} {t : TypeId} {p : Prop} (h : isPtrC P t p) : (∃ e, P.underlying t = some (.pointer e)) ∧ p := by
  unfold isPtrC at h
  split at h
  · exact ⟨⟨_, ‹_›⟩, h⟩
  · exact h.elim
theorem binC_out {P : Program} {op : BinOp} {xT : TypeId} {x y : Operand} {vx vy : Value} {w : World} {K : Value → World → Prop} (h : binC P op xT x y vx vy w K) :
    ∃ v w', (do eqGuard op xT x y vx vy; binOp op xT vx vy : Sem Value).run P w = .ok v w' ∧ K v w' := by
  unfold binC at h
  split at h
  · rename_i k a k' b
    obtain ⟨hk, hb, hh⟩ := cond_out h
    have : k = k' := by simpa using hk
    subst this
    exact ⟨_, _, by simp [eqGuard, binOp, Op.intDiv, hb], hh⟩
  · rename_i k a k' b
    obtain ⟨hk, hb, hh⟩ := cond_out h
    have : k = k' := by simpa using hk
    subst this
    exact ⟨_, _, by simp [eqGuard, binOp, Op.intDiv, hb], hh⟩
  · rename_i k a k' b
    obtain ⟨hb, h⟩ := h
    have : ¬ b < 0 := by omega
    exact ⟨_, _, by simp [eqGuard, binOp, Op.shift, this], h⟩
  · rename_i k a k' b
    obtain ⟨hb, h⟩ := h
    have : ¬ b < 0 := by omega
    exact ⟨_, _, by simp [eqGuard, binOp, Op.shift, this], h⟩
  · rename_i a b
    obtain ⟨hb, h⟩ := h
    exact ⟨_, w, run_addStr w xT x y hb, h⟩
  · rename_i p; obtain ⟨⟨e, he⟩, h⟩ := isPtrC_out h; exact ⟨_, w, run_eqlPtr he w x y p, h⟩
  · rename_i p; obtain ⟨⟨e, he⟩, h⟩ := isPtrC_out h; exact ⟨_, w, run_neqPtr he w x y p, h⟩
  · rename_i p n c n' c'; obtain ⟨⟨e, he⟩, h⟩ := isSliceC_out h; exact ⟨_, w, run_eqlSlice he w x y p n c n' c', h⟩
  · rename_i p n c n' c'; obtain ⟨⟨e, he⟩, h⟩ := isSliceC_out h; exact ⟨_, w, run_neqSlice he w x y p n c n' c', h⟩
  · rename_i p; obtain ⟨⟨e, f, he⟩, h⟩ := isMapC_out h; exact ⟨_, w, run_eqlMap he w x y p, h⟩
  · rename_i p; obtain ⟨⟨e, f, he⟩, h⟩ := isMapC_out h; exact ⟨_, w, run_neqMap he w x y p, h⟩
  · exact andThen_of_opV h
  · exact andThen_of_opV h
  · exact andThen_of_opV h
  · obtain ⟨r, w1, h1, h2⟩ := h; exact ⟨_, w1, h1, h2⟩

theorem lenC_all {P : Program} {ats : Array TypeId} {t : TypeId} {args : Array Value} {w : World} {K : Value → World → Prop}
    (h : lenC P ats args w K) : ∃ v, (∀ w' : World, Ext w w' → (Builtin.len_ ats t args).run P w' = .ok v w') ∧ K v w := by
  obtain ⟨l⟩ := args
  obtain ⟨ts⟩ := ats
  unfold lenC at h
  split at h
  case h_2 => exact h.elim
  rename_i T e
  simp only at e; subst e
  split at h
  · rename_i s hd e
    simp only at e; subst e
    exact ⟨_, fun w' hw => by simp [Builtin.len_, run_underlying' hd]; rfl, h⟩
  · rename_i A n c hd e
    simp only at e; subst e
    exact ⟨_, fun w' hw => by simp [Builtin.len_, run_underlying' hd]; rfl, h⟩
  · rename_i r hd e
    simp only at e; subst e
    obtain ⟨n, hn, h⟩ := h
    refine ⟨_, fun w' hw => ?_, h⟩
    cases r with
    | none => injection hn with hn; subst hn; simp [Builtin.len_, run_underlying' hd]; rfl
    | some r =>
      unfold mapLen at hn
      simp only at hn
      split at hn
      · rename_i es clk hr
        injection hn with hn
        subst hn
        have hr := hw.obj hr
        simp [Builtin.len_, run_underlying' hd, getObj, Sem.run, hr]; rfl
      · cases hn
  · rename_i n x hd e
    simp only at e; subst e
    exact ⟨_, fun w' hw => by simp [Builtin.len_, run_underlying' hd]; rfl, h⟩
  · exact h.elim

theorem lenC_out {P : Program} {ats : Array TypeId} {t : TypeId} {args : Array Value} {w : World} {K : Value → World → Prop}
    (h : lenC P ats args w K) : ∃ v w', (Builtin.len_ ats t args).run P w = .ok v w' ∧ K v w' :=
  let ⟨v, h1, h2⟩ := lenC_all (t := t) h
  ⟨v, w, h1 w (Ext.refl w), h2⟩

theorem run_index {P : Program} {w : World} {t : TypeId} (hd : P.underlying t = some .string) {s : ByteArray} {k : IntKind} {j : Int} (h0 : 0 ≤ j) (h1 : j < s.size) :
    (Instr.index t (.string s) (.int k j)).run P w = .ok (.int .u8 (byteAt s j)) w := by
  have hl : j.toNat < s.size := by omega
  simp [Instr.index, asIntOf, underlying, hd, h0, hl, byteAt]
theorem run_indexAddr1 {P : Program} {w : World} {t el : TypeId} {i : TypeInfo} (hi : P.info? el = some i) {m c : Nat} (hd : P.underlying t = some (.slice el)) {ad : Addr} {k : IntKind} {j : Int} (h0 : 0 ≤ j) (h1 : j < m) :
    (Instr.indexAt t (.slice (some ad) m c) (.int k j)).run P w = .ok (.pointer (some (ad.add (j.toNat * i.size)))) w := by
  simp [Instr.indexAt, asIntOf, underlying, hd, h0, h1, Go.sizeOf, typeInfo, hi]
theorem run_indexAddr2 {P : Program} {w : World} {t el : TypeId} {i : TypeInfo} (hi : P.info? el = some i) {m : Nat} (hd : P.underlying t = some (.array m el)) {ad : Addr} {k : IntKind} {j : Int} (h0 : 0 ≤ j) (h1 : j < m) :
    (Instr.indexAt t (.pointer (some ad)) (.int k j)).run P w = .ok (.pointer (some (ad.add (j.toNat * i.size)))) w := by
  simp [Instr.indexAt, asIntOf, underlying, hd, h0, h1, Go.sizeOf, typeInfo, hi, Instr.sureAddr]

theorem sizeC_out {P : Program} {t : TypeId} {k : Nat → Prop} (h : sizeC P t k) : ∃ i, P.info? t = some i ∧ k i.size := by
  unfold sizeC at h
  cases hi : P.info? t with
  | none => rw [hi] at h; exact h.elim
  | some i => rw [hi] at h; exact ⟨i, rfl, h⟩
theorem run_makeSlice {P : Program} {t el : TypeId} {i : TypeInfo} {z : Value} {l c : Int} {w : World} (hd : P.underlying t = some (.slice el)) (hi : P.info? el = some i) (hz : i.zero = some z)
    (h0 : 0 ≤ l) (h1 : l ≤ c) (h2 : c < 9223372036854775808) (h3 : i.bytes * c ≤ 281474976710656) :
    (Instr.makeSlice t (.int .i64 l) (.int .i64 c)).run P w = .ok (.slice (some ⟨w.heap.size, 0, none⟩) l.toNat c.toNat) (w.alloc (.cells (zeroRow z.cells (c.toNat * i.size)) el)) := by
  have wr : ∀ n : Int, 0 ≤ n → n < 9223372036854775808 → IntKind.i64.wrap n = n := by
    intro n ha hb
    simp only [IntKind.wrap, IntKind.bits, IntKind.signed, Bool.true_and]
    have : n % (2 ^ 64 : Int) = n := Int.emod_eq_of_lt ha (by omega)
    simp [this]; omega
  have wl := wr l h0 (by omega)
  have wc := wr c (by omega) h2
  have c1 : ¬ c < 0 := by omega
  have c2 : ¬ (i.bytes * c > 281474976710656) := by omega
  have c3 : ¬ l < 0 := by omega
  have c4 : ¬ l > c := by omega
  have c5 : ¬ (281474976710656 < (i.bytes : Int) * c) := by omega
  have c6 : ¬ (c < l) := by omega
  simp only [Instr.makeSlice, Sem.run_bind, run_underlying' hd, Result.andThen_ok, asInt, asIntOf, Sem.run_pure, typeInfo, run_program, hi, wl, wc]
  simp only [gt_iff_lt, show (2 : Int) ^ 48 = 281474976710656 from rfl, c1, c3, c5, c6, decide_false, Bool.or_false, Bool.false_eq_true, if_false, Go.sizeOf, typeInfo, Sem.run_bind, run_program, Result.andThen_ok, hi, Sem.run_pure, run_askRoom]
  by_cases hn : c.toNat * i.size = 0
  · simp [hn, newRow, zeroRow]
    have e : ∀ f g : Nat → Value, Array.map f (Array.range 0) = Array.map g (Array.range 0) := fun f g => by simp [Array.range]
    rw [e]
  · simp [hn, newRow, zeroRow, zeroValue, typeInfo, hi, hz]

/-- a bound, as the operation takes it -/
structure IsBnd (P : Program) (b : Option Value) (d u n : Nat) : Prop where
  no : b = none → n = d
  le : ∀ v, b = some v → n ≤ u
  run : ∀ v, b = some v → ∀ (code : BoundsCode) (w : World), (Instr.sliceBound v u code).run P w = .ok n w
theorem run_buildSlice {P : Program} {t e : TypeId} {n : Nat} {ps : Array (Nat × Value)} {cs : Array Value} {w : World} (h : bsCells P t n ps = some (e, cs)) :
    (Instr.buildSlice t n ps).run P w = .ok (.slice (some ⟨w.heap.size, 0, none⟩) n n) (w.alloc (.cells cs e)) := by
  unfold bsCells at h
  split at h
  · rename_i el hd
    split at h
    · rename_i i hi
      split at h
      · rename_i z hz
        cases hb : Nat.ble (n * i.size) 16777216 with
        | false => rw [hb] at h; cases h
        | true =>
          rw [hb, cond_true] at h
          have hle := Nat.le_of_ble_eq_true hb
          have hgt : ¬ n * i.size > 2 ^ 24 := by omega
          cases hf : Instr.fill (fun j => some (j * i.size, i.size)) ((Array.range (n * i.size)).map (z.cells[· % z.cells.size]!)) ps.toList with
          | none => rw [hf] at h; cases h
          | some c =>
            rw [hf] at h
            simp only [Option.map_some, Option.some.injEq, Prod.mk.injEq] at h
            obtain ⟨rfl, rfl⟩ := h
            simp only [Instr.buildSlice, Sem.run_bind, run_underlying' hd, Result.andThen_ok, Go.sizeOf, typeInfo, run_program, hi, Sem.run_pure, if_neg hgt]
            by_cases hn : n * i.size = 0
            · have e0 : ∀ f g : Nat → Value, Array.map f (Array.range 0) = Array.map g (Array.range 0) := fun f g => by simp [Array.range]
              rw [hn] at hf ⊢
              simp only [if_true, Sem.run_bind, Sem.run_pure, Result.andThen_ok]
              rw [e0 _ (z.cells[· % z.cells.size]!), hf]
              simp [newRow]
            · simp only [if_neg hn, zeroValue, typeInfo, Sem.run_bind, run_program, Result.andThen_ok, hi, Sem.run_pure, hz, hf]
              simp [newRow]
      · cases h
    · cases h
  · cases h
theorem bndC_out {P : Program} {b : Option Value} {d u : Nat} {k : Nat → Prop} (h : bndC b d u k) : ∃ n, k n ∧ IsBnd P b d u n := by
  unfold bndC at h
  split at h
  · exact ⟨d, h, ⟨fun _ => rfl, fun v h => (by cases h), fun v h => (by cases h)⟩⟩
  · rename_i k' i
    obtain ⟨h0, h1, h⟩ := h
    refine ⟨i.toNat, h, ⟨fun h => (by cases h), fun v _ => (by omega), fun v hv code w => ?_⟩⟩
    injection hv with hv
    subst hv
    simp [Instr.sliceBound, asIntOf, h0, h1]
  · exact h.elim
theorem run_bounds {P : Program} {isS : Bool} {n c : Nat} {lo hi : Option Value} {h l : Nat} (w : World) (eh : IsBnd P hi n c h) (el : IsBnd P lo 0 h l) :
    (Instr.sliceBounds isS n c lo hi none).run P w = .ok (l, h, c) w := by
  have H : ∀ v, hi = some v → ∀ code w, (Instr.sliceBound v c code).run P w = .ok h w := eh.run
  have L : ∀ v, lo = some v → ∀ code w, (Instr.sliceBound v h code).run P w = .ok l w := el.run
  cases hi with
  | none =>
    obtain rfl := eh.no rfl
    cases lo with
    | none => obtain rfl := el.no rfl; simp [Instr.sliceBounds]
    | some v => simp [Instr.sliceBounds, L v rfl]
  | some u =>
    cases lo with
    | none => obtain rfl := el.no rfl; simp [Instr.sliceBounds, H u rfl]
    | some v => simp [Instr.sliceBounds, H u rfl, L v rfl]
theorem run_bounds3 {P : Program} {isS : Bool} {n c d d' : Nat} {lo : Option Value} {hi mx : Value} {m h l : Nat} (w : World)
    (em : IsBnd P (some mx) d c m) (eh : IsBnd P (some hi) d' m h) (el : IsBnd P lo 0 h l) :
    (Instr.sliceBounds isS n c lo (some hi) (some mx)).run P w = .ok (l, h, m) w := by
  have M := em.run mx rfl
  have H := eh.run hi rfl
  have L : ∀ v, lo = some v → ∀ code w, (Instr.sliceBound v h code).run P w = .ok l w := el.run
  cases lo with
  | none => obtain rfl := el.no rfl; simp [Instr.sliceBounds, M, H]
  | some v => simp [Instr.sliceBounds, M, H, L v rfl]
theorem sliceP_out {P : Program} {t : TypeId} {x : Value} {lo hi mx : Option Value} {K : Value → Prop} (h : sliceP P t x lo hi mx K) :
    ∃ v, (∀ w, (Instr.sliceAt t x lo hi mx).run P w = .ok v w) ∧ K v := by
  unfold sliceP at h
  split at h
  · rename_i s hd
    split at h
    · obtain ⟨hh, h, eh⟩ := bndC_out (P := P) h
      obtain ⟨l, h, el⟩ := bndC_out (P := P) h
      refine ⟨_, fun w => ?_, h⟩
      have hb := run_bounds (isS := false) w eh el
      simp [Instr.sliceAt, Instr.slice, run_underlying' hd, hb]
    · exact h.elim
  · rename_i el A n c hd
    split at h
    · obtain ⟨hh, h, eh⟩ := bndC_out (P := P) h
      obtain ⟨l, h, el⟩ := bndC_out (P := P) h
      obtain ⟨i, hi, h⟩ := sizeC_out h
      refine ⟨_, fun w => ?_, h⟩
      have hb := run_bounds (isS := true) w eh el
      simp [Instr.sliceAt, Instr.slice, run_underlying' hd, hb, Go.sizeOf, typeInfo, hi, cutA]
    · split at h
      · exact h.elim
      · obtain ⟨m, h, em⟩ := bndC_out (P := P) h
        obtain ⟨hh, h, eh⟩ := bndC_out (P := P) h
        obtain ⟨l, h, el⟩ := bndC_out (P := P) h
        obtain ⟨i, hi, h⟩ := sizeC_out h
        refine ⟨_, fun w => ?_, h⟩
        have hb := run_bounds3 (isS := true) (n := n) w em eh el
        simp [Instr.sliceAt, Instr.slice, run_underlying' hd, hb, Go.sizeOf, typeInfo, hi, cutA]
  · rename_i n e A hd
    obtain ⟨a, rfl, h⟩ := ptrC_out h
    split at h
    · obtain ⟨hh, h, eh⟩ := bndC_out (P := P) h
      obtain ⟨l, h, el⟩ := bndC_out (P := P) h
      obtain ⟨i, hi, h⟩ := sizeC_out h
      refine ⟨_, fun w => ?_, h⟩
      have hb := run_bounds (isS := false) w eh el
      simp only [Instr.sliceAt, Instr.sureAddr, Sem.run_bind, run_underlying' hd, hb, Go.sizeOf, typeInfo, run_program, hi, Sem.run_pure, Result.andThen_ok, cutA]
      split <;> rfl
    · exact h.elim
  · exact h.elim

theorem vcOp_sound {P : Program} {ty : Tys} {n : Nat} {o : Oper} {e : Env} {a : Act} {w : World} {K : Value → World → Prop} {K2 : Act → World → Prop}
    (hf : Fits n e a) (hk : ∀ x ∈ o.op.operands, e.knows x = true) (hK : ∀ v w', K v w' → K2 (a.put o.dst v) w') (h : vcOp P ty o e w K) : wpC P o a w K2 := by
  have hs : ∀ cs b, o.op ≠ .select cs b := by
    intro cs b he
    unfold vcOp at h
    rw [he] at h
    exact h
  unfold wpC
  rw [execOp_congr (ρ' := e.ev) o hs (fun x hx => hf.eval x (hk x hx))]
  have V : ∀ {s : Sem Value}, (∃ v w', s.run P w = .ok v w' ∧ K v w') → wUpon P o a K2 ((do pure (.value (← s)) : Sem Next).run P w) := by
    rintro s ⟨v, w', h1, h2⟩
    rw [run_v h1]
    exact hK _ _ h2
  have U : ∀ {s : Sem Unit}, (∃ w', s.run P w = .ok () w' ∧ K undef w') → wUpon P o a K2 ((do s; pure .skip : Sem Next).run P w) := by
    rintro s ⟨w', h1, h2⟩
    rw [run_u h1]
    exact hK _ _ h2
  unfold execOp
  unfold vcOp at h
  cases hop : o.op <;> simp only [hop] at h ⊢
  case move x => rw [Sem.run_pure]; exact hK _ _ h
  case assign x => rw [Sem.run_pure]; exact hK _ _ h
  case load t x =>
    cases hx : e.ev x <;> simp only [hx] at h <;> try exact h.elim
    obtain ⟨ad, rfl, hh⟩ := ptrC_out h
    obtain ⟨v, h1, h2⟩ := loadC_out hh
    refine V ⟨v, w, ?_, h2⟩
    simp [Instr.loadAt, Instr.sureAddr, h1]
  case store t x y =>
    cases hx : e.ev x <;> simp only [hx] at h <;> try exact h.elim
    obtain ⟨ad, rfl, hh⟩ := ptrC_out h
    obtain ⟨w', h1, h2⟩ := storeC_out hh
    refine U ⟨w', ?_, h2⟩
    simp [Instr.storeAt, Instr.sureAddr, h1]
  case nilCheck x =>
    cases hx : e.ev x <;> simp only [hx, nilC] at h <;> try exact h.elim
    · obtain ⟨ad, rfl, hh⟩ := ptrC_out h
      rw [Sem.run_pure]; exact hK _ _ hh
    · rename_i fn f1 c1
      cases fn <;> simp only at h <;> try exact h.elim
      rw [Sem.run_pure]; exact hK _ _ h
  case binOp op xT x y yT => exact V (binC_out h)
  case fieldAddr t x f =>
    cases hx : e.ev x <;> simp only [hx, fieldAddrC] at h <;> try exact h.elim
    obtain ⟨ad, rfl, hh⟩ := ptrC_out h
    exact V (andThen_of_opV hh)
  case index t x i =>
    refine V ?_
    unfold indexC at h
    split at h
    · rename_i s k j hd hx hj
      obtain ⟨h0, h1, h⟩ := h
      exact ⟨_, w, by rw [hx, hj]; exact run_index hd h0 h1, h⟩
    · exact of_opT h
  case indexAddr t x i =>
    refine V ?_
    unfold indexAddrC at h
    split at h
    · rename_i el A m c k j hd hx hj
      obtain ⟨ad, rfl, h0, h1, hh⟩ := ptrC_out h
      obtain ⟨i, hi, hh⟩ := sizeC_out hh
      exact ⟨_, w, by rw [hx, hj]; exact run_indexAddr1 hi hd h0 h1, hh⟩
    · rename_i m el A k j hd hx hj
      obtain ⟨ad, rfl, h0, h1, hh⟩ := ptrC_out h
      obtain ⟨i, hi, hh⟩ := sizeC_out hh
      exact ⟨_, w, by rw [hx, hj]; exact run_indexAddr2 hi hd h0 h1, hh⟩
    · exact andThen_of_opV h
  case mapUpdate => exact U h
  case insert => exact U h
  case entryStore => exact U h
  case alloc t =>
    unfold allocC at h
    split at h
    · rename_i z hz
      refine V ⟨_, _, ?_, h _ _ rfl rfl⟩
      cases hi : P.info? t with
      | none => rw [hi] at hz; cases hz
      | some i =>
        rw [hi] at hz
        have hz' : i.zero = some z := hz
        simp [Instr.alloc, zeroValue, typeInfo, hi, hz', newVar, newRow]
    · exact h.elim
  case box t x =>
    refine V ⟨_, _, ?_, h _ _ rfl rfl⟩
    simp [Instr.box, newVar, newRow]
  case buildSlice t n ps =>
    unfold buildSliceC at h
    split at h
    · rename_i e1 cs hb
      exact V ⟨_, _, run_buildSlice hb, h _ _ rfl rfl⟩
    · exact h.elim
  case convert => exact V (of_convC h)
  case makeMap t r =>
    cases r with
    | none =>
      refine V ⟨_, _, ?_, h _ _ rfl rfl⟩
      simp [Instr.makeMap]
    | some x => exact V (of_opT h)
  case makeSlice t l c =>
    refine V ?_
    unfold makeSliceC at h
    split at h
    · rename_i el l' c' hd hl hc
      split at h
      · rename_i i hi
        split at h
        · rename_i z hz
          obtain ⟨h0, h1, h2, h3, h⟩ := h
          refine ⟨_, _, ?_, h _ _ rfl rfl⟩
          rw [hl, hc]
          exact run_makeSlice hd hi hz h0 h1 h2 h3
        · exact h.elim
      · exact h.elim
    · exact h.elim
  case slice t x lo hi mx => exact V (let ⟨v, h1, h2⟩ := sliceP_out h; ⟨v, w, h1 w, h2⟩)
  case next => exact V (of_nextC h)
  case entry => exact V (of_entryC h)
  case range => exact V (of_opR h)
  case call c =>
    cases hc : c.callee <;> simp only [hc] at h
    case value f =>
      have hb : ∀ s, resolve e.ev c s = Deferred.ofValue (e.ev f) (c.args.map e.ev) := fun s => by simp [resolve, hc]
      rw [hb]
      unfold valueC funcC at h
      split at h
      · rename_i g first captured hv
        rcases callC_out h with ⟨h1, h2⟩ | ⟨v, w1, h1, h2⟩
        · simp only [hv, Deferred.ofValue, Sem.run_bind, Sem.run_pure, Result.andThen_ok, invoke]
          rw [h1]
          exact upon_call hK h2
        · simp only [hv, Deferred.ofValue, Sem.run_bind, Sem.run_pure, Result.andThen_ok, invoke]
          rw [h1]
          exact hK _ _ h2
      · exact h.elim
    case builtin b =>
      have hb : ∀ s, resolve e.ev c s = pure { target := .builtin b c.argTypes s (c.args.map isConst), args := c.args.map e.ev } := fun s => by
        simp only [resolve, hc]
        have hm : ∀ f : Operand → Bool, (∀ x, f x = isConst x) → c.args.map f = c.args.map isConst := fun f hf => Array.map_congr_left fun x _ => hf x
        rw [hm _ (fun x => by cases x <;> rfl)]
      rw [hb]
      simp only [Sem.run_bind, Sem.run_pure, Result.andThen_ok, invoke]
      have B : (∃ v w', (builtin b c.argTypes o.type (c.args.map isConst) (c.args.map e.ev)).run P w = .ok (.value v) w' ∧ K v w') →
          wUpon P o a K2 ((builtin b c.argTypes o.type (c.args.map isConst) (c.args.map e.ev)).run P w) := by
        rintro ⟨v, w', h1, h2⟩
        rw [h1]
        exact hK _ _ h2
      have BT : biT P b c.argTypes o.type (c.args.map isConst) (c.args.map e.ev) w K →
          wUpon P o a K2 ((builtin b c.argTypes o.type (c.args.map isConst) (c.args.map e.ev)).run P w) := by
        intro h
        apply B
        obtain ⟨v, w1, h1, h2⟩ := resEx_out h
        exact ⟨v, w1, h1, h2⟩
      have BB : bi P b c.argTypes o.type (c.args.map isConst) (c.args.map e.ev) w K →
          wUpon P o a K2 ((builtin b c.argTypes o.type (c.args.map isConst) (c.args.map e.ev)).run P w) := by
        intro h
        apply B
        unfold bi at h
        split at h
        · exact ⟨_, _, ‹_›, h⟩
        · exact h.elim
      cases b
      case len =>
        obtain ⟨v, w', h1, h2⟩ := lenC_out (t := o.type) h
        refine B ⟨v, w', ?_, h2⟩
        simp only [builtin]
        exact run_v h1
      all_goals first | exact BB h | exact BT h
  all_goals first
    | exact h.elim
    | exact V (andThen_of_opV h)
    | exact V (of_opT h)

/-! ### Regions in the text's order -/
abbrev Kn := List (Nat × Bool)
def Kn.get : Kn → Nat → Option Bool
  | [], _ => none
  | p :: r, t => cond (Nat.beq p.1 t) (some p.2) (Kn.get r t)
def Kn.del (d : Nat) : Kn → Kn
  | [] => []
  | p :: r => cond (Nat.beq p.1 d) (Kn.del d r) (p :: Kn.del d r)
def Kn.rid (kn : Kn) : Option Nat → Kn
  | none => kn
  | some d => kn.del d
def Kn.of (kn : Kn) : Operand → Option Bool
  | .const (.bool b) => some b
  | .tmp t => kn.get t
  | _ => none
def Kn.mv (kn : Kn) (d : Option Nat) (x : Operand) : Kn :=
  match d with
  | none => kn
  | some d => match kn.of x with
    | some b => (d, b) :: kn
    | none => kn.del d
def KnOk (kn : Kn) (e : Env) : Prop := ∀ t b, kn.get t = some b → e.has t = true ∧ e.get t = .bool b

theorem Kn.get_del {d t : Nat} {b : Bool} : ∀ {kn : Kn}, (kn.del d).get t = some b → t ≠ d ∧ kn.get t = some b
  | [], h => by simp [Kn.del, Kn.get] at h
  | p :: r, h => by
    simp only [Kn.del] at h
    cases hb : Nat.beq p.1 d with
    | true =>
      rw [hb, cond_true] at h
      obtain ⟨h1, h2⟩ := Kn.get_del h
      refine ⟨h1, ?_⟩
      have : p.1 = d := Nat.eq_of_beq_eq_true hb
      simp only [Kn.get, this, beq_ne (Ne.symm h1), cond_false, h2]
    | false =>
      rw [hb, cond_false] at h
      simp only [Kn.get] at h ⊢
      cases ht : Nat.beq p.1 t with
      | true =>
        rw [ht, cond_true] at h
        have : p.1 = t := Nat.eq_of_beq_eq_true ht
        refine ⟨?_, by rw [cond_true]; exact h⟩
        rintro rfl
        rw [this, Nat.beq_refl] at hb
        cases hb
      | false =>
        rw [ht, cond_false] at h
        rw [cond_false]
        exact Kn.get_del h

theorem KnOk.rid {kn : Kn} {e : Env} (h : KnOk kn e) (d : Option Nat) (v : Value) : KnOk (kn.rid d) (e.put d v) := by
  cases d with
  | none => exact h
  | some d =>
    intro t b ht
    obtain ⟨h1, h2⟩ := Kn.get_del ht
    obtain ⟨h3, h4⟩ := h t b h2
    exact ⟨by rw [Env.has_put, h3]; simp, by rw [Env.get_put_ne _ _ (Ne.symm h1)]; exact h4⟩
theorem KnOk.of {kn : Kn} {e : Env} (h : KnOk kn e) {x : Operand} {b : Bool} (hx : kn.of x = some b) : e.ev x = .bool b := by
  unfold Kn.of at hx
  split at hx
  · injection hx with hx; subst hx; rfl
  · exact (h _ _ hx).2
  · cases hx
theorem KnOk.mv {kn : Kn} {e : Env} (h : KnOk kn e) (d : Option Nat) (x : Operand) : KnOk (kn.mv d x) (e.put d (e.ev x)) := by
  cases d with
  | none => exact h
  | some d =>
    unfold Kn.mv
    simp only
    split
    · rename_i b hb
      intro t c ht
      simp only [Kn.get] at ht
      cases hd : Nat.beq d t with
      | true =>
        rw [hd, cond_true] at ht
        have : d = t := Nat.eq_of_beq_eq_true hd
        subst this
        injection ht with ht; subst ht
        exact ⟨by rw [Env.has_put, Nat.beq_refl]; rfl, by rw [Env.get_put_same]; exact h.of hb⟩
      | false =>
        rw [hd, cond_false] at ht
        obtain ⟨h3, h4⟩ := h t c ht
        have hne : d ≠ t := Nat.ne_of_beq_eq_false hd
        exact ⟨by rw [Env.has_put, h3]; simp, by rw [Env.get_put_ne _ _ hne]; exact h4⟩
    · exact h.rid (some d) _
theorem KnOk.add {kn : Kn} {e : Env} (h : KnOk kn e) {t : Nat} {b : Bool} (h1 : e.has t = true) (h2 : e.get t = .bool b) : KnOk ((t, b) :: kn) e := by
  intro u c hu
  simp only [Kn.get] at hu
  cases hd : Nat.beq t u with
  | true =>
    rw [hd, cond_true] at hu
    have : t = u := Nat.eq_of_beq_eq_true hd
    subst this
    injection hu with hu; subst hu
    exact ⟨h1, h2⟩
  | false => rw [hd, cond_false] at hu; exact h u c hu

def stepK (P : Program) (ty : Tys) (o : Oper) (e : Env) (kn : Kn) (w : World) (K : Env → Kn → World → Prop) : Prop :=
  match o.op with
  | .move x => K (e.put o.dst (e.ev x)) (kn.mv o.dst x) w
  | .assign x => K (e.put o.dst (e.ev x)) (kn.mv o.dst x) w
  | .pick c a b => match kn.of c with
    | some true => K (e.put o.dst (e.ev a)) (kn.mv o.dst a) w
    | some false => K (e.put o.dst (e.ev b)) (kn.mv o.dst b) w
    | none => match e.ev c with
      | .bool x => (x = true → K (e.put o.dst (e.ev a)) (kn.mv o.dst a) w) ∧ (x = false → K (e.put o.dst (e.ev b)) (kn.mv o.dst b) w)
      | _ => False
  | _ => vcOp P ty o e w fun v w' => K (e.put o.dst v) (kn.rid o.dst) w'

def knowsAll (e : Env) (o : Oper) : Bool := o.op.operands.toList.all e.knows

/-- the guard, if there is one -/
def guardC (ops : Array Oper) (o : Oper) (e : Env) (kn : Kn) (run skip : Kn → Prop) : Prop :=
  match o.guard with
  | none => run kn
  | some (j, want) => match (ops[j]?).bind (·.dst) with
    | none => False
    | some s => match kn.get s with
      | some b => cond (b == want) (run kn) (skip kn)
      | none => cond (e.has s) (match e.get s with
        | .bool c => (c = want → run ((s, want) :: kn)) ∧ (c = !want → skip ((s, !want) :: kn))
        | .tuple _ => skip kn
        | _ => False) False

def vcOps (P : Program) (ty : Tys) (ops : Array Oper) (K : Env → World → Prop) : List Oper → Env → Kn → World → Prop
  | [], e, _, w => K e w
  | o :: rest, e, kn, w => guardC ops o e kn
      (fun kn => cond (knowsAll e o) (stepK P ty o e kn w fun e' kn' w' => vcOps P ty ops K rest e' kn' w') False)
      (fun kn => vcOps P ty ops K rest (e.put o.dst undef) (kn.rid o.dst) w)

theorem guard_out {n : Nat} {ops : Array Oper} {o : Oper} {e : Env} {kn : Kn} {a : Act} {run skip : Kn → Prop} (hf : Fits n e a) (hk : KnOk kn e) (h : guardC ops o e kn run skip) :
    ∃ kn', KnOk kn' e ∧ ((Region.wanted o (yielded ops a.tmps) = true ∧ run kn') ∨ (Region.wanted o (yielded ops a.tmps) = false ∧ skip kn')) := by
  have hy : ∀ {j s : Nat} {b : Bool}, (ops[j]?).bind (·.dst) = some s → e.has s = true → e.get s = .bool b → yielded ops a.tmps j = some b := by
    intro j s b hj hs hb
    have h1 := hf.get s hs
    have h2 := hf.has s hs
    have h3 : a.tmps[s]? = some (.bool b) := by
      have hlt : s < a.tmps.size := by rw [hf.size]; exact h2
      rw [hb] at h1
      simp only [Array.getD, hlt, dite_true] at h1
      rw [Array.getElem?_eq_getElem hlt]
      exact congrArg some h1
    unfold yielded
    rw [hj, Option.bind_some, h3]
  unfold guardC at h
  cases hg : o.guard with
  | none => rw [hg] at h; exact ⟨kn, hk, .inl ⟨by simp [Region.wanted, hg], h⟩⟩
  | some gw =>
    obtain ⟨j, want⟩ := gw
    rw [hg] at h
    simp only at h
    cases hd : (ops[j]?).bind (·.dst) with
    | none => rw [hd] at h; exact h.elim
    | some s =>
      rw [hd] at h
      simp only at h
      have hw : Region.wanted o (yielded ops a.tmps) = (yielded ops a.tmps j == some want) := by simp [Region.wanted, hg]
      cases hs : kn.get s with
      | some b =>
        rw [hs] at h
        simp only at h
        obtain ⟨h1, h2⟩ := hk s b hs
        rw [hw, hy hd h1 h2]
        refine ⟨kn, hk, ?_⟩
        cases hb : (b == want) with
        | true => rw [hb] at h; exact .inl ⟨by simpa using hb, h⟩
        | false => rw [hb] at h; exact .inr ⟨by simpa using hb, h⟩
      | none =>
        rw [hs] at h
        simp only at h
        obtain ⟨h1, h⟩ := cond_out h
        split at h
        · rename_i c hc
          rw [hw, hy hd h1 hc]
          by_cases hb : c = want
          · exact ⟨_, hk.add h1 (by rw [hc, hb]), .inl ⟨by simp [hb], h.1 hb⟩⟩
          · have hn : c = !want := by cases c <;> cases want <;> simp_all
            exact ⟨_, hk.add h1 (by rw [hc, hn]), .inr ⟨by simp [hb], h.2 hn⟩⟩
        · rename_i vs hc
          refine ⟨kn, hk, .inr ⟨?_, h⟩⟩
          rw [hw]
          have h3 : a.tmps[s]? = some (.tuple vs) := by
            have h4 := hf.get s h1
            have hlt : s < a.tmps.size := by rw [hf.size]; exact hf.has s h1
            rw [hc] at h4
            simp only [Array.getD, hlt, dite_true] at h4
            rw [Array.getElem?_eq_getElem hlt]
            exact congrArg some h4
          have h5 : yielded ops a.tmps j = none := by unfold yielded; rw [hd, Option.bind_some, h3]
          rw [h5]; rfl
        · exact h.elim

theorem knowsAll_out {e : Env} {o : Oper} (h : knowsAll e o = true) : ∀ x ∈ o.op.operands, e.knows x = true := by
  unfold knowsAll at h
  rw [List.all_eq_true] at h
  exact fun x hx => h x (Array.mem_toList_iff.2 hx)

theorem stepK_sound {P : Program} {ty : Tys} {n : Nat} {o : Oper} {e : Env} {kn : Kn} {a : Act} {w : World} {K : Env → Kn → World → Prop} {K2 : Act → World → Prop}
    (hf : Fits n e a) (hn : KnOk kn e) (hd : ∀ t, o.dst = some t → t < n) (hk : knowsAll e o = true)
    (hK : ∀ e' kn' a' w', Fits n e' a' → KnOk kn' e' → Keeps o.dst.toList e e' → K e' kn' w' → K2 a' w') (h : stepK P ty o e kn w K) : wpC P o a w K2 := by
  have hk' := knowsAll_out hk
  have M : ∀ x, (K2 (a.put o.dst (e.ev x)) w → wUpon P o a K2 ((execOp a.eval o).run P w)) → K (e.put o.dst (e.ev x)) (kn.mv o.dst x) w → wpC P o a w K2 := by
    intro x h1 h2
    exact h1 (hK _ _ _ _ (hf.put _ hd _) (hn.mv _ _) (Keeps.put _ _ _) h2)
  unfold stepK at h
  cases hop : o.op <;> simp only [hop] at h
  case move x =>
    have hx := hf.eval x (hk' x (by simp [hop, Op.operands]))
    exact M x (fun h => by simp only [execOp, hop, Sem.run_pure, hx]; exact h) h
  case assign x =>
    have hx := hf.eval x (hk' x (by simp [hop, Op.operands]))
    exact M x (fun h => by simp only [execOp, hop, Sem.run_pure, hx]; exact h) h
  case pick c x y =>
    have hc := hf.eval c (hk' c (by simp [hop, Op.operands]))
    have hx := hf.eval x (hk' x (by simp [hop, Op.operands]))
    have hy := hf.eval y (hk' y (by simp [hop, Op.operands]))
    have T : e.ev c = .bool true → K (e.put o.dst (e.ev x)) (kn.mv o.dst x) w → wpC P o a w K2 := fun h1 h2 =>
      M x (fun h => by simp only [execOp, hop, hc, h1, asBool, Sem.run_bind, Sem.run_pure, Result.andThen_ok, if_true, hx]; exact h) h2
    have F : e.ev c = .bool false → K (e.put o.dst (e.ev y)) (kn.mv o.dst y) w → wpC P o a w K2 := fun h1 h2 =>
      M y (fun h => by simp only [execOp, hop, hc, h1, asBool, Sem.run_bind, Sem.run_pure, Result.andThen_ok, Bool.false_eq_true, if_false, hy]; exact h) h2
    split at h
    · exact T (hn.of ‹_›) h
    · exact F (hn.of ‹_›) h
    · split at h
      · rename_i b hb
        cases b
        · exact F hb (h.2 rfl)
        · exact T hb (h.1 rfl)
      · exact h.elim
  all_goals exact vcOp_sound hf hk' (fun v w' hv => hK _ _ _ _ (hf.put _ hd _) (hn.rid _ _) (Keeps.put _ _ _) hv) h

def dsts (l : List Oper) : List Nat := l.flatMap fun o => o.dst.toList

theorem vcOps_sound {P : Program} {ty : Tys} {n : Nat} {ops : Array Oper} {K : Env → World → Prop} {Q : Exit → Act → World → Prop} :
    ∀ (l : List Oper) (e : Env) (kn : Kn) (a : Act) (w : World), Fits n e a → KnOk kn e → (∀ o ∈ l, ∀ t, o.dst = some t → t < n) → vcOps P ty ops K l e kn w →
      (∀ e' a' w', Fits n e' a' → Keeps (dsts l) e e' → K e' w' → Q .normal a' w') → wpList P ops Q l a w
  | [], e, kn, a, w, hf, _, _, h, hQ => hQ e a w hf (Keeps.refl _ _) h
  | o :: rest, e, kn, a, w, hf, hn, hd, h, hQ => by
    simp only [vcOps] at h
    obtain ⟨kn', hk', h⟩ := guard_out hf hn h
    have hdo := hd o (by simp)
    have hdr : ∀ o ∈ rest, ∀ t, o.dst = some t → t < n := fun x hx => hd x (by simp [hx])
    unfold wpList
    have tr : ∀ {e1 e2 : Env}, Keeps o.dst.toList e e1 → Keeps (dsts rest) e1 e2 → Keeps (dsts (o :: rest)) e e2 := fun h1 h2 => by
      simpa [dsts] using h1.trans h2
    rcases h with ⟨hw, h⟩ | ⟨hw, h⟩
    · obtain ⟨hkn, h⟩ := cond_out h
      rw [if_pos hw]
      exact .inl (wpC.wp (stepK_sound hf hk' hdo hkn (fun e1 kn1 a1 w1 f1 k1 kp1 h1 =>
        vcOps_sound rest e1 kn1 a1 w1 f1 k1 hdr h1 fun e2 a2 w2 f2 kp2 h2 => hQ e2 a2 w2 f2 (tr kp1 kp2) h2) h))
    · rw [if_neg (by simp [hw])]
      exact vcOps_sound rest _ _ _ w (hf.put _ hdo _) (hk'.rid _ _) hdr h fun e2 a2 w2 f2 kp2 h2 => hQ e2 a2 w2 f2 (tr (Keeps.put _ _ _) kp2) h2

/-! ### Regions that draw their order: one walk, in an order of our choice -/
def sval (P : Program) {α : Type} : Sem α → Option α
  | .pure a => some a
  | .program k => sval P (k P)
  | .mark _ k => sval P k
  | _ => none
theorem sval_run {P : Program} {α : Type} : ∀ {s : Sem α} {a : α}, sval P s = some a → ∀ w, s.run P w = .ok a w
  | .pure b, a, h, w => by injection h with h; subst h; rfl
  | .program k, a, h, w => by simp only [sval] at h; simp only [Sem.run]; exact sval_run h w
  | .mark m k, a, h, w => by simp only [sval] at h; simp only [Sem.run]; exact sval_run h w
  | .load .., a, h, w => by simp [sval] at h
  | .store .., a, h, w => by simp [sval] at h
  | .new .., a, h, w => by simp [sval] at h
  | .shape .., a, h, w => by simp [sval] at h
  | .freeze .., a, h, w => by simp [sval] at h
  | .frozen .., a, h, w => by simp [sval] at h
  | .getObj .., a, h, w => by simp [sval] at h
  | .setObj .., a, h, w => by simp [sval] at h
  | .choose .., a, h, w => by simp [sval] at h
  | .sys .., a, h, w => by simp [sval] at h
  | .halt .., a, h, w => by simp [sval] at h

def svP (P : Program) (s : Sem Value) (K : Value → Prop) : Prop :=
  match sval P s with
  | some v => K v
  | none => False
/-- one value in every world -/
def exP (P : Program) (t : TypeId) (s : Sem Value) (K : Value → Prop) : Prop := resEx P t fun v => (∀ w, s.run P w = .ok v w) ∧ K v
/-- one value, however many draws there were -/
def exQ (P : Program) (B : Option (Nat → Prop)) (t : TypeId) (s : Sem Value) (w : World) (K : Value → Prop) : Prop := resEx P t fun v => (∀ w', ExtO B w w' → s.run P w' = .ok v w') ∧ K v
def exB (P : Program) (B : Option (Nat → Prop)) (b : Builtin) (ats : Array TypeId) (t : TypeId) (cs : Array Bool) (args : Array Value) (w : World) (K : Value → Prop) : Prop :=
  resEx P t fun v => (∀ w', ExtO B w w' → (builtin b ats t cs args).run P w' = .ok (.value v) w') ∧ K v
def svB (P : Program) (b : Builtin) (ats : Array TypeId) (t : TypeId) (cs : Array Bool) (args : Array Value) (K : Value → Prop) : Prop :=
  match sval P (builtin b ats t cs args) with
  | some (.value v) => K v
  | _ => False
/-- a call that only reads -/
def exC (P : Program) (B : Option (Nat → Prop)) (t : TypeId) (f : Value) (args : Array Value) (w : World) (K : Value → Prop) : Prop :=
  funcC f fun g first captured => cond (entersB P g) (resEx P t fun v => (∀ w1, ExtO B w w1 → Calls P g (first ++ args ++ captured) w1 fun e w' => e = .returned v ∧ Drawn w1 w') ∧ K v) False
def binP (P : Program) (op : BinOp) (xT : TypeId) (x y : Operand) (vx vy : Value) (K : Value → Prop) : Prop :=
  match op, vx, vy with
  | .quo, .int k a, .int k' b => cond (k == k') (b ≠ 0 ∧ K (.int k (k.wrap (a.tdiv b)))) False
  | .rem, .int k a, .int k' b => cond (k == k') (b ≠ 0 ∧ K (.int k (a.tmod b))) False
  | .shl, .int k a, .int _ b => 0 ≤ b ∧ K (.int k (k.wrap (a * 2 ^ (min b.toNat k.bits))))
  | .shr, .int k a, .int _ b => 0 ≤ b ∧ K (.int k (a.fdiv (2 ^ (min b.toNat k.bits))))
  | .add, .string a, .string b => a.size + b.size ≤ 9223372036854775807 ∧ K (.string (a ++ b))
  | .eql, .pointer p, .pointer none => isPtrC P xT (K (.bool p.isNone))
  | .neq, .pointer p, .pointer none => isPtrC P xT (K (.bool !p.isNone))
  | .eql, .slice p _ _, .slice none _ _ => isSliceC P xT (K (.bool p.isNone))
  | .neq, .slice p _ _, .slice none _ _ => isSliceC P xT (K (.bool !p.isNone))
  | .eql, .map p, .map none => isMapC P xT (K (.bool p.isNone))
  | .neq, .map p, .map none => isMapC P xT (K (.bool !p.isNone))
  | op, .int k a, vy => svP P (do eqGuard op xT x y (.int k a) vy; binOp op xT (.int k a) vy) K
  | op, .string a, vy => svP P (do eqGuard op xT x y (.string a) vy; binOp op xT (.string a) vy) K
  | op, .bool a, vy => svP P (do eqGuard op xT x y (.bool a) vy; binOp op xT (.bool a) vy) K
  | op, vx, vy => ∃ r : Bool, (∀ w, (do eqGuard op xT x y vx vy; binOp op xT vx vy : Sem Value).run P w = .ok (.bool r) w) ∧ K (.bool r)

def pureOp : Op → Bool
  | .move _ | .assign _ | .pick .. | .nilCheck _ | .binOp .. | .unOp .. | .fieldAddr .. | .field .. | .extract .. | .makeInterface .. | .makeFunc .. | .indexAddr .. | .index .. | .slice .. | .convert .. | .build .. => true
  | _ => false
def nilP (v : Value) (K : Value → Prop) : Prop :=
  match v with
  | .pointer A => ptrC A fun a => K (.pointer (some a))
  | .func (.func g) x y => K (.func (.func g) x y)
  | _ => False
def fieldAddrP (P : Program) (t : TypeId) (vx : Value) (f : Nat) (K : Value → Prop) : Prop :=
  match vx with
  | .pointer A => ptrC A fun a => svP P (Instr.fieldAt t (.pointer (some a)) f) K
  | _ => False
def indexAddrP (P : Program) (t : TypeId) (vx vi : Value) (K : Value → Prop) : Prop :=
  match P.underlying t, vx, vi with
  | some (.slice e), .slice A n _, .int _ i => ptrC A fun a => 0 ≤ i ∧ i < n ∧ sizeC P e fun z => K (.pointer (some (a.add (i.toNat * z))))
  | some (.array n e), .pointer A, .int _ i => ptrC A fun a => 0 ≤ i ∧ i < n ∧ sizeC P e fun z => K (.pointer (some (a.add (i.toNat * z))))
  | _, _, _ => False
def indexP (P : Program) (T t : TypeId) (vx vi : Value) (K : Value → Prop) : Prop :=
  match P.underlying t, vx, vi with
  | some .string, .string s, .int _ i => 0 ≤ i ∧ i < s.size ∧ K (.int .u8 (byteAt s i))
  | _, vx, vi => exP P T (Instr.index t vx vi) K
def convP (P : Program) (T s d : TypeId) (v : Value) (K : Value → Prop) : Prop :=
  match v with
  | .int k n => svP P (convert s d (.int k n)) K
  | v => exP P T (convert s d v) K
def lenQ (P : Program) (B : Option (Nat → Prop)) (ats : Array TypeId) (args : Array Value) (w : World) (K : Value → Prop) : Prop :=
  match ats.toList with
  | [T] => match P.underlying T, args.toList with
    | some .string, [.string s] => K (.int .i64 s.size)
    | some (.slice _), [.slice _ n _] => K (.int .i64 n)
    | some (.map _ _), [.map r] => ∃ n : Nat, (∀ w', ExtO B w w' → mapLen w' r = some n) ∧ K (.int .i64 n)
    | some (.array n _), [_] => K (.int .i64 n)
    | _, _ => False
  | _ => False
def quietOp (P : Program) (B : Option (Nat → Prop)) (o : Oper) (e : Env) (w : World) (K : Value → Prop) : Prop :=
  match o.op with
  | .nilCheck x => nilP (e.ev x) K
  | .binOp op xT x y _ => binP P op xT x y (e.ev x) (e.ev y) K
  | .build t ps => svP P (Instr.build t (ps.map fun p => (p.1, e.ev p.2))) K
  | .unOp op _ x => svP P (Op.unary op (e.ev x)) K
  | .convert s d x => convP P o.type s d (e.ev x) K
  | .makeInterface t x => svP P (Instr.makeInterface t (e.ev x)) K
  | .makeFunc fn first cap => svP P (Instr.makeFunc fn (first.map e.ev) (cap.map e.ev)) K
  | .slice t x lo hi mx => sliceP P t (e.ev x) (lo.map e.ev) (hi.map e.ev) (mx.map e.ev) K
  | .fieldAddr t x f => fieldAddrP P t (e.ev x) f K
  | .field t x f => svP P (Instr.field t (e.ev x) f) K
  | .indexAddr t x i => indexAddrP P t (e.ev x) (e.ev i) K
  | .index t x i => indexP P o.type t (e.ev x) (e.ev i) K
  | .extract t i => svP P (Instr.extract (e.ev t) i) K
  | .load t a => match e.ev a with
    | .pointer p => ptrC p fun ad => notIn B ad.block (loadC P t ad w K)
    | _ => False
  | .lookup t x i ok => exQ P B o.type (Instr.lookup t (e.ev x) (e.ev i) ok) w K
  | .typeAssert x xT a ok => exQ P B o.type (Instr.typeAssert (e.ev x) xT a ok) w K
  | .call c => match c.callee with
    | .builtin .len => lenQ P B c.argTypes (c.args.map e.ev) w K
    | .builtin .max => svB P .max c.argTypes o.type (c.args.map isConst) (c.args.map e.ev) K
    | .builtin .min => svB P .min c.argTypes o.type (c.args.map isConst) (c.args.map e.ev) K
    | .builtin .cap => svB P .cap c.argTypes o.type (c.args.map isConst) (c.args.map e.ev) K
    | .builtin b => exB P B b c.argTypes o.type (c.args.map isConst) (c.args.map e.ev) w K
    | .value f => exC P B o.type (e.ev f) (c.args.map e.ev) w K
    | .invoke _ _ => False
  | _ => False
def quietK (P : Program) (B : Option (Nat → Prop)) (o : Oper) (e : Env) (kn : Kn) (w : World) (K : Env → Kn → Prop) : Prop :=
  match o.op with
  | .move x => K (e.put o.dst (e.ev x)) (kn.mv o.dst x)
  | .assign x => K (e.put o.dst (e.ev x)) (kn.mv o.dst x)
  | .pick c a b => match kn.of c with
    | some true => K (e.put o.dst (e.ev a)) (kn.mv o.dst a)
    | some false => K (e.put o.dst (e.ev b)) (kn.mv o.dst b)
    | none => match e.ev c with
      | .bool x => (x = true → K (e.put o.dst (e.ev a)) (kn.mv o.dst a)) ∧ (x = false → K (e.put o.dst (e.ev b)) (kn.mv o.dst b))
      | _ => False
  | _ => quietOp P B o e w fun v => K (e.put o.dst v) (kn.rid o.dst)

/-- some operations ask, or promise, that no old block is changed at all -/
def selB (B : Option (Nat → Prop)) (G : List Nat) (i : Nat) : Option (Nat → Prop) := cond (memb i G) none B
/-- an order, or several where operations that write are free to part -/
inductive Tr where
  | nil
  | one (i : Nat) (t : Tr)
  | alt (i : Nat) (t r : Tr)
def Tr.seq : List Nat → Tr → Tr
  | [], t => t
  | i :: l, t => .one i (Tr.seq l t)
def Tr.dep : Tr → Nat
  | .nil => 0
  | .one _ t => t.dep + 1
  | .alt _ _ r => r.dep
/-- one operation of the walk -/
def mixStep (P : Program) (ty : Tys) (B : Option (Nat → Prop)) (ops : Array Oper) (wr al G : List Nat) (i : Nat) (K : Env → Kn → World → Prop) (e : Env) (kn : Kn) (w : World) : Prop :=
  match ops[i]? with
    | none => False
    | some o => guardC ops o e kn
      (fun kn => cond (knowsAll e o) (cond (memb i wr) (∀ w1, Drawn w w1 → stepK P ty o e kn w1 fun e' kn' w' => cond (memb i al) (ExtO (selB B G i) w1 w' ∧ K e' kn' w') (K e' kn' w'))
        (quietK P (selB B G i) o e kn w fun e' kn' => K e' kn' w)) False)
      (fun kn => K (e.put o.dst undef) (kn.rid o.dst) w)
/-- the walk in that order -/
def vcMix (P : Program) (ty : Tys) (B : Option (Nat → Prop)) (ops : Array Oper) (wr al G : List Nat) (K : Env → World → Prop) : Tr → Env → Kn → World → Prop
  | .nil, e, _, w => ∀ w1, Drawn w w1 → K e w1
  | .one i t, e, kn, w => mixStep P ty B ops wr al G i (vcMix P ty B ops wr al G K t) e kn w
  | .alt i t r, e, kn, w => mixStep P ty B ops wr al G i (vcMix P ty B ops wr al G K t) e kn w ∧ vcMix P ty B ops wr al G K r e kn w

/-! #### what a quiet step gives -/
/-- in every world (of whatever kind), or in this one and those behind draws -/
def Gives (P : Program) (B : Option (Nat → Prop)) (o : Oper) (a : Act) (w : World) (v : Value) : Prop :=
  if pureOp o.op then ∀ w', (execOp a.eval o).run P w' = .ok (.value v) w'
  else ∀ w', ExtO B w w' → o.quietAt P a (Drawn w') w' v

theorem svP_out {P : Program} {s : Sem Value} {K : Value → Prop} (h : svP P s K) : ∃ v, (∀ w, s.run P w = .ok v w) ∧ K v := by
  unfold svP at h
  cases hs : sval P s with
  | none => rw [hs] at h; exact h.elim
  | some v => rw [hs] at h; exact ⟨v, sval_run hs, h⟩

theorem binP_out {P : Program} {op : BinOp} {xT : TypeId} {x y : Operand} {vx vy : Value} {K : Value → Prop} (h : binP P op xT x y vx vy K) :
    ∃ v, (∀ w, (do eqGuard op xT x y vx vy; binOp op xT vx vy : Sem Value).run P w = .ok v w) ∧ K v := by
  unfold binP at h
  split at h
  · rename_i k a k' b
    obtain ⟨hk, hb, hh⟩ := cond_out h
    have : k = k' := by simpa using hk
    subst this
    exact ⟨_, fun w => by simp [eqGuard, binOp, Op.intDiv, hb], hh⟩
  · rename_i k a k' b
    obtain ⟨hk, hb, hh⟩ := cond_out h
    have : k = k' := by simpa using hk
    subst this
    exact ⟨_, fun w => by simp [eqGuard, binOp, Op.intDiv, hb], hh⟩
  · rename_i k a k' b
    obtain ⟨hb, h⟩ := h
    have : ¬ b < 0 := by omega
    exact ⟨_, fun w => by simp [eqGuard, binOp, Op.shift, this], h⟩
  · rename_i k a k' b
    obtain ⟨hb, h⟩ := h
    have : ¬ b < 0 := by omega
    exact ⟨_, fun w => by simp [eqGuard, binOp, Op.shift, this], h⟩
  · rename_i a b
    obtain ⟨hb, h⟩ := h
    exact ⟨_, fun w => run_addStr w xT x y hb, h⟩
  · rename_i p; obtain ⟨⟨e, he⟩, h⟩ := isPtrC_out h; exact ⟨_, fun w => run_eqlPtr he w x y p, h⟩
  · rename_i p; obtain ⟨⟨e, he⟩, h⟩ := isPtrC_out h; exact ⟨_, fun w => run_neqPtr he w x y p, h⟩
  · rename_i p n c n' c'; obtain ⟨⟨e, he⟩, h⟩ := isSliceC_out h; exact ⟨_, fun w => run_eqlSlice he w x y p n c n' c', h⟩
  · rename_i p n c n' c'; obtain ⟨⟨e, he⟩, h⟩ := isSliceC_out h; exact ⟨_, fun w => run_neqSlice he w x y p n c n' c', h⟩
  · rename_i p; obtain ⟨⟨e, f, he⟩, h⟩ := isMapC_out h; exact ⟨_, fun w => run_eqlMap he w x y p, h⟩
  · rename_i p; obtain ⟨⟨e, f, he⟩, h⟩ := isMapC_out h; exact ⟨_, fun w => run_neqMap he w x y p, h⟩
  · exact svP_out h
  · exact svP_out h
  · exact svP_out h
  · obtain ⟨r, h1, h2⟩ := h; exact ⟨_, h1, h2⟩


theorem Drawn.refl (w : World) : Drawn w w := ⟨0, rfl⟩
theorem Drawn.trans {w w1 w2 : World} (h : Drawn w w1) (h' : Drawn w1 w2) : Drawn w w2 := by
  obtain ⟨n, rfl⟩ := h; obtain ⟨m, rfl⟩ := h'; exact ⟨n + m, World.drewN_drewN ..⟩

theorem exC_gives {P : Program} {B : Option (Nat → Prop)} {t : TypeId} {f : Value} {args : Array Value} {w : World} {K : Value → Prop} (h : exC P B t f args w K) :
    ∃ (g : FuncId × Array Value) (v : Value), (∀ w1, (do let d ← Deferred.ofValue f args; invoke d.target d.args : Sem Next).run P w1 = .ok (.enter g.1 g.2) w1) ∧
      (∀ w1, ExtO B w w1 → Calls P g.1 g.2 w1 fun e w' => e = .returned v ∧ Drawn w1 w') ∧ K v := by
  unfold exC funcC at h
  split at h
  · rename_i g first captured
    obtain ⟨hb, h⟩ := cond_out h
    obtain ⟨v, h1, h2⟩ := resEx_out h
    refine ⟨(g, first ++ args ++ captured), v, fun w1 => ?_, h1, h2⟩
    simp only [Deferred.ofValue, Sem.run_bind, Sem.run_pure, Result.andThen_ok, invoke]
    unfold entersB at hb
    cases hf : P.funcs[g]? with
    | none => rw [hf] at hb; cases hb
    | some fn =>
      rw [hf] at hb
      simp only [Bool.and_eq_true, Bool.not_eq_true'] at hb
      obtain ⟨hn, hs⟩ := hb
      have hn2 : fn.body.isNone = false := by cases hbd : fn.body <;> simp_all
      simp only [callFunc, Sem.run_bind, run_program, Result.andThen_ok, hf, hn, hn2, Bool.false_eq_true, if_false, Sem.run_pure]
  · exact h.elim

theorem svB_out {P : Program} {B : Option (Nat → Prop)} {b : Builtin} {ats : Array TypeId} {t : TypeId} {cs : Array Bool} {args : Array Value} {w : World} {K : Value → Prop} (h : svB P b ats t cs args K) :
    ∃ v, (∀ w', ExtO B w w' → (builtin b ats t cs args).run P w' = .ok (.value v) w') ∧ K v := by
  unfold svB at h
  split at h
  · rename_i v hv; exact ⟨v, fun w' _ => sval_run hv _, h⟩
  · exact h.elim
theorem lenQ_out {P : Program} {B : Option (Nat → Prop)} {ats : Array TypeId} {t : TypeId} {args : Array Value} {w : World} {K : Value → Prop}
    (h : lenQ P B ats args w K) : ∃ v, (∀ w' : World, ExtO B w w' → (Builtin.len_ ats t args).run P w' = .ok v w') ∧ K v := by
  obtain ⟨l⟩ := args
  obtain ⟨ts⟩ := ats
  unfold lenQ at h
  split at h
  case h_2 => exact h.elim
  rename_i T e
  simp only at e; subst e
  split at h
  · rename_i s hd e
    simp only at e; subst e
    exact ⟨_, fun w' hw => by simp [Builtin.len_, run_underlying' hd]; rfl, h⟩
  · rename_i A n c hd e
    simp only at e; subst e
    exact ⟨_, fun w' hw => by simp [Builtin.len_, run_underlying' hd]; rfl, h⟩
  · rename_i r hd e
    simp only at e; subst e
    obtain ⟨n, hn, h⟩ := h
    refine ⟨_, fun w' hw => ?_, h⟩
    have hn := hn w' hw
    cases r with
    | none => injection hn with hn; subst hn; simp [Builtin.len_, run_underlying' hd]; rfl
    | some r =>
      unfold mapLen at hn
      simp only at hn
      split at hn
      · rename_i es clk hr
        injection hn with hn
        subst hn
        simp [Builtin.len_, run_underlying' hd, getObj, Sem.run, hr]; rfl
      · cases hn
  · rename_i n x hd e
    simp only at e; subst e
    exact ⟨_, fun w' hw => by simp [Builtin.len_, run_underlying' hd]; rfl, h⟩
  · exact h.elim
theorem quietOp_sound {P : Program} {B : Option (Nat → Prop)} {n : Nat} {o : Oper} {e : Env} {a : Act} {w : World} {K : Value → Prop}
    (hf : Fits n e a) (hk : ∀ x ∈ o.op.operands, e.knows x = true) (h : quietOp P B o e w K) : ∃ v, Gives P B o a w v ∧ K v := by
  have hs : ∀ cs b, o.op ≠ .select cs b := by
    intro cs b he
    unfold quietOp at h
    rw [he] at h
    exact h
  have hx : execOp a.eval o = execOp e.ev o := execOp_congr (ρ' := e.ev) o hs (fun x hx => hf.eval x (hk x hx))
  have PV : ∀ {s : Sem Value}, pureOp o.op = true → execOp e.ev o = (do pure (.value (← s))) → (∃ v, (∀ w, s.run P w = .ok v w) ∧ K v) → ∃ v, Gives P B o a w v ∧ K v := by
    rintro s hp he ⟨v, h1, h2⟩
    refine ⟨v, ?_, h2⟩
    unfold Gives
    rw [if_pos hp, hx, he]
    exact fun w' => run_v (h1 w')
  have RV : ∀ {s : Sem Value}, pureOp o.op = false → execOp e.ev o = (do pure (.value (← s))) → (∃ v, (∀ w', ExtO B w w' → s.run P w' = .ok v w') ∧ K v) → ∃ v, Gives P B o a w v ∧ K v := by
    rintro s hp he ⟨v, h1, h2⟩
    refine ⟨v, ?_, h2⟩
    unfold Gives
    rw [if_neg (by simp [hp])]
    intro w' hw'
    unfold Oper.quietAt
    rw [hx, he, run_v (h1 w' hw')]
    exact ⟨rfl, rfl⟩
  unfold quietOp at h
  cases hop : o.op <;> simp only [hop] at h
  case nilCheck x =>
    unfold nilP at h
    cases hv : e.ev x <;> simp only [hv] at h <;> try exact h.elim
    · obtain ⟨ad, rfl, hh⟩ := ptrC_out h
      refine ⟨_, ?_, hh⟩
      unfold Gives
      rw [if_pos (by simp [hop, pureOp]), hx]
      intro w'; simp [execOp, hop, hv]
    · rename_i fn f1 c1
      cases fn <;> simp only at h <;> try exact h.elim
      refine ⟨_, ?_, h⟩
      unfold Gives
      rw [if_pos (by simp [hop, pureOp]), hx]
      intro w'; simp [execOp, hop, hv]
  case binOp op xT x y yT => exact PV (by simp [hop, pureOp]) (by unfold execOp; simp only [hop]) (binP_out h)
  case build t ps => exact PV (by simp [hop, pureOp]) (by unfold execOp; simp only [hop]) (svP_out h)
  case unOp op t x => exact PV (by simp [hop, pureOp]) (by unfold execOp; simp only [hop]) (svP_out h)
  case makeInterface t x => exact PV (by simp [hop, pureOp]) (by unfold execOp; simp only [hop]) (svP_out h)
  case makeFunc fn f1 c1 => exact PV (by simp [hop, pureOp]) (by unfold execOp; simp only [hop]) (svP_out h)
  case field t x f => exact PV (by simp [hop, pureOp]) (by unfold execOp; simp only [hop]) (svP_out h)
  case extract t i => exact PV (by simp [hop, pureOp]) (by unfold execOp; simp only [hop]) (svP_out h)
  case slice t x lo hi mx => exact PV (by simp [hop, pureOp]) (by unfold execOp; simp only [hop]) (sliceP_out h)
  case convert s d x =>
    refine PV (s := convert s d (e.ev x)) (by simp [hop, pureOp]) (by unfold execOp; simp only [hop]) ?_
    unfold convP at h
    split at h
    · rename_i k n hv; rw [hv]; exact svP_out h
    · obtain ⟨v, h1, h2⟩ := resEx_out h; exact ⟨v, h1, h2⟩
  case fieldAddr t x f =>
    unfold fieldAddrP at h
    cases hv : e.ev x <;> simp only [hv] at h <;> try exact h.elim
    obtain ⟨ad, rfl, hh⟩ := ptrC_out h
    exact PV (by simp [hop, pureOp]) (by unfold execOp; simp only [hop, hv]) (svP_out hh)
  case indexAddr t x i =>
    refine PV (s := Instr.indexAt t (e.ev x) (e.ev i)) (by simp [hop, pureOp]) (by unfold execOp; simp only [hop]) ?_
    unfold indexAddrP at h
    split at h
    · rename_i el A m c k j hd hx hj
      obtain ⟨ad, rfl, h0, h1, hh⟩ := ptrC_out h
      obtain ⟨i, hi, hh⟩ := sizeC_out hh
      exact ⟨_, fun w => by rw [hx, hj]; exact run_indexAddr1 hi hd h0 h1, hh⟩
    · rename_i m el A k j hd hx hj
      obtain ⟨ad, rfl, h0, h1, hh⟩ := ptrC_out h
      obtain ⟨i, hi, hh⟩ := sizeC_out hh
      exact ⟨_, fun w => by rw [hx, hj]; exact run_indexAddr2 hi hd h0 h1, hh⟩
    · exact h.elim
  case index t x i =>
    refine PV (s := Instr.index t (e.ev x) (e.ev i)) (by simp [hop, pureOp]) (by unfold execOp; simp only [hop]) ?_
    unfold indexP at h
    split at h
    · rename_i s k j hd hx hj
      obtain ⟨h0, h1, h⟩ := h
      exact ⟨_, fun w => by rw [hx, hj]; exact run_index hd h0 h1, h⟩
    · obtain ⟨v, h1, h2⟩ := resEx_out h; exact ⟨v, h1, h2⟩
  case load t x =>
    cases hv : e.ev x <;> simp only [hv] at h <;> try exact h.elim
    obtain ⟨ad, rfl, hh⟩ := ptrC_out h
    obtain ⟨v, h1, h2⟩ := loadC_all hh.out
    refine RV (s := Instr.loadAt t (e.ev x)) (by simp [hop, pureOp]) (by unfold execOp; simp only [hop]) ⟨v, fun w' hw' => ?_, h2⟩
    have := h1 w' (fun p v hb hp => hw'.cell (q := loadC P t ad w K) (by rw [hb]; exact hh) hp)
    simp [hv, Instr.loadAt, Instr.sureAddr, this]
  case lookup t x i b => exact RV (by simp [hop, pureOp]) (by unfold execOp; simp only [hop]) (resEx_out h)
  case typeAssert x t u b => exact RV (by simp [hop, pureOp]) (by unfold execOp; simp only [hop]) (resEx_out h)
  case call c =>
    have hnp : ¬ pureOp o.op = true := by simp [hop, pureOp]
    cases hc : c.callee <;> simp only [hc] at h
    case value f =>
      obtain ⟨g, v, h1, h2, h3⟩ := exC_gives h
      refine ⟨v, ?_, h3⟩
      unfold Gives
      rw [if_neg hnp]
      intro w' hw'
      unfold Oper.quietAt
      have hr : (execOp e.ev o).run P w' = .ok (.enter g.1 g.2) w' := by
        unfold execOp
        simp only [hop]
        have hb : ∀ s, resolve e.ev c s = Deferred.ofValue (e.ev f) (c.args.map e.ev) := fun s => by simp [resolve, hc]
        rw [hb]
        exact h1 _
      rw [hx, hr]
      exact ⟨rfl, h2 w' hw'⟩
    case builtin b =>
      have hb : ∀ s, resolve e.ev c s = pure { target := .builtin b c.argTypes s (c.args.map isConst), args := c.args.map e.ev } := fun s => by
        simp only [resolve, hc]
        have hm : ∀ f : Operand → Bool, (∀ x, f x = isConst x) → c.args.map f = c.args.map isConst := fun f hf => Array.map_congr_left fun x _ => hf x
        rw [hm _ (fun x => by cases x <;> rfl)]
      have BB : (∃ v, (∀ w', ExtO B w w' → (builtin b c.argTypes o.type (c.args.map isConst) (c.args.map e.ev)).run P w' = .ok (.value v) w') ∧ K v) → ∃ v, Gives P B o a w v ∧ K v := by
        rintro ⟨v, h1, h2⟩
        refine ⟨v, ?_, h2⟩
        unfold Gives
        rw [if_neg hnp]
        intro w' hw'
        unfold Oper.quietAt
        have hr : (execOp e.ev o).run P w' = .ok (.value v) w' := by
          unfold execOp
          simp only [hop]
          rw [hb]
          simp only [Sem.run_bind, Sem.run_pure, Result.andThen_ok, invoke]
          exact h1 w' hw'
        rw [hx, hr]
        exact ⟨rfl, rfl⟩
      cases b
      case len =>
        obtain ⟨v, h1, h2⟩ := lenQ_out (t := o.type) h
        refine BB ⟨v, fun w' hw' => ?_, h2⟩
        simp only [builtin]
        exact run_v (h1 _ hw')
      case max => exact BB (svB_out h)
      case min => exact BB (svB_out h)
      case cap => exact BB (svB_out h)
      all_goals exact BB (resEx_out h)
  all_goals exact h.elim

section mix
variable {P : Program} {ops : Array Oper} {md : Region.Mode} {Q : Exit → Act → World → Prop} {wr al G : List Nat} {B : Option (Nat → Prop)} {F : Act → World → Prop}

def mOp (P : Program) (B : Option (Nat → Prop)) (ops : Array Oper) (wr al G : List Nat) (i : Nat) (K : Act → World → Prop) (a : Act) (w : World) : Prop :=
  match ops[i]? with
  | none => False
  | some o => if Region.wanted o (yielded ops a.tmps) then
      (if memb i wr = true then ∀ w1, Drawn w w1 → wpC P o a w1 (fun a' w' => (memb i al = true → ExtO (selB B G i) w1 w') ∧ K a' w') else ∃ v, Gives P (selB B G i) o a w v ∧ K (a.put o.dst v) w)
    else K (a.put o.dst undef) w
def wpM (P : Program) (B : Option (Nat → Prop)) (md : Region.Mode) (ops : Array Oper) (wr al G : List Nat) (F : Act → World → Prop) : Nat → Array Bool → Act → World → Prop
  | 0, listed, a, w => Region.ready md ops listed = [] ∧ ∀ w1, Drawn w w1 → F a w1
  | fuel + 1, listed, a, w => (Region.ready md ops listed = [] → ∀ w1, Drawn w w1 → F a w1) ∧
    ∀ i ∈ Region.ready md ops listed, mOp P B ops wr al G i (wpM P B md ops wr al G F fuel (listed.setIfInBounds i true)) a w

theorem mOp_mono {i : Nat} {K K' : Act → World → Prop} {a : Act} {w : World} (hK : ∀ a w, K a w → K' a w) (h : mOp P B ops wr al G i K a w) : mOp P B ops wr al G i K' a w := by
  unfold mOp at *
  split
  · rename_i ho; rw [ho] at h; exact h
  · rename_i o ho
    rw [ho] at h
    simp only at h
    split
    · rename_i hw
      rw [if_pos hw] at h
      split
      · rename_i hm; rw [if_pos hm] at h; exact fun w1 h1 => (h w1 h1).mono fun a w hh => ⟨hh.1, hK a w hh.2⟩
      · rename_i hm; rw [if_neg hm] at h; obtain ⟨v, h1, h2⟩ := h; exact ⟨v, h1, hK _ _ h2⟩
    · rename_i hw; rw [if_neg hw] at h; exact hK _ _ h

theorem wpAny_of_M (hQ : ∀ a w, F a w → Q .normal a w) : ∀ (fuel : Nat) (listed : Array Bool) (a : Act) (w : World), wpM P B md ops wr al G F fuel listed a w →
    ∀ w1, Drawn w w1 → wpAny P md ops Q fuel listed a w1
  | 0, _, _, _, h, w1, hw => ⟨h.1, hQ _ _ (h.2 w1 hw)⟩
  | fuel + 1, listed, a, w, h, w1, hw => by
    refine ⟨fun h0 => hQ _ _ (h.1 h0 w1 hw), fun i hi => ?_⟩
    have hm := h.2 i hi
    have ih := wpAny_of_M hQ fuel (listed.setIfInBounds i true)
    unfold mOp at hm
    unfold wpOp
    cases ho : ops[i]? with
    | none => rw [ho] at hm; exact hm.elim
    | some o =>
      rw [ho] at hm
      simp only at hm ⊢
      by_cases hwa : Region.wanted o (yielded ops a.tmps) = true
      · rw [if_pos hwa] at hm
        rw [if_pos hwa]
        refine .inl ?_
        by_cases hmw : memb i wr = true
        · rw [if_pos hmw] at hm
          exact wpC.wp ((hm w1 hw).mono fun a' w' h' => ih a' w' h'.2 w' (Drawn.refl w'))
        · rw [if_neg hmw] at hm
          obtain ⟨v, hg, hk⟩ := hm
          unfold Gives at hg
          by_cases hp : pureOp o.op = true
          · rw [if_pos hp] at hg
            unfold Oper.wp
            rw [hg w1, Oper.upon_value]
            exact ih _ _ hk w1 hw
          · rw [if_neg hp] at hg
            have h3 := hg w1 hw.ext.extO
            unfold Oper.quietAt at h3
            unfold Oper.wp
            generalize (execOp a.eval o).run P w1 = r at *
            cases r with
            | ok nx w' =>
              cases nx <;> simp only [Oper.quietUpon] at h3 <;> simp only [Oper.upon]
              case value u => obtain ⟨e1, e2⟩ := h3; rw [e1, e2]; exact ih _ _ hk _ hw
              case skip => obtain ⟨e1, e2⟩ := h3; rw [e1, ← e2]; exact ih _ _ hk _ hw
              case enter f args =>
                obtain ⟨e1, hc⟩ := h3
                rw [e1]
                exact hc.mono fun e w'' ⟨he, hw''⟩ => by subst he; exact ih _ _ hk _ (hw.trans hw'')
            | halt x w' => simp only [Oper.quietUpon] at h3
      · rw [if_neg hwa] at hm
        rw [if_neg hwa]
        exact ih _ _ hm w1 hw

theorem wpC_put {oj : Oper} {d : Option Nat} {v : Value} {a : Act} {w : World} {K : Act → World → Prop} (hsj : ∀ cs b, oj.op ≠ .select cs b) (h1 : ∀ t, d = some t → t ∉ oj.looksAt ops) (h2 : ∀ t, d = some t → oj.dst ≠ some t)
    (h : wpC P oj (a.put d v) w K) : wpC P oj a w (fun a' w' => ∃ u, a' = a.put oj.dst u ∧ K (a'.put d v) w') := by
  unfold wpC at *
  rw [execOp_put oj hsj a d v h1] at h
  generalize (execOp a.eval oj).run P w = r at *
  cases r with
  | halt x w' => cases x <;> exact h.elim
  | ok x w' =>
    cases x <;> simp only [wUpon] at h ⊢ <;> try exact h.elim
    case value u => exact ⟨u, rfl, by rw [← Act.put_comm a v u h2]; exact h⟩
    case skip => exact ⟨_, rfl, by rw [← Act.put_comm a v undef h2]; exact h⟩
    case enter f args =>
      refine h.mono fun e w'' he => ?_
      cases e with
      | returned u => exact ⟨u, rfl, by rw [← Act.put_comm a v u h2]; exact he⟩
      | panicked c => exact he.elim
      | outgrown => exact he.elim

/-- What operation k gives, in this state and world. -/
def FactK (P : Program) (B : Option (Nat → Prop)) (ops : Array Oper) (o : Oper) (v : Value) (a : Act) (w : World) : Prop :=
  (Region.wanted o (yielded ops a.tmps) = true ∧ Gives P B o a w v) ∨ (Region.wanted o (yielded ops a.tmps) = false ∧ v = undef)

theorem FactK.keep {o : Oper} {v : Value} {a : Act} {w w' : World} (hs : ∀ cs b, o.op ≠ .select cs b) (d : Option Nat) (u : Value) (h3 : ∀ t, d = some t → t ∉ o.looksAt ops) (hw : ExtO B w w' ∨ pureOp o.op = true)
    (h : FactK P B ops o v a w) : FactK P B ops o v (a.put d u) w' := by
  unfold FactK at *
  rw [wanted_put o a d u h3]
  rcases h with ⟨h1, h2⟩ | ⟨h1, h2⟩
  · refine .inl ⟨h1, ?_⟩
    unfold Gives at *
    by_cases hp : pureOp o.op = true
    · rw [if_pos hp] at h2 ⊢
      rw [execOp_put o hs a d u h3]; exact h2
    · rw [if_neg hp] at h2 ⊢
      have hw' : ExtO B w w' := hw.resolve_right hp
      unfold Oper.quietAt at *
      rw [execOp_put o hs a d u h3]; exact fun w2 h => h2 w2 (hw'.trans h)
  · exact .inr ⟨h1, h2⟩

theorem FactK.mOp {k : Nat} {o : Oper} {v : Value} {a : Act} {w : World} {K : Act → World → Prop} (hk : ops[k]? = some o) (hw : memb k wr = false) (h : FactK P (selB B G k) ops o v a w) (hK : K (a.put o.dst v) w) : mOp P B ops wr al G k K a w := by
  unfold Go.VC.mOp
  rw [hk]
  rcases h with ⟨h1, h2⟩ | ⟨h1, rfl⟩
  · simp only [h1, if_true, hw, Bool.false_eq_true, if_false]; exact ⟨v, h2, hK⟩
  · simp only [h1, Bool.false_eq_true, if_false]; exact hK

theorem mOp_put {j k : Nat} {o oj : Oper} {v : Value} {a : Act} {w : World} {K : Act → World → Prop} (hj : ops[j]? = some oj) (hap : o.apart ops oj = true)
    (hs : ∀ cs b, o.op ≠ .select cs b) (hsj : ∀ cs b, oj.op ≠ .select cs b) (hwr : memb j wr = true → pureOp o.op = true ∨ (memb j al = true ∧ (memb k G = true → memb j G = true)))
    (hy : FactK P (selB B G k) ops o v a w) (h : mOp P B ops wr al G j K (a.put o.dst v) w) : mOp P B ops wr al G j (fun a' w' => FactK P (selB B G k) ops o v a' w' ∧ K (a'.put o.dst v) w') a w := by
  obtain ⟨h1, h2, h3⟩ := Oper.apart_spec hap
  unfold mOp at *
  rw [hj] at h ⊢
  simp only at h ⊢
  rw [wanted_put oj a o.dst v h1] at h
  split
  · rename_i hw
    rw [if_pos hw] at h
    split
    · rename_i hm
      rw [if_pos hm] at h
      intro w1 hw1
      refine (wpC_put hsj h1 h2 (h w1 hw1)).mono ?_
      rintro a' w' ⟨u, rfl, he, hk⟩
      refine ⟨he, hy.keep hs oj.dst u h3 ?_, hk⟩
      rcases hwr hm with h | h
      · exact .inr h
      · refine .inl (hw1.ext.extO.trans ?_)
        have he := he h.1
        unfold selB at he ⊢
        cases hk : memb k G with
        | true => rw [h.2 hk] at he; exact he
        | false =>
          rw [cond_false]
          cases hj' : memb j G with
          | true => rw [hj', cond_true] at he; exact Ext.extO he
          | false => rw [hj', cond_false] at he; exact he
    · rename_i hm
      rw [if_neg hm] at h
      obtain ⟨u, hu, hk⟩ := h
      refine ⟨u, ?_, hy.keep hs oj.dst u h3 (.inl (Ext.refl _).extO), by rw [← Act.put_comm a v u h2]; exact hk⟩
      unfold Gives at *
      by_cases hp : pureOp oj.op = true
      · rw [if_pos hp] at hu ⊢; rwa [execOp_put oj hsj a o.dst v h1] at hu
      · rw [if_neg hp] at hu ⊢; unfold Oper.quietAt at *; rwa [execOp_put oj hsj a o.dst v h1] at hu
  · rename_i hw
    rw [if_neg hw] at h
    exact ⟨hy.keep hs oj.dst undef h3 (.inl (Ext.refl _).extO), by rw [← Act.put_comm a v undef h2]; exact h⟩

theorem wpM_first {k : Nat} {o : Oper} {v : Value} {D : List Nat} (hk : ops[k]? = some o) (hwk : memb k wr = false) (hsel : ∀ (j : Nat) (o : Oper) cs b, ops[j]? = some o → o.op ≠ .select cs b)
    (hD : ∀ j, memb j D = true → ∀ oj, ops[j]? = some oj → ∃ e ∈ oj.after, Region.binds md e = true ∧ (e.on = k ∨ memb e.on D = true)) :
    ∀ (fuel : Nat) (listed : Array Bool) (a : Act) (w : World),
      (∀ j oj, ops[j]? = some oj → j ≠ k → listed.getD j true = false → memb j D = false → o.apart ops oj = true ∧ (memb j wr = true → pureOp o.op = true ∨ (memb j al = true ∧ (memb k G = true → memb j G = true)))) →
      (∀ d, memb d D = true → listed.getD d true = false) →
      k ∈ Region.ready md ops listed → FactK P (selB B G k) ops o v a w →
      wpM P B md ops wr al G F fuel (listed.setIfInBounds k true) (a.put o.dst v) w → wpM P B md ops wr al G F (fuel + 1) listed a w := by
  have notD : ∀ (listed : Array Bool) (j : Nat), listed.getD k true = false → (∀ d, memb d D = true → listed.getD d true = false) → j ∈ Region.ready md ops listed → memb j D = false := by
    intro listed j hkl hdl hj
    cases hm : memb j D with
    | false => rfl
    | true =>
      obtain ⟨hjun, oj, hoj, hall⟩ := mem_ready.1 hj
      obtain ⟨e, he, hb, hon⟩ := hD j hm oj hoj
      have h1 := hall e he hb
      have h0 : listed.getD e.on true = false := by
        rcases hon with h | h
        · rw [h]; exact hkl
        · exact hdl _ h
      rcases Nat.lt_or_ge e.on listed.size with h' | h'
      · simp [h'] at h0 h1; rw [h0] at h1; cases h1
      · simp [Array.getElem?_eq_none h'] at h1
  intro fuel
  induction fuel with
  | zero =>
    intro listed a w _ _ hr hy H
    refine ⟨fun h => (by rw [h] at hr; cases hr), fun j hj => ?_⟩
    by_cases hji : j = k
    · subst hji; exact hy.mOp hk hwk H
    · have := ready_mono hj hji
      rw [H.1] at this
      cases this
  | succ fuel ih =>
    intro listed a w hfree hdl hr hy H
    refine ⟨fun h => (by rw [h] at hr; cases hr), fun j hj => ?_⟩
    by_cases hji : j = k
    · subst hji; exact hy.mOp hk hwk H
    · have hkl := (mem_ready.1 hr).1
      have hjD := notD listed j hkl hdl hj
      have h1 := H.2 j (ready_mono hj hji)
      obtain ⟨hjun, oj, hoj, hall⟩ := mem_ready.1 hj
      obtain ⟨hap, hwj⟩ := hfree j oj hoj hji hjun hjD
      have h2 := mOp_put hoj hap (fun cs b => hsel k o cs b hk) (fun cs b => hsel j oj cs b hoj) hwj hy h1
      refine mOp_mono (fun a' w' h3 => ih (listed.setIfInBounds j true) a' w' ?_ ?_ (ready_mono hr (Ne.symm hji)) h3.1 ?_) h2
      · intro m om hm hmk hun hmD
        refine hfree m om hm hmk ?_ hmD
        by_cases hjm : j = m
        · subst hjm; exact hjun
        · rw [getD_set_ne true hjm] at hun; exact hun
      · intro d hd
        have hjd : j ≠ d := by rintro rfl; rw [hd] at hjD; cases hjD
        rw [getD_set_ne true hjd]; exact hdl d hd
      · rw [Array.setIfInBounds_comm _ _ hji]
        exact h3.2

/-! #### the check of an order -/
def waitsB (md : Region.Mode) (o : Oper) (k : Nat) (D : List Nat) : Bool := o.after.toList.any fun e => Region.binds md e && (Nat.beq e.on k || memb e.on D)
/-- what waits for k, one way or another -/
def waiters (md : Region.Mode) (k : Nat) : List Oper → Nat → List Nat → List Nat
  | [], _, D => D
  | o :: r, j, D => waiters md k r (j + 1) (cond (waitsB md o k D) (j :: D) D)
def freeB (md : Region.Mode) (ops : Array Oper) (wr al G : List Nat) (listed : Array Bool) (o : Oper) (k : Nat) (D : List Nat) : Bool :=
  (List.range ops.size).all fun j => match ops[j]? with
    | none => true
    | some oj => cond (memb j D) (waitsB md oj k D && !listed.getD j true) (Nat.beq j k || listed.getD j true || (o.apart ops oj && (!memb j wr || (pureOp o.op || (memb j al && (!memb k G || memb j G))))))
def inB (D : List Nat) (n : Nat) : Bool := D.all fun d => Nat.blt d n
def lexM (md : Region.Mode) (ops : Array Oper) (wr al G : List Nat) : Tr → Array Bool → List Nat → Bool
  | .nil, listed, seen => seen.isEmpty && (Region.ready md ops listed).isEmpty
  | .one k t, listed, seen => match ops[k]? with
    | none => false
    | some o => (Region.ready md ops listed).contains k &&
      cond seen.isEmpty (cond (memb k wr) (decide (Region.ready md ops listed = [k])) (let D := waiters md k ops.toList 0 []; inB D ops.size && freeB md ops wr al G listed o k D))
        (memb k wr && (Region.ready md ops listed).all fun j => Nat.beq j k || memb j seen) &&
      lexM md ops wr al G t (listed.setIfInBounds k true) []
  | .alt k t r, listed, seen => (Region.ready md ops listed).contains k && memb k wr && Nat.beq (t.dep + 1) r.dep &&
      lexM md ops wr al G t (listed.setIfInBounds k true) [] && lexM md ops wr al G r listed (k :: seen)

def mixA (P : Program) (B : Option (Nat → Prop)) (ops : Array Oper) (wr al G : List Nat) (F : Act → World → Prop) : Tr → Act → World → Prop
  | .nil, a, w => ∀ w1, Drawn w w1 → F a w1
  | .one i t, a, w => mOp P B ops wr al G i (mixA P B ops wr al G F t) a w
  | .alt i t r, a, w => mOp P B ops wr al G i (mixA P B ops wr al G F t) a w ∧ mixA P B ops wr al G F r a w

theorem wpM_lex (hsel : Region.noSelect ops = true) : ∀ (l : Tr),
    (∀ (listed : Array Bool) (a : Act) (w : World), lexM md ops wr al G l listed [] = true → mixA P B ops wr al G F l a w → wpM P B md ops wr al G F l.dep listed a w) ∧
    (∀ (listed : Array Bool) (seen : List Nat) (a : Act) (w : World), seen ≠ [] → lexM md ops wr al G l listed seen = true → mixA P B ops wr al G F l a w → ∀ m, l.dep = m + 1 → ∀ i ∈ Region.ready md ops listed, memb i seen = false →
      mOp P B ops wr al G i (wpM P B md ops wr al G F m (listed.setIfInBounds i true)) a w)
  | .nil => ⟨fun listed a w hB h => ⟨by simpa [lexM] using hB, h⟩, fun listed seen a w hs hB => by
      simp only [lexM, Bool.and_eq_true, List.isEmpty_iff] at hB; exact absurd hB.1 hs⟩
  | .alt k t r => by
    have key : ∀ (listed : Array Bool) (seen : List Nat) (a : Act) (w : World), lexM md ops wr al G (.alt k t r) listed seen = true → mixA P B ops wr al G F (.alt k t r) a w → ∀ m, (Tr.alt k t r).dep = m + 1 → ∀ i ∈ Region.ready md ops listed, memb i seen = false →
      mOp P B ops wr al G i (wpM P B md ops wr al G F m (listed.setIfInBounds i true)) a w := by
      intro listed seen a w hB h m hm i hi his
      simp only [lexM, Bool.and_eq_true] at hB
      obtain ⟨⟨⟨⟨h1, h2⟩, h3⟩, h4⟩, h5⟩ := hB
      have h3' : t.dep + 1 = r.dep := Nat.eq_of_beq_eq_true h3
      by_cases hik : i = k
      · subst hik
        have hm' : t.dep = m := by simp only [Tr.dep] at hm; omega
        rw [← hm']
        exact mOp_mono (fun a' w' h' => (wpM_lex hsel t).1 _ a' w' h4 h') h.1
      · refine (wpM_lex hsel r).2 listed (k :: seen) a w (by simp) h5 h.2 m (by simpa [Tr.dep] using hm) i hi ?_
        simp only [memb]
        rw [beq_ne hik, cond_false]; exact his
    refine ⟨fun listed a w hB h => ?_, fun listed seen a w _ hB h => key listed seen a w hB h⟩
    have hB' := hB
    simp only [lexM, Bool.and_eq_true] at hB'
    obtain ⟨⟨⟨⟨h1, h2⟩, h3⟩, h4⟩, h5⟩ := hB'
    have h3' : t.dep + 1 = r.dep := Nat.eq_of_beq_eq_true h3
    have hr' : k ∈ Region.ready md ops listed := by simpa using h1
    have hd : (Tr.alt k t r).dep = t.dep + 1 := h3'.symm
    rw [hd]
    exact ⟨fun h0 => (by rw [h0] at hr'; cases hr'), fun i hi => key listed [] a w hB h t.dep hd i hi rfl⟩
  | .one k rest => by
    have first : ∀ (listed : Array Bool) (a : Act) (w : World), lexM md ops wr al G (.one k rest) listed [] = true → mixA P B ops wr al G F (.one k rest) a w → wpM P B md ops wr al G F (rest.dep + 1) listed a w := by
      intro listed a w hB h
      simp only [lexM] at hB
      cases hk : ops[k]? with
      | none => rw [hk] at hB; cases hB
      | some o =>
        rw [hk] at hB
        simp only [Bool.and_eq_true, List.isEmpty_nil, cond_true] at hB
        obtain ⟨⟨hr, hc⟩, hB'⟩ := hB
        have hr' : k ∈ Region.ready md ops listed := by simpa using hr
        have hrest : ∀ a w, mixA P B ops wr al G F rest a w → wpM P B md ops wr al G F rest.dep (listed.setIfInBounds k true) a w := fun a w => (wpM_lex hsel rest).1 _ a w hB'
        simp only [mixA] at h
        cases hw : memb k wr with
        | true =>
          rw [hw, cond_true] at hc
          have hc' : Region.ready md ops listed = [k] := of_decide_eq_true hc
          refine ⟨fun h0 => (by rw [h0] at hr'; cases hr'), fun i hi => ?_⟩
          rw [hc'] at hi
          have : i = k := by simpa using hi
          subst this
          exact mOp_mono hrest h
        | false =>
          rw [hw, cond_false] at hc
          generalize waiters md k ops.toList 0 [] = D at hc
          simp only [Bool.and_eq_true] at hc
          obtain ⟨hin, hfr⟩ := hc
          have hfree : ∀ j oj, ops[j]? = some oj → (cond (memb j D) (waitsB md oj k D && !listed.getD j true) (Nat.beq j k || listed.getD j true || (o.apart ops oj && (!memb j wr || (pureOp o.op || (memb j al && (!memb k G || memb j G))))))) = true := by
            intro j oj hj
            have := List.all_eq_true.1 hfr j (List.mem_range.2 (Array.getElem?_eq_some_iff.1 hj).1)
            rw [hj] at this
            exact this
          have hfact : ∃ v, FactK P (selB B G k) ops o v a w ∧ mixA P B ops wr al G F rest (a.put o.dst v) w := by
            unfold mOp at h
            rw [hk] at h
            simp only at h
            by_cases hwa : Region.wanted o (yielded ops a.tmps) = true
            · rw [if_pos hwa, if_neg (by simp [hw])] at h
              obtain ⟨v, h1, h2⟩ := h
              exact ⟨v, .inl ⟨hwa, h1⟩, h2⟩
            · rw [if_neg hwa] at h
              exact ⟨undef, .inr ⟨by simpa using hwa, rfl⟩, h⟩
          obtain ⟨v, hy, hn⟩ := hfact
          refine wpM_first (D := D) hk hw (Region.noSelect_spec hsel) ?_ rest.dep listed a w ?_ ?_ hr' hy (hrest _ _ hn)
          · intro j hjD oj hj
            have := hfree j oj hj
            rw [hjD, cond_true] at this
            simp only [Bool.and_eq_true] at this
            obtain ⟨e, he, hb⟩ := List.any_eq_true.1 this.1
            simp only [Bool.and_eq_true, Bool.or_eq_true] at hb
            refine ⟨e, Array.mem_toList_iff.1 he, hb.1, ?_⟩
            rcases hb.2 with h | h
            · exact .inl (Nat.eq_of_beq_eq_true h)
            · exact .inr h
          · intro j oj hj hjk hun hjD
            have := hfree j oj hj
            rw [hjD, cond_false, hun, beq_ne hjk] at this
            simp only [Bool.false_or, Bool.and_eq_true, Bool.or_eq_true, Bool.not_eq_true'] at this
            refine ⟨this.1, fun hm => ?_⟩
            rcases this.2 with h | h
            · rw [hm] at h; cases h
            · exact h.imp id fun h => ⟨h.1, fun hg => h.2.elim (fun h' => by rw [hg] at h'; cases h') id⟩
          · intro d hd
            have hlt : d < ops.size := by
              have := List.all_eq_true.1 hin d (memb_iff.1 hd)
              exact Nat.le_of_ble_eq_true this
            have := hfree d _ (Array.getElem?_eq_getElem hlt)
            rw [hd, cond_true] at this
            simp only [Bool.and_eq_true, Bool.not_eq_true'] at this
            exact this.2
    refine ⟨first, fun listed seen a w hs hB h m hm i hi his => ?_⟩
    simp only [lexM] at hB
    cases hk : ops[k]? with
    | none => rw [hk] at hB; cases hB
    | some o =>
      rw [hk] at hB
      have hse : seen.isEmpty = false := by cases seen with
        | nil => exact absurd rfl hs
        | cons _ _ => rfl
      simp only [Bool.and_eq_true, hse, cond_false] at hB
      obtain ⟨⟨hr, hwk, hall⟩, hB'⟩ := hB
      have h1 := List.all_eq_true.1 hall i hi
      simp only [Bool.or_eq_true, his, Bool.false_eq_true, or_false] at h1
      have : i = k := Nat.eq_of_beq_eq_true h1
      subst this
      have hm' : rest.dep = m := by simp only [Tr.dep] at hm; omega
      rw [← hm']
      simp only [mixA] at h
      exact mOp_mono (fun a' w' h' => (wpM_lex hsel rest).1 _ a' w' hB' h') h
end mix

theorem Keeps.join {ts us : List Nat} {e e' e'' : Env} (h : Keeps ts e e') (h' : Keeps us e' e'') (hs : ∀ t, t ∈ us → t ∈ ts) : Keeps ts e e'' :=
  (h.trans h').mono fun t ht => by rcases List.mem_append.1 ht with h | h; exact h; exact hs t h

theorem quietK_sound {P : Program} {B : Option (Nat → Prop)} {n : Nat} {o : Oper} {e : Env} {kn : Kn} {a : Act} {w : World} {K : Env → Kn → Prop}
    (hf : Fits n e a) (hn : KnOk kn e) (hd : ∀ t, o.dst = some t → t < n) (hk : knowsAll e o = true) (h : quietK P B o e kn w K) :
    ∃ v e' kn', Gives P B o a w v ∧ Fits n e' (a.put o.dst v) ∧ KnOk kn' e' ∧ Keeps o.dst.toList e e' ∧ K e' kn' := by
  have hk' := knowsAll_out hk
  have M : ∀ x, (∀ w', (execOp a.eval o).run P w' = .ok (.value (e.ev x)) w') → pureOp o.op = true → K (e.put o.dst (e.ev x)) (kn.mv o.dst x) →
      ∃ v e' kn', Gives P B o a w v ∧ Fits n e' (a.put o.dst v) ∧ KnOk kn' e' ∧ Keeps o.dst.toList e e' ∧ K e' kn' := by
    intro x h1 hp h2
    exact ⟨e.ev x, _, _, by unfold Gives; rw [if_pos hp]; exact h1, hf.put _ hd _, hn.mv _ _, Keeps.put _ _ _, h2⟩
  unfold quietK at h
  cases hop : o.op <;> simp only [hop] at h
  case move x =>
    have hx := hf.eval x (hk' x (by simp [hop, Op.operands]))
    exact M x (fun w' => by simp only [execOp, hop, Sem.run_pure, hx]) (by simp [hop, pureOp]) h
  case assign x =>
    have hx := hf.eval x (hk' x (by simp [hop, Op.operands]))
    exact M x (fun w' => by simp only [execOp, hop, Sem.run_pure, hx]) (by simp [hop, pureOp]) h
  case pick c x y =>
    have hc := hf.eval c (hk' c (by simp [hop, Op.operands]))
    have hx := hf.eval x (hk' x (by simp [hop, Op.operands]))
    have hy := hf.eval y (hk' y (by simp [hop, Op.operands]))
    have T : e.ev c = .bool true → K (e.put o.dst (e.ev x)) (kn.mv o.dst x) → _ := fun h1 h2 =>
      M x (fun w' => by simp only [execOp, hop, hc, h1, asBool, Sem.run_bind, Sem.run_pure, Result.andThen_ok, if_true, hx]) (by simp [hop, pureOp]) h2
    have N : e.ev c = .bool false → K (e.put o.dst (e.ev y)) (kn.mv o.dst y) → _ := fun h1 h2 =>
      M y (fun w' => by simp only [execOp, hop, hc, h1, asBool, Sem.run_bind, Sem.run_pure, Result.andThen_ok, Bool.false_eq_true, if_false, hy]) (by simp [hop, pureOp]) h2
    split at h
    · exact T (hn.of ‹_›) h
    · exact N (hn.of ‹_›) h
    · split at h
      · rename_i b hb
        cases b
        · exact N hb (h.2 rfl)
        · exact T hb (h.1 rfl)
      · exact h.elim
  all_goals
    obtain ⟨v, h1, h2⟩ := quietOp_sound hf hk' h
    exact ⟨v, _, _, h1, hf.put _ hd _, hn.rid _ _, Keeps.put _ _ _, h2⟩

theorem mixStep_sound {P : Program} {ty : Tys} {B : Option (Nat → Prop)} {n : Nat} {ops : Array Oper} {wr al G : List Nat} {e0 : Env} (hd : ∀ o ∈ ops.toList, ∀ t, o.dst = some t → t < n) {F : Act → World → Prop} {K : Env → Kn → World → Prop} {i : Nat}
    (hK : ∀ e kn a w, Fits n e a → KnOk kn e → Keeps (dsts ops.toList) e0 e → K e kn w → F a w)
    {e : Env} {kn : Kn} {a : Act} {w : World} (hf : Fits n e a) (hn : KnOk kn e) (hk : Keeps (dsts ops.toList) e0 e) (h : mixStep P ty B ops wr al G i K e kn w) : mOp P B ops wr al G i F a w := by
  unfold mixStep at h
  unfold mOp
  cases ho : ops[i]? with
  | none => rw [ho] at h; exact h.elim
  | some o =>
    rw [ho] at h
    simp only at h ⊢
    have hmem : o ∈ ops.toList := Array.mem_toList_iff.2 (Array.mem_of_getElem? ho)
    have hdo := hd o hmem
    have hsub : ∀ t, t ∈ o.dst.toList → t ∈ dsts ops.toList := fun t ht => List.mem_flatMap.2 ⟨o, hmem, ht⟩
    obtain ⟨kn', hk', h⟩ := guard_out hf hn h
    rcases h with ⟨hw, h⟩ | ⟨hw, h⟩
    · obtain ⟨hkn, h⟩ := cond_out h
      rw [if_pos hw]
      cases hm : memb i wr with
      | true =>
        rw [hm, cond_true] at h
        simp only [if_true]
        intro w1 hw1
        refine stepK_sound hf hk' hdo hkn (fun e1 kn1 a1 w2 f1 k1 kp1 h1 => ?_) (h w1 hw1)
        cases ha : memb i al with
        | true => rw [ha] at h1; exact ⟨fun _ => h1.1, hK e1 kn1 a1 w2 f1 k1 (hk.join kp1 hsub) h1.2⟩
        | false => rw [ha] at h1; exact ⟨fun h => (by cases h), hK e1 kn1 a1 w2 f1 k1 (hk.join kp1 hsub) h1⟩
      | false =>
        rw [hm, cond_false] at h
        simp only [Bool.false_eq_true, if_false]
        obtain ⟨v, e1, kn1, g1, f1, k1, kp1, h1⟩ := quietK_sound hf hk' hdo hkn h
        exact ⟨v, g1, hK e1 kn1 _ w f1 k1 (hk.join kp1 hsub) h1⟩
    · rw [if_neg (by simp [hw])]
      exact hK _ _ _ w (hf.put _ hdo _) (hk'.rid _ _) (hk.join (Keeps.put _ _ _) hsub) h
theorem vcMix_sound {P : Program} {ty : Tys} {B : Option (Nat → Prop)} {n : Nat} {ops : Array Oper} {wr al G : List Nat} {K : Env → World → Prop} {e0 : Env} (hd : ∀ o ∈ ops.toList, ∀ t, o.dst = some t → t < n) :
    ∀ (l : Tr) (e : Env) (kn : Kn) (a : Act) (w : World), Fits n e a → KnOk kn e → Keeps (dsts ops.toList) e0 e → vcMix P ty B ops wr al G K l e kn w →
      mixA P B ops wr al G (fun a w => ∃ e', Fits n e' a ∧ Keeps (dsts ops.toList) e0 e' ∧ K e' w) l a w
  | .nil, e, kn, a, w, hf, hn, hk, h => fun w1 hw => ⟨e, hf, hk, h w1 hw⟩
  | .one i rest, e, kn, a, w, hf, hn, hk, h => mixStep_sound hd (fun e kn a w f k kp h => vcMix_sound hd rest e kn a w f k kp h) hf hn hk h
  | .alt i t r, e, kn, a, w, hf, hn, hk, h => ⟨mixStep_sound hd (fun e kn a w f k kp h => vcMix_sound hd t e kn a w f k kp h) hf hn hk h.1, vcMix_sound hd r e kn a w hf hn hk h.2⟩

/-- 'wide': some blocks may be written while others are read -/
def vcDraw (P : Program) (ty : Tys) (ops : Array Oper) (d : Bool × Tr × List Nat × List Nat × List Nat) (K : Env → World → Prop) (e : Env) (w : World) : Prop :=
  ∀ w1, Drawn w w1 → cond d.1 (∃ B : Nat → Prop, vcMix P ty (some B) ops d.2.2.1 d.2.2.2.1 d.2.2.2.2 K d.2.1 e [] w1) (vcMix P ty none ops d.2.2.1 d.2.2.2.1 d.2.2.2.2 K d.2.1 e [] w1)
def okDraw (P : Program) (ops : Array Oper) (d : Bool × Tr × List Nat × List Nat × List Nat) : Bool :=
  Nat.beq d.2.1.dep ops.size && Region.noSelect ops && lexM .any ops d.2.2.1 d.2.2.2.1 d.2.2.2.2 d.2.1 (Array.replicate ops.size false) []
theorem vcDraw_sound {P : Program} {ty : Tys} {id n : Nat} {ops : Array Oper} {d : Bool × Tr × List Nat × List Nat × List Nat} {K : Env → World → Prop} {Q : Exit → Act → World → Prop} {e : Env} {a : Act} {w : World} (hm : P.follows .mixedOrders = true)
    (ok : okDraw P ops d = true) (hd : ∀ o ∈ ops.toList, ∀ t, o.dst = some t → t < n) (hf : Fits n e a) (h : vcDraw P ty ops d K e w)
    (hQ : ∀ e' a' w', Fits n e' a' → Keeps (dsts ops.toList) e e' → K e' w' → Q .normal a' w') : (Code.region id ops true).wp P Q a w := by
  unfold okDraw at ok
  simp only [Bool.and_eq_true] at ok
  obtain ⟨⟨hl, hsel⟩, hlex⟩ := ok
  have hl' : d.2.1.dep = ops.size := Nat.eq_of_beq_eq_true hl
  refine wp_region_any hm ?_
  have h0 : ∃ B, vcMix P ty B ops d.2.2.1 d.2.2.2.1 d.2.2.2.2 K d.2.1 e [] { w with drawn := w.drawn + 1 } := by
    have h := h { w with drawn := w.drawn + 1 } ⟨1, rfl⟩
    cases hb : d.1 with
    | true => rw [hb, cond_true] at h; obtain ⟨B, h⟩ := h; exact ⟨_, h⟩
    | false => rw [hb, cond_false] at h; exact ⟨_, h⟩
  obtain ⟨B, h0⟩ := h0
  have h1 := vcMix_sound (P := P) (K := K) (e0 := e) hd d.2.1 e [] a _ hf (fun t b h => by simp [Kn.get] at h) (Keeps.refl _ _) h0
  have h2 := (wpM_lex (md := .any) hsel d.2.1).1 _ a _ hlex h1
  rw [hl'] at h2
  refine wpAny_of_M (Q := Q) ?_ _ _ _ _ h2 _ (Drawn.refl _)
  rintro a' w' ⟨e', f', k', h'⟩
  exact hQ e' a' w' f' k' h'

/-! ### Loops -/
abbrev Slots := List (Nat × Kd)
def KT (k : Kd) (T : Type) : Type :=
  match k with
  | .int _ => Int → T
  | .bool => Bool → T
  | .str => ByteArray → T
  | .ptr => Option Addr → T
  | .slice => Option Addr → Nat → Nat → T
  | .map => Option Nat → T
  | .any => Value → T
def FT (C : Type) : Slots → Type
  | [] => C
  | p :: r => KT p.2 (FT C r)
def appK {T : Type} : (k : Kd) → KT k T → Value → Option T
  | .int k, f, .int k' x => cond (decide (k' = k)) (some (f x)) none
  | .bool, f, .bool x => some (f x)
  | .str, f, .string x => some (f x)
  | .ptr, f, .pointer x => some (f x)
  | .slice, f, .slice A n c => some (f A n c)
  | .map, f, .map x => some (f x)
  | .any, f, x => some (f x)
  | _, _, _ => none
def appF {C : Type} (d : C) : (sl : Slots) → FT C sl → List Value → C
  | [], f, _ => f
  | p :: r, f, v :: vs => match appK p.2 f v with
    | some g => appF d r g vs
    | none => d
  | _ :: _, _, [] => d
def allKd : Kd → (Value → Prop) → Prop
  | .int k, C => ∀ x : Int, C (.int k x)
  | .bool, C => ∀ x : Bool, C (.bool x)
  | .str, C => ∀ x : ByteArray, C (.string x)
  | .ptr, C => ∀ x : Option Addr, C (.pointer x)
  | .slice, C => ∀ (A : Option Addr) (n c : Nat), C (.slice A n c)
  | .map, C => ∀ x : Option Nat, C (.map x)
  | .any, C => ∀ x : Value, C x
/-- for all values of these kinds -/
def allK : Slots → (List Value → Prop) → Prop
  | [], C => C []
  | p :: r, C => allKd p.2 fun v => allK r fun vs => C (v :: vs)
theorem allKd_out {T : Type} {k : Kd} {f : KT k T} {v : Value} {g : T} (h : appK k f v = some g) (D : Value → Prop) (hd : allKd k D) : D v := by
  cases k with
  | int k =>
    cases v with
    | int k' x =>
      simp only [appK] at h
      cases hk : decide (k' = k) with
      | false => rw [hk] at h; cases h
      | true => have : k' = k := by simpa using hk
                subst this; exact hd x
    | _ => simp [appK] at h
  | bool => cases v with
    | bool x => exact hd x
    | _ => simp [appK] at h
  | str => cases v with
    | string x => exact hd x
    | _ => simp [appK] at h
  | ptr => cases v with
    | pointer x => exact hd x
    | _ => simp [appK] at h
  | slice => cases v with
    | slice A n c => exact hd A n c
    | _ => simp [appK] at h
  | map => cases v with
    | map x => exact hd x
    | _ => simp [appK] at h
  | any => exact hd v
def bindS : Slots → List Value → Env → Env
  | p :: r, v :: vs, e => (p.1, v) :: bindS r vs e
  | _, _, e => e

theorem allK_out {C' : Type} {d : C'} (p : C' → Prop) (hd : ¬ p d) : ∀ (sl : Slots) (I : FT C' sl) (D : List Value → Prop),
    allK sl D → ∀ vs, vs.length = sl.length → p (appF d sl I vs) → D vs
  | [], I, D, h, vs, hl, _ => by
    have : vs = [] := List.eq_nil_of_length_eq_zero hl
    subst this; exact h
  | q :: r, I, D, h, [], hl, _ => by simp at hl
  | q :: r, I, D, h, v :: vs, hl, hp => by
    have hl' : vs.length = r.length := by simpa using hl
    simp only [appF] at hp
    cases hg : appK q.2 I v with
    | none => rw [hg] at hp; exact absurd hp hd
    | some g =>
      rw [hg] at hp
      exact allK_out p hd r g (fun vs => D (v :: vs)) (allKd_out hg (fun v => allK r fun vs => D (v :: vs)) h) vs hl' hp

theorem bindS_has {sl : Slots} {e : Env} {t : Nat} : ∀ {vs : List Value}, vs.length = sl.length → (bindS sl vs e).has t = (memb t (sl.map (·.1)) || e.has t) := by
  induction sl with
  | nil => intro vs h; cases vs <;> simp [bindS, memb]
  | cons p r ih =>
    intro vs h
    cases vs with
    | nil => simp at h
    | cons v vs =>
      have h' : vs.length = r.length := by simpa using h
      simp only [bindS, Env.has, List.map_cons, memb, ih h']
      by_cases hb : p.1 = t
      · subst hb; simp [Nat.beq_refl]
      · rw [beq_ne hb, beq_ne (Ne.symm hb)]; rfl
theorem bindS_get_old {sl : Slots} {e : Env} {t : Nat} (hm : memb t (sl.map (·.1)) = false) : ∀ {vs : List Value}, (bindS sl vs e).get t = e.get t := by
  induction sl with
  | nil => intro vs; cases vs <;> simp [bindS]
  | cons p r ih =>
    intro vs
    cases vs with
    | nil => simp [bindS]
    | cons v vs =>
      simp only [List.map_cons, memb] at hm
      cases hb : Nat.beq t p.1 with
      | true => rw [hb] at hm; cases hm
      | false =>
        rw [hb, cond_false] at hm
        have : p.1 ≠ t := fun h => by rw [h, Nat.beq_refl] at hb; cases hb
        simp only [bindS, Env.get, beq_ne this, cond_false]
        exact ih hm
theorem bindS_get_new {sl : Slots} {e : Env} {t : Nat} {g : Nat → Value} (hm : memb t (sl.map (·.1)) = true) : (bindS sl (sl.map fun p => g p.1) e).get t = g t := by
  induction sl with
  | nil => simp [memb] at hm
  | cons p r ih =>
    simp only [List.map_cons, bindS, Env.get]
    by_cases hb : p.1 = t
    · subst hb; simp [Nat.beq_refl]
    · rw [beq_ne hb, cond_false]
      simp only [List.map_cons, memb, beq_ne (Ne.symm hb), cond_false] at hm
      exact ih hm

/-! ### Code -/
structure Ann where
  /-- by the first region's number in the body: what a loop carries -/
  loops : List (Nat × Slots) := []
  /-- by the region's number: an order; the operations that may write -/
  draws : List (Nat × Bool × Tr × List Nat × List Nat × List Nat) := []
  /-- by the slot: the types of an entry's parts -/
  tys : Tys := []
def firstId : Code → Nat
  | .region id _ _ => id
  | .seq a _ => firstId a
  | .block _ b => firstId b
  | .loop b => firstId b
  | .scope b => firstId b
  | _ => 1000000
def asg : Code → List Nat
  | .region _ ops _ => dsts ops.toList
  | .seq a b => asg a ++ asg b
  | .cond _ a b => asg a ++ asg b
  | .block _ b => asg b
  | .loop b => asg b
  | .scope b => asg b
  | _ => []

def vc (P : Program) (an : Ann) : Code → (Env → World → Prop) → (Nat → Env → World → Prop) → (Env → World → Prop) → Env → World → Prop
  | .skip, kN, _, _, e, w => kN e w
  | .label _, kN, _, _, e, w => kN e w
  | .region _ ops false, kN, _, _, e, w => vcOps P an.tys ops kN ops.toList e [] w
  | .region id ops true, kN, _, _, e, w => vcDraw P an.tys ops (findN (false, .nil, [], [], []) an.draws id) kN e w
  | .seq a b, kN, kX, kR, e, w => vc P an a (fun e w => vc P an b kN kX kR e w) kX kR e w
  | .cond c x y, kN, kX, kR, e, w => cond (e.knows c) (match e.ev c with
      | .bool b => (b = true → vc P an x kN kX kR e w) ∧ (b = false → vc P an y kN kX kR e w)
      | _ => False) False
  | .block id b, kN, kX, kR, e, w => vc P an b kN (fun i e w => cond (Nat.beq i id) (kN e w) (kX i e w)) kR e w
  | .loop b, kN, kX, kR, e, w =>
    let sl := findN [] an.loops (firstId b)
    cond (sl.all fun p => e.has p.1)
      (∃ (I : FT (World → Prop) sl) (m : FT (World → Nat) sl), appF (fun _ => False) sl I (sl.map fun p => e.get p.1) w ∧
        allK sl fun vs => ∀ w1, appF (fun _ => False) sl I vs w1 →
          vc P an b (fun e2 w2 => cond (sl.all fun p => e2.has p.1) (appF (fun _ => False) sl I (sl.map fun p => e2.get p.1) w2 ∧
            appF (fun _ => 0) sl m (sl.map fun p => e2.get p.1) w2 < appF (fun _ => 0) sl m vs w1) False) kX kR (bindS sl vs (e.drop (asg b))) w1) False
  | .exit i, _, kX, _, e, w => kX i e w
  | .ret, _, _, kR, e, w => kR e w
  | _, _, _, _, _, _ => False

def okC (P : Program) (an : Ann) (n : Nat) : Code → Bool
  | .region id ops true => ops.toList.all (fun o => match o.dst with | some d => Nat.blt d n | none => true) && okDraw P ops (findN (false, .nil, [], [], []) an.draws id)
  | .region _ ops false => ops.toList.all fun o => match o.dst with | some d => Nat.blt d n | none => true
  | .seq a b => okC P an n a && okC P an n b
  | .cond _ a b => okC P an n a && okC P an n b
  | .block _ b => okC P an n b
  | .loop b => okC P an n b && (findN [] an.loops (firstId b)).all fun p => memb p.1 (asg b)
  | .scope b => okC P an n b
  | _ => true

def QofN (n : Nat) (ts : List Nat) (e : Env) (kN : Env → World → Prop) (kX : Nat → Env → World → Prop) (kR : Env → World → Prop) : Exit → Act → World → Prop
  | .normal, a, w => ∃ e', Fits n e' a ∧ Keeps ts e e' ∧ kN e' w
  | .exit i, a, w => ∃ e', Fits n e' a ∧ Keeps ts e e' ∧ kX i e' w
  | .ret, a, w => ∃ e', Fits n e' a ∧ kR e' w
  | _, _, _ => False

theorem okDst {n : Nat} {l : List Oper} (h : l.all (fun o => match o.dst with | some d => Nat.blt d n | none => true) = true) : ∀ o ∈ l, ∀ t, o.dst = some t → t < n := by
  intro o ho t ht
  have := List.all_eq_true.1 h o ho
  rw [ht] at this
  have h2 : Nat.ble (t + 1) n = true := this
  exact Nat.le_of_ble_eq_true h2

theorem vc_sound {P : Program} {an : Ann} {n : Nat} (hm : P.follows .mixedOrders = true) : ∀ (c : Code) (kN : Env → World → Prop) (kX : Nat → Env → World → Prop) (kR : Env → World → Prop) (e : Env) (w : World) (a : Act),
    okC P an n c = true → Fits n e a → vc P an c kN kX kR e w → c.wp P (QofN n (asg c) e kN kX kR) a w := by
  intro c
  induction c with
  | skip => intro kN kX kR e w a _ hf h; exact wp_skip ⟨e, hf, Keeps.refl _ _, h⟩
  | label l => intro kN kX kR e w a _ hf h; exact wp_label ⟨e, hf, Keeps.refl _ _, h⟩
  | exit i => intro kN kX kR e w a _ hf h; exact wp_exit ⟨e, hf, Keeps.refl _ _, h⟩
  | ret => intro kN kX kR e w a _ hf h; exact wp_ret ⟨e, hf, h⟩
  | goto l => intro kN kX kR e w a _ _ h; exact h.elim
  | scope b ih => intro kN kX kR e w a _ _ h; exact h.elim
  | rangeFunc f ps x y => intro kN kX kR e w a _ _ h; exact h.elim
  | refuse y => intro kN kX kR e w a _ _ h; exact h.elim
  | region id ops draw =>
    intro kN kX kR e w a ok hf h
    cases draw with
    | false =>
      refine wp_region_list (vcOps_sound ops.toList e [] a w hf (fun t b h => by simp [Kn.get] at h) (okDst ok) h ?_)
      intro e' a' w' f' k' h'
      exact ⟨e', f', k', h'⟩
    | true =>
      simp only [okC, Bool.and_eq_true] at ok
      refine vcDraw_sound hm ok.2 (okDst ok.1) hf h ?_
      intro e' a' w' f' k' h'
      exact ⟨e', f', k', h'⟩
  | seq x y ihx ihy =>
    intro kN kX kR e w a ok hf h
    simp only [okC, Bool.and_eq_true] at ok
    refine wp_seq (Code.wp_mono ?_ (ihx _ kX kR e w a ok.1 hf h))
    intro ex a1 w1 hq
    cases ex with
    | normal =>
      obtain ⟨e1, f1, k1, h1⟩ := hq
      refine Code.wp_mono ?_ (ihy kN kX kR e1 w1 a1 ok.2 f1 h1)
      intro ex a2 w2 hq
      cases ex with
      | normal => obtain ⟨e2, f2, k2, h2⟩ := hq; exact ⟨e2, f2, k1.trans k2, h2⟩
      | exit i => obtain ⟨e2, f2, k2, h2⟩ := hq; exact ⟨e2, f2, k1.trans k2, h2⟩
      | ret => exact hq
      | goto l => exact hq.elim
      | panic c => exact hq.elim
      | outgrown => exact hq.elim
    | exit i => obtain ⟨e1, f1, k1, h1⟩ := hq; exact ⟨e1, f1, k1.mono (fun t ht => List.mem_append_left _ ht), h1⟩
    | ret => exact hq
    | goto l => exact hq.elim
    | panic c => exact hq.elim
    | outgrown => exact hq.elim
  | cond c x y ihx ihy =>
    intro kN kX kR e w a ok hf h
    simp only [okC, Bool.and_eq_true] at ok
    simp only [vc] at h
    obtain ⟨hk, h⟩ := cond_out h
    split at h
    · rename_i b hb
      refine wp_cond_split (t := b) (by rw [hf.eval c hk, hb]) (fun ht => ?_) (fun ht => ?_)
      · refine Code.wp_mono ?_ (ihx kN kX kR e w a ok.1 hf (h.1 ht))
        intro ex a2 w2 hq
        cases ex with
        | normal => obtain ⟨e2, f2, k2, h2⟩ := hq; exact ⟨e2, f2, k2.mono (fun t ht => List.mem_append_left _ ht), h2⟩
        | exit i => obtain ⟨e2, f2, k2, h2⟩ := hq; exact ⟨e2, f2, k2.mono (fun t ht => List.mem_append_left _ ht), h2⟩
        | ret => exact hq
        | goto l => exact hq.elim
        | panic c => exact hq.elim
        | outgrown => exact hq.elim
      · refine Code.wp_mono ?_ (ihy kN kX kR e w a ok.2 hf (h.2 ht))
        intro ex a2 w2 hq
        cases ex with
        | normal => obtain ⟨e2, f2, k2, h2⟩ := hq; exact ⟨e2, f2, k2.mono (fun t ht => List.mem_append_right _ ht), h2⟩
        | exit i => obtain ⟨e2, f2, k2, h2⟩ := hq; exact ⟨e2, f2, k2.mono (fun t ht => List.mem_append_right _ ht), h2⟩
        | ret => exact hq
        | goto l => exact hq.elim
        | panic c => exact hq.elim
        | outgrown => exact hq.elim
    · exact h.elim
  | block id b ih =>
    intro kN kX kR e w a ok hf h
    refine wp_block (Code.wp_mono ?_ (ih _ _ kR e w a ok hf h))
    intro ex a2 w2 hq
    cases ex with
    | normal => exact hq
    | exit i =>
      obtain ⟨e2, f2, k2, h2⟩ := hq
      simp only [Exit.inBlock]
      by_cases hi : i = id
      · subst hi
        rw [if_pos rfl]
        rw [Nat.beq_refl, cond_true] at h2
        exact ⟨e2, f2, k2, h2⟩
      · rw [if_neg hi]
        rw [beq_ne hi, cond_false] at h2
        exact ⟨e2, f2, k2, h2⟩
    | ret => exact hq
    | goto l => exact hq.elim
    | panic c => exact hq.elim
    | outgrown => exact hq.elim
  | loop b ih =>
    intro kN kX kR e w a ok hf h
    simp only [okC, Bool.and_eq_true] at ok
    obtain ⟨okb, oks⟩ := ok
    simp only [vc] at h
    generalize findN [] an.loops (firstId b) = sl at *
    obtain ⟨hhas, I, m, h0, hr⟩ := cond_out h
    have hasA : ∀ t, memb t (sl.map (·.1)) = true → memb t (asg b) = true := by
      intro t ht
      rw [memb_iff] at ht
      obtain ⟨p, hp, rfl⟩ := List.mem_map.1 ht
      exact List.all_eq_true.1 oks p hp
    have fit : ∀ {e1 : Env} {a1 : Act}, Fits n e1 a1 → (sl.all fun p => e1.has p.1) = true → (∀ t, memb t (asg b) = false → e.has t = true → e1.has t = true ∧ e1.get t = e.get t) →
        Fits n (bindS sl (sl.map fun p => e1.get p.1) (e.drop (asg b))) a1 := by
      intro e1 a1 f1 hh hk
      refine ⟨f1.size, f1.defers, fun t ht => ?_, fun t ht => ?_⟩
      · rw [bindS_has (by simp)] at ht
        cases hm : memb t (sl.map (·.1)) with
        | true =>
          rw [memb_iff] at hm
          obtain ⟨p, hp, rfl⟩ := List.mem_map.1 hm
          exact f1.has _ (List.all_eq_true.1 hh p hp)
        | false =>
          rw [hm, Bool.false_or] at ht
          obtain ⟨d1, d2, d3⟩ := Env.drop_has ht
          exact hf.has t d2
      · rw [bindS_has (by simp)] at ht
        cases hm : memb t (sl.map (·.1)) with
        | true =>
          rw [bindS_get_new (g := e1.get) hm]
          rw [memb_iff] at hm
          obtain ⟨p, hp, rfl⟩ := List.mem_map.1 hm
          exact f1.get _ (List.all_eq_true.1 hh p hp)
        | false =>
          rw [hm, Bool.false_or] at ht
          rw [bindS_get_old hm]
          obtain ⟨d1, d2, d3⟩ := Env.drop_has ht
          rw [d3]
          obtain ⟨k1, k2⟩ := hk t d1 d2
          rw [← k2]
          exact f1.get t k1
    let J : Act → World → Prop := fun a w => ∃ vs, vs.length = sl.length ∧ vs = (sl.map fun p => a.tmps.getD p.1 undef) ∧ Fits n (bindS sl vs (e.drop (asg b))) a ∧ appF (fun _ => False) sl I vs w
    have valsA : ∀ {e1 : Env} {a1 : Act}, Fits n e1 a1 → (sl.all fun p => e1.has p.1) = true → (sl.map fun p => e1.get p.1) = (sl.map fun p => a1.tmps.getD p.1 undef) := by
      intro e1 a1 f1 hh
      refine List.map_congr_left fun p hp => ?_
      exact (f1.get _ (List.all_eq_true.1 hh p hp)).symm
    refine wp_loop J (fun a w => appF (fun _ => 0) sl m (sl.map fun p => a.tmps.getD p.1 undef) w) ?_ ?_
    · exact ⟨_, by simp, valsA hf hhas, fit hf hhas (fun t _ h => ⟨h, rfl⟩), h0⟩
    · rintro a1 w1 ⟨vs, hl, hvs, f1, hi⟩
      have hbody := allK_out (fun c : World → Prop => c w1) (fun h => h) sl I _ hr vs hl hi w1 hi
      refine Code.wp_mono ?_ (ih _ kX kR _ w1 a1 okb f1 hbody)
      have kk : ∀ {e2 : Env}, Keeps (asg b) (bindS sl vs (e.drop (asg b))) e2 → ∀ t, memb t (asg b) = false → e.has t = true → e2.has t = true ∧ e2.get t = e.get t := by
        intro e2 k2 t ht hh
        have hns : memb t (sl.map (·.1)) = false := by
          cases hm : memb t (sl.map (·.1)) with
          | false => rfl
          | true => rw [hasA t hm] at ht; cases ht
        have h1 := Env.drop_of ht hh
        obtain ⟨k3, k4⟩ := k2 t ht (by rw [bindS_has hl, h1]; simp)
        refine ⟨k3, ?_⟩
        rw [k4, bindS_get_old hns]
        exact (Env.drop_has h1).2.2
      intro ex a2 w2 hq
      cases ex with
      | normal =>
        obtain ⟨e2, f2, k2, h2⟩ := hq
        obtain ⟨hh2, hi2, hlt⟩ := cond_out h2
        refine ⟨⟨_, by simp, valsA f2 hh2, fit f2 hh2 (kk k2), hi2⟩, ?_⟩
        show appF (fun _ => 0) sl m (sl.map fun p => a2.tmps.getD p.1 undef) w2 < appF (fun _ => 0) sl m (sl.map fun p => a1.tmps.getD p.1 undef) w1
        rw [← valsA f2 hh2, ← hvs]
        exact hlt
      | exit i => obtain ⟨e2, f2, k2, h2⟩ := hq; exact ⟨e2, f2, kk k2, h2⟩
      | ret => exact hq
      | goto l => exact hq.elim
      | panic c => exact hq.elim
      | outgrown => exact hq.elim

/-! ### A function -/
def packR : List Value → Value
  | [v] => v
  | vs => .tuple vs.toArray
def retN (P : Program) (R : Ending → World → Prop) (e : Env) (w : World) : List ResultVar → List Value → Prop
  | [], acc => R (.returned (packR acc.reverse)) w
  | .tmp t :: r, acc => cond (e.has t) (retN P R e w r (e.get t :: acc)) False
  | .cell t T :: r, acc => cond (e.has t) (match e.get t with
      | .pointer p => ptrC p fun ad => loadC P T ad w fun v => retN P R e w r (v :: acc)
      | _ => False) False
def argEnv : List Value → Nat → Env
  | [], _ => []
  | v :: vs, i => (i, v) :: argEnv vs (i + 1)
def vcF (P : Program) (an : Ann) (fn : Func) (c : Code) (args : List Value) (w : World) (R : Ending → World → Prop) : Prop :=
  vc P an c (fun e w => retN P R e w fn.results.toList []) (fun _ _ _ => False) (fun e w => retN P R e w fn.results.toList []) (argEnv args 0) w
def okF (P : Program) (an : Ann) (fn : Func) (c : Code) (k : Nat) : Bool := Nat.ble k fn.ntmps && okC P an fn.ntmps c

theorem argEnv_has : ∀ (vs : List Value) (i t : Nat), (argEnv vs i).has t = true → i ≤ t ∧ t < i + vs.length ∧ (argEnv vs i).get t = vs.getD (t - i) undef
  | [], i, t, h => by simp [argEnv, Env.has] at h
  | v :: vs, i, t, h => by
    simp only [argEnv, Env.has] at h
    by_cases hb : i = t
    · subst hb
      simp [argEnv, Env.get, Nat.beq_refl]
    · rw [beq_ne hb, cond_false] at h
      obtain ⟨h1, h2, h3⟩ := argEnv_has vs (i + 1) t h
      refine ⟨by omega, by simp; omega, ?_⟩
      simp only [argEnv, Env.get, beq_ne hb, cond_false, h3]
      rw [show t - i = (t - (i + 1)) + 1 by omega]
      simp

def resV (a : Act) : ResultVar → Sem Value
  | .tmp t => pure (a.tmps.getD t undef)
  | .cell b t => do loadVar t (← asAddr (a.tmps.getD b undef))
theorem retN_out {P : Program} {R : Ending → World → Prop} {n : Nat} {e : Env} {a : Act} {w : World} (hf : Fits n e a) : ∀ (rs : List ResultVar) (acc : List Value), retN P R e w rs acc →
    ∃ vs : List Value, (rs.mapM (resV a)).run P w = .ok vs w ∧ R (.returned (packR (acc.reverse ++ vs))) w
  | [], acc, h => ⟨[], by simp, by simpa [retN] using h⟩
  | .tmp t :: r, acc, h => by
    obtain ⟨h1, h2⟩ := cond_out h
    obtain ⟨vs, h3, h4⟩ := retN_out hf r _ h2
    refine ⟨e.get t :: vs, ?_, by simpa using h4⟩
    simp only [List.mapM_cons, resV, Sem.run_bind, Sem.run_pure, Result.andThen_ok, h3]
    rw [hf.get t h1]
  | .cell t T :: r, acc, h => by
    obtain ⟨h1, h2⟩ := cond_out h
    split at h2
    · rename_i p hp
      obtain ⟨ad, rfl, h2'⟩ := ptrC_out h2
      obtain ⟨v, h5, h6⟩ := loadC_out h2'
      obtain ⟨vs, h3, h4⟩ := retN_out hf r _ h6
      refine ⟨v :: vs, ?_, by simpa using h4⟩
      simp only [List.mapM_cons, resV, Sem.run_bind, Sem.run_pure, Result.andThen_ok, hf.get t h1, hp, asAddr, h5, h3]
    · exact h2.elim

theorem results_run {P : Program} {fn : Func} {R : Ending → World → Prop} {n : Nat} {e : Env} {a : Act} {w : World} (hf : Fits n e a) (h : retN P R e w fn.results.toList []) :
    ∃ v, (results fn a.tmps).run P w = .ok v w ∧ R (.returned v) w := by
  obtain ⟨vs, h1, h2⟩ := retN_out hf _ _ h
  simp only [List.reverse_nil, List.nil_append] at h2
  refine ⟨packR vs, ?_, h2⟩
  have hm : ∀ f : ResultVar → Sem Value, (∀ x, f x = resV a x) → fn.results.mapM f = List.toArray <$> fn.results.toList.mapM (resV a) := by
    intro f hf
    have : f = resV a := funext hf
    subst this
    cases fn.results with
    | mk l => simp
  unfold results
  rw [hm _ (fun x => by cases x <;> rfl)]
  simp only [Sem.run_bind, Sem.run_map, h1, Result.andThen_ok, Sem.run_pure]
  congr 1
  match vs with
  | [] => simp [packR]
  | [v] => simp [packR]
  | v :: u :: r => simp [packR]

def bodyOf (fn : Func) : Code := fn.body.getD .skip
theorem calls_of_vc {P : Program} {f : FuncId} {fn : Func} {c : Code} {args : Array Value} {w : World} {R : Ending → World → Prop} (an : Ann) (hm : P.follows .mixedOrders = true)
    (hf : P.funcs[f]? = some fn) (hb : fn.body = some c) (ok : okF P an fn c args.size = true) (h : vcF P an fn c args.toList w R) : Calls P f args w R := by
  unfold okF at ok
  simp only [Bool.and_eq_true] at ok
  have hs : args.size ≤ fn.ntmps := Nat.le_of_ble_eq_true ok.1
  refine calls_of_wp hf hb (Code.wp_mono ?_ (vc_sound (n := fn.ntmps) hm c _ _ _ (argEnv args.toList 0) w _ ok.2 ?_ h))
  · intro ex a2 w2 hq
    cases ex with
    | normal => obtain ⟨e2, f2, k2, h2⟩ := hq; exact ⟨f2.defers, results_run f2 h2⟩
    | exit i => obtain ⟨e2, f2, k2, h2⟩ := hq; exact h2.elim
    | ret => obtain ⟨e2, f2, h2⟩ := hq; exact ⟨f2.defers, results_run f2 h2⟩
    | goto l => exact hq.elim
    | panic c => exact hq.elim
    | outgrown => exact hq.elim
  · refine ⟨by simp; omega, rfl, fun t ht => ?_, fun t ht => ?_⟩
    · obtain ⟨h1, h2, h3⟩ := argEnv_has _ _ _ ht
      simp at h2; omega
    · obtain ⟨h1, h2, h3⟩ := argEnv_has _ _ _ ht
      have h2' : t < args.size := by simpa using h2
      rw [h3]
      simp [Array.getElem?_append, h2', List.getD_eq_getElem?_getD]
theorem calls_vc {P : Program} {f : FuncId} {fn : Func} {l : List Value} {w : World} {R : Ending → World → Prop} {an : Ann} {n : Nat} {V : Prop} (hm : P.follows .mixedOrders = true)
    (hf : P.funcs[f]? = some fn) (hb : fn.body = some (bodyOf fn)) (hn : l.length = n) (ok : okF P an fn (bodyOf fn) n = true) (hv : vcF P an fn (bodyOf fn) l w R = V) (h : V) : Calls P f l.toArray w R := by
  subst hn
  exact calls_of_vc an hm hf hb (by simpa using ok) (by subst hv; exact h)
end Go.VC
