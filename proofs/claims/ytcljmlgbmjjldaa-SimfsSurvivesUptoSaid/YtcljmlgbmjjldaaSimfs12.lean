/- The file system: in new blocks; works; find. -/
import Derived.Test.YtcljmlgbmjjldaaSimfs11
import Derived.KernelRfl
namespace Go.Proofs.Ytcljmlgbmjjldaa.Fs
open Go Go.VC Go.RowKit Go.Proofs.Ytcljmlgbmjjldaa.F
set_option linter.unusedVariables false
set_option linter.unusedSimpArgs false
/-- a file system in new blocks -/
structure Run (w w1 : World) (g : Nat) (s : FS) (n : Nat) : Prop where
  ex : ∃ F K, FSAt w1 g s F K ∧ (∀ b, F b → w.heap.size ≤ b) ∧ ∀ b, K b → w.heap.size ≤ b
  chg : Chg (fun _ => False) w w1
  wf : WF s n
section
variable {w w1 w2 : World} {g : Nat} {s s' : FS} {n m : Nat}
theorem Run.went (h : Run w w1 g s n) (hw : ∀ F K, FSAt w1 g s F K → Went w1 w2 g s' F K) (hf : WF s' m) : Run w w2 g s' m := by
  obtain ⟨F, K, h1, h2, h3⟩ := h.ex
  obtain ⟨F', K', k1, k2, k3, k4⟩ := (hw F K h1).ex
  exact ⟨⟨F', K', k1, fun b hb => (k2 b hb).elim (h2 b) (Nat.le_trans h.chg.size), fun b hb => (k3 b hb).elim (h3 b) (Nat.le_trans h.chg.size)⟩, h.chg.trans k4 fun b hb => .inr (h2 b hb), hf⟩
theorem Run.keep (h : Run w w1 g s n) (hc : Chg (fun _ => False) w1 w2) : Run w w2 g s n := by
  obtain ⟨F, K, h1, h2, h3⟩ := h.ex
  exact ⟨⟨F, K, h1.chg0 hc, h2, h3⟩, h.chg.trans' hc, h.wf⟩
/-- other blocks, that are new as well, are written -/
theorem Run.call {f : FuncId} {args : Array Value} {E : Ending} (h : Run w w1 g s n) (hc : ∀ F K, FSAt w1 g s F K → Calls Try.prog f args w1 fun e w2 => e = E ∧ Went w1 w2 g s' F K) (hf : WF s' m) :
    Calls Try.prog f args w1 fun e w2 => e = E ∧ Run w w2 g s' m := by
  obtain ⟨F, K, h1, h2, h3⟩ := h.ex
  refine (hc F K h1).mono ?_
  rintro e w2 ⟨rfl, hw⟩
  obtain ⟨F', K', k1, k2, k3, k4⟩ := hw.ex
  exact ⟨rfl, ⟨F', K', k1, fun b hb => (k2 b hb).elim (h2 b) (Nat.le_trans h.chg.size), fun b hb => (k3 b hb).elim (h3 b) (Nat.le_trans h.chg.size)⟩, h.chg.trans k4 fun b hb => .inr (h2 b hb), hf⟩
theorem Run.by1 (h : Run w w1 g s n) {F K : Nat → Prop} (f2 : ∀ b, F b → w.heap.size ≤ b) (f3 : ∀ b, K b → w.heap.size ≤ b) (hw : Went w1 w2 g s' F K) (hf : WF s' m) : Run w w2 g s' m := by
  obtain ⟨F', K', k1, k2, k3, k4⟩ := hw.ex
  exact ⟨⟨F', K', k1, fun b hb => (k2 b hb).elim (f2 b) (Nat.le_trans h.chg.size), fun b hb => (k3 b hb).elim (f3 b) (Nat.le_trans h.chg.size)⟩, h.chg.trans k4 fun b hb => .inr (f2 b hb), hf⟩
theorem run_new (w : World) : Calls Try.prog 38 #[] w fun e w1 => ∃ g, e = .returned (.pointer (some ⟨g, 0, none⟩)) ∧ Run w w1 g FS.new 0 := by
  refine (new_ok w).mono ?_
  rintro e w1 ⟨g, F, K, rfl, h1, h2, h3, h4⟩
  exact ⟨g, rfl, ⟨F, K, h1, h2, h3⟩, h4, WF.new⟩
end
/-! ### works -/
def kA : Str := ⟨#[97]⟩
def kB : Str := ⟨#[98]⟩
def kAB : Str := ⟨#[97, 47, 98]⟩
def tXY : Str := ⟨#[120, 121]⟩
def tZ : Str := ⟨#[122]⟩
def tXYZ : Str := ⟨#[120, 121, 122]⟩
def wkS (x : Nat) (d : Str) (k : Nat) (safe : Kvs) (ch : List Ch) (down : Bool) (steps : Int) : FS := ⟨[⟨x, d, k⟩], [(kA, fp x)], safe, ch, down, steps, [], 0, []⟩
section
variable (x : Nat)
theorem wk_of (d : Str) (k : Nat) (safe : Kvs) (ch : List Ch) (down : Bool) (steps : Int) : (wkS x d k safe ch down steps).of (wkS x d k safe ch down steps).now kA = ⟨x, d, k⟩ :=
  of_of (s := wkS x d k safe ch down steps) (by simp [wkS]) (by simp [wkS]) (by kernel_rfl)
theorem wk_looks (d : Str) (k : Nat) (safe : Kvs) (ch : List Ch) (steps : Int) : looks (wkS x d k safe ch false steps) true [kA] = 0 := by kernel_rfl
theorem wk_step (d : Str) (k : Nat) (safe : Kvs) (ch : List Ch) {n m : Int} (h : m = n + 1) (h0 : m ≠ 0) : (wkS x d k safe ch false n).step = (wkS x d k safe ch false m, 0, 0) := by
  subst h
  unfold FS.step
  rw [if_neg (by show ¬ (0 : Int) = n + 1; exact fun e => h0 e.symm)]
  rfl
theorem wk_append (d e : Str) (k : Nat) (safe : Kvs) (ch : List Ch) {n m : Int} (h : m = n + 1) (h0 : m ≠ 0) (hl : ¬ (e.size : Int) > 1073741824 - d.size) : (wkS x d k safe ch false n).append kA e = (wkS x (d ++ e) k safe ch false m, 0) := by
  unfold FS.append
  rw [wk_looks, if_neg (by decide), wk_of, if_neg hl, wk_step x d k safe ch h h0, if_neg (by show ¬ (0 : Int) = 203; decide), if_neg (by show ¬ (0 : Int) = 200; decide)]
  simp [wkS, setF]
theorem wk_sync (d : Str) (k : Nat) (safe : Kvs) (ch : List Ch) {n m : Int} (h : m = n + 1) (h0 : m ≠ 0) : (wkS x d k safe ch false n).sync kA = (wkS x d d.size safe ch false m, 0) := by
  unfold FS.sync
  rw [wk_looks, if_neg (by decide), wk_of, wk_step x d k safe ch h h0, if_neg (by show ¬ (0 : Int) ≠ 0; decide)]
  simp [wkS, setF]
theorem wk_read (d : Str) (k : Nat) (safe : Kvs) (ch : List Ch) (n : Int) : (wkS x d k safe ch false n).read kA = (d, 0) := by
  unfold FS.read
  rw [wk_looks, if_pos rfl, wk_of]
theorem wk_syncDir (d : Str) (k : Nat) (safe : Kvs) (ch : List Ch) {n m : Int} (h : m = n + 1) (h0 : m ≠ 0) : (wkS x d k safe ch false n).syncDir = (wkS x d k [(kA, fp x)] [] false m, 0) := by
  unfold FS.syncDir
  rw [if_neg (by show ¬ false = true; decide), wk_step x d k safe ch h h0, if_neg (by show ¬ (0 : Int) ≠ 0; decide)]
  rfl
theorem wk_create : FS.new.create kA x = (wkS x ByteArray.empty 0 [] [.cre kA x] false 1, 0) := by kernel_rfl
theorem wk_crash : (wkS x tXYZ 2 [(kA, fp x)] [] false 5).crashAt 0 [] = (wkS x tXY 2 [(kA, fp x)] [] true 5, 0) := by kernel_rfl
theorem wk_b (y : Nat) : ((wkS x tXY 2 [(kA, fp x)] [] true 5).create kB y) = (wkS x tXY 2 [(kA, fp x)] [] true 5, 203) := by kernel_rfl
theorem wk_ab (y : Nat) : ((wkS x tXY 2 [(kA, fp x)] [] false 5).create kAB y) = (wkS x tXY 2 [(kA, fp x)] [] false 5, 202) := by kernel_rfl
end
theorem works_ok (w : World) : Calls Try.prog 39 #[] w fun e w' => e = .returned (.bool true) ∧ Chg (fun _ => False) w w' := by
  refine v39 _ _ ?_
  unfold V39
  refine (run_new w).mono ?_
  rintro e w1 ⟨g, rfl, h1⟩
  refine ⟨_, rfl, fun _ => ?_, fun h => (by cases h)⟩
  obtain ⟨F, K, f1, f2, f3⟩ := h1.ex
  refine (create_ok (name := kA) f1 h1.wf (by decide) (by decide)).mono ?_
  rintro e w2 ⟨x, rfl, hw2, hx⟩
  rw [wk_create]
  have hwf2 := h1.wf.create kA hx
  rw [wk_create] at hw2 hwf2
  have r2 := h1.by1 f2 f3 hw2 hwf2
  refine ⟨_, rfl, fun _ => ?_, fun h => (by cases h)⟩
  have a3 := wk_append x ByteArray.empty tXY 0 [] [.cre kA x] (n := 1) (m := 2) (by decide) (by decide) (by decide)
  refine (r2.call (fun F K h => append_ok (data := tXY) h r2.wf (by decide) (name := kA) (by decide) (by decide)) (r2.wf.append _ _)).mono ?_
  rw [a3]
  rintro e w3 ⟨rfl, r3⟩
  refine ⟨_, rfl, fun _ => ?_, fun h => (by cases h)⟩
  have a4 := wk_sync x (ByteArray.empty ++ tXY) 0 [] [.cre kA x] (n := 2) (m := 3) (by decide) (by decide)
  refine (r3.call (fun F K h => sync_ok h r3.wf (by decide) (name := kA) (by decide)) (r3.wf.sync _)).mono ?_
  rw [a4]
  rintro e w4 ⟨rfl, r4⟩
  refine ⟨_, rfl, fun _ => ?_, fun h => (by cases h)⟩
  have a5 := wk_syncDir x (ByteArray.empty ++ tXY) (ByteArray.empty ++ tXY).size [] [.cre kA x] (n := 3) (m := 4) (by decide) (by decide)
  refine (r4.call (fun F K h => syncDir_ok h r4.wf (by decide)) r4.wf.syncDir).mono ?_
  rw [a5]
  rintro e w5 ⟨rfl, r5⟩
  refine ⟨_, rfl, fun _ => ?_, fun h => (by cases h)⟩
  have a6 := wk_append x (ByteArray.empty ++ tXY) tZ (ByteArray.empty ++ tXY).size [(kA, fp x)] [] (n := 4) (m := 5) (by decide) (by decide) (by decide)
  refine (r5.call (fun F K h => append_ok (data := tZ) h r5.wf (by decide) (name := kA) (by decide) (by decide)) (r5.wf.append _ _)).mono ?_
  rw [a6]
  rintro e w6 ⟨rfl, r6⟩
  rw [show ByteArray.empty ++ tXY ++ tZ = tXYZ by kernel_rfl, show (ByteArray.empty ++ tXY).size = 2 by kernel_rfl] at r6
  refine ⟨_, rfl, fun h => (by cases h), fun _ => ?_⟩
  obtain ⟨F6, K6, q1, q2, q3⟩ := r6.ex
  refine (read_ok (name := kA) q1 r6.wf (by decide)).mono ?_
  rw [wk_read]
  rintro e w8 ⟨rfl, c8⟩
  have r8 := r6.keep c8
  refine ⟨_, _, rfl, fun _ => ⟨fun _ => ?_, fun h => (by cases h)⟩, fun h => absurd h (by show ¬ (!strEq tXYZ tXYZ) = !false; rw [strEq_self]; decide)⟩
  obtain ⟨F8, K8, p1, p2, p3⟩ := r8.ex
  refine (steps_ok p1).mono ?_
  rintro e w9 ⟨rfl, rfl⟩
  refine ⟨_, rfl, fun _ => ?_, fun h => (by cases h)⟩
  refine (r8.call (s' := ((wkS x tXYZ 2 [(kA, fp x)] [] false 5).crashAt 0 []).1) (fun F K h => crash_ok h r8.wf (by decide) 0 (v := .slice none 0 0) (l := []) ⟨none, 0, rfl, Nat.le_refl _, .inl ⟨rfl, rfl, rfl⟩⟩ (by decide)) (r8.wf.crashAt 0 [])).mono ?_
  rw [wk_crash]
  rintro e w10 ⟨rfl, r10⟩
  refine ⟨_, rfl, fun _ => ?_, fun h => (by cases h)⟩
  obtain ⟨F10, K10, t1, t2, t3⟩ := r10.ex
  refine (up_ok t1).mono ?_
  rintro e w11 ⟨rfl, rfl⟩
  refine ⟨_, rfl, fun _ => ?_, fun h => (by cases h)⟩
  refine (create_ok (name := kB) t1 r10.wf (by decide) (by decide)).mono ?_
  rintro e w12 ⟨y, rfl, hw12, _⟩
  rw [wk_b] at hw12 ⊢
  have r12 := r10.by1 t2 t3 hw12 r10.wf
  refine ⟨_, rfl, fun _ => ?_, fun h => (by cases h)⟩
  refine (r12.call (fun F K h => start_ok h) r12.wf.start).mono ?_
  rintro e w13 ⟨rfl, r13⟩
  have r13 : Run w w13 g (wkS x tXY 2 [(kA, fp x)] [] false 5) _ := r13
  refine ⟨_, rfl, fun h => (by cases h), fun _ => ?_⟩
  obtain ⟨F13, K13, u1, u2, u3⟩ := r13.ex
  refine (read_ok (name := kA) u1 r13.wf (by decide)).mono ?_
  rw [wk_read]
  rintro e w14 ⟨rfl, c14⟩
  have r14 := r13.keep c14
  refine ⟨_, _, rfl, fun _ => ⟨fun _ => ?_, fun h => (by cases h)⟩, fun h => absurd h (by show ¬ strEq tXY tXY = !true; rw [strEq_self]; decide)⟩
  obtain ⟨F14, K14, z1, z2, z3⟩ := r14.ex
  refine (create_ok (name := kAB) z1 r14.wf (by decide) (by decide)).mono ?_
  rintro e w15 ⟨z, rfl, hw15, _⟩
  rw [wk_ab] at hw15 ⊢
  exact ⟨_, rfl, rfl, (r14.by1 z2 z3 hw15 r14.wf).chg⟩
/-! ### find -/
/-- pairs that stand behind a slice's address -/
def PairsAt (w : World) (A : Option Addr) (l : List (Str × Str)) : Prop :=
  ∀ (j : Nat) (p : Str × Str), l[j]? = some p → ∃ a, A = some a ∧ w.cell? (a.add (j * 2)) = some (.string p.1) ∧ w.cell? ((a.add (j * 2)).add 1) = some (.string p.2)
theorem pcells_get : ∀ (l : List (Str × Str)) (j : Nat) (p : Str × Str), l[j]? = some p → (pcells l)[j * 2]? = some (.string p.1) ∧ (pcells l)[j * 2 + 1]? = some (.string p.2)
  | [], j, p, h => by simp at h
  | q :: l, 0, p, h => by simp at h; subst h; exact ⟨rfl, rfl⟩
  | q :: l, j + 1, p, h => by
    have := pcells_get l j p (by simpa using h)
    rw [show (j + 1) * 2 = j * 2 + 2 by omega]
    exact this
theorem pcells_length : ∀ l : List (Str × Str), (pcells l).length = l.length * 2
  | [] => rfl
  | p :: l => by
    show ((_ : Value) :: (_ : Value) :: pcells l).length = _
    rw [List.length_cons, List.length_cons, pcells_length l, List.length_cons]; omega
theorem OwnW.pairs {w : World} {v : Value} {n : Nat} {l : List (Str × Str)} (h : OwnW w tPair 2 v n (pcells l)) : ∃ A c, v = .slice A n c ∧ n = l.length ∧ PairsAt w A l := by
  obtain ⟨A, c, rfl⟩ := h.slice
  have hl := h.len
  have hpl := pcells_length l
  refine ⟨A, c, rfl, by omega, fun j p hp => ?_⟩
  obtain ⟨h1, h2⟩ := pcells_get l j p hp
  obtain ⟨g1, c1, e1, hc1, _⟩ := OwnW.at h h1
  obtain ⟨g2, c2, e2, hc2, _⟩ := OwnW.at h h2
  injection e1 with e1 _ _
  injection e2 with e2 _ _
  rw [e1] at e2
  injection e2 with e2
  injection e2 with e2
  subst e2
  exact ⟨⟨g1, 0, none⟩, e1, by rw [add_mk, Nat.zero_add]; exact hc1, by rw [add_mk, add_mk, Nat.zero_add]; exact hc2⟩
theorem PairsAt.chg {w w' : World} {A : Option Addr} {l : List (Str × Str)} (h : PairsAt w A l) (hc : Chg (fun _ => False) w w') : PairsAt w' A l := fun j p hp => by
  obtain ⟨a, h1, h2, h3⟩ := h j p hp
  exact ⟨a, h1, cell_chg hc id h2, cell_chg hc id h3⟩
def findP (name : Str) : List (Str × Str) → Option Str
  | [] => none
  | p :: l => if p.1 = name then some p.2 else findP name l
theorem findP_take {name : Str} : ∀ {l : List (Str × Str)} {j : Nat} {p : Str × Str}, l[j]? = some p → findP name (l.take j) = none → findP name (l.take (j + 1)) = if p.1 = name then some p.2 else none
  | [], j, p, h, _ => by simp at h
  | q :: l, 0, p, h, _ => by simp at h; subst h; rfl
  | q :: l, j + 1, p, h, hn => by
    simp only [List.take_succ_cons, findP] at hn ⊢
    split at hn
    · cases hn
    · rename_i e; rw [if_neg e]; exact findP_take (by simpa using h) hn
theorem findP_more {name : Str} {v : Str} : ∀ {l m : List (Str × Str)}, findP name l = some v → findP name (l ++ m) = some v
  | [], m, h => by simp [findP] at h
  | q :: l, m, h => by
    simp only [List.cons_append, findP] at h ⊢
    split at h
    · rename_i e; rw [if_pos e]; exact h
    · rename_i e; rw [if_neg e]; exact findP_more h
theorem find_ok {w : World} {A : Option Addr} {c : Nat} {l : List (Str × Str)} (h : PairsAt w A l) (hl : l.length < 9223372036854775807) (name : Str) :
    Calls Try.prog 44 #[.slice A l.length c, .string name] w fun e w' => e = .returned (.tuple #[.string ((findP name l).getD (ByteArray.mk #[])), .bool (findP name l).isSome]) ∧ w = w' := by
  refine v44 _ _ _ _ _ _ ?_
  refine ⟨fun i w1 => w1 = w ∧ ∃ j : Nat, i = j ∧ j ≤ l.length ∧ findP name (l.take j) = none, fun i _ => l.length - i.toNat, ⟨rfl, 0, rfl, Nat.zero_le _, rfl⟩, ?_⟩
  rintro i w1 ⟨rfl, j, rfl, hj, hno⟩
  refine ⟨fun hlt => ?_, fun hlt => ?_⟩
  · have hjl : j < l.length := by have := of_decide_eq_true hlt; omega
    have hget := List.getElem?_eq_getElem hjl
    generalize l[j] = p at hget
    obtain ⟨a, rfl, h1, h2⟩ := h j p hget
    have ht := findP_take (name := name) hget hno
    refine ⟨by omega, by omega, p.1, by rw [toNatN]; exact h1, fun he => ?_, fun he => ⟨⟨rfl, j + 1, w64s (by omega), hjl, ?_⟩, ?_⟩⟩
    · have he := strEq_iff.1 he
      rw [if_pos he] at ht
      have hf : findP name l = some p.2 := by rw [← List.take_append_drop (j + 1) l]; exact findP_more ht
      refine ⟨by omega, by omega, p.2, by rw [toNatN]; exact h2, ?_⟩
      rw [hf]; exact ⟨rfl, rfl⟩
    · rw [ht, if_neg fun e => by rw [strEq_iff.2 e] at he; cases he]
    · show l.length - (IntKind.wrap .i64 ((j : Int) + 1)).toNat < l.length - ((j : Nat) : Int).toNat
      rw [w64s (by omega)]; omega
  · have hje : j = l.length := by have := of_decide_eq_false hlt; omega
    subst hje
    rw [List.take_length] at hno
    rw [hno]; exact ⟨rfl, rfl⟩
end Go.Proofs.Ytcljmlgbmjjldaa.Fs
