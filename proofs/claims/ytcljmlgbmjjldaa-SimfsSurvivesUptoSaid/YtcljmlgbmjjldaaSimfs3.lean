/- The file system: names, what is told of it. -/
import Derived.Test.YtcljmlgbmjjldaaSimfs2
import Derived.Test.YtcljmlgbmjjldaaKeys
import Derived.Test.YtcljmlgbmjjldaaWide
import Derived.Laws.IdiomStrings
import Derived.Laws.BytesArg
namespace Go.Proofs.Ytcljmlgbmjjldaa.Fs
open Go Go.VC Go.RowKit Go.Proofs.Ytcljmlgbmjjldaa.F
set_option linter.unusedVariables false
set_option linter.unusedSimpArgs false
noncomputable def infP : TypeInfo := (Try.prog.info? tP).getD default
theorem infoP : Try.prog.info? tP = some infP ∧ infP.zero = some (.pointer none) ∧ infP.size = 1 ∧ infP.bytes = 8 := ⟨by kernel_rfl, by kernel_rfl, by kernel_rfl, by kernel_rfl⟩
noncomputable def infB : TypeInfo := (Try.prog.info? tB).getD default
theorem infoB : Try.prog.info? tB = some infB ∧ infB.zero = some (.int .u8 0) ∧ infB.size = 1 ∧ infB.bytes = 1 := ⟨by kernel_rfl, by kernel_rfl, by kernel_rfl, by kernel_rfl⟩
noncomputable def infC : TypeInfo := (Try.prog.info? tC).getD default
theorem infoC : Try.prog.info? tC = some infC ∧ infC.zero = some .nilFunc ∧ infC.size = 1 ∧ infC.bytes = 8 := ⟨by kernel_rfl, by kernel_rfl, by kernel_rfl, by kernel_rfl⟩
abbrev tPair : TypeId := 77
noncomputable def infQ : TypeInfo := (Try.prog.info? tPair).getD default
theorem infoQ : Try.prog.info? tPair = some infQ ∧ infQ.zero = some (.agg #[.string ByteArray.empty, .string ByteArray.empty]) ∧ infQ.size = 2 ∧ infQ.bytes = 32 := ⟨by kernel_rfl, by kernel_rfl, by kernel_rfl, by kernel_rfl⟩

/-! ### What is well formed -/
def ptrOf : Value → Nat
  | .pointer (some a) => a.block
  | _ => 0
def FS.at (s : FS) (x : Nat) : Fl := (s.files.find? fun f => f.g == x).getD ⟨0, ByteArray.empty, 0⟩
def FS.of (s : FS) (d : Kvs) (n : Str) : Fl := s.at (ptrOf ((kget n d).getD (.pointer none)))
structure DirOk (files : List Fl) (n : Nat) (d : Kvs) : Prop where
  nd : NodupK d
  few : d.length ≤ n
  ok : ∀ p ∈ d, p.1.size ≤ 64 ∧ ∃ f ∈ files, p.2 = fp f.g
def dirAt (s : FS) (k : Nat) : Kvs := (s.ch.take k).foldl Ch.on s.safe
structure WF (s : FS) (n : Nat) : Prop where
  nd : (s.files.map (·.g)).Nodup
  few : s.files.length ≤ n
  dirs : ∀ k, k ≤ s.ch.length → DirOk s.files n (dirAt s k)
  now : dirAt s s.ch.length = s.now
  chl : s.ch.length ≤ n
  fit : ∀ f ∈ s.files, f.safe ≤ f.data.size ∧ f.data.size ≤ 1073741824
  st0 : 0 ≤ s.steps
  st1 : s.steps ≤ n
  cr0 : 0 ≤ s.crash
  cr1 : s.crash ≤ n + 1099511627776
  fnd : IM.NodupK s.fails
  fok : ∀ p ∈ s.fails, ∃ k : Int, p.2 = .agg #[.int .i64 k]
theorem WF.nowOk {s : FS} {n : Nat} (h : WF s n) : DirOk s.files n s.now := h.now ▸ h.dirs _ (Nat.le_refl _)
theorem WF.safeOk {s : FS} {n : Nat} (h : WF s n) : DirOk s.files n s.safe := h.dirs 0 (Nat.zero_le _)
theorem kget_mem {k : Str} {v : Value} : ∀ {m : Kvs}, kget k m = some v → (k, v) ∈ m
  | [], h => by simp [kget] at h
  | p :: m, h => by
    simp only [kget] at h
    split at h
    · rename_i e; injection h with h; subst h; subst e; exact List.mem_cons_self ..
    · exact List.mem_cons_of_mem _ (kget_mem h)
theorem DirOk.get {files : List Fl} {n : Nat} {d : Kvs} (h : DirOk files n d) {k : Str} {v : Value} (hk : kget k d = some v) : ∃ f ∈ files, v = fp f.g := (h.ok _ (kget_mem hk)).2
theorem at_of {s : FS} (hn : (s.files.map (·.g)).Nodup) {f : Fl} (hf : f ∈ s.files) : s.at f.g = f := by
  unfold FS.at
  cases hc : s.files.find? (fun f' => f'.g == f.g) with
  | none => exact absurd (List.find?_eq_none.1 hc f hf) (by simp)
  | some f' =>
    have h1 := List.mem_of_find?_eq_some hc
    have h2 : f'.g = f.g := by have := List.find?_some hc; simpa using this
    exact same_file hn h1 hf h2
theorem of_of {s : FS} (hn : (s.files.map (·.g)).Nodup) {d : Kvs} {k : Str} {f : Fl} (hf : f ∈ s.files) (hk : kget k d = some (fp f.g)) : s.of d k = f := by
  unfold FS.of; rw [hk]; exact at_of hn hf

/-! ### Names -/
def goodB (c : Int) : Bool := decide (c = 46 ∨ c = 45 ∨ c = 95 ∨ (48 ≤ c ∧ c ≤ 57) ∨ (65 ≤ c ∧ c ≤ 90) ∨ (97 ≤ c ∧ c ≤ 122))
def dot : Str := ⟨#[46]⟩
def dots : Str := ⟨#[46, 46]⟩
def goodUpto (s : Str) (j : Nat) : Prop := ∀ i : Nat, i < j → goodB (byteAt s i) = true
instance (s : Str) (j : Nat) : Decidable (goodUpto s j) := inferInstanceAs (Decidable (∀ i : Nat, i < j → _))
def named (s : Str) : Bool := decide (s.size ≠ 0 ∧ s.size ≤ 64 ∧ s ≠ dot ∧ s ≠ dots ∧ goodUpto s s.size)
theorem named_size {s : Str} (h : named s = true) : s.size ≤ 64 := (of_decide_eq_true h).2.1
theorem strEq_nil {s : Str} : strEq s (ByteArray.mk #[]) = decide (s.size = 0) := by
  by_cases h : s.size = 0
  · have : s = ByteArray.mk #[] := by
      cases s with | mk d => congr 1; exact Array.eq_empty_of_size_eq_zero h
    rw [this, strEq_self]; rfl
  · rw [decide_eq_false h]
    exact strEq_ne fun e => h (by rw [e]; rfl)
theorem strEq_dec (a b : Str) : strEq a b = decide (a = b) := by
  by_cases h : a = b
  · rw [decide_eq_true h, h]; exact strEq_self b
  · rw [decide_eq_false h]; exact strEq_ne h
theorem named_k1 {s : Str} {w : World} {R : Ending → World → Prop} {b : Bool} (hs : s.size < 9223372036854775808) (hb : b = false → s.size ≠ 0 ∧ s.size ≤ 64 ∧ s ≠ dot ∧ s ≠ dots) (hb' : b = true → named s = false)
    (hR : R (.returned (.bool (named s))) w) : V130_k1 s b w R := by
  refine ⟨fun h => by rw [← hb' h]; exact hR, fun h => ?_⟩
  obtain ⟨q1, q2, q3, q4⟩ := hb h
  refine ⟨fun i w1 => w1 = w ∧ ∃ j : Nat, i = j ∧ j ≤ s.size ∧ goodUpto s j, fun i _ => s.size - i.toNat, ⟨rfl, 0, rfl, Nat.zero_le _, fun i hi => by omega⟩, ?_⟩
  rintro i w1 ⟨rfl, j, rfl, hj, hgood⟩
  refine ⟨fun hd => ?_, fun hd => ?_⟩
  · have hjl : j < s.size := by have := of_decide_eq_true hd; omega
    refine ⟨by omega, by omega, ?_⟩
    have H : ∀ {I : Int → World → Prop} {M : Int → World → Nat} (b2 : Bool) (_ : b2 = !goodB (byteAt s (j : Nat))) (_ : goodB (byteAt s (j : Nat)) = true → I (IntKind.wrap .i64 ((j : Int) + 1)) w1 ∧ M (IntKind.wrap .i64 ((j : Int) + 1)) w1 < M (j : Int) w1), V130_k2 I M (j : Int) w1 s ((ByteArray.size s : Nat) : Int) (j : Int) b2 w1 R := by
      intro I M b2 e2 hI
      refine ⟨fun h2 => ?_, fun h2 => ?_⟩
      · have hbad : goodB (byteAt s (j : Nat)) = false := by rw [h2] at e2; simpa using e2.symm
        have : named s = false := decide_eq_false fun hh => by have := hh.2.2.2.2 j hjl; rw [hbad] at this; cases this
        rw [← this]; exact hR
      · exact hI (by rw [h2] at e2; simpa using e2.symm)
    have next : goodB (byteAt s (j : Nat)) = true → (w1 = w1 ∧ ∃ j' : Nat, IntKind.wrap .i64 ((j : Int) + 1) = j' ∧ j' ≤ s.size ∧ goodUpto s j') ∧ s.size - (IntKind.wrap .i64 ((j : Int) + 1)).toNat < s.size - ((j : Nat) : Int).toNat := fun hg => by
      rw [w64s (by omega)]
      refine ⟨⟨rfl, j + 1, rfl, hjl, fun i hi => ?_⟩, by omega⟩
      rcases Nat.lt_or_ge i j with h1 | h1
      · exact hgood i h1
      · rw [show i = j by omega]; exact hg
    generalize hc : byteAt s ((j : Nat) : Int) = c at *
    repeat' (first | exact next | apply H | refine ⟨?_, ?_⟩ | (intro _))
    all_goals
      simp only [bne_iff_ne, ne_eq, decide_eq_false_iff_not, decide_eq_true_eq, Bool.not_true, Bool.not_false, bne_eq_false_iff_eq, Int.not_lt, gt_iff_lt] at *
      simp only [goodB]
      first
        | (rw [decide_eq_true (by omega)]; rfl)
        | (rw [decide_eq_false (by omega)]; rfl)
        | (by_cases h122 : (122 : Int) < c
           · rw [decide_eq_true h122, decide_eq_false (by omega)]; rfl
           · rw [decide_eq_false h122, decide_eq_true (by omega)]; rfl)
  · have hje : j = s.size := by have := of_decide_eq_false hd; omega
    subst hje
    rw [← show named s = true from decide_eq_true ⟨q1, q2, q3, q4, hgood⟩]; exact hR
theorem named_ok (s : Str) (w : World) (hs : s.size < 9223372036854775808) : Calls Try.prog 130 #[.string s] w fun e w' => e = .returned (.bool (named s)) ∧ w = w' := by
  refine v130 _ _ _ ?_
  unfold V130
  rw [strEq_nil, strEq_dec, strEq_dec]
  refine ⟨fun h1 => ⟨fun h2 => ⟨fun h3 => ?_, fun h3 => ?_⟩, fun h2 => ?_⟩, fun h1 => ?_⟩
  · have h1 := of_decide_eq_false h1
    have h2 := of_decide_eq_false h2
    have h3 := of_decide_eq_false h3
    refine named_k1 hs (fun h4 => ⟨h1, by omega, h3, of_decide_eq_false h4⟩) (fun h4 => decide_eq_false fun hh => hh.2.2.2.1 (of_decide_eq_true h4)) ⟨rfl, rfl⟩
  · have h3 : s = dot := of_decide_eq_true h3
    exact named_k1 hs (fun h => (by cases h)) (fun _ => decide_eq_false fun hh => hh.2.2.1 h3) ⟨rfl, rfl⟩
  · have h2 := of_decide_eq_true h2
    exact named_k1 hs (fun h => (by cases h)) (fun _ => decide_eq_false fun hh => by omega) ⟨rfl, rfl⟩
  · have h1 : s.size = 0 := of_decide_eq_true h1
    exact named_k1 hs (fun h => (by cases h)) (fun _ => decide_eq_false fun hh => hh.1 h1) ⟨rfl, rfl⟩

theorem rdGet {w : World} {v : Value} {l : List Str} (h : Rd w v (strs l)) : ∃ A c, v = .slice A l.length c ∧ ∀ (j : Nat) (s : Str), l[j]? = some s → ∃ a, A = some a ∧ w.cell? (a.add j) = some (.string s) := by
  obtain ⟨A, c, rfl, hc, h⟩ := h.ex
  rw [strs_length]
  refine ⟨A, c, rfl, fun j s hs => ?_⟩
  rcases h with ⟨_, h0, _⟩ | ⟨a, rfl, ha⟩
  · have : l = [] := by cases l <;> simp_all [strs]
    subst this; simp at hs
  · exact ⟨a, rfl, ha j _ (strs_get hs)⟩
def looks (s : FS) (there : Bool) (names : List Str) : Int :=
  if s.down then 203 else if names.all named then (if there && (kget (names.headD ByteArray.empty) s.now).isNone then 201 else 0) else 202
section
variable {w : World} {g : Nat} {s : FS} {F K : Nat → Prop} {n : Nat}
theorem cells_of (h : FSAt w g s F K) : ∃ vf vc vp r1 r2 r3, w.heap[g]? = some (.cells #[vf, .map (some r1), .map (some r2), vc, .bool s.down, .int .i64 s.steps, .map (some r3), .int .i64 s.crash, vp] tFS (0, 0)) ∧ MapAt w r1 s.now ∧ MapAt w r2 s.safe := by
  obtain ⟨vf, vc, vp, r1, r2, r3, dv, cvs, k⟩ := h.ex
  exact ⟨vf, vc, vp, r1, r2, r3, k.blk, k.now, k.safe⟩
theorem looks_ok (h : FSAt w g s F K) (hw : WF s n) {v : Value} {names : List Str} (hr : Rd w v (strs names)) (hne : 0 < names.length) (hl : names.length < 9223372036854775807) (hs : ∀ x ∈ names, x.size < 9223372036854775808) (there : Bool) :
    Calls Try.prog 93 #[.pointer (some ⟨g, 0, none⟩), .bool there, v] w fun e w' => e = .returned (.int .i64 (looks s there names)) ∧ Drawn w w' := by
  obtain ⟨A, c, rfl, hg⟩ := rdGet hr
  obtain ⟨vf, vc, vp, r1, r2, r3, hb, hm, _⟩ := cells_of h
  refine v93 _ _ _ _ _ _ _ ?_
  unfold V93
  simp only [add_mk, Nat.reduceAdd]
  refine ⟨s.down, cell_blk hb rfl, fun hd => ⟨by unfold looks; rw [if_pos hd], Drawn.refl _⟩, fun hd => ?_⟩
  refine ⟨fun i w1 => w1 = w ∧ ∃ j : Nat, i = j ∧ j ≤ names.length ∧ (names.take j).all named = true, fun i _ => names.length - i.toNat, ⟨rfl, 0, rfl, Nat.zero_le _, rfl⟩, ?_⟩
  rintro i w1 ⟨rfl, j, rfl, hj, hall⟩
  refine ⟨fun hlt => ?_, fun hlt => ?_⟩
  · have hjl : j < names.length := by have := of_decide_eq_true hlt; omega
    obtain ⟨a, rfl, hcell⟩ := hg j names[j] (List.getElem?_eq_getElem hjl)
    refine ⟨by omega, by omega, names[j], by rw [toNatN, Nat.mul_one]; exact hcell, (named_ok _ _ (hs _ (List.getElem_mem hjl))).mono ?_⟩
    rintro e w2 ⟨rfl, rfl⟩
    refine ⟨_, rfl, fun hb2 => ⟨?_, Drawn.refl _⟩, fun hb2 => ⟨⟨rfl, j + 1, w64s (by omega), hjl, ?_⟩, ?_⟩⟩
    · have : names.all named = false := by
        rw [List.all_eq_false]
        exact ⟨names[j], List.getElem_mem hjl, by simpa using hb2⟩
      unfold looks; rw [if_neg (by rw [hd]; decide), if_neg (by rw [this]; decide)]
    · rw [List.take_succ_eq_append_getElem hjl, List.all_append, hall]; simpa using hb2
    · show names.length - (IntKind.wrap .i64 ((j : Int) + 1)).toNat < names.length - ((j : Nat) : Int).toNat
      rw [w64s (by omega)]; omega
  · have hje : j = names.length := by have := of_decide_eq_false hlt; omega
    subst hje
    rw [List.take_length] at hall
    intro w3 d3
    refine ⟨fun ht => ?_, fun ht w6 d6 => ?_⟩
    · obtain ⟨a, rfl, hcell⟩ := hg 0 names[0] (List.getElem?_eq_getElem hne)
      have hb3 := d3.blk hb
      have hm3 := hm.chg (d3.chg (fun _ => False)) id
      have hhd : names.headD ByteArray.empty = names[0] := by cases names with | nil => simp at hne | cons a l => rfl
      refine ⟨by decide, by omega, some r1, cell_blk hb3 rfl, names[0], d3.ext.cell hcell, ?_⟩
      have fin : ∀ {w4}, Drawn w3 w4 → ∀ (p : Option Addr), kget names[0] s.now = p.map (fun a => Value.pointer (some a)) → V93_k1 (Option.isNone p) w4 (fun e w' => e = .returned (.int .i64 (looks s there names)) ∧ Drawn w1 w') := by
        intro w4 d4 p hp
        have hlk : looks s there names = if p.isNone then 201 else 0 := by
          unfold looks
          rw [if_neg (by rw [hd]; decide), if_pos hall, hhd, hp, ht, Bool.true_and]
          cases p <;> rfl
        refine ⟨fun hpn => ⟨by rw [hlk, if_pos hpn], d3.trans d4⟩, fun hpn => ⟨by rw [hlk, if_neg (by rw [hpn]; decide)], d3.trans d4⟩⟩
      have hlook : ∀ w0, Ext w3 w0 → (Instr.lookup 126 (.map (some r1)) (.string names[0]) false).run Try.prog w0 = .ok ((kget names[0] s.now).getD (.pointer none)) w0 := fun w0 he => by
        obtain ⟨es, clk, h1, hst, h2⟩ := hm3.ex
        have : MapAt w0 r1 s.now := ⟨es, clk, by rw [he.2 r1 (lt_blk h1)]; exact h1, hst, h2⟩
        exact run_lookup1 Try.underlying126 Try.underlying9 infoP.1 infoP.2.1 this _
      cases hk : kget names[0] s.now with
      | none => exact ⟨none, fun w0 he => by rw [hlook w0 he, hk]; rfl, fun w4 d4 => fin d4 none hk⟩
      | some u =>
        obtain ⟨f, hf, rfl⟩ := hw.nowOk.get hk
        exact ⟨some ⟨f.g, 0, none⟩, fun w0 he => by rw [hlook w0 he, hk]; rfl, fun w4 d4 => fin d4 (some ⟨f.g, 0, none⟩) hk⟩
    · have ht' : there = false := by simpa using ht
      have hlk : looks s there names = 0 := by unfold looks; rw [if_neg (by rw [hd]; decide), if_pos hall, ht']; rfl
      exact ⟨fun h => (by cases h), fun _ => ⟨by rw [hlk], d3.trans d6⟩⟩
theorem looks_there {s : FS} {name : Str} {l : List Str} (h : looks s true (name :: l) = 0) : s.down = false ∧ named name = true ∧ (l.all named) = true ∧ ∃ v, kget name s.now = some v := by
  unfold looks at h
  split at h
  · cases h
  split at h
  · split at h
    · cases h
    · rename_i h1 h2 h3
      simp only [List.all_cons, Bool.and_eq_true] at h2
      refine ⟨by simpa using h1, h2.1, h2.2, ?_⟩
      simp only [List.headD_cons, Bool.true_and] at h3
      cases hk : kget name s.now with
      | none => rw [hk] at h3; simp at h3
      | some v => exact ⟨v, rfl⟩
  · cases h
theorem up_ok (h : FSAt w g s F K) : Calls Try.prog 45 #[.pointer (some ⟨g, 0, none⟩)] w fun e w' => e = .returned (.bool (!s.down)) ∧ w = w' := by
  obtain ⟨vf, vc, vp, r1, r2, r3, hb, hm, _⟩ := cells_of h
  refine v45 _ _ _ ?_
  unfold V45
  simp only [add_mk, Nat.reduceAdd]
  exact ⟨s.down, cell_blk hb rfl, rfl, trivial⟩
theorem steps_ok (h : FSAt w g s F K) : Calls Try.prog 81 #[.pointer (some ⟨g, 0, none⟩)] w fun e w' => e = .returned (.int .i64 s.steps) ∧ w = w' := by
  obtain ⟨vf, vc, vp, r1, r2, r3, hb, hm, _⟩ := cells_of h
  refine v81 _ _ _ ?_
  unfold V81
  simp only [add_mk, Nat.reduceAdd]
  exact ⟨s.steps, cell_blk hb rfl, rfl, trivial⟩
def FS.start (s : FS) : FS × Int := if s.down then ({ s with down := false }, 0) else (s, 1)
theorem start_ok (h : FSAt w g s F K) : Calls Try.prog 46 #[.pointer (some ⟨g, 0, none⟩)] w fun e w' => e = .returned (.int .i64 s.start.2) ∧ Went w w' g s.start.1 F K := by
  obtain ⟨vf, vc, vp, r1, r2, r3, dv, cvs, k⟩ := h.ex
  refine v46 _ _ _ ?_
  unfold V46
  simp only [add_mk, Nat.reduceAdd]
  refine ⟨s.down, cell_blk k.blk rfl, fun hd => ?_, fun hd => ⟨⟨_, cell_blk k.blk rfl⟩, frozen_blk k.blk, fun w1 hw1 => ?_⟩⟩
  · have : s.down = false := by simpa using hd
    unfold FS.start; rw [if_neg (by rw [this]; decide)]
    exact ⟨rfl, Went.refl h⟩
  · have : s.down = true := by simpa using hd
    unfold FS.start; rw [if_pos this]
    obtain ⟨hb, hc⟩ := store_blk k.blk hw1
    exact ⟨rfl, Went.of ⟨_, _, _, _, _, _, _, _, k.scal hc hb⟩ (hc.mono fun b e => e ▸ k.Fg)⟩
end
end Go.Proofs.Ytcljmlgbmjjldaa.Fs
