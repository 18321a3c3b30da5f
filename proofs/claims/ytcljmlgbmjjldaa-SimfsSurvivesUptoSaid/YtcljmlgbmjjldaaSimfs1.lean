/- The file system: what stands in memory. -/
import Derived.Test.YtcljmlgbmjjldaaF8
import Derived.Test.YtcljmlgbmjjldaaIMaps
import Derived.Test.YtcljmlgbmjjldaaAppends
import Derived.Test.YtcljmlgbmjjldaaDict1
namespace Go.Proofs.Ytcljmlgbmjjldaa.Fs
open Go Go.VC Go.RowKit Go.Proofs.Ytcljmlgbmjjldaa.F
set_option linter.unusedVariables false
set_option linter.unusedSimpArgs false
/-! the types: *file, byte, change, FS, file -/
abbrev tP : TypeId := 137
abbrev tB : TypeId := 5
abbrev tC : TypeId := 149
abbrev tFS : TypeId := 131
abbrev tF : TypeId := 140
abbrev kCre : Nat := 125
abbrev kRen : Nat := 126
abbrev kRem : Nat := 127

/-- the pointer to a file -/
abbrev fp (x : Nat) : Value := .pointer (some ⟨x, 0, none⟩)
def ints (l : List Int) : List Value := l.map (Value.int .i64)
/-- a file: its block, its bytes, how many of them are safe -/
structure Fl where
  g : Nat
  data : Str
  safe : Nat
inductive Ch where
  | cre (n : Str) (x : Nat)
  | ren (a b : Str)
  | rem (a : Str)
def Ch.on (d : Kvs) : Ch → Kvs
  | .cre n x => upd n (fp x) d
  | .ren a b => upd b ((kget a d).getD (.pointer none)) (del a d)
  | .rem a => del a d
structure FS where
  files : List Fl
  now : Kvs
  safe : Kvs
  ch : List Ch
  down : Bool
  steps : Int
  fails : IM.Kvs
  crash : Int
  picks : List Int

/-- a change's closure; what it has caught stands in blocks that are never written -/
def ChAt (w : World) (K : Nat → Prop) (v : Value) : Ch → Prop
  | .cre n x => ∃ cx cn, v = .func (.func kCre) #[] #[.pointer (some ⟨cx, 0, none⟩), .pointer (some ⟨cn, 0, none⟩)] ∧ w.cell? ⟨cx, 0, none⟩ = some (fp x) ∧ w.cell? ⟨cn, 0, none⟩ = some (.string n) ∧ K cx ∧ K cn
  | .ren a b => ∃ ca cb, v = .func (.func kRen) #[] #[.pointer (some ⟨ca, 0, none⟩), .pointer (some ⟨cb, 0, none⟩)] ∧ w.cell? ⟨ca, 0, none⟩ = some (.string a) ∧ w.cell? ⟨cb, 0, none⟩ = some (.string b) ∧ K ca ∧ K cb
  | .rem a => ∃ ca, v = .func (.func kRem) #[] #[.pointer (some ⟨ca, 0, none⟩)] ∧ w.cell? ⟨ca, 0, none⟩ = some (.string a) ∧ K ca
theorem cell_chg {G : Nat → Prop} {w w' : World} (hc : Chg G w w') {a : Addr} {u : Value} (hn : ¬ G a.block) (h : w.cell? a = some u) : w'.cell? a = some u :=
  (World.cell?_of_block (hc.block a.block (World.block_lt_of_cell? w a h) hn)).trans h
theorem ChAt.chg {G K K' : Nat → Prop} {w w' : World} {v : Value} {c : Ch} (h : ChAt w K v c) (hc : Chg G w w') (hn : ∀ b, K b → ¬ G b) (hk : ∀ b, K b → K' b) : ChAt w' K' v c := by
  cases c with
  | cre n x => obtain ⟨cx, cn, h1, h2, h3, h4, h5⟩ := h; exact ⟨cx, cn, h1, cell_chg hc (hn _ h4) h2, cell_chg hc (hn _ h5) h3, hk _ h4, hk _ h5⟩
  | ren a b => obtain ⟨cx, cn, h1, h2, h3, h4, h5⟩ := h; exact ⟨cx, cn, h1, cell_chg hc (hn _ h4) h2, cell_chg hc (hn _ h5) h3, hk _ h4, hk _ h5⟩
  | rem a => obtain ⟨cx, h1, h2, h4⟩ := h; exact ⟨cx, h1, cell_chg hc (hn _ h4) h2, hk _ h4⟩

/-- what kind of block is it? -/
def tag (w : World) (b : Nat) : Option Nat :=
  match w.heap[b]? with
  | some (.cells _ t _) => some (t + 1)
  | some (.map _ _) => some 0
  | _ => none
theorem tag_cells {w : World} {b : Nat} {cs : Array Value} {t : TypeId} {fr : Nat × Nat} (h : w.heap[b]? = some (.cells cs t fr)) : tag w b = some (t + 1) := by simp [tag, h]
theorem tag_map {w : World} {b : Nat} {m : Kvs} (h : MapAt w b m) : tag w b = some 0 := by
  obtain ⟨es, clk, h1, _⟩ := h.ex; simp [tag, h1]
theorem tag_imap {w : World} {b : Nat} {m : IM.Kvs} (h : IM.MapAt w b m) : tag w b = some 0 := by
  obtain ⟨es, clk, h1, _⟩ := h.ex; simp [tag, h1]
theorem tag_own {w : World} {e : TypeId} {v : Value} {n : Nat} {xs : List Value} (h : Own w e v n xs) {b : Nat} (hb : v.ownBlock = some b) : tag w b = some (e + 1) := by
  rcases h.2 with ⟨rfl, _⟩ | ⟨g, cap, cur, rfl, _, hh, _⟩
  · simp [Value.ownBlock] at hb
  · simp only [Value.ownBlock, Option.some.injEq] at hb; subst hb; exact tag_cells hh

/-- where a file system stands: F: the blocks that it may write; K: those that it reads and nobody writes -/
structure FSL (w : World) (g : Nat) (s : FS) (F K : Nat → Prop) (vf vc vp : Value) (r1 r2 r3 : Nat) (dv : Nat → Value) (cvs : List Value) : Prop where
  blk : w.heap[g]? = some (.cells #[vf, .map (some r1), .map (some r2), vc, .bool s.down, .int .i64 s.steps, .map (some r3), .int .i64 s.crash, vp] tFS (0, 0))
  now : MapAt w r1 s.now
  safe : MapAt w r2 s.safe
  fails : IM.MapAt w r3 s.fails
  files : Own w tP vf s.files.length (s.files.map fun f => fp f.g)
  fblk : ∀ f ∈ s.files, w.heap[f.g]? = some (.cells #[dv f.g, .int .i64 f.safe] tF (0, 0))
  data : ∀ f ∈ s.files, Own w tB (dv f.g) f.data.size (byteCells f.data)
  dsep : ∀ f ∈ s.files, ∀ f' ∈ s.files, ∀ b, (dv f.g).ownBlock = some b → (dv f'.g).ownBlock = some b → f.g = f'.g
  chs : Own w tC vc s.ch.length cvs
  cha : ∀ (i : Nat) (v : Value) (c : Ch), cvs[i]? = some v → s.ch[i]? = some c → ChAt w K v c
  picks : Rd w vp (ints s.picks)
  pk : ∀ b, vp.ownBlock = some b → K b
  r12 : r1 ≠ r2
  r13 : r1 ≠ r3
  r23 : r2 ≠ r3
  flt : ∀ b, F b → b < w.heap.size
  klt : ∀ b, K b → b < w.heap.size
  fk : ∀ b, F b → ¬ K b
  Fg : F g
  F1 : F r1
  F2 : F r2
  F3 : F r3
  Ff : ∀ b, vf.ownBlock = some b → F b
  Fc : ∀ b, vc.ownBlock = some b → F b
  Fx : ∀ f ∈ s.files, F f.g
  Fd : ∀ f ∈ s.files, ∀ b, (dv f.g).ownBlock = some b → F b
structure FSAt (w : World) (g : Nat) (s : FS) (F K : Nat → Prop) : Prop where
  ex : ∃ vf vc vp r1 r2 r3 dv cvs, FSL w g s F K vf vc vp r1 r2 r3 dv cvs
/-- behind a call -/
structure Went (w w' : World) (g : Nat) (s' : FS) (F K : Nat → Prop) : Prop where
  ex : ∃ F' K', FSAt w' g s' F' K' ∧ (∀ b, F' b → F b ∨ w.heap.size ≤ b) ∧ (∀ b, K' b → K b ∨ w.heap.size ≤ b) ∧ Chg F w w'

section
variable {w w' : World} {g : Nat} {s : FS} {F K G : Nat → Prop} {vf vc vp : Value} {r1 r2 r3 : Nat} {dv : Nat → Value} {cvs : List Value}
/-- what stays of it -/
theorem FSL.chg (h : FSL w g s F K vf vc vp r1 r2 r3 dv cvs) (hc : Chg G w w') (hF : ∀ b, G b → ¬ F b) (hK : ∀ b, G b → ¬ K b) : FSL w' g s F K vf vc vp r1 r2 r3 dv cvs :=
  have n : ∀ {b}, F b → ¬ G b := fun hb hg => hF _ hg hb
  { blk := hc.blk h.blk (n h.Fg), now := h.now.chg hc (n h.F1), safe := h.safe.chg hc (n h.F2), fails := h.fails.chg hc (n h.F3), files := h.files.chg hc fun b hb => n (h.Ff b hb),
    fblk := fun f hf => hc.blk (h.fblk f hf) (n (h.Fx f hf)), data := fun f hf => (h.data f hf).chg hc fun b hb => n (h.Fd f hf b hb), dsep := h.dsep, chs := h.chs.chg hc fun b hb => n (h.Fc b hb),
    cha := fun i v c hv hi => (h.cha i v c hv hi).chg hc (fun b hb hg => hK b hg hb) (fun _ h => h), picks := h.picks.chg hc fun b hb hg => hK b hg (h.pk b hb), pk := h.pk, r12 := h.r12, r13 := h.r13, r23 := h.r23,
    flt := fun b hb => Nat.lt_of_lt_of_le (h.flt b hb) hc.size, klt := fun b hb => Nat.lt_of_lt_of_le (h.klt b hb) hc.size, fk := h.fk, Fg := h.Fg, F1 := h.F1, F2 := h.F2, F3 := h.F3, Ff := h.Ff, Fc := h.Fc, Fx := h.Fx, Fd := h.Fd }
theorem FSAt.chg (h : FSAt w g s F K) (hc : Chg G w w') (hF : ∀ b, G b → ¬ F b) (hK : ∀ b, G b → ¬ K b) : FSAt w' g s F K := by
  obtain ⟨vf, vc, vp, r1, r2, r3, dv, cvs, k⟩ := h.ex
  exact ⟨vf, vc, vp, r1, r2, r3, dv, cvs, k.chg hc hF hK⟩
theorem FSAt.chg0 (h : FSAt w g s F K) (hc : Chg (fun _ => False) w w') : FSAt w' g s F K := h.chg hc (fun _ h => h.elim) (fun _ h => h.elim)
theorem FSAt.flt (h : FSAt w g s F K) {b : Nat} (hb : F b) : b < w.heap.size := by obtain ⟨vf, vc, vp, r1, r2, r3, dv, cvs, k⟩ := h.ex; exact k.flt b hb
theorem FSAt.klt (h : FSAt w g s F K) {b : Nat} (hb : K b) : b < w.heap.size := by obtain ⟨vf, vc, vp, r1, r2, r3, dv, cvs, k⟩ := h.ex; exact k.klt b hb
theorem Went.refl (h : FSAt w g s F K) : Went w w g s F K := ⟨F, K, h, fun _ => .inl, fun _ => .inl, Chg.refl _ _⟩
theorem Went.of (h : FSAt w' g s F K) (hc : Chg F w w') : Went w w' g s F K := ⟨F, K, h, fun _ => .inl, fun _ => .inl, hc⟩
theorem Went.then {w1 w2 : World} {s1 s2 : FS} (h : Went w w1 g s1 F K) (k : ∀ F' K', FSAt w1 g s1 F' K' → Went w1 w2 g s2 F' K') : Went w w2 g s2 F K := by
  obtain ⟨F', K', h1, h2, h3, h4⟩ := h.ex
  obtain ⟨F2, K2, k1, k2, k3, k4⟩ := (k F' K' h1).ex
  refine ⟨F2, K2, k1, fun b hb => ?_, fun b hb => ?_, h4.trans k4 h2⟩
  · rcases k2 b hb with hb | hb
    · exact h2 b hb
    · exact .inr (Nat.le_trans h4.size hb)
  · rcases k3 b hb with hb | hb
    · exact h3 b hb
    · exact .inr (Nat.le_trans h4.size hb)
/-- ahead of it: blocks that are new -/
theorem Went.pre {w1 : World} {s' : FS} (hc : Chg (fun _ => False) w w1) (h : Went w1 w' g s' F K) : Went w w' g s' F K := by
  obtain ⟨F', K', h1, h2, h3, h4⟩ := h.ex
  exact ⟨F', K', h1, fun b hb => (h2 b hb).imp id (Nat.le_trans hc.size), fun b hb => (h3 b hb).imp id (Nat.le_trans hc.size), (hc.mono fun _ h => h.elim).trans' h4⟩
theorem Went.drawn (h : Went w w' g s F K) {w2 : World} (k : Drawn w' w2) : Went w w2 g s F K := by
  obtain ⟨F', K', h1, h2, h3, h4⟩ := h.ex
  exact ⟨F', K', h1.chg0 (k.chg _), h2, h3, h4.drawn k⟩
theorem Went.chg0 (h : Went w w' g s F K) {w2 : World} (k : Chg (fun _ => False) w' w2) : Went w w2 g s F K := by
  obtain ⟨F', K', h1, h2, h3, h4⟩ := h.ex
  exact ⟨F', K', h1.chg0 k, h2, h3, h4.trans k fun _ h => h.elim⟩

/-! What is kept where blocks of one kind are written. -/
variable {T : Nat}
theorem off {b u : Nat} (hT : ∀ b, G b → tag w b = some T) (ht : tag w b = some u) (hne : T ≠ u) : ¬ G b := fun hg => by
  have := hT b hg; rw [ht] at this; injection this with this; exact hne this.symm
theorem FSL.kblk (h : FSL w g s F K vf vc vp r1 r2 r3 dv cvs) (hc : Chg G w w') (hT : ∀ b, G b → tag w b = some T) (hne : T ≠ tFS + 1) :
    w'.heap[g]? = some (.cells #[vf, .map (some r1), .map (some r2), vc, .bool s.down, .int .i64 s.steps, .map (some r3), .int .i64 s.crash, vp] tFS (0, 0)) := hc.blk h.blk (off hT (tag_cells h.blk) hne)
theorem FSL.know (h : FSL w g s F K vf vc vp r1 r2 r3 dv cvs) (hc : Chg G w w') (hT : ∀ b, G b → tag w b = some T) (hne : T ≠ 0) : MapAt w' r1 s.now := h.now.chg hc (off hT (tag_map h.now) hne)
theorem FSL.ksafe (h : FSL w g s F K vf vc vp r1 r2 r3 dv cvs) (hc : Chg G w w') (hT : ∀ b, G b → tag w b = some T) (hne : T ≠ 0) : MapAt w' r2 s.safe := h.safe.chg hc (off hT (tag_map h.safe) hne)
theorem FSL.kfails (h : FSL w g s F K vf vc vp r1 r2 r3 dv cvs) (hc : Chg G w w') (hT : ∀ b, G b → tag w b = some T) (hne : T ≠ 0) : IM.MapAt w' r3 s.fails := h.fails.chg hc (off hT (tag_imap h.fails) hne)
theorem FSL.kfiles (h : FSL w g s F K vf vc vp r1 r2 r3 dv cvs) (hc : Chg G w w') (hT : ∀ b, G b → tag w b = some T) (hne : T ≠ tP + 1) : Own w' tP vf s.files.length (s.files.map fun f => fp f.g) :=
  h.files.chg hc fun b hb => off hT (tag_own h.files hb) hne
theorem FSL.kfblk (h : FSL w g s F K vf vc vp r1 r2 r3 dv cvs) (hc : Chg G w w') (hT : ∀ b, G b → tag w b = some T) (hne : T ≠ tF + 1) : ∀ f ∈ s.files, w'.heap[f.g]? = some (.cells #[dv f.g, .int .i64 f.safe] tF (0, 0)) :=
  fun f hf => hc.blk (h.fblk f hf) (off hT (tag_cells (h.fblk f hf)) hne)
theorem FSL.kdata (h : FSL w g s F K vf vc vp r1 r2 r3 dv cvs) (hc : Chg G w w') (hT : ∀ b, G b → tag w b = some T) (hne : T ≠ tB + 1) : ∀ f ∈ s.files, Own w' tB (dv f.g) f.data.size (byteCells f.data) :=
  fun f hf => (h.data f hf).chg hc fun b hb => off hT (tag_own (h.data f hf) hb) hne
theorem FSL.kchs (h : FSL w g s F K vf vc vp r1 r2 r3 dv cvs) (hc : Chg G w w') (hT : ∀ b, G b → tag w b = some T) (hne : T ≠ tC + 1) : Own w' tC vc s.ch.length cvs := h.chs.chg hc fun b hb => off hT (tag_own h.chs hb) hne
theorem FSL.kcha (h : FSL w g s F K vf vc vp r1 r2 r3 dv cvs) (hc : Chg G w w') (hG : ∀ b, G b → F b) {K' : Nat → Prop} (hk : ∀ b, K b → K' b) : ∀ (i : Nat) (v : Value) (c : Ch), cvs[i]? = some v → s.ch[i]? = some c → ChAt w' K' v c :=
  fun i v c hv hi => (h.cha i v c hv hi).chg hc (fun b hb hg => h.fk b (hG b hg) hb) hk
theorem FSL.kpicks (h : FSL w g s F K vf vc vp r1 r2 r3 dv cvs) (hc : Chg G w w') (hG : ∀ b, G b → F b) : Rd w' vp (ints s.picks) := h.picks.chg hc fun b hb hg => h.fk b (hG b hg) (h.pk b hb)
theorem FSL.tg (h : FSL w g s F K vf vc vp r1 r2 r3 dv cvs) : ∀ b, b = g → tag w b = some (tFS + 1) := fun b e => by rw [e]; exact tag_cells h.blk

/-- numbers of the struct are written -/
theorem FSL.scal (h : FSL w g s F K vf vc vp r1 r2 r3 dv cvs) (hc : Chg (fun b => b = g) w w') {d : Bool} {n c : Int}
    (hb : w'.heap[g]? = some (.cells #[vf, .map (some r1), .map (some r2), vc, .bool d, .int .i64 n, .map (some r3), .int .i64 c, vp] tFS (0, 0))) :
    FSL w' g { s with down := d, steps := n, crash := c } F K vf vc vp r1 r2 r3 dv cvs :=
  have hG : ∀ b, b = g → F b := fun b e => e ▸ h.Fg
  { blk := hb, now := h.know hc h.tg (by decide), safe := h.ksafe hc h.tg (by decide), fails := h.kfails hc h.tg (by decide), files := h.kfiles hc h.tg (by decide), fblk := h.kfblk hc h.tg (by decide),
    data := h.kdata hc h.tg (by decide), dsep := h.dsep, chs := h.kchs hc h.tg (by decide), cha := h.kcha hc hG fun _ h => h, picks := h.kpicks hc hG, pk := h.pk, r12 := h.r12, r13 := h.r13, r23 := h.r23,
    flt := fun b hb => Nat.lt_of_lt_of_le (h.flt b hb) hc.size, klt := fun b hb => Nat.lt_of_lt_of_le (h.klt b hb) hc.size, fk := h.fk, Fg := h.Fg, F1 := h.F1, F2 := h.F2, F3 := h.F3, Ff := h.Ff, Fc := h.Fc, Fx := h.Fx, Fd := h.Fd }
/-- a map is written: the names now -/
theorem FSL.putNow (h : FSL w g s F K vf vc vp r1 r2 r3 dv cvs) (hc : Chg (fun b => b = r1) w w') {m : Kvs} (hm : MapAt w' r1 m) : FSL w' g { s with now := m } F K vf vc vp r1 r2 r3 dv cvs :=
  have hG : ∀ b, b = r1 → F b := fun b e => e ▸ h.F1
  have hT : ∀ b, b = r1 → tag w b = some 0 := fun b e => e ▸ tag_map h.now
  { blk := h.kblk hc hT (by decide), now := hm, safe := h.safe.chg hc fun e => h.r12 e.symm, fails := h.fails.chg hc fun e => h.r13 e.symm, files := h.kfiles hc hT (by decide), fblk := h.kfblk hc hT (by decide),
    data := h.kdata hc hT (by decide), dsep := h.dsep, chs := h.kchs hc hT (by decide), cha := h.kcha hc hG fun _ h => h, picks := h.kpicks hc hG, pk := h.pk, r12 := h.r12, r13 := h.r13, r23 := h.r23,
    flt := fun b hb => Nat.lt_of_lt_of_le (h.flt b hb) hc.size, klt := fun b hb => Nat.lt_of_lt_of_le (h.klt b hb) hc.size, fk := h.fk, Fg := h.Fg, F1 := h.F1, F2 := h.F2, F3 := h.F3, Ff := h.Ff, Fc := h.Fc, Fx := h.Fx, Fd := h.Fd }
theorem FSL.putSafe (h : FSL w g s F K vf vc vp r1 r2 r3 dv cvs) (hc : Chg (fun b => b = r2) w w') {m : Kvs} (hm : MapAt w' r2 m) : FSL w' g { s with safe := m } F K vf vc vp r1 r2 r3 dv cvs :=
  have hG : ∀ b, b = r2 → F b := fun b e => e ▸ h.F2
  have hT : ∀ b, b = r2 → tag w b = some 0 := fun b e => e ▸ tag_map h.safe
  { blk := h.kblk hc hT (by decide), now := h.now.chg hc h.r12, safe := hm, fails := h.fails.chg hc fun e => h.r23 e.symm, files := h.kfiles hc hT (by decide), fblk := h.kfblk hc hT (by decide),
    data := h.kdata hc hT (by decide), dsep := h.dsep, chs := h.kchs hc hT (by decide), cha := h.kcha hc hG fun _ h => h, picks := h.kpicks hc hG, pk := h.pk, r12 := h.r12, r13 := h.r13, r23 := h.r23,
    flt := fun b hb => Nat.lt_of_lt_of_le (h.flt b hb) hc.size, klt := fun b hb => Nat.lt_of_lt_of_le (h.klt b hb) hc.size, fk := h.fk, Fg := h.Fg, F1 := h.F1, F2 := h.F2, F3 := h.F3, Ff := h.Ff, Fc := h.Fc, Fx := h.Fx, Fd := h.Fd }
theorem FSL.putFails (h : FSL w g s F K vf vc vp r1 r2 r3 dv cvs) (hc : Chg (fun b => b = r3) w w') {m : IM.Kvs} (hm : IM.MapAt w' r3 m) : FSL w' g { s with fails := m } F K vf vc vp r1 r2 r3 dv cvs :=
  have hG : ∀ b, b = r3 → F b := fun b e => e ▸ h.F3
  have hT : ∀ b, b = r3 → tag w b = some 0 := fun b e => e ▸ tag_imap h.fails
  { blk := h.kblk hc hT (by decide), now := h.now.chg hc h.r13, safe := h.safe.chg hc h.r23, fails := hm, files := h.kfiles hc hT (by decide), fblk := h.kfblk hc hT (by decide),
    data := h.kdata hc hT (by decide), dsep := h.dsep, chs := h.kchs hc hT (by decide), cha := h.kcha hc hG fun _ h => h, picks := h.kpicks hc hG, pk := h.pk, r12 := h.r12, r13 := h.r13, r23 := h.r23,
    flt := fun b hb => Nat.lt_of_lt_of_le (h.flt b hb) hc.size, klt := fun b hb => Nat.lt_of_lt_of_le (h.klt b hb) hc.size, fk := h.fk, Fg := h.Fg, F1 := h.F1, F2 := h.F2, F3 := h.F3, Ff := h.Ff, Fc := h.Fc, Fx := h.Fx, Fd := h.Fd }
/-- another map stands for the names now -/
theorem FSL.newNow (h : FSL w g s F K vf vc vp r1 r2 r3 dv cvs) {r : Nat} {m : Kvs} (hm : MapAt w r m) (hr : ¬ F r) (hrk : ¬ K r)
    (hw : w' = w.setCell ⟨g, 1, none⟩ (.map (some r))) : FSL w' g { s with now := m } (fun b => F b ∨ b = r) K vf vc vp r r2 r3 dv cvs := by
  obtain ⟨hb, hc⟩ := store_blk h.blk hw
  have k := h.scal hc (d := s.down) (n := s.steps) (c := s.crash)
  have hG : ∀ b, b = g → F b := fun b e => e ▸ h.Fg
  exact
  { blk := hb, now := hm.chg hc fun e => hr (e ▸ h.Fg), safe := h.ksafe hc h.tg (by decide), fails := h.kfails hc h.tg (by decide), files := h.kfiles hc h.tg (by decide), fblk := h.kfblk hc h.tg (by decide),
    data := h.kdata hc h.tg (by decide), dsep := h.dsep, chs := h.kchs hc h.tg (by decide), cha := h.kcha hc hG fun _ h => h, picks := h.kpicks hc hG, pk := h.pk, r12 := fun e => hr (e ▸ h.F2), r13 := fun e => hr (e ▸ h.F3), r23 := h.r23,
    flt := fun b hb => hb.elim (fun hb => Nat.lt_of_lt_of_le (h.flt b hb) hc.size) (fun e => by subst e; obtain ⟨_, _, hh, _⟩ := hm.ex; exact Nat.lt_of_lt_of_le (lt_blk hh) hc.size), klt := fun b hb => Nat.lt_of_lt_of_le (h.klt b hb) hc.size,
    fk := fun b hb => hb.elim (h.fk b) (fun e => e ▸ hrk), Fg := .inl h.Fg, F1 := .inr rfl, F2 := .inl h.F2, F3 := .inl h.F3, Ff := fun b hb => .inl (h.Ff b hb), Fc := fun b hb => .inl (h.Fc b hb), Fx := fun f hf => .inl (h.Fx f hf), Fd := fun f hf b hb => .inl (h.Fd f hf b hb) }
theorem FSL.newSafe (h : FSL w g s F K vf vc vp r1 r2 r3 dv cvs) {r : Nat} {m : Kvs} (hm : MapAt w r m) (hr : ¬ F r) (hrk : ¬ K r)
    (hw : w' = w.setCell ⟨g, 2, none⟩ (.map (some r))) : FSL w' g { s with safe := m } (fun b => F b ∨ b = r) K vf vc vp r1 r r3 dv cvs := by
  obtain ⟨hb, hc⟩ := store_blk h.blk hw
  have hG : ∀ b, b = g → F b := fun b e => e ▸ h.Fg
  exact
  { blk := hb, now := h.know hc h.tg (by decide), safe := hm.chg hc fun e => hr (e ▸ h.Fg), fails := h.kfails hc h.tg (by decide), files := h.kfiles hc h.tg (by decide), fblk := h.kfblk hc h.tg (by decide),
    data := h.kdata hc h.tg (by decide), dsep := h.dsep, chs := h.kchs hc h.tg (by decide), cha := h.kcha hc hG fun _ h => h, picks := h.kpicks hc hG, pk := h.pk, r12 := fun e => hr (e ▸ h.F1), r13 := h.r13, r23 := fun e => hr (e ▸ h.F3),
    flt := fun b hb => hb.elim (fun hb => Nat.lt_of_lt_of_le (h.flt b hb) hc.size) (fun e => by subst e; obtain ⟨_, _, hh, _⟩ := hm.ex; exact Nat.lt_of_lt_of_le (lt_blk hh) hc.size), klt := fun b hb => Nat.lt_of_lt_of_le (h.klt b hb) hc.size,
    fk := fun b hb => hb.elim (h.fk b) (fun e => e ▸ hrk), Fg := .inl h.Fg, F1 := .inl h.F1, F2 := .inr rfl, F3 := .inl h.F3, Ff := fun b hb => .inl (h.Ff b hb), Fc := fun b hb => .inl (h.Fc b hb), Fx := fun f hf => .inl (h.Fx f hf), Fd := fun f hf b hb => .inl (h.Fd f hf b hb) }
theorem FSL.newFails (h : FSL w g s F K vf vc vp r1 r2 r3 dv cvs) {r : Nat} {m : IM.Kvs} (hm : IM.MapAt w r m) (hr : ¬ F r) (hrk : ¬ K r)
    (hw : w' = w.setCell ⟨g, 6, none⟩ (.map (some r))) : FSL w' g { s with fails := m } (fun b => F b ∨ b = r) K vf vc vp r1 r2 r dv cvs := by
  obtain ⟨hb, hc⟩ := store_blk h.blk hw
  have hG : ∀ b, b = g → F b := fun b e => e ▸ h.Fg
  exact
  { blk := hb, now := h.know hc h.tg (by decide), safe := h.ksafe hc h.tg (by decide), fails := hm.chg hc fun e => hr (e ▸ h.Fg), files := h.kfiles hc h.tg (by decide), fblk := h.kfblk hc h.tg (by decide),
    data := h.kdata hc h.tg (by decide), dsep := h.dsep, chs := h.kchs hc h.tg (by decide), cha := h.kcha hc hG fun _ h => h, picks := h.kpicks hc hG, pk := h.pk, r12 := h.r12, r13 := fun e => hr (e ▸ h.F1), r23 := fun e => hr (e ▸ h.F2),
    flt := fun b hb => hb.elim (fun hb => Nat.lt_of_lt_of_le (h.flt b hb) hc.size) (fun e => by subst e; obtain ⟨_, _, hh, _⟩ := hm.ex; exact Nat.lt_of_lt_of_le (lt_blk hh) hc.size), klt := fun b hb => Nat.lt_of_lt_of_le (h.klt b hb) hc.size,
    fk := fun b hb => hb.elim (h.fk b) (fun e => e ▸ hrk), Fg := .inl h.Fg, F1 := .inl h.F1, F2 := .inl h.F2, F3 := .inr rfl, Ff := fun b hb => .inl (h.Ff b hb), Fc := fun b hb => .inl (h.Fc b hb), Fx := fun f hf => .inl (h.Fx f hf), Fd := fun f hf b hb => .inl (h.Fd f hf b hb) }
/-- no change is left -/
theorem FSL.noCh (h : FSL w g s F K vf vc vp r1 r2 r3 dv cvs) (hw : w' = w.setCell ⟨g, 3, none⟩ (.slice none 0 0)) : FSL w' g { s with ch := [] } F K vf (.slice none 0 0) vp r1 r2 r3 dv [] := by
  obtain ⟨hb, hc⟩ := store_blk h.blk hw
  have hG : ∀ b, b = g → F b := fun b e => e ▸ h.Fg
  exact
  { blk := hb, now := h.know hc h.tg (by decide), safe := h.ksafe hc h.tg (by decide), fails := h.kfails hc h.tg (by decide), files := h.kfiles hc h.tg (by decide), fblk := h.kfblk hc h.tg (by decide),
    data := h.kdata hc h.tg (by decide), dsep := h.dsep, chs := Own.nil _ _, cha := fun i v c hv _ => by simp at hv, picks := h.kpicks hc hG, pk := h.pk, r12 := h.r12, r13 := h.r13, r23 := h.r23,
    flt := fun b hb => Nat.lt_of_lt_of_le (h.flt b hb) hc.size, klt := fun b hb => Nat.lt_of_lt_of_le (h.klt b hb) hc.size, fk := h.fk, Fg := h.Fg, F1 := h.F1, F2 := h.F2, F3 := h.F3, Ff := h.Ff, Fc := fun b hb => by simp [Value.ownBlock] at hb, Fx := h.Fx, Fd := h.Fd }
/-- other picks -/
theorem FSL.newPicks (h : FSL w g s F K vf vc vp r1 r2 r3 dv cvs) {v : Value} {l : List Int} {K' : Nat → Prop} (hp : Rd w v (ints l)) (hk : ∀ b, v.ownBlock = some b → K' b) (hkk : ∀ b, K b → K' b) (hf : ∀ b, F b → ¬ K' b) (hlt : ∀ b, K' b → b < w.heap.size)
    (hw : w' = w.setCell ⟨g, 8, none⟩ v) : FSL w' g { s with picks := l } F K' vf vc v r1 r2 r3 dv cvs := by
  obtain ⟨hb, hc⟩ := store_blk h.blk hw
  have hG : ∀ b, b = g → F b := fun b e => e ▸ h.Fg
  exact
  { blk := hb, now := h.know hc h.tg (by decide), safe := h.ksafe hc h.tg (by decide), fails := h.kfails hc h.tg (by decide), files := h.kfiles hc h.tg (by decide), fblk := h.kfblk hc h.tg (by decide),
    data := h.kdata hc h.tg (by decide), dsep := h.dsep, chs := h.kchs hc h.tg (by decide), cha := h.kcha hc hG hkk, picks := hp.chg hc fun b hb e => hf b (hG b e) (hk b hb), pk := hk, r12 := h.r12, r13 := h.r13, r23 := h.r23,
    flt := fun b hb => Nat.lt_of_lt_of_le (h.flt b hb) hc.size, klt := fun b hb => Nat.lt_of_lt_of_le (hlt b hb) hc.size, fk := hf, Fg := h.Fg, F1 := h.F1, F2 := h.F2, F3 := h.F3, Ff := h.Ff, Fc := h.Fc, Fx := h.Fx, Fd := h.Fd }
end
end Go.Proofs.Ytcljmlgbmjjldaa.Fs
