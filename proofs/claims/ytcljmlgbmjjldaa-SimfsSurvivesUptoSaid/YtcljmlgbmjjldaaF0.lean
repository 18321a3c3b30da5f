/- The verification conditions of Go functions, printed by wip/gen/gen.py; the kernel checks that each is the one reckoned from the code. -/
import Derived.Test.YtcljmlgbmjjldaaProg
import Derived.Test.YtcljmlgbmjjldaaVC
set_option linter.unusedVariables false
namespace Go.Proofs.Ytcljmlgbmjjldaa.F
open Go Go.VC Go.Proofs
theorem mixed : Try.prog.follows .mixedOrders = true := by kernel_rfl
/-- cistern/cisternlaw25.SessionConsts -/
def an3 : Ann := { loops := [], draws := [], tys := [] }
set_option maxRecDepth 100000 in
def V3  (w : World) (R : Ending → World → Prop) : Prop :=
  Calls Try.prog 14 #[.int .i64 250] w fun e_ w1 => ∃ (n : Int), e_ = .returned (.int .i64 n) ∧
  (((n : Int) == 250) = true →
  R (.returned (.bool true)) w1) ∧
  (((n : Int) == 250) = false →
  R (.returned (.bool false)) w1)
theorem b3 : Try.f3.body = some (bodyOf Try.f3) := by kernel_rfl
theorem ok3 : okF Try.prog an3 Try.f3 (bodyOf Try.f3) 0 = true := by kernel_rfl
theorem e3  (w : World) (R : Ending → World → Prop) : vcF Try.prog an3 Try.f3 (bodyOf Try.f3) [] w R = V3  w R := by kernel_rfl
theorem v3  (w : World) (R : Ending → World → Prop) (hV : V3  w R) : Calls Try.prog 3 #[] w R := calls_vc mixed Try.func3 b3 rfl ok3 (e3  w R) hV

/-- cistern/cisternlaw25.num -/
def an14 : Ann := { loops := [], draws := [], tys := [] }
set_option maxRecDepth 100000 in
def V14 (e : Int) (w : World) (R : Ending → World → Prop) : Prop :=
  R (.returned (.int .i64 e)) w
theorem b14 : Try.f14.body = some (bodyOf Try.f14) := by kernel_rfl
theorem ok14 : okF Try.prog an14 Try.f14 (bodyOf Try.f14) 1 = true := by kernel_rfl
theorem e14 (e : Int) (w : World) (R : Ending → World → Prop) : vcF Try.prog an14 Try.f14 (bodyOf Try.f14) [.int .i64 e] w R = V14 e w R := by kernel_rfl
theorem v14 (e : Int) (w : World) (R : Ending → World → Prop) (hV : V14 e w R) : Calls Try.prog 14 #[.int .i64 e] w R := calls_vc mixed Try.func14 b14 rfl ok14 (e14 e w R) hV

/-- cistern/dict.Hash -/
def an16 : Ann := { loops := [(3, [(5, .int .u64), (12, .int .i64)])], draws := [], tys := [] }
set_option maxRecDepth 100000 in
def V16 (seed : Int) (s : ByteArray) (w : World) (R : Ending → World → Prop) : Prop :=
  ∃ (I : Int → Int → World → Prop) (M : Int → Int → World → Nat), I (xorI .u64 14695981039346656037 (IntKind.wrap .u64 seed)) 0 w ∧
  ∀ (h : Int) (n : Int) (w1 : World), I h n w1 →
  ((decide ((n : Int) < ((ByteArray.size s : Nat) : Int))) = true →
  (0 : Int) ≤ n ∧ n < ((ByteArray.size s : Nat) : Int) ∧
  (I (IntKind.wrap .u64 ((xorI .u64 h (IntKind.wrap .u64 (byteAt s n))) * 1099511628211)) (IntKind.wrap .i64 (n + 1)) w1 ∧ M (IntKind.wrap .u64 ((xorI .u64 h (IntKind.wrap .u64 (byteAt s n))) * 1099511628211)) (IntKind.wrap .i64 (n + 1)) w1 < M h n w1)) ∧
  ((decide ((n : Int) < ((ByteArray.size s : Nat) : Int))) = false →
  (0 : Int) ≤ 32 ∧
  (0 : Int) ≤ 29 ∧
  (0 : Int) ≤ 1 ∧
  R (.returned (.int .i64 (IntKind.wrap .i64 (Int.fdiv (xorI .u64 (IntKind.wrap .u64 ((xorI .u64 h (Int.fdiv h (2 ^ (min (Int.toNat 32) (IntKind.bits .u64))))) * 11400714819323198485)) (Int.fdiv (IntKind.wrap .u64 ((xorI .u64 h (Int.fdiv h (2 ^ (min (Int.toNat 32) (IntKind.bits .u64))))) * 11400714819323198485)) (2 ^ (min (Int.toNat 29) (IntKind.bits .u64))))) (2 ^ (min (Int.toNat 1) (IntKind.bits .u64))))))) w1)
theorem b16 : Try.f16.body = some (bodyOf Try.f16) := by kernel_rfl
theorem ok16 : okF Try.prog an16 Try.f16 (bodyOf Try.f16) 2 = true := by kernel_rfl
theorem e16 (seed : Int) (s : ByteArray) (w : World) (R : Ending → World → Prop) : vcF Try.prog an16 Try.f16 (bodyOf Try.f16) [.int .i64 seed, .string s] w R = V16 seed s w R := by kernel_rfl
theorem v16 (seed : Int) (s : ByteArray) (w : World) (R : Ending → World → Prop) (hV : V16 seed s w R) : Calls Try.prog 16 #[.int .i64 seed, .string s] w R := calls_vc mixed Try.func16 b16 rfl ok16 (e16 seed s w R) hV

/-- cistern/cisternref08.Hash -/
def an17 : Ann := { loops := [(3, [(5, .int .u64), (6, .int .i64)])], draws := [], tys := [] }
set_option maxRecDepth 100000 in
def V17 (seed : Int) (s : ByteArray) (w : World) (R : Ending → World → Prop) : Prop :=
  ∃ (I : Int → Int → World → Prop) (M : Int → Int → World → Nat), I (xorI .u64 14695981039346656037 (IntKind.wrap .u64 seed)) 0 w ∧
  ∀ (h : Int) (i : Int) (w1 : World), I h i w1 →
  ((decide ((i : Int) < ((ByteArray.size s : Nat) : Int))) = true →
  (0 : Int) ≤ i ∧ i < ((ByteArray.size s : Nat) : Int) ∧
  (I (IntKind.wrap .u64 ((xorI .u64 h (IntKind.wrap .u64 (byteAt s i))) * 1099511628211)) (IntKind.wrap .i64 (i + 1)) w1 ∧ M (IntKind.wrap .u64 ((xorI .u64 h (IntKind.wrap .u64 (byteAt s i))) * 1099511628211)) (IntKind.wrap .i64 (i + 1)) w1 < M h i w1)) ∧
  ((decide ((i : Int) < ((ByteArray.size s : Nat) : Int))) = false →
  (0 : Int) ≤ 32 ∧
  (0 : Int) ≤ 29 ∧
  (0 : Int) ≤ 1 ∧
  R (.returned (.int .i64 (IntKind.wrap .i64 (Int.fdiv (xorI .u64 (IntKind.wrap .u64 ((xorI .u64 h (Int.fdiv h (2 ^ (min (Int.toNat 32) (IntKind.bits .u64))))) * 11400714819323198485)) (Int.fdiv (IntKind.wrap .u64 ((xorI .u64 h (Int.fdiv h (2 ^ (min (Int.toNat 32) (IntKind.bits .u64))))) * 11400714819323198485)) (2 ^ (min (Int.toNat 29) (IntKind.bits .u64))))) (2 ^ (min (Int.toNat 1) (IntKind.bits .u64))))))) w1)
theorem b17 : Try.f17.body = some (bodyOf Try.f17) := by kernel_rfl
theorem ok17 : okF Try.prog an17 Try.f17 (bodyOf Try.f17) 2 = true := by kernel_rfl
theorem e17 (seed : Int) (s : ByteArray) (w : World) (R : Ending → World → Prop) : vcF Try.prog an17 Try.f17 (bodyOf Try.f17) [.int .i64 seed, .string s] w R = V17 seed s w R := by kernel_rfl
theorem v17 (seed : Int) (s : ByteArray) (w : World) (R : Ending → World → Prop) (hV : V17 seed s w R) : Calls Try.prog 17 #[.int .i64 seed, .string s] w R := calls_vc mixed Try.func17 b17 rfl ok17 (e17 seed s w R) hV

/-- cistern/dict.New[int] -/
def an18 : Ann := { loops := [], draws := [], tys := [] }
set_option maxRecDepth 100000 in
def V18 (seed : Int) (w : World) (R : Ending → World → Prop) : Prop :=
  ∀ (g : Nat) (w1 : World), g = (World.heap w).size → w1 = World.alloc w (.map #[] 0) →
  ∀ (g_2 : Nat) (w2 : World), g_2 = (World.heap w1).size → w2 = World.alloc w1 (.cells #[.int .i64 seed, .slice none 0 0, .int .i64 0, .slice none 0 0, .int .i64 0, .int .i64 0, .map (some g)] 105) →
  R (.returned (.pointer (some ⟨g_2, 0, none⟩))) w2
theorem b18 : Try.f18.body = some (bodyOf Try.f18) := by kernel_rfl
theorem ok18 : okF Try.prog an18 Try.f18 (bodyOf Try.f18) 1 = true := by kernel_rfl
theorem e18 (seed : Int) (w : World) (R : Ending → World → Prop) : vcF Try.prog an18 Try.f18 (bodyOf Try.f18) [.int .i64 seed] w R = V18 seed w R := by kernel_rfl
theorem v18 (seed : Int) (w : World) (R : Ending → World → Prop) (hV : V18 seed w R) : Calls Try.prog 18 #[.int .i64 seed] w R := calls_vc mixed Try.func18 b18 rfl ok18 (e18 seed w R) hV

/-- (*cistern/dict.Dict[int]).Len -/
def an22 : Ann := { loops := [], draws := [], tys := [] }
set_option maxRecDepth 100000 in
def V22 (d : Addr) (w : World) (R : Ending → World → Prop) : Prop :=
  ∃ (m : Option Nat), World.cell? w (d.add 6) = some (.map m) ∧
  ∃ l : Nat, mapLen w m = some l ∧
  R (.returned (.int .i64 ((l : Nat) : Int))) w
theorem b22 : Try.f22.body = some (bodyOf Try.f22) := by kernel_rfl
theorem ok22 : okF Try.prog an22 Try.f22 (bodyOf Try.f22) 1 = true := by kernel_rfl
theorem e22 (d : Addr) (w : World) (R : Ending → World → Prop) : vcF Try.prog an22 Try.f22 (bodyOf Try.f22) [.pointer (some d)] w R = V22 d w R := by kernel_rfl
theorem v22 (d : Addr) (w : World) (R : Ending → World → Prop) (hV : V22 d w R) : Calls Try.prog 22 #[.pointer (some d)] w R := calls_vc mixed Try.func22 b22 rfl ok22 (e22 d w R) hV

/-- (*cistern/dict.Dict[int]).Get -/
def an23 : Ann := { loops := [], draws := [], tys := [] }
set_option maxRecDepth 100000 in
def V23 (d : Addr) (key : ByteArray) (w : World) (R : Ending → World → Prop) : Prop :=
  ∃ (m : Option Nat), World.cell? w (d.add 6) = some (.map m) ∧
  ∃ (n : Int), ∃ (b : Bool), ∃ w1 : World, Sem.run Try.prog (Instr.lookup 100 (.map m) (.string key) true) w = .ok (.tuple #[.int .i64 n, .bool b]) w1 ∧
  R (.returned (.tuple #[.int .i64 n, .bool b])) w1
theorem b23 : Try.f23.body = some (bodyOf Try.f23) := by kernel_rfl
theorem ok23 : okF Try.prog an23 Try.f23 (bodyOf Try.f23) 2 = true := by kernel_rfl
theorem e23 (d : Addr) (key : ByteArray) (w : World) (R : Ending → World → Prop) : vcF Try.prog an23 Try.f23 (bodyOf Try.f23) [.pointer (some d), .string key] w R = V23 d key w R := by kernel_rfl
theorem v23 (d : Addr) (key : ByteArray) (w : World) (R : Ending → World → Prop) (hV : V23 d key w R) : Calls Try.prog 23 #[.pointer (some d), .string key] w R := calls_vc mixed Try.func23 b23 rfl ok23 (e23 d key w R) hV

/-- (*cistern/dict.Dict[int]).Tables -/
def an26 : Ann := { loops := [], draws := [(3, false, Tr.seq [0, 1, 2, 4, 5, 6, 8, 9, 10, 3, 7, 12, 13, 11, 14] .nil, [], [], [])], tys := [] }
set_option maxRecDepth 100000 in
def V26 (d : Addr) (w : World) (R : Ending → World → Prop) : Prop :=
  Calls Try.prog 57 #[.pointer (some d)] w fun e_ w1 => ∃ (b : Bool), e_ = .returned (.bool b) ∧
  ((!b) = true →
  Calls Try.prog 56 #[.pointer (some (d.add 1))] w1 fun e_ w2 => ∃ (n : Int), e_ = .returned (.int .i64 n) ∧
  R (.returned (.tuple #[.int .i64 n, .int .i64 0, .int .i64 (-1)])) w2) ∧
  ((!b) = false →
  ∀ w3 : World, Drawn w1 w3 →
  ∃ (n_2 : Int), (∀ w0 : World, Ext w3 w0 → Calls Try.prog 56 #[.pointer (some (d.add 1))] w0 fun e_ w00 => e_ = .returned (.int .i64 n_2) ∧ Drawn w0 w00) ∧
  ∃ (n_3 : Int), (∀ w0 : World, Ext w3 w0 → Calls Try.prog 56 #[.pointer (some (d.add 3))] w0 fun e_ w00 => e_ = .returned (.int .i64 n_3) ∧ Drawn w0 w00) ∧
  ∃ (n_4 : Int), World.cell? w3 (d.add 5) = some (.int .i64 n_4) ∧
  ∀ w4 : World, Drawn w3 w4 →
  R (.returned (.tuple #[.int .i64 n_2, .int .i64 n_3, .int .i64 n_4])) w4)
theorem b26 : Try.f26.body = some (bodyOf Try.f26) := by kernel_rfl
theorem ok26 : okF Try.prog an26 Try.f26 (bodyOf Try.f26) 1 = true := by kernel_rfl
theorem e26 (d : Addr) (w : World) (R : Ending → World → Prop) : vcF Try.prog an26 Try.f26 (bodyOf Try.f26) [.pointer (some d)] w R = V26 d w R := by kernel_rfl
theorem v26 (d : Addr) (w : World) (R : Ending → World → Prop) (hV : V26 d w R) : Calls Try.prog 26 #[.pointer (some d)] w R := calls_vc mixed Try.func26 b26 rfl ok26 (e26 d w R) hV

/-- (*cistern/dict.table).size -/
def an56 : Ann := { loops := [], draws := [], tys := [] }
set_option maxRecDepth 100000 in
def V56 (t : Addr) (w : World) (R : Ending → World → Prop) : Prop :=
  ∃ (q : Option Addr) (qn qc : Nat), World.cell? w t = some (.slice q qn qc) ∧
  R (.returned (.int .i64 ((qn : Nat) : Int))) w
theorem b56 : Try.f56.body = some (bodyOf Try.f56) := by kernel_rfl
theorem ok56 : okF Try.prog an56 Try.f56 (bodyOf Try.f56) 1 = true := by kernel_rfl
theorem e56 (t : Addr) (w : World) (R : Ending → World → Prop) : vcF Try.prog an56 Try.f56 (bodyOf Try.f56) [.pointer (some t)] w R = V56 t w R := by kernel_rfl
theorem v56 (t : Addr) (w : World) (R : Ending → World → Prop) (hV : V56 t w R) : Calls Try.prog 56 #[.pointer (some t)] w R := calls_vc mixed Try.func56 b56 rfl ok56 (e56 t w R) hV

/-- (*cistern/dict.Dict[int]).moves -/
def an57 : Ann := { loops := [], draws := [], tys := [] }
set_option maxRecDepth 100000 in
def V57 (d : Addr) (w : World) (R : Ending → World → Prop) : Prop :=
  Calls Try.prog 56 #[.pointer (some (d.add 3))] w fun e_ w1 => ∃ (n : Int), e_ = .returned (.int .i64 n) ∧
  R (.returned (.bool (decide ((n : Int) > 0)))) w1
theorem b57 : Try.f57.body = some (bodyOf Try.f57) := by kernel_rfl
theorem ok57 : okF Try.prog an57 Try.f57 (bodyOf Try.f57) 1 = true := by kernel_rfl
theorem e57 (d : Addr) (w : World) (R : Ending → World → Prop) : vcF Try.prog an57 Try.f57 (bodyOf Try.f57) [.pointer (some d)] w R = V57 d w R := by kernel_rfl
theorem v57 (d : Addr) (w : World) (R : Ending → World → Prop) (hV : V57 d w R) : Calls Try.prog 57 #[.pointer (some d)] w R := calls_vc mixed Try.func57 b57 rfl ok57 (e57 d w R) hV

/-- (*cistern/dict.Dict[int]).begins -/
def an58 : Ann := { loops := [], draws := [], tys := [] }
set_option maxRecDepth 100000 in
def V58 (d : Addr) (size : Int) (w : World) (R : Ending → World → Prop) : Prop :=
  (0 : Int) ≤ size ∧ (size : Int) ≤ size ∧ (size : Int) < 9223372036854775808 ∧ ((24 : Nat) : Int) * size ≤ 281474976710656 ∧
  ∀ (g : Nat) (w1 : World), g = (World.heap w).size → w1 = World.alloc w (.cells (zeroRow #[.slice none 0 0] ((Int.toNat size) * 1)) 30) →
  (∃ v0 : Value, World.cell? w1 (d.add 3) = some v0) ∧ World.frozen? w1 (d.add 3) = false ∧
  (∃ v0 : Value, World.cell? (World.setCell w1 (d.add 3) (.slice (some ⟨g, 0, none⟩) (Int.toNat size) (Int.toNat size))) (d.add 4) = some v0) ∧ World.frozen? (World.setCell w1 (d.add 3) (.slice (some ⟨g, 0, none⟩) (Int.toNat size) (Int.toNat size))) (d.add 4) = false ∧
  ∀ w2 : World, w2 = (World.setCell (World.setCell w1 (d.add 3) (.slice (some ⟨g, 0, none⟩) (Int.toNat size) (Int.toNat size))) (d.add 4) (.int .i64 0)) →
  (∃ v0 : Value, World.cell? w2 (d.add 5) = some v0) ∧ World.frozen? w2 (d.add 5) = false ∧
  ∀ w3 : World, w3 = (World.setCell w2 (d.add 5) (.int .i64 0)) →
  Calls Try.prog 61 #[.pointer (some d)] w3 fun e_ w4 => e_ = .returned (.tuple #[]) ∧
  R (.returned (.tuple #[])) w4
theorem b58 : Try.f58.body = some (bodyOf Try.f58) := by kernel_rfl
theorem ok58 : okF Try.prog an58 Try.f58 (bodyOf Try.f58) 2 = true := by kernel_rfl
theorem e58 (d : Addr) (size : Int) (w : World) (R : Ending → World → Prop) : vcF Try.prog an58 Try.f58 (bodyOf Try.f58) [.pointer (some d), .int .i64 size] w R = V58 d size w R := by kernel_rfl
theorem v58 (d : Addr) (size : Int) (w : World) (R : Ending → World → Prop) (hV : V58 d size w R) : Calls Try.prog 58 #[.pointer (some d), .int .i64 size] w R := calls_vc mixed Try.func58 b58 rfl ok58 (e58 d size w R) hV

/-- (*cistern/dict.table).join -/
def an59 : Ann := { loops := [], draws := [(1, true, Tr.seq [0, 1, 2, 4, 5, 6, 7, 9, 12, 3, 8, 10, 11, 13, 14, 15, 16] .nil, [13, 14, 16], [13, 14, 16], [13, 8, 11])], tys := [] }
set_option maxRecDepth 100000 in
def V59 (t : Addr) (h : Int) (key : ByteArray) (w : World) (R : Ending → World → Prop) : Prop :=
  Calls Try.prog 110 #[.pointer (some t), .int .i64 h] w fun e_ w1 => ∃ (n : Int), e_ = .returned (.int .i64 n) ∧
  ∀ w2 : World, Drawn w1 w2 →
  ∃ B : Nat → Prop,
  ¬ B (Addr.block t) ∧
  ∃ (q : Option Addr) (qn qc : Nat), World.cell? w2 t = some (.slice q qn qc) ∧
  ∃ (q_2 : Option Addr) (q_2n q_2c : Nat), World.cell? w2 t = some (.slice q_2 q_2n q_2c) ∧
  ptrC q_2 fun a => (0 : Int) ≤ n ∧ n < ((q_2n : Nat) : Int) ∧
  ∃ (q_3 : Option Addr) (q_3n q_3c : Nat), World.cell? w2 (Addr.add a ((Int.toNat n) * 1)) = some (.slice q_3 q_3n q_3c) ∧
  ∀ w3 : World, Drawn w2 w3 →
  ∀ (g : Nat) (w4 : World), g = (World.heap w3).size → w4 = World.alloc w3 (.cells #[.string key] 9) →
  Ext w3 w4 ∧
  ∀ w5 : World, Drawn w4 w5 →
  ∃ (q_4 : Option Addr) (q_4n q_4c : Nat), ∃ w6 : World, Sem.run Try.prog (builtin .append #[30, 30] 30 #[false, false] #[.slice q_3 q_3n q_3c, .slice (some ⟨g, 0, none⟩) 1 1]) w5 = .ok (.value (.slice q_4 q_4n q_4c)) w6 ∧
  ExtB B w5 w6 ∧
  ptrC q fun a_2 => (0 : Int) ≤ n ∧ n < ((qn : Nat) : Int) ∧
  ∀ w7 : World, Drawn w6 w7 →
  (∃ v0 : Value, World.cell? w7 (Addr.add a_2 ((Int.toNat n) * 1)) = some v0) ∧ World.frozen? w7 (Addr.add a_2 ((Int.toNat n) * 1)) = false ∧
  ∀ w8 : World, w8 = (World.setCell w7 (Addr.add a_2 ((Int.toNat n) * 1)) (.slice q_4 q_4n q_4c)) →
  ExtB B w7 w8 ∧
  ∀ w9 : World, Drawn w8 w9 →
  ∃ (n_2 : Int), World.cell? w9 (t.add 1) = some (.int .i64 n_2) ∧
  (∃ v0 : Value, World.cell? w9 (t.add 1) = some v0) ∧ World.frozen? w9 (t.add 1) = false ∧
  ∀ w10 : World, w10 = (World.setCell w9 (t.add 1) (.int .i64 (IntKind.wrap .i64 (n_2 + 1)))) →
  R (.returned (.tuple #[])) w10
theorem b59 : Try.f59.body = some (bodyOf Try.f59) := by kernel_rfl
theorem ok59 : okF Try.prog an59 Try.f59 (bodyOf Try.f59) 3 = true := by kernel_rfl
theorem e59 (t : Addr) (h : Int) (key : ByteArray) (w : World) (R : Ending → World → Prop) : vcF Try.prog an59 Try.f59 (bodyOf Try.f59) [.pointer (some t), .int .i64 h, .string key] w R = V59 t h key w R := by kernel_rfl
theorem v59 (t : Addr) (h : Int) (key : ByteArray) (w : World) (R : Ending → World → Prop) (hV : V59 t h key w R) : Calls Try.prog 59 #[.pointer (some t), .int .i64 h, .string key] w R := calls_vc mixed Try.func59 b59 rfl ok59 (e59 t h key w R) hV

/-- (*cistern/dict.table).leave -/
def an60 : Ann := { loops := [], draws := [(7, true, Tr.seq [0, 1, 2, 4, 5, 6, 7, 9, 12, 13, 14, 3, 8, 10, 11, 15, 16, 17] .nil, [15, 17], [15, 17], [8, 11])], tys := [] }
set_option maxRecDepth 100000 in
def V60 (t : Addr) (h : Int) (key : ByteArray) (w : World) (R : Ending → World → Prop) : Prop :=
  Calls Try.prog 56 #[.pointer (some t)] w fun e_ w1 => ∃ (n : Int), e_ = .returned (.int .i64 n) ∧
  (((n : Int) == 0) = true →
  R (.returned (.bool false)) w1) ∧
  (((n : Int) == 0) = false →
  Calls Try.prog 110 #[.pointer (some t), .int .i64 h] w1 fun e_ w2 => ∃ (n_2 : Int), e_ = .returned (.int .i64 n_2) ∧
  ∃ (q : Option Addr) (qn qc : Nat), World.cell? w2 t = some (.slice q qn qc) ∧
  ptrC q fun a => (0 : Int) ≤ n_2 ∧ n_2 < ((qn : Nat) : Int) ∧
  ∃ (q_2 : Option Addr) (q_2n q_2c : Nat), World.cell? w2 (Addr.add a ((Int.toNat n_2) * 1)) = some (.slice q_2 q_2n q_2c) ∧
  Calls Try.prog 111 #[.slice q_2 q_2n q_2c, .string key] w2 fun e_ w3 => ∃ (n_3 : Int), e_ = .returned (.int .i64 n_3) ∧
  ((decide ((n_3 : Int) < 0)) = true →
  R (.returned (.bool false)) w3) ∧
  ((decide ((n_3 : Int) < 0)) = false →
  ∀ w4 : World, Drawn w3 w4 →
  ∃ B : Nat → Prop,
  ¬ B (Addr.block t) ∧
  ∃ (q_3 : Option Addr) (q_3n q_3c : Nat), World.cell? w4 t = some (.slice q_3 q_3n q_3c) ∧
  ∃ (q_4 : Option Addr) (q_4n q_4c : Nat), World.cell? w4 t = some (.slice q_4 q_4n q_4c) ∧
  ptrC q_4 fun a_2 => (0 : Int) ≤ n_2 ∧ n_2 < ((q_4n : Nat) : Int) ∧
  ∃ (q_5 : Option Addr) (q_5n q_5c : Nat), World.cell? w4 (Addr.add a_2 ((Int.toNat n_2) * 1)) = some (.slice q_5 q_5n q_5c) ∧
  ∀ w5 : World, Drawn w4 w5 →
  Calls Try.prog 112 #[.slice q_5 q_5n q_5c, .int .i64 n_3, .int .i64 (IntKind.wrap .i64 (n_3 + 1))] w5 fun e_ w6 => ∃ (q_6 : Option Addr) (q_6n q_6c : Nat), e_ = .returned (.slice q_6 q_6n q_6c) ∧
  ExtB B w5 w6 ∧
  ptrC q_3 fun a_3 => (0 : Int) ≤ n_2 ∧ n_2 < ((q_3n : Nat) : Int) ∧
  ∀ w7 : World, Drawn w6 w7 →
  (∃ v0 : Value, World.cell? w7 (Addr.add a_3 ((Int.toNat n_2) * 1)) = some v0) ∧ World.frozen? w7 (Addr.add a_3 ((Int.toNat n_2) * 1)) = false ∧
  ∀ w8 : World, w8 = (World.setCell w7 (Addr.add a_3 ((Int.toNat n_2) * 1)) (.slice q_6 q_6n q_6c)) →
  ExtB B w7 w8 ∧
  ∀ w9 : World, Drawn w8 w9 →
  ∃ (n_4 : Int), World.cell? w9 (t.add 1) = some (.int .i64 n_4) ∧
  (∃ v0 : Value, World.cell? w9 (t.add 1) = some v0) ∧ World.frozen? w9 (t.add 1) = false ∧
  ∀ w10 : World, w10 = (World.setCell w9 (t.add 1) (.int .i64 (IntKind.wrap .i64 (n_4 - 1)))) →
  R (.returned (.bool true)) w10))
theorem b60 : Try.f60.body = some (bodyOf Try.f60) := by kernel_rfl
theorem ok60 : okF Try.prog an60 Try.f60 (bodyOf Try.f60) 3 = true := by kernel_rfl
theorem e60 (t : Addr) (h : Int) (key : ByteArray) (w : World) (R : Ending → World → Prop) : vcF Try.prog an60 Try.f60 (bodyOf Try.f60) [.pointer (some t), .int .i64 h, .string key] w R = V60 t h key w R := by kernel_rfl
theorem v60 (t : Addr) (h : Int) (key : ByteArray) (w : World) (R : Ending → World → Prop) (hV : V60 t h key w R) : Calls Try.prog 60 #[.pointer (some t), .int .i64 h, .string key] w R := calls_vc mixed Try.func60 b60 rfl ok60 (e60 t h key w R) hV

/-- (*cistern/dict.Dict[int]).ends -/
def an61 : Ann := { loops := [], draws := [], tys := [] }
set_option maxRecDepth 100000 in
def V61_k1 (d_2 : Addr) (b_2 : Bool) (w2 : World) (R : Ending → World → Prop) : Prop :=
  (b_2 = true →
  ∃ (q : Option Addr) (qn qc : Nat), World.cell? w2 (d_2.add 3) = some (.slice q qn qc) ∧
  ∃ (n_2 : Int), World.cell? w2 (d_2.add 4) = some (.int .i64 n_2) ∧
  (∃ v0 : Value, World.cell? w2 (d_2.add 1) = some v0) ∧ World.frozen? w2 (d_2.add 1) = false ∧
  (∃ v0 : Value, World.cell? (World.setCell w2 (d_2.add 1) (.slice q qn qc)) (d_2.add 2) = some v0) ∧ World.frozen? (World.setCell w2 (d_2.add 1) (.slice q qn qc)) (d_2.add 2) = false ∧
  ∀ w3 : World, w3 = (World.setCell (World.setCell w2 (d_2.add 1) (.slice q qn qc)) (d_2.add 2) (.int .i64 n_2)) →
  (∃ v0 : Value, World.cell? w3 (d_2.add 3) = some v0) ∧ World.frozen? w3 (d_2.add 3) = false ∧
  (∃ v0 : Value, World.cell? (World.setCell w3 (d_2.add 3) (.slice none 0 0)) (d_2.add 4) = some v0) ∧ World.frozen? (World.setCell w3 (d_2.add 3) (.slice none 0 0)) (d_2.add 4) = false ∧
  ∀ w4 : World, w4 = (World.setCell (World.setCell w3 (d_2.add 3) (.slice none 0 0)) (d_2.add 4) (.int .i64 0)) →
  (∃ v0 : Value, World.cell? w4 (d_2.add 5) = some v0) ∧ World.frozen? w4 (d_2.add 5) = false ∧
  ∀ w5 : World, w5 = (World.setCell w4 (d_2.add 5) (.int .i64 0)) →
  R (.returned (.tuple #[])) w5) ∧
  (b_2 = false →
  R (.returned (.tuple #[])) w2)
set_option maxRecDepth 100000 in
def V61_k2 (d_3 : Addr) (w6 : World) (R : Ending → World → Prop) : Prop :=
  (false = true →
  ∃ (q_2 : Option Addr) (q_2n q_2c : Nat), World.cell? w6 (d_3.add 3) = some (.slice q_2 q_2n q_2c) ∧
  ∃ (n_3 : Int), World.cell? w6 (d_3.add 4) = some (.int .i64 n_3) ∧
  (∃ v0 : Value, World.cell? w6 (d_3.add 1) = some v0) ∧ World.frozen? w6 (d_3.add 1) = false ∧
  (∃ v0 : Value, World.cell? (World.setCell w6 (d_3.add 1) (.slice q_2 q_2n q_2c)) (d_3.add 2) = some v0) ∧ World.frozen? (World.setCell w6 (d_3.add 1) (.slice q_2 q_2n q_2c)) (d_3.add 2) = false ∧
  ∀ w7 : World, w7 = (World.setCell (World.setCell w6 (d_3.add 1) (.slice q_2 q_2n q_2c)) (d_3.add 2) (.int .i64 n_3)) →
  (∃ v0 : Value, World.cell? w7 (d_3.add 3) = some v0) ∧ World.frozen? w7 (d_3.add 3) = false ∧
  (∃ v0 : Value, World.cell? (World.setCell w7 (d_3.add 3) (.slice none 0 0)) (d_3.add 4) = some v0) ∧ World.frozen? (World.setCell w7 (d_3.add 3) (.slice none 0 0)) (d_3.add 4) = false ∧
  ∀ w8 : World, w8 = (World.setCell (World.setCell w7 (d_3.add 3) (.slice none 0 0)) (d_3.add 4) (.int .i64 0)) →
  (∃ v0 : Value, World.cell? w8 (d_3.add 5) = some v0) ∧ World.frozen? w8 (d_3.add 5) = false ∧
  ∀ w9 : World, w9 = (World.setCell w8 (d_3.add 5) (.int .i64 0)) →
  R (.returned (.tuple #[])) w9) ∧
  (false = false →
  R (.returned (.tuple #[])) w6)
set_option maxRecDepth 100000 in
def V61 (d : Addr) (w : World) (R : Ending → World → Prop) : Prop :=
  Calls Try.prog 57 #[.pointer (some d)] w fun e_ w1 => ∃ (b : Bool), e_ = .returned (.bool b) ∧
  (b = true →
  ∃ (n : Int), World.cell? w1 (d.add 2) = some (.int .i64 n) ∧
  V61_k1 d ((n : Int) == 0) w1 R) ∧
  (b = !true →
  V61_k2 d w1 R)
theorem b61 : Try.f61.body = some (bodyOf Try.f61) := by kernel_rfl
theorem ok61 : okF Try.prog an61 Try.f61 (bodyOf Try.f61) 1 = true := by kernel_rfl
theorem e61 (d : Addr) (w : World) (R : Ending → World → Prop) : vcF Try.prog an61 Try.f61 (bodyOf Try.f61) [.pointer (some d)] w R = V61 d w R := by kernel_rfl
theorem v61 (d : Addr) (w : World) (R : Ending → World → Prop) (hV : V61 d w R) : Calls Try.prog 61 #[.pointer (some d)] w R := calls_vc mixed Try.func61 b61 rfl ok61 (e61 d w R) hV

/-- (*cistern/dict.table).at -/
def an110 : Ann := { loops := [], draws := [], tys := [] }
set_option maxRecDepth 100000 in
def V110 (t : Addr) (h : Int) (w : World) (R : Ending → World → Prop) : Prop :=
  ∃ (q : Option Addr) (qn qc : Nat), World.cell? w t = some (.slice q qn qc) ∧
  R (.returned (.int .i64 (andI .i64 h (IntKind.wrap .i64 (((qn : Nat) : Int) - 1))))) w
theorem b110 : Try.f110.body = some (bodyOf Try.f110) := by kernel_rfl
theorem ok110 : okF Try.prog an110 Try.f110 (bodyOf Try.f110) 2 = true := by kernel_rfl
theorem e110 (t : Addr) (h : Int) (w : World) (R : Ending → World → Prop) : vcF Try.prog an110 Try.f110 (bodyOf Try.f110) [.pointer (some t), .int .i64 h] w R = V110 t h w R := by kernel_rfl
theorem v110 (t : Addr) (h : Int) (w : World) (R : Ending → World → Prop) (hV : V110 t h w R) : Calls Try.prog 110 #[.pointer (some t), .int .i64 h] w R := calls_vc mixed Try.func110 b110 rfl ok110 (e110 t h w R) hV

end Go.Proofs.Ytcljmlgbmjjldaa.F
