/- The verification conditions of Go functions, printed by wip/gen/gen.py; the kernel checks that each is the one reckoned from the code. -/
import Derived.Test.YtcljmlgbmjjldaaProg
import Derived.Test.YtcljmlgbmjjldaaVC
import Derived.Test.YtcljmlgbmjjldaaF0
set_option linter.unusedVariables false
namespace Go.Proofs.Ytcljmlgbmjjldaa.F
open Go Go.VC Go.Proofs
/-- cistern/cisternlaw08.works -/
def an15 : Ann := { loops := [], draws := [], tys := [] }
set_option maxRecDepth 100000 in
def V15_k1 (d : Option Addr) (b_3 : Bool) (w4 : World) (R : Ending → World → Prop) : Prop :=
  (b_3 = true →
  R (.returned (.bool false)) w4) ∧
  (b_3 = false →
  Calls Try.prog 23 #[.pointer d, .string (ByteArray.mk #[97])] w4 fun e_ w5 => ∃ (n : Int), ∃ (b_4 : Bool), e_ = .returned (.tuple #[.int .i64 n, .bool b_4]) ∧
  Calls Try.prog 25 #[.pointer d, .int .i64 0, .int .i64 10] w5 fun e_ w6 => ∃ (q : Option Addr) (qn qc : Nat), ∃ (n_2 : Int), e_ = .returned (.tuple #[.slice q qn qc, .int .i64 n_2]) ∧
  Calls Try.prog 26 #[.pointer d] w6 fun e_ w7 => ∃ (n_3 : Int), ∃ (n_4 : Int), ∃ (n_5 : Int), e_ = .returned (.tuple #[.int .i64 n_3, .int .i64 n_4, .int .i64 n_5]) ∧
  (((n : Int) == 8) = true →
  (b_4 = true →
  Calls Try.prog 22 #[.pointer d] w7 fun e_ w8 => ∃ (n_6 : Int), e_ = .returned (.int .i64 n_6) ∧
  (((n_6 : Int) == 1) = true →
  (((((qn : Nat) : Int) : Int) == 1) = true →
  ptrC q fun a => (0 : Int) ≤ 0 ∧ 0 < ((qn : Nat) : Int) ∧
  ∃ (s : ByteArray), World.cell? w8 (Addr.add a ((Int.toNat 0) * 1)) = some (.string s) ∧
  ((strEq s (ByteArray.mk #[97])) = true →
  (((n_2 : Int) == 0) = true →
  (((n_3 : Int) == 4) = true →
  (((n_4 : Int) == 0) = true →
  (((n_5 : Int) == (-1)) = true →
  Calls Try.prog 20 #[.pointer d, .string (ByteArray.mk #[97])] w8 fun e_ w9 => ∃ (b_5 : Bool), e_ = .returned (.bool b_5) ∧
  (b_5 = true →
  Calls Try.prog 22 #[.pointer d] w9 fun e_ w10 => ∃ (n_7 : Int), e_ = .returned (.int .i64 n_7) ∧
  R (.returned (.bool ((n_7 : Int) == 0))) w10) ∧
  (b_5 = !true →
  R (.returned (.bool false)) w9)) ∧
  (((n_5 : Int) == (-1)) = !true →
  R (.returned (.bool false)) w8)) ∧
  (((n_4 : Int) == 0) = !true →
  R (.returned (.bool false)) w8)) ∧
  (((n_3 : Int) == 4) = !true →
  R (.returned (.bool false)) w8)) ∧
  (((n_2 : Int) == 0) = !true →
  R (.returned (.bool false)) w8)) ∧
  ((strEq s (ByteArray.mk #[97])) = !true →
  R (.returned (.bool false)) w8)) ∧
  (((((qn : Nat) : Int) : Int) == 1) = !true →
  R (.returned (.bool false)) w8)) ∧
  (((n_6 : Int) == 1) = !true →
  R (.returned (.bool false)) w8)) ∧
  (b_4 = !true →
  R (.returned (.bool false)) w7)) ∧
  (((n : Int) == 8) = !true →
  R (.returned (.bool false)) w7))
set_option maxRecDepth 100000 in
def V15_k2 (d_2 : Option Addr) (w11 : World) (R : Ending → World → Prop) : Prop :=
  (true = true →
  R (.returned (.bool false)) w11) ∧
  (true = false →
  Calls Try.prog 23 #[.pointer d_2, .string (ByteArray.mk #[97])] w11 fun e_ w12 => ∃ (n_8 : Int), ∃ (b_6 : Bool), e_ = .returned (.tuple #[.int .i64 n_8, .bool b_6]) ∧
  Calls Try.prog 25 #[.pointer d_2, .int .i64 0, .int .i64 10] w12 fun e_ w13 => ∃ (q_2 : Option Addr) (q_2n q_2c : Nat), ∃ (n_9 : Int), e_ = .returned (.tuple #[.slice q_2 q_2n q_2c, .int .i64 n_9]) ∧
  Calls Try.prog 26 #[.pointer d_2] w13 fun e_ w14 => ∃ (n_10 : Int), ∃ (n_11 : Int), ∃ (n_12 : Int), e_ = .returned (.tuple #[.int .i64 n_10, .int .i64 n_11, .int .i64 n_12]) ∧
  (((n_8 : Int) == 8) = true →
  (b_6 = true →
  Calls Try.prog 22 #[.pointer d_2] w14 fun e_ w15 => ∃ (n_13 : Int), e_ = .returned (.int .i64 n_13) ∧
  (((n_13 : Int) == 1) = true →
  (((((q_2n : Nat) : Int) : Int) == 1) = true →
  ptrC q_2 fun a_2 => (0 : Int) ≤ 0 ∧ 0 < ((q_2n : Nat) : Int) ∧
  ∃ (s_2 : ByteArray), World.cell? w15 (Addr.add a_2 ((Int.toNat 0) * 1)) = some (.string s_2) ∧
  ((strEq s_2 (ByteArray.mk #[97])) = true →
  (((n_9 : Int) == 0) = true →
  (((n_10 : Int) == 4) = true →
  (((n_11 : Int) == 0) = true →
  (((n_12 : Int) == (-1)) = true →
  Calls Try.prog 20 #[.pointer d_2, .string (ByteArray.mk #[97])] w15 fun e_ w16 => ∃ (b_7 : Bool), e_ = .returned (.bool b_7) ∧
  (b_7 = true →
  Calls Try.prog 22 #[.pointer d_2] w16 fun e_ w17 => ∃ (n_14 : Int), e_ = .returned (.int .i64 n_14) ∧
  R (.returned (.bool ((n_14 : Int) == 0))) w17) ∧
  (b_7 = !true →
  R (.returned (.bool false)) w16)) ∧
  (((n_12 : Int) == (-1)) = !true →
  R (.returned (.bool false)) w15)) ∧
  (((n_11 : Int) == 0) = !true →
  R (.returned (.bool false)) w15)) ∧
  (((n_10 : Int) == 4) = !true →
  R (.returned (.bool false)) w15)) ∧
  (((n_9 : Int) == 0) = !true →
  R (.returned (.bool false)) w15)) ∧
  ((strEq s_2 (ByteArray.mk #[97])) = !true →
  R (.returned (.bool false)) w15)) ∧
  (((((q_2n : Nat) : Int) : Int) == 1) = !true →
  R (.returned (.bool false)) w15)) ∧
  (((n_13 : Int) == 1) = !true →
  R (.returned (.bool false)) w15)) ∧
  (b_6 = !true →
  R (.returned (.bool false)) w14)) ∧
  (((n_8 : Int) == 8) = !true →
  R (.returned (.bool false)) w14))
set_option maxRecDepth 100000 in
def V15  (w : World) (R : Ending → World → Prop) : Prop :=
  Calls Try.prog 18 #[.int .i64 0] w fun e_ w1 => ∃ (p : Option Addr), e_ = .returned (.pointer p) ∧
  ((Option.isNone p) = false →
  Calls Try.prog 19 #[.pointer p, .string (ByteArray.mk #[97]), .int .i64 7] w1 fun e_ w2 => ∃ (b : Bool), e_ = .returned (.bool b) ∧
  ((!b) = false →
  Calls Try.prog 19 #[.pointer p, .string (ByteArray.mk #[97]), .int .i64 8] w2 fun e_ w3 => ∃ (b_2 : Bool), e_ = .returned (.bool b_2) ∧
  V15_k1 p b_2 w3 R) ∧
  ((!b) = !false →
  V15_k2 p w2 R)) ∧
  ((Option.isNone p) = !false →
  V15_k2 p w1 R)
theorem b15 : Try.f15.body = some (bodyOf Try.f15) := by kernel_rfl
theorem ok15 : okF Try.prog an15 Try.f15 (bodyOf Try.f15) 0 = true := by kernel_rfl
theorem e15  (w : World) (R : Ending → World → Prop) : vcF Try.prog an15 Try.f15 (bodyOf Try.f15) [] w R = V15  w R := by kernel_rfl
theorem v15  (w : World) (R : Ending → World → Prop) (hV : V15  w R) : Calls Try.prog 15 #[] w R := calls_vc mixed Try.func15 b15 rfl ok15 (e15  w R) hV

/-- (*cistern/dict.Dict[int]).Set -/
def an19 : Ann := { loops := [], draws := [(8, false, Tr.seq [0, 1, 2, 3, 4, 5, 6, 7, 9, 10, 11, 8, 12, 13, 14, 15] .nil, [], [], []), (11, false, Tr.seq [0, 1, 2, 3, 4, 5, 7, 9, 6, 8, 10] .nil, [10], [], []), (12, false, Tr.seq [0, 1, 2, 3, 4, 5, 7, 9, 6, 8, 10] .nil, [10], [], [])], tys := [] }
set_option maxRecDepth 100000 in
def V19_k2 (d_3 : Addr) (key_3 : ByteArray) (w8 : World) (R : Ending → World → Prop) : Prop :=
  Calls Try.prog 57 #[.pointer (some d_3)] w8 fun e_ w9 => ∃ (b_2 : Bool), e_ = .returned (.bool b_2) ∧
  (b_2 = true →
  ∀ w10 : World, Drawn w9 w10 →
  ∃ (n_3 : Int), World.cell? w10 d_3 = some (.int .i64 n_3) ∧
  ∃ (n_4 : Int), (∀ w0 : World, Ext w10 w0 → Calls Try.prog 16 #[.int .i64 n_3, .string key_3] w0 fun e_ w00 => e_ = .returned (.int .i64 n_4) ∧ Drawn w0 w00) ∧
  ∀ w11 : World, Drawn w10 w11 →
  Calls Try.prog 59 #[.pointer (some (d_3.add 3)), .int .i64 n_4, .string key_3] w11 fun e_ w12 => e_ = .returned (.tuple #[]) ∧
  ∀ w13 : World, Drawn w12 w13 →
  R (.returned (.bool true)) w13) ∧
  (b_2 = false →
  ∀ w14 : World, Drawn w9 w14 →
  ∃ (n_5 : Int), World.cell? w14 d_3 = some (.int .i64 n_5) ∧
  ∃ (n_6 : Int), (∀ w0 : World, Ext w14 w0 → Calls Try.prog 16 #[.int .i64 n_5, .string key_3] w0 fun e_ w00 => e_ = .returned (.int .i64 n_6) ∧ Drawn w0 w00) ∧
  ∀ w15 : World, Drawn w14 w15 →
  Calls Try.prog 59 #[.pointer (some (d_3.add 1)), .int .i64 n_6, .string key_3] w15 fun e_ w16 => e_ = .returned (.tuple #[]) ∧
  ∀ w17 : World, Drawn w16 w17 →
  R (.returned (.bool true)) w17)
set_option maxRecDepth 100000 in
def V19_k1 (d_2 : Addr) (key_2 : ByteArray) (w7 : World) (R : Ending → World → Prop) : Prop :=
  V19_k2 d_2 key_2 w7 R
set_option maxRecDepth 100000 in
def V19_k3 (d_4 : Addr) (key_4 : ByteArray) (b_4 : Bool) (w20 : World) (R : Ending → World → Prop) : Prop :=
  (b_4 = true →
  Calls Try.prog 56 #[.pointer (some (d_4.add 1))] w20 fun e_ w21 => ∃ (n_9 : Int), e_ = .returned (.int .i64 n_9) ∧
  Calls Try.prog 58 #[.pointer (some d_4), .int .i64 (IntKind.wrap .i64 (2 * n_9))] w21 fun e_ w22 => e_ = .returned (.tuple #[]) ∧
  V19_k1 d_4 key_4 w22 R) ∧
  (b_4 = false →
  V19_k1 d_4 key_4 w20 R)
set_option maxRecDepth 100000 in
def V19_k4 (d_5 : Addr) (key_5 : ByteArray) (w24 : World) (R : Ending → World → Prop) : Prop :=
  (false = true →
  Calls Try.prog 56 #[.pointer (some (d_5.add 1))] w24 fun e_ w25 => ∃ (n_10 : Int), e_ = .returned (.int .i64 n_10) ∧
  Calls Try.prog 58 #[.pointer (some d_5), .int .i64 (IntKind.wrap .i64 (2 * n_10))] w25 fun e_ w26 => e_ = .returned (.tuple #[]) ∧
  V19_k1 d_5 key_5 w26 R) ∧
  (false = false →
  V19_k1 d_5 key_5 w24 R)
set_option maxRecDepth 100000 in
def V19 (d : Addr) (key : ByteArray) (v : Int) (w : World) (R : Ending → World → Prop) : Prop :=
  Calls Try.prog 55 #[.pointer (some d)] w fun e_ w1 => e_ = .returned (.tuple #[]) ∧
  ∃ (m : Option Nat), World.cell? w1 (d.add 6) = some (.map m) ∧
  ∃ (n : Int), ∃ (b : Bool), ∃ w2 : World, Sem.run Try.prog (Instr.lookup 100 (.map m) (.string key) true) w1 = .ok (.tuple #[.int .i64 n, .bool b]) w2 ∧
  ∃ (m_2 : Option Nat), World.cell? w2 (d.add 6) = some (.map m_2) ∧
  ∃ w3 : World, Sem.run Try.prog (Instr.mapUpdate 100 (.map m_2) (.string key) (.int .i64 v)) w2 = .ok () w3 ∧
  (b = true →
  R (.returned (.bool false)) w3) ∧
  (b = false →
  Calls Try.prog 56 #[.pointer (some (d.add 1))] w3 fun e_ w4 => ∃ (n_2 : Int), e_ = .returned (.int .i64 n_2) ∧
  (((n_2 : Int) == 0) = true →
  (0 : Int) ≤ 4 ∧ (4 : Int) ≤ 4 ∧ (4 : Int) < 9223372036854775808 ∧ ((24 : Nat) : Int) * 4 ≤ 281474976710656 ∧
  ∀ (g : Nat) (w5 : World), g = (World.heap w4).size → w5 = World.alloc w4 (.cells (zeroRow #[.slice none 0 0] ((Int.toNat 4) * 1)) 30) →
  (∃ v0 : Value, World.cell? w5 (d.add 1) = some v0) ∧ World.frozen? w5 (d.add 1) = false ∧
  ∀ w6 : World, w6 = (World.setCell w5 (d.add 1) (.slice (some ⟨g, 0, none⟩) (Int.toNat 4) (Int.toNat 4))) →
  V19_k1 d key w6 R) ∧
  (((n_2 : Int) == 0) = false →
  ∀ w18 : World, Drawn w4 w18 →
  ∃ (b_3 : Bool), (∀ w0 : World, Ext w18 w0 → Calls Try.prog 57 #[.pointer (some d)] w0 fun e_ w00 => e_ = .returned (.bool b_3) ∧ Drawn w0 w00) ∧
  ((!b_3) = true →
  ∃ (n_7 : Int), World.cell? w18 (d.add 2) = some (.int .i64 n_7) ∧
  ∃ (n_8 : Int), (∀ w0 : World, Ext w18 w0 → Calls Try.prog 56 #[.pointer (some (d.add 1))] w0 fun e_ w00 => e_ = .returned (.int .i64 n_8) ∧ Drawn w0 w00) ∧
  ∀ w19 : World, Drawn w18 w19 →
  V19_k3 d key (decide ((n_7 : Int) ≥ n_8)) w19 R) ∧
  ((!b_3) = !true →
  ∀ w23 : World, Drawn w18 w23 →
  V19_k4 d key w23 R)))
theorem b19 : Try.f19.body = some (bodyOf Try.f19) := by kernel_rfl
theorem ok19 : okF Try.prog an19 Try.f19 (bodyOf Try.f19) 3 = true := by kernel_rfl
theorem e19 (d : Addr) (key : ByteArray) (v : Int) (w : World) (R : Ending → World → Prop) : vcF Try.prog an19 Try.f19 (bodyOf Try.f19) [.pointer (some d), .string key, .int .i64 v] w R = V19 d key v w R := by kernel_rfl
theorem v19 (d : Addr) (key : ByteArray) (v : Int) (w : World) (R : Ending → World → Prop) (hV : V19 d key v w R) : Calls Try.prog 19 #[.pointer (some d), .string key, .int .i64 v] w R := calls_vc mixed Try.func19 b19 rfl ok19 (e19 d key v w R) hV

/-- (*cistern/dict.Dict[int]).Delete -/
def an20 : Ann := { loops := [(12, [(8, .int .i64)])], draws := [(10, false, Tr.seq [0, 1, 2, 3, 4, 5, 6, 7, 8, 9, 10, 11, 12, 13, 14, 16, 17, 18, 15, 19, 20, 21, 22] .nil, [], [], [])], tys := [] }
set_option maxRecDepth 100000 in
def V20_k2 (d_3 : Addr) (b_5 : Bool) (w11 : World) (R : Ending → World → Prop) : Prop :=
  (b_5 = true →
  ∃ (I : Int → World → Prop) (M : Int → World → Nat), I 4 w11 ∧
  ∀ (size : Int) (w12 : World), I size w12 →
  ∃ (n_7 : Int), World.cell? w12 (d_3.add 2) = some (.int .i64 n_7) ∧
  ((decide ((size : Int) < n_7)) = true →
  (I (IntKind.wrap .i64 (size * 2)) w12 ∧ M (IntKind.wrap .i64 (size * 2)) w12 < M size w12)) ∧
  ((decide ((size : Int) < n_7)) = false →
  Calls Try.prog 58 #[.pointer (some d_3), .int .i64 size] w12 fun e_ w13 => e_ = .returned (.tuple #[]) ∧
  R (.returned (.bool true)) w13)) ∧
  (b_5 = false →
  R (.returned (.bool true)) w11)
set_option maxRecDepth 100000 in
def V20_k3 (d_4 : Addr) (w15 : World) (R : Ending → World → Prop) : Prop :=
  (false = true →
  ∃ (I_2 : Int → World → Prop) (M_2 : Int → World → Nat), I_2 4 w15 ∧
  ∀ (size_2 : Int) (w16 : World), I_2 size_2 w16 →
  ∃ (n_8 : Int), World.cell? w16 (d_4.add 2) = some (.int .i64 n_8) ∧
  ((decide ((size_2 : Int) < n_8)) = true →
  (I_2 (IntKind.wrap .i64 (size_2 * 2)) w16 ∧ M_2 (IntKind.wrap .i64 (size_2 * 2)) w16 < M_2 size_2 w16)) ∧
  ((decide ((size_2 : Int) < n_8)) = false →
  Calls Try.prog 58 #[.pointer (some d_4), .int .i64 size_2] w16 fun e_ w17 => e_ = .returned (.tuple #[]) ∧
  R (.returned (.bool true)) w17)) ∧
  (false = false →
  R (.returned (.bool true)) w15)
set_option maxRecDepth 100000 in
def V20_k1 (d_2 : Addr) (w7 : World) (R : Ending → World → Prop) : Prop :=
  Calls Try.prog 61 #[.pointer (some d_2)] w7 fun e_ w8 => e_ = .returned (.tuple #[]) ∧
  ∀ w9 : World, Drawn w8 w9 →
  ∃ (b_4 : Bool), (∀ w0 : World, Ext w9 w0 → Calls Try.prog 57 #[.pointer (some d_2)] w0 fun e_ w00 => e_ = .returned (.bool b_4) ∧ Drawn w0 w00) ∧
  ((!b_4) = true →
  ∃ (n_4 : Int), (∀ w0 : World, Ext w9 w0 → Calls Try.prog 56 #[.pointer (some (d_2.add 1))] w0 fun e_ w00 => e_ = .returned (.int .i64 n_4) ∧ Drawn w0 w00) ∧
  ((decide ((n_4 : Int) > 4)) = true →
  ∃ (n_5 : Int), World.cell? w9 (d_2.add 2) = some (.int .i64 n_5) ∧
  ∃ (n_6 : Int), (∀ w0 : World, Ext w9 w0 → Calls Try.prog 56 #[.pointer (some (d_2.add 1))] w0 fun e_ w00 => e_ = .returned (.int .i64 n_6) ∧ Drawn w0 w00) ∧
  (8 : Int) ≠ 0 ∧
  ∀ w10 : World, Drawn w9 w10 →
  V20_k2 d_2 (decide ((n_5 : Int) ≤ (IntKind.wrap .i64 (Int.tdiv n_6 8)))) w10 R) ∧
  ((decide ((n_4 : Int) > 4)) = !true →
  ∀ w14 : World, Drawn w9 w14 →
  V20_k3 d_2 w14 R)) ∧
  ((!b_4) = !true →
  ∀ w18 : World, Drawn w9 w18 →
  V20_k3 d_2 w18 R)
set_option maxRecDepth 100000 in
def V20 (d : Addr) (key : ByteArray) (w : World) (R : Ending → World → Prop) : Prop :=
  Calls Try.prog 55 #[.pointer (some d)] w fun e_ w1 => e_ = .returned (.tuple #[]) ∧
  ∃ (m : Option Nat), World.cell? w1 (d.add 6) = some (.map m) ∧
  ∃ (n : Int), ∃ (b : Bool), ∃ w2 : World, Sem.run Try.prog (Instr.lookup 100 (.map m) (.string key) true) w1 = .ok (.tuple #[.int .i64 n, .bool b]) w2 ∧
  ((!b) = true →
  R (.returned (.bool false)) w2) ∧
  ((!b) = false →
  ∃ (m_2 : Option Nat), World.cell? w2 (d.add 6) = some (.map m_2) ∧
  ∃ w3 : World, Sem.run Try.prog (builtin .delete #[100, 9] 0 #[false, false] #[.map m_2, .string key]) w2 = .ok (.value (.tuple #[])) w3 ∧
  ∃ (n_2 : Int), World.cell? w3 d = some (.int .i64 n_2) ∧
  Calls Try.prog 16 #[.int .i64 n_2, .string key] w3 fun e_ w4 => ∃ (n_3 : Int), e_ = .returned (.int .i64 n_3) ∧
  Calls Try.prog 60 #[.pointer (some (d.add 1)), .int .i64 n_3, .string key] w4 fun e_ w5 => ∃ (b_2 : Bool), e_ = .returned (.bool b_2) ∧
  ((!b_2) = true →
  Calls Try.prog 60 #[.pointer (some (d.add 3)), .int .i64 n_3, .string key] w5 fun e_ w6 => ∃ (b_3 : Bool), e_ = .returned (.bool b_3) ∧
  V20_k1 d w6 R) ∧
  ((!b_2) = false →
  V20_k1 d w5 R))
theorem b20 : Try.f20.body = some (bodyOf Try.f20) := by kernel_rfl
theorem ok20 : okF Try.prog an20 Try.f20 (bodyOf Try.f20) 2 = true := by kernel_rfl
theorem e20 (d : Addr) (key : ByteArray) (w : World) (R : Ending → World → Prop) : vcF Try.prog an20 Try.f20 (bodyOf Try.f20) [.pointer (some d), .string key] w R = V20 d key w R := by kernel_rfl
theorem v20 (d : Addr) (key : ByteArray) (w : World) (R : Ending → World → Prop) (hV : V20 d key w R) : Calls Try.prog 20 #[.pointer (some d), .string key] w R := calls_vc mixed Try.func20 b20 rfl ok20 (e20 d key w R) hV

/-- (*cistern/dict.Dict[int]).Keys -/
def an21 : Ann := { loops := [], draws := [], tys := [] }
set_option maxRecDepth 100000 in
def V21 (d : Addr) (w : World) (R : Ending → World → Prop) : Prop :=
  ∃ (m : Option Nat), World.cell? w (d.add 6) = some (.map m) ∧
  Calls Try.prog 63 #[.map m] w fun e_ w1 => ∃ (v : Value), e_ = .returned (v) ∧
  Calls Try.prog 62 #[v] w1 fun e_ w2 => ∃ (q : Option Addr) (qn qc : Nat), e_ = .returned (.slice q qn qc) ∧
  R (.returned (.slice q qn qc)) w2
theorem b21 : Try.f21.body = some (bodyOf Try.f21) := by kernel_rfl
theorem ok21 : okF Try.prog an21 Try.f21 (bodyOf Try.f21) 1 = true := by kernel_rfl
theorem e21 (d : Addr) (w : World) (R : Ending → World → Prop) : vcF Try.prog an21 Try.f21 (bodyOf Try.f21) [.pointer (some d)] w R = V21 d w R := by kernel_rfl
theorem v21 (d : Addr) (w : World) (R : Ending → World → Prop) (hV : V21 d w R) : Calls Try.prog 21 #[.pointer (some d)] w R := calls_vc mixed Try.func21 b21 rfl ok21 (e21 d w R) hV

/-- cistern/cisternlaw08.changed -/
def an24 : Ann := { loops := [], draws := [], tys := [] }
set_option maxRecDepth 100000 in
def V24_k1  (w3 : World) (R : Ending → World → Prop) : Prop :=
  R (.returned (.tuple #[])) w3
set_option maxRecDepth 100000 in
def V24 (d : Addr) (stay : Option Addr) (stayn stayc : Nat) (o : Int) (o_2 : ByteArray) (o_3 : Int) (w : World) (R : Ending → World → Prop) : Prop :=
  ∀ (g : Nat) (w1 : World), g = (World.heap w).size → w1 = World.alloc w (.cells #[.int .i64 o, .string o_2, .int .i64 o_3] 33) →
  ∃ (n : Int), World.cell? w1 ⟨g, 0, none⟩ = some (.int .i64 n) ∧
  (((n : Int) == 0) = true →
  ∃ (s : ByteArray), World.cell? w1 ⟨g, 1, none⟩ = some (.string s) ∧
  ∃ (n_2 : Int), World.cell? w1 ⟨g, 2, none⟩ = some (.int .i64 n_2) ∧
  Calls Try.prog 19 #[.pointer (some d), .string s, .int .i64 n_2] w1 fun e_ w2 => ∃ (b : Bool), e_ = .returned (.bool b) ∧
  V24_k1  w2 R) ∧
  (((n : Int) == 0) = false →
  (((n : Int) == 1) = true →
  ∃ (s_2 : ByteArray), World.cell? w1 ⟨g, 1, none⟩ = some (.string s_2) ∧
  Calls Try.prog 27 #[.slice stay stayn stayc, .string s_2] w1 fun e_ w4 => ∃ (b_2 : Bool), e_ = .returned (.bool b_2) ∧
  ((!b_2) = true →
  ∃ (s_3 : ByteArray), World.cell? w4 ⟨g, 1, none⟩ = some (.string s_3) ∧
  Calls Try.prog 20 #[.pointer (some d), .string s_3] w4 fun e_ w5 => ∃ (b_3 : Bool), e_ = .returned (.bool b_3) ∧
  V24_k1  w5 R) ∧
  ((!b_2) = false →
  V24_k1  w4 R)) ∧
  (((n : Int) == 1) = false →
  (((n : Int) == 2) = true →
  ∃ (n_3 : Int), World.cell? w1 ⟨g, 2, none⟩ = some (.int .i64 n_3) ∧
  (100 : Int) ≠ 0 ∧
  Calls Try.prog 31 #[.pointer (some d), .int .i64 (Int.tmod n_3 100)] w1 fun e_ w6 => e_ = .returned (.tuple #[]) ∧
  V24_k1  w6 R) ∧
  (((n : Int) == 2) = false →
  V24_k1  w1 R)))
theorem b24 : Try.f24.body = some (bodyOf Try.f24) := by kernel_rfl
theorem ok24 : okF Try.prog an24 Try.f24 (bodyOf Try.f24) 3 = true := by kernel_rfl
theorem e24 (d : Addr) (stay : Option Addr) (stayn stayc : Nat) (o : Int) (o_2 : ByteArray) (o_3 : Int) (w : World) (R : Ending → World → Prop) : vcF Try.prog an24 Try.f24 (bodyOf Try.f24) [.pointer (some d), .slice stay stayn stayc, .agg #[.int .i64 o, .string o_2, .int .i64 o_3]] w R = V24 d stay stayn stayc o o_2 o_3 w R := by kernel_rfl
theorem v24 (d : Addr) (stay : Option Addr) (stayn stayc : Nat) (o : Int) (o_2 : ByteArray) (o_3 : Int) (w : World) (R : Ending → World → Prop) (hV : V24 d stay stayn stayc o o_2 o_3 w R) : Calls Try.prog 24 #[.pointer (some d), .slice stay stayn stayc, .agg #[.int .i64 o, .string o_2, .int .i64 o_3]] w R := calls_vc mixed Try.func24 b24 rfl ok24 (e24 d stay stayn stayc o o_2 o_3 w R) hV

/-- (*cistern/dict.Dict[int]).Scan -/
def an25 : Ann := { loops := [(5, [(8, .int .i64), (9, .slice)])], draws := [], tys := [] }
set_option maxRecDepth 100000 in
def V25_k1 (I : Int → Option Addr → Nat → Nat → World → Prop) (M : Int → Option Addr → Nat → Nat → World → Nat) (c : Int) (out : Option Addr) (outn : Nat) (outc : Nat) (w2 : World) (d_2 : Addr) (n_4 : Int) (c_2 : Int) (out_2 : Option Addr) (out_2n out_2c : Nat) (b : Bool) (w5 : World) (R : Ending → World → Prop) : Prop :=
  (b = true →
  R (.returned (.tuple #[.slice out_2 out_2n out_2c, .int .i64 c_2])) w5) ∧
  (b = false →
  (I c_2 out_2 out_2n out_2c w5 ∧ M c_2 out_2 out_2n out_2c w5 < M c out outn outc w2))
set_option maxRecDepth 100000 in
def V25_k2 (I : Int → Option Addr → Nat → Nat → World → Prop) (M : Int → Option Addr → Nat → Nat → World → Nat) (c : Int) (out : Option Addr) (outn : Nat) (outc : Nat) (w2 : World) (d_3 : Addr) (n_5 : Int) (c_3 : Int) (out_3 : Option Addr) (out_3n out_3c : Nat) (w6 : World) (R : Ending → World → Prop) : Prop :=
  (true = true →
  R (.returned (.tuple #[.slice out_3 out_3n out_3c, .int .i64 c_3])) w6) ∧
  (true = false →
  (I c_3 out_3 out_3n out_3c w6 ∧ M c_3 out_3 out_3n out_3c w6 < M c out outn outc w2))
set_option maxRecDepth 100000 in
def V25 (d : Addr) (cursor : Int) (n : Int) (w : World) (R : Ending → World → Prop) : Prop :=
  Calls Try.prog 56 #[.pointer (some (d.add 1))] w fun e_ w1 => ∃ (n_2 : Int), e_ = .returned (.int .i64 n_2) ∧
  (((n_2 : Int) == 0) = true →
  R (.returned (.tuple #[.slice none 0 0, .int .i64 0])) w1) ∧
  (((n_2 : Int) == 0) = false →
  ∃ (I : Int → Option Addr → Nat → Nat → World → Prop) (M : Int → Option Addr → Nat → Nat → World → Nat), I (if 0 > cursor then 0 else cursor) none 0 0 w1 ∧
  ∀ (c : Int) (out : Option Addr) (outn outc : Nat) (w2 : World), I c out outn outc w2 →
  Calls Try.prog 64 #[.pointer (some d), .int .i64 c] w2 fun e_ w3 => ∃ (q : Option Addr) (qn qc : Nat), ∃ (n_3 : Int), e_ = .returned (.tuple #[.slice q qn qc, .int .i64 n_3]) ∧
  ∃ (q_2 : Option Addr) (q_2n q_2c : Nat), ∃ w4 : World, Sem.run Try.prog (builtin .append #[30, 30] 30 #[false, false] #[.slice out outn outc, .slice q qn qc]) w3 = .ok (.value (.slice q_2 q_2n q_2c)) w4 ∧
  (((n_3 : Int) == 0) = false →
  V25_k1 I M c out outn outc w2 d n n_3 q_2 q_2n q_2c (decide ((((q_2n : Nat) : Int) : Int) ≥ (if 1 > n then 1 else n))) w4 R) ∧
  (((n_3 : Int) == 0) = !false →
  V25_k2 I M c out outn outc w2 d n n_3 q_2 q_2n q_2c w4 R))
theorem b25 : Try.f25.body = some (bodyOf Try.f25) := by kernel_rfl
theorem ok25 : okF Try.prog an25 Try.f25 (bodyOf Try.f25) 3 = true := by kernel_rfl
theorem e25 (d : Addr) (cursor : Int) (n : Int) (w : World) (R : Ending → World → Prop) : vcF Try.prog an25 Try.f25 (bodyOf Try.f25) [.pointer (some d), .int .i64 cursor, .int .i64 n] w R = V25 d cursor n w R := by kernel_rfl
theorem v25 (d : Addr) (cursor : Int) (n : Int) (w : World) (R : Ending → World → Prop) (hV : V25 d cursor n w R) : Calls Try.prog 25 #[.pointer (some d), .int .i64 cursor, .int .i64 n] w R := calls_vc mixed Try.func25 b25 rfl ok25 (e25 d cursor n w R) hV

/-- (*cistern/dict.Dict[int]).Step -/
def an31 : Ann := { loops := [(0, [(1, .int .i64)])], draws := [], tys := [] }
set_option maxRecDepth 100000 in
def V31 (d : Addr) (n : Int) (w : World) (R : Ending → World → Prop) : Prop :=
  ∃ (I : Int → World → Prop) (M : Int → World → Nat), I n w ∧
  ∀ (n_2 : Int) (w1 : World), I n_2 w1 →
  ((decide ((n_2 : Int) > 0)) = true →
  Calls Try.prog 57 #[.pointer (some d)] w1 fun e_ w2 => ∃ (b : Bool), e_ = .returned (.bool b) ∧
  (b = true →
  Calls Try.prog 55 #[.pointer (some d)] w2 fun e_ w3 => e_ = .returned (.tuple #[]) ∧
  (I (IntKind.wrap .i64 (n_2 - 1)) w3 ∧ M (IntKind.wrap .i64 (n_2 - 1)) w3 < M n_2 w1)) ∧
  (b = false →
  R (.returned (.tuple #[])) w2)) ∧
  ((decide ((n_2 : Int) > 0)) = !true →
  (false = true →
  Calls Try.prog 55 #[.pointer (some d)] w1 fun e_ w4 => e_ = .returned (.tuple #[]) ∧
  (I (IntKind.wrap .i64 (n_2 - 1)) w4 ∧ M (IntKind.wrap .i64 (n_2 - 1)) w4 < M n_2 w1)) ∧
  (false = false →
  R (.returned (.tuple #[])) w1))
theorem b31 : Try.f31.body = some (bodyOf Try.f31) := by kernel_rfl
theorem ok31 : okF Try.prog an31 Try.f31 (bodyOf Try.f31) 2 = true := by kernel_rfl
theorem e31 (d : Addr) (n : Int) (w : World) (R : Ending → World → Prop) : vcF Try.prog an31 Try.f31 (bodyOf Try.f31) [.pointer (some d), .int .i64 n] w R = V31 d n w R := by kernel_rfl
theorem v31 (d : Addr) (n : Int) (w : World) (R : Ending → World → Prop) (hV : V31 d n w R) : Calls Try.prog 31 #[.pointer (some d), .int .i64 n] w R := calls_vc mixed Try.func31 b31 rfl ok31 (e31 d n w R) hV

/-- (*cistern/dict.Dict[int]).Clone -/
def an35 : Ann := { loops := [], draws := [(1, false, Tr.seq [0, 1, 2, 4, 5, 6, 8, 9, 10, 12, 13, 14, 16, 17, 18, 3, 15, 19, 7, 11, 20, 21, 22, 23] .nil, [7, 11, 20, 22], [7, 11, 20, 22], [])], tys := [] }
set_option maxRecDepth 100000 in
def V35 (d : Addr) (w : World) (R : Ending → World → Prop) : Prop :=
  ∀ w1 : World, Drawn w w1 →
  ∃ (n : Int), World.cell? w1 d = some (.int .i64 n) ∧
  ∃ (n_2 : Int), World.cell? w1 (d.add 5) = some (.int .i64 n_2) ∧
  ∃ (m : Option Nat), World.cell? w1 (d.add 6) = some (.map m) ∧
  ∀ w2 : World, Drawn w1 w2 →
  Calls Try.prog 73 #[.pointer (some (d.add 1))] w2 fun e_ w3 => ∃ (q : Option Addr) (qn qc : Nat), ∃ (n_3 : Int), e_ = .returned (.agg #[.slice q qn qc, .int .i64 n_3]) ∧
  Ext w2 w3 ∧
  ∀ w4 : World, Drawn w3 w4 →
  Calls Try.prog 73 #[.pointer (some (d.add 3))] w4 fun e_ w5 => ∃ (q_2 : Option Addr) (q_2n q_2c : Nat), ∃ (n_4 : Int), e_ = .returned (.agg #[.slice q_2 q_2n q_2c, .int .i64 n_4]) ∧
  Ext w4 w5 ∧
  ∀ w6 : World, Drawn w5 w6 →
  Calls Try.prog 74 #[.map m] w6 fun e_ w7 => ∃ (m_2 : Option Nat), e_ = .returned (.map m_2) ∧
  Ext w6 w7 ∧
  ∀ w8 : World, Drawn w7 w8 →
  ∀ (g : Nat) (w9 : World), g = (World.heap w8).size → w9 = World.alloc w8 (.cells #[.int .i64 n, .slice q qn qc, .int .i64 n_3, .slice q_2 q_2n q_2c, .int .i64 n_4, .int .i64 n_2, .map m_2] 105) →
  Ext w8 w9 ∧
  ∀ w10 : World, Drawn w9 w10 →
  R (.returned (.pointer (some ⟨g, 0, none⟩))) w10
theorem b35 : Try.f35.body = some (bodyOf Try.f35) := by kernel_rfl
theorem ok35 : okF Try.prog an35 Try.f35 (bodyOf Try.f35) 1 = true := by kernel_rfl
theorem e35 (d : Addr) (w : World) (R : Ending → World → Prop) : vcF Try.prog an35 Try.f35 (bodyOf Try.f35) [.pointer (some d)] w R = V35 d w R := by kernel_rfl
theorem v35 (d : Addr) (w : World) (R : Ending → World → Prop) (hV : V35 d w R) : Calls Try.prog 35 #[.pointer (some d)] w R := calls_vc mixed Try.func35 b35 rfl ok35 (e35 d w R) hV

/-- (*cistern/dict.Dict[int]).step -/
def an55 : Ann := { loops := [(1, []), (4, [(39, .int .i64)])], draws := [(1, false, Tr.seq [0, 1, 2, 3, 5, 6, 7, 4, 8, 9, 10, 11, 12] .nil, [], [], []), (3, false, Tr.seq [0, 1, 2, 3, 5, 6, 7, 12, 4, 8, 9, 10, 11] .nil, [], [], []), (6, false, Tr.seq [0, 1, 2, 3, 4, 5, 7, 9, 6, 8, 10] .nil, [10], [], []), (9, false, Tr.seq [0, 1, 2, 3, 5, 6, 7, 4, 8, 9, 10] .nil, [10], [], [])], tys := [] }
set_option maxRecDepth 100000 in
def V55 (d : Addr) (w : World) (R : Ending → World → Prop) : Prop :=
  Calls Try.prog 57 #[.pointer (some d)] w fun e_ w1 => ∃ (b : Bool), e_ = .returned (.bool b) ∧
  ((!b) = true →
  R (.returned (.tuple #[])) w1) ∧
  ((!b) = false →
  ∃ (I : World → Prop) (M : World → Nat), I  w1 ∧
  ∀ (w2 : World), I  w2 →
  ∀ w3 : World, Drawn w2 w3 →
  ∃ (q : Option Addr) (qn qc : Nat), World.cell? w3 (d.add 1) = some (.slice q qn qc) ∧
  ∃ (n : Int), World.cell? w3 (d.add 5) = some (.int .i64 n) ∧
  ptrC q fun a => (0 : Int) ≤ n ∧ n < ((qn : Nat) : Int) ∧
  ∃ (q_2 : Option Addr) (q_2n q_2c : Nat), World.cell? w3 (Addr.add a ((Int.toNat n) * 1)) = some (.slice q_2 q_2n q_2c) ∧
  ∀ w4 : World, Drawn w3 w4 →
  (((((q_2n : Nat) : Int) : Int) == 0) = true →
  ∃ (n_2 : Int), World.cell? w4 (d.add 5) = some (.int .i64 n_2) ∧
  (∃ v0 : Value, World.cell? w4 (d.add 5) = some v0) ∧ World.frozen? w4 (d.add 5) = false ∧
  ∀ w5 : World, w5 = (World.setCell w4 (d.add 5) (.int .i64 (IntKind.wrap .i64 (n_2 + 1)))) →
  (I  w5 ∧ M  w5 < M  w2)) ∧
  (((((q_2n : Nat) : Int) : Int) == 0) = false →
  ∀ w6 : World, Drawn w4 w6 →
  ∃ (q_3 : Option Addr) (q_3n q_3c : Nat), World.cell? w6 (d.add 1) = some (.slice q_3 q_3n q_3c) ∧
  ∃ (n_3 : Int), World.cell? w6 (d.add 5) = some (.int .i64 n_3) ∧
  ptrC q_3 fun a_2 => (0 : Int) ≤ n_3 ∧ n_3 < ((q_3n : Nat) : Int) ∧
  ∃ (q_4 : Option Addr) (q_4n q_4c : Nat), World.cell? w6 (Addr.add a_2 ((Int.toNat n_3) * 1)) = some (.slice q_4 q_4n q_4c) ∧
  ∀ w7 : World, Drawn w6 w7 →
  ∃ (I_2 : Int → World → Prop) (M_2 : Int → World → Nat), I_2 0 w7 ∧
  ∀ (n_4 : Int) (w8 : World), I_2 n_4 w8 →
  ((decide ((n_4 : Int) < ((q_4n : Nat) : Int))) = true →
  ptrC q_4 fun a_3 => (0 : Int) ≤ n_4 ∧ n_4 < ((q_4n : Nat) : Int) ∧
  ∃ (s : ByteArray), World.cell? w8 (Addr.add a_3 ((Int.toNat n_4) * 1)) = some (.string s) ∧
  ∀ w9 : World, Drawn w8 w9 →
  ∃ (n_5 : Int), World.cell? w9 d = some (.int .i64 n_5) ∧
  ∃ (n_6 : Int), (∀ w0 : World, Ext w9 w0 → Calls Try.prog 16 #[.int .i64 n_5, .string s] w0 fun e_ w00 => e_ = .returned (.int .i64 n_6) ∧ Drawn w0 w00) ∧
  ∀ w10 : World, Drawn w9 w10 →
  Calls Try.prog 59 #[.pointer (some (d.add 3)), .int .i64 n_6, .string s] w10 fun e_ w11 => e_ = .returned (.tuple #[]) ∧
  ∀ w12 : World, Drawn w11 w12 →
  ∃ (n_7 : Int), World.cell? w12 (d.add 2) = some (.int .i64 n_7) ∧
  (∃ v0 : Value, World.cell? w12 (d.add 2) = some v0) ∧ World.frozen? w12 (d.add 2) = false ∧
  ∀ w13 : World, w13 = (World.setCell w12 (d.add 2) (.int .i64 (IntKind.wrap .i64 (n_7 - 1)))) →
  (I_2 (IntKind.wrap .i64 (n_4 + 1)) w13 ∧ M_2 (IntKind.wrap .i64 (n_4 + 1)) w13 < M_2 n_4 w8)) ∧
  ((decide ((n_4 : Int) < ((q_4n : Nat) : Int))) = false →
  ∀ w14 : World, Drawn w8 w14 →
  ∃ (q_5 : Option Addr) (q_5n q_5c : Nat), World.cell? w14 (d.add 1) = some (.slice q_5 q_5n q_5c) ∧
  ∃ (n_8 : Int), World.cell? w14 (d.add 5) = some (.int .i64 n_8) ∧
  ptrC q_5 fun a_4 => (0 : Int) ≤ n_8 ∧ n_8 < ((q_5n : Nat) : Int) ∧
  ∀ w15 : World, Drawn w14 w15 →
  (∃ v0 : Value, World.cell? w15 (Addr.add a_4 ((Int.toNat n_8) * 1)) = some v0) ∧ World.frozen? w15 (Addr.add a_4 ((Int.toNat n_8) * 1)) = false ∧
  ∀ w16 : World, w16 = (World.setCell w15 (Addr.add a_4 ((Int.toNat n_8) * 1)) (.slice none 0 0)) →
  ∀ w17 : World, Drawn w16 w17 →
  ∃ (n_9 : Int), World.cell? w17 (d.add 5) = some (.int .i64 n_9) ∧
  (∃ v0 : Value, World.cell? w17 (d.add 5) = some v0) ∧ World.frozen? w17 (d.add 5) = false ∧
  ∀ w18 : World, w18 = (World.setCell w17 (d.add 5) (.int .i64 (IntKind.wrap .i64 (n_9 + 1)))) →
  Calls Try.prog 61 #[.pointer (some d)] w18 fun e_ w19 => e_ = .returned (.tuple #[]) ∧
  R (.returned (.tuple #[])) w19)))
theorem b55 : Try.f55.body = some (bodyOf Try.f55) := by kernel_rfl
theorem ok55 : okF Try.prog an55 Try.f55 (bodyOf Try.f55) 1 = true := by kernel_rfl
theorem e55 (d : Addr) (w : World) (R : Ending → World → Prop) : vcF Try.prog an55 Try.f55 (bodyOf Try.f55) [.pointer (some d)] w R = V55 d w R := by kernel_rfl
theorem v55 (d : Addr) (w : World) (R : Ending → World → Prop) (hV : V55 d w R) : Calls Try.prog 55 #[.pointer (some d)] w R := calls_vc mixed Try.func55 b55 rfl ok55 (e55 d w R) hV

/-- (*cistern/dict.Dict[int]).visit -/
def an64 : Ann := { loops := [(7, [(1, .int .i64), (8, .slice)])], draws := [(2, false, Tr.seq [0, 1, 2, 3, 4, 5, 6, 9, 10, 11, 12, 7, 8, 13, 14, 15, 16] .nil, [8], [8], []), (3, false, Tr.seq [0, 1, 2, 3, 4, 5, 6, 7] .nil, [], [], [])], tys := [] }
set_option maxRecDepth 100000 in
def V64_k1 (c_2 : Int) (small : Addr) (large : Addr) (w10 : World) (R : Ending → World → Prop) : Prop :=
  Calls Try.prog 110 #[.pointer (some small), .int .i64 c_2] w10 fun e_ w11 => ∃ (n_6 : Int), e_ = .returned (.int .i64 n_6) ∧
  Calls Try.prog 116 #[.pointer (some small), .int .i64 n_6] w11 fun e_ w12 => ∃ (q_2 : Option Addr) (q_2n q_2c : Nat), e_ = .returned (.slice q_2 q_2n q_2c) ∧
  ∃ (I : Int → Option Addr → Nat → Nat → World → Prop) (M : Int → Option Addr → Nat → Nat → World → Nat), I c_2 q_2 q_2n q_2c w12 ∧
  ∀ (c_3 : Int) (out : Option Addr) (outn outc : Nat) (w13 : World), I c_3 out outn outc w13 →
  Calls Try.prog 110 #[.pointer (some large), .int .i64 c_3] w13 fun e_ w14 => ∃ (n_7 : Int), e_ = .returned (.int .i64 n_7) ∧
  Calls Try.prog 116 #[.pointer (some large), .int .i64 n_7] w14 fun e_ w15 => ∃ (q_3 : Option Addr) (q_3n q_3c : Nat), e_ = .returned (.slice q_3 q_3n q_3c) ∧
  ∃ (q_4 : Option Addr) (q_4n q_4c : Nat), ∃ w16 : World, Sem.run Try.prog (builtin .append #[30, 30] 30 #[false, false] #[.slice out outn outc, .slice q_3 q_3n q_3c]) w15 = .ok (.value (.slice q_4 q_4n q_4c)) w16 ∧
  Calls Try.prog 56 #[.pointer (some large)] w16 fun e_ w17 => ∃ (n_8 : Int), e_ = .returned (.int .i64 n_8) ∧
  Calls Try.prog 117 #[.int .i64 c_3, .int .i64 n_8] w17 fun e_ w18 => ∃ (n_9 : Int), e_ = .returned (.int .i64 n_9) ∧
  Calls Try.prog 56 #[.pointer (some large)] w18 fun e_ w19 => ∃ (n_10 : Int), e_ = .returned (.int .i64 n_10) ∧
  Calls Try.prog 56 #[.pointer (some small)] w19 fun e_ w20 => ∃ (n_11 : Int), e_ = .returned (.int .i64 n_11) ∧
  ((((andNotI .i64 (andI .i64 n_9 (IntKind.wrap .i64 (n_10 - 1))) (IntKind.wrap .i64 (n_11 - 1))) : Int) == 0) = true →
  R (.returned (.tuple #[.slice q_4 q_4n q_4c, .int .i64 n_9])) w20) ∧
  ((((andNotI .i64 (andI .i64 n_9 (IntKind.wrap .i64 (n_10 - 1))) (IntKind.wrap .i64 (n_11 - 1))) : Int) == 0) = false →
  (I n_9 q_4 q_4n q_4c w20 ∧ M n_9 q_4 q_4n q_4c w20 < M c_3 out outn outc w13))
set_option maxRecDepth 100000 in
def V64 (d : Addr) (c : Int) (w : World) (R : Ending → World → Prop) : Prop :=
  Calls Try.prog 57 #[.pointer (some d)] w fun e_ w1 => ∃ (b : Bool), e_ = .returned (.bool b) ∧
  ((!b) = true →
  ∀ w2 : World, Drawn w1 w2 →
  ∃ (n : Int), (∀ w0 : World, Ext w2 w0 → Calls Try.prog 110 #[.pointer (some (d.add 1)), .int .i64 c] w0 fun e_ w00 => e_ = .returned (.int .i64 n) ∧ Drawn w0 w00) ∧
  ∀ w3 : World, Drawn w2 w3 →
  Calls Try.prog 116 #[.pointer (some (d.add 1)), .int .i64 n] w3 fun e_ w4 => ∃ (q : Option Addr) (qn qc : Nat), e_ = .returned (.slice q qn qc) ∧
  Ext w3 w4 ∧
  ∃ (n_2 : Int), (∀ w0 : World, Ext w4 w0 → Calls Try.prog 56 #[.pointer (some (d.add 1))] w0 fun e_ w00 => e_ = .returned (.int .i64 n_2) ∧ Drawn w0 w00) ∧
  ∃ (n_3 : Int), (∀ w0 : World, Ext w4 w0 → Calls Try.prog 117 #[.int .i64 c, .int .i64 n_2] w0 fun e_ w00 => e_ = .returned (.int .i64 n_3) ∧ Drawn w0 w00) ∧
  ∀ w5 : World, Drawn w4 w5 →
  R (.returned (.tuple #[.slice q qn qc, .int .i64 n_3])) w5) ∧
  ((!b) = false →
  ∀ w6 : World, Drawn w1 w6 →
  ∀ w7 : World, Drawn w6 w7 →
  Calls Try.prog 56 #[.pointer (some (d.add 1))] w7 fun e_ w8 => ∃ (n_4 : Int), e_ = .returned (.int .i64 n_4) ∧
  Calls Try.prog 56 #[.pointer (some (d.add 3))] w8 fun e_ w9 => ∃ (n_5 : Int), e_ = .returned (.int .i64 n_5) ∧
  ((decide ((n_4 : Int) > n_5)) = true →
  V64_k1 c (d.add 3) (d.add 1) w9 R) ∧
  ((decide ((n_4 : Int) > n_5)) = false →
  V64_k1 c (d.add 1) (d.add 3) w9 R))
theorem b64 : Try.f64.body = some (bodyOf Try.f64) := by kernel_rfl
theorem ok64 : okF Try.prog an64 Try.f64 (bodyOf Try.f64) 2 = true := by kernel_rfl
theorem e64 (d : Addr) (c : Int) (w : World) (R : Ending → World → Prop) : vcF Try.prog an64 Try.f64 (bodyOf Try.f64) [.pointer (some d), .int .i64 c] w R = V64 d c w R := by kernel_rfl
theorem v64 (d : Addr) (c : Int) (w : World) (R : Ending → World → Prop) (hV : V64 d c w R) : Calls Try.prog 64 #[.pointer (some d), .int .i64 c] w R := calls_vc mixed Try.func64 b64 rfl ok64 (e64 d c w R) hV

/-- (*cistern/dict.table).keys -/
def an116 : Ann := { loops := [], draws := [], tys := [] }
set_option maxRecDepth 100000 in
def V116 (t : Addr) (i : Int) (w : World) (R : Ending → World → Prop) : Prop :=
  ∃ (q : Option Addr) (qn qc : Nat), World.cell? w t = some (.slice q qn qc) ∧
  ptrC q fun a => (0 : Int) ≤ i ∧ i < ((qn : Nat) : Int) ∧
  ∃ (q_2 : Option Addr) (q_2n q_2c : Nat), World.cell? w (Addr.add a ((Int.toNat i) * 1)) = some (.slice q_2 q_2n q_2c) ∧
  Calls Try.prog 121 #[.slice q_2 q_2n q_2c] w fun e_ w1 => ∃ (q_3 : Option Addr) (q_3n q_3c : Nat), e_ = .returned (.slice q_3 q_3n q_3c) ∧
  Calls Try.prog 114 #[.slice q_3 q_3n q_3c] w1 fun e_ w2 => e_ = .returned (.tuple #[]) ∧
  (0 : Int) ≤ ((q_3n : Nat) : Int) ∧ (((q_3n : Nat) : Int) : Int) ≤ ((q_3c : Nat) : Int) ∧
  (0 : Int) ≤ ((q_3n : Nat) : Int) ∧ (((q_3n : Nat) : Int) : Int) ≤ (((Int.toNat ((q_3n : Nat) : Int)) : Nat) : Int) ∧
  R (.returned (.slice (cutA q_3 0 (Int.toNat ((q_3n : Nat) : Int)) 1) ((Int.toNat ((q_3n : Nat) : Int)) - 0) ((Int.toNat ((q_3n : Nat) : Int)) - 0))) w2
theorem b116 : Try.f116.body = some (bodyOf Try.f116) := by kernel_rfl
theorem ok116 : okF Try.prog an116 Try.f116 (bodyOf Try.f116) 2 = true := by kernel_rfl
theorem e116 (t : Addr) (i : Int) (w : World) (R : Ending → World → Prop) : vcF Try.prog an116 Try.f116 (bodyOf Try.f116) [.pointer (some t), .int .i64 i] w R = V116 t i w R := by kernel_rfl
theorem v116 (t : Addr) (i : Int) (w : World) (R : Ending → World → Prop) (hV : V116 t i w R) : Calls Try.prog 116 #[.pointer (some t), .int .i64 i] w R := calls_vc mixed Try.func116 b116 rfl ok116 (e116 t i w R) hV

/-- cistern/dict.next -/
def an117 : Ann := { loops := [(3, [(0, .int .i64), (5, .int .i64)])], draws := [], tys := [] }
set_option maxRecDepth 100000 in
def V117 (c : Int) (size : Int) (w : World) (R : Ending → World → Prop) : Prop :=
  (0 : Int) ≤ 1 ∧
  ∃ (I : Int → Int → World → Prop) (M : Int → Int → World → Nat), I (andI .i64 c (IntKind.wrap .i64 (size - 1))) (Int.fdiv size (2 ^ (min (Int.toNat 1) (IntKind.bits .i64)))) w ∧
  ∀ (c_2 : Int) (bit : Int) (w1 : World), I c_2 bit w1 →
  ((decide ((bit : Int) > 0)) = true →
  ((((andI .i64 c_2 bit) : Int) == 0) = true →
  R (.returned (.int .i64 (orI .i64 c_2 bit))) w1) ∧
  ((((andI .i64 c_2 bit) : Int) == 0) = false →
  (0 : Int) ≤ 1 ∧
  (I (andNotI .i64 c_2 bit) (Int.fdiv bit (2 ^ (min (Int.toNat 1) (IntKind.bits .i64)))) w1 ∧ M (andNotI .i64 c_2 bit) (Int.fdiv bit (2 ^ (min (Int.toNat 1) (IntKind.bits .i64)))) w1 < M c_2 bit w1))) ∧
  ((decide ((bit : Int) > 0)) = false →
  R (.returned (.int .i64 0)) w1)
theorem b117 : Try.f117.body = some (bodyOf Try.f117) := by kernel_rfl
theorem ok117 : okF Try.prog an117 Try.f117 (bodyOf Try.f117) 2 = true := by kernel_rfl
theorem e117 (c : Int) (size : Int) (w : World) (R : Ending → World → Prop) : vcF Try.prog an117 Try.f117 (bodyOf Try.f117) [.int .i64 c, .int .i64 size] w R = V117 c size w R := by kernel_rfl
theorem v117 (c : Int) (size : Int) (w : World) (R : Ending → World → Prop) (hV : V117 c size w R) : Calls Try.prog 117 #[.int .i64 c, .int .i64 size] w R := calls_vc mixed Try.func117 b117 rfl ok117 (e117 c size w R) hV

/-- cistern/cisternlaw08.DictHashes -/
def an4 : Ann := { loops := [], draws := [], tys := [] }
set_option maxRecDepth 100000 in
def V4 (seed : Int) (s : ByteArray) (w : World) (R : Ending → World → Prop) : Prop :=
  Calls Try.prog 15 #[] w fun e_ w1 => ∃ (b : Bool), e_ = .returned (.bool b) ∧
  (b = true →
  Calls Try.prog 16 #[.int .i64 seed, .string s] w1 fun e_ w2 => ∃ (n : Int), e_ = .returned (.int .i64 n) ∧
  Calls Try.prog 17 #[.int .i64 seed, .string s] w2 fun e_ w3 => ∃ (n_2 : Int), e_ = .returned (.int .i64 n_2) ∧
  R (.returned (.bool ((n : Int) == n_2))) w3) ∧
  (b = !true →
  R (.returned (.bool false)) w1)
theorem b4 : Try.f4.body = some (bodyOf Try.f4) := by kernel_rfl
theorem ok4 : okF Try.prog an4 Try.f4 (bodyOf Try.f4) 2 = true := by kernel_rfl
theorem e4 (seed : Int) (s : ByteArray) (w : World) (R : Ending → World → Prop) : vcF Try.prog an4 Try.f4 (bodyOf Try.f4) [.int .i64 seed, .string s] w R = V4 seed s w R := by kernel_rfl
theorem v4 (seed : Int) (s : ByteArray) (w : World) (R : Ending → World → Prop) (hV : V4 seed s w R) : Calls Try.prog 4 #[.int .i64 seed, .string s] w R := calls_vc mixed Try.func4 b4 rfl ok4 (e4 seed s w R) hV

/-- cistern/cisternlaw08.DictMaps -/
def an5 : Ann := { loops := [(7, [(6, .slice), (7, .slice), (8, .int .i64)]), (12, [(10, .int .i64), (11, .int .i64)]), (37, [(14, .int .i64)]), (42, [(15, .int .i64)])], draws := [(14, false, Tr.seq [0, 1, 2, 4, 3, 5, 6] .nil, [], [], []), (39, false, Tr.seq [0, 1, 2, 3, 4, 5, 6, 8, 9, 10, 7, 11, 12, 13] .nil, [], [], [])], tys := [] }
set_option maxRecDepth 100000 in
def V5_k3 (I_2 : Int → Int → World → Prop) (M_2 : Int → Int → World → Nat) (at_ : Int) (k : Int) (w7 : World) (script_4 : Option Addr) (script_4n script_4c : Nat) (d_3 : Option Addr) (keys_3 : Option Addr) (keys_3n keys_3c : Nat) (values_3 : Option Addr) (values_3n values_3c : Nat) (i_3 : Int) (o_2 : Addr) (at__3 : Int) (k_3 : Int) (w11 : World) (R : Ending → World → Prop) : Prop :=
  (I_2 at__3 (IntKind.wrap .i64 (k_3 + 1)) w11 ∧ M_2 at__3 (IntKind.wrap .i64 (k_3 + 1)) w11 < M_2 at_ k w7)
set_option maxRecDepth 100000 in
def V5_k2 (I_2 : Int → Int → World → Prop) (M_2 : Int → Int → World → Nat) (at_ : Int) (k : Int) (w7 : World) (script_3 : Option Addr) (script_3n script_3c : Nat) (d_2 : Option Addr) (keys_2 : Option Addr) (keys_2n keys_2c : Nat) (values_2 : Option Addr) (values_2n values_2c : Nat) (i_2 : Int) (o : Addr) (at__2 : Int) (k_2 : Int) (w10 : World) (R : Ending → World → Prop) : Prop :=
  V5_k3 I_2 M_2 at_ k w7 script_3 script_3n script_3c d_2 keys_2 keys_2n keys_2c values_2 values_2n values_2c i_2 o at__2 k_2 w10 R
set_option maxRecDepth 100000 in
def V5_k6 (I : Option Addr → Nat → Nat → Option Addr → Nat → Nat → Int → World → Prop) (M : Option Addr → Nat → Nat → Option Addr → Nat → Nat → Int → World → Nat) (keys : Option Addr) (keysn : Nat) (keysc : Nat) (values : Option Addr) (valuesn : Nat) (valuesc : Nat) (i : Int) (w4 : World) (script_7 : Option Addr) (script_7n script_7c : Nat) (d_6 : Option Addr) (keys_6 : Option Addr) (keys_6n keys_6c : Nat) (values_6 : Option Addr) (values_6n values_6c : Nat) (i_6 : Int) (w19 : World) (R : Ending → World → Prop) : Prop :=
  (I keys_6 keys_6n keys_6c values_6 values_6n values_6c (IntKind.wrap .i64 (i_6 + 1)) w19 ∧ M keys_6 keys_6n keys_6c values_6 values_6n values_6c (IntKind.wrap .i64 (i_6 + 1)) w19 < M keys keysn keysc values valuesn valuesc i w4)
set_option maxRecDepth 100000 in
def V5_k5 (I : Option Addr → Nat → Nat → Option Addr → Nat → Nat → Int → World → Prop) (M : Option Addr → Nat → Nat → Option Addr → Nat → Nat → Int → World → Nat) (keys : Option Addr) (keysn : Nat) (keysc : Nat) (values : Option Addr) (valuesn : Nat) (valuesc : Nat) (i : Int) (w4 : World) (script_6 : Option Addr) (script_6n script_6c : Nat) (d_5 : Option Addr) (keys_5 : Option Addr) (keys_5n keys_5c : Nat) (values_5 : Option Addr) (values_5n values_5c : Nat) (i_5 : Int) (w18 : World) (R : Ending → World → Prop) : Prop :=
  V5_k6 I M keys keysn keysc values valuesn valuesc i w4 script_6 script_6n script_6c d_5 keys_5 keys_5n keys_5c values_5 values_5n values_5c i_5 w18 R
set_option maxRecDepth 100000 in
def V5_k4 (I : Option Addr → Nat → Nat → Option Addr → Nat → Nat → Int → World → Prop) (M : Option Addr → Nat → Nat → Option Addr → Nat → Nat → Int → World → Nat) (keys : Option Addr) (keysn : Nat) (keysc : Nat) (values : Option Addr) (valuesn : Nat) (valuesc : Nat) (i : Int) (w4 : World) (script_5 : Option Addr) (script_5n script_5c : Nat) (d_4 : Option Addr) (keys_4 : Option Addr) (keys_4n keys_4c : Nat) (values_4 : Option Addr) (values_4n values_4c : Nat) (i_4 : Int) (w17 : World) (R : Ending → World → Prop) : Prop :=
  V5_k5 I M keys keysn keysc values valuesn valuesc i w4 script_5 script_5n script_5c d_4 keys_4 keys_4n keys_4c values_4 values_4n values_4c i_4 w17 R
set_option maxRecDepth 100000 in
def V5_k8 (I_3 : Int → World → Prop) (M_3 : Int → World → Nat) (i_7 : Int) (w27 : World) (d_8 : Option Addr) (keys_8 : Option Addr) (keys_8n keys_8c : Nat) (values_8 : Option Addr) (values_8n values_8c : Nat) (l_2 : Option Addr) (l_2n l_2c : Nat) (i_8 : Int) (b_6 : Bool) (w30 : World) (R : Ending → World → Prop) : Prop :=
  (b_6 = true →
  R (.returned (.bool false)) w30) ∧
  (b_6 = false →
  (I_3 (IntKind.wrap .i64 (i_8 + 1)) w30 ∧ M_3 (IntKind.wrap .i64 (i_8 + 1)) w30 < M_3 i_7 w27))
set_option maxRecDepth 100000 in
def V5_k9 (I_3 : Int → World → Prop) (M_3 : Int → World → Nat) (i_7 : Int) (w27 : World) (d_9 : Option Addr) (keys_9 : Option Addr) (keys_9n keys_9c : Nat) (values_9 : Option Addr) (values_9n values_9c : Nat) (l_3 : Option Addr) (l_3n l_3c : Nat) (i_9 : Int) (w32 : World) (R : Ending → World → Prop) : Prop :=
  (false = true →
  R (.returned (.bool false)) w32) ∧
  (false = false →
  (I_3 (IntKind.wrap .i64 (i_9 + 1)) w32 ∧ M_3 (IntKind.wrap .i64 (i_9 + 1)) w32 < M_3 i_7 w27))
set_option maxRecDepth 100000 in
def V5_k10 (I_4 : Int → World → Prop) (M_4 : Int → World → Nat) (i_10 : Int) (w33 : World) (d_10 : Option Addr) (keys_10 : Option Addr) (keys_10n keys_10c : Nat) (values_10 : Option Addr) (values_10n values_10c : Nat) (i_11 : Int) (b_8 : Bool) (w35 : World) (R : Ending → World → Prop) : Prop :=
  (b_8 = true →
  R (.returned (.bool false)) w35) ∧
  (b_8 = false →
  (I_4 (IntKind.wrap .i64 (i_11 + 1)) w35 ∧ M_4 (IntKind.wrap .i64 (i_11 + 1)) w35 < M_4 i_10 w33))
set_option maxRecDepth 100000 in
def V5_k11 (I_4 : Int → World → Prop) (M_4 : Int → World → Nat) (i_10 : Int) (w33 : World) (d_11 : Option Addr) (keys_11 : Option Addr) (keys_11n keys_11c : Nat) (values_11 : Option Addr) (values_11n values_11c : Nat) (i_12 : Int) (w36 : World) (R : Ending → World → Prop) : Prop :=
  (true = true →
  R (.returned (.bool false)) w36) ∧
  (true = false →
  (I_4 (IntKind.wrap .i64 (i_12 + 1)) w36 ∧ M_4 (IntKind.wrap .i64 (i_12 + 1)) w36 < M_4 i_10 w33))
set_option maxRecDepth 100000 in
def V5_k7 (d_7 : Option Addr) (keys_7 : Option Addr) (keys_7n keys_7c : Nat) (values_7 : Option Addr) (values_7n values_7c : Nat) (l : Option Addr) (ln lc : Nat) (b_5 : Bool) (w26 : World) (R : Ending → World → Prop) : Prop :=
  (b_5 = true →
  R (.returned (.bool false)) w26) ∧
  (b_5 = false →
  ∃ (I_3 : Int → World → Prop) (M_3 : Int → World → Nat), I_3 0 w26 ∧
  ∀ (i_7 : Int) (w27 : World), I_3 i_7 w27 →
  ((decide ((i_7 : Int) < ((ln : Nat) : Int))) = true →
  ∀ w28 : World, Drawn w27 w28 →
  ((decide ((i_7 : Int) > 0)) = true →
  ptrC l fun a_8 => (0 : Int) ≤ (IntKind.wrap .i64 (i_7 - 1)) ∧ (IntKind.wrap .i64 (i_7 - 1)) < ((ln : Nat) : Int) ∧
  ptrC l fun a_9 => (0 : Int) ≤ i_7 ∧ i_7 < ((ln : Nat) : Int) ∧
  ∃ (s_8 : ByteArray), World.cell? w28 (Addr.add a_8 ((Int.toNat (IntKind.wrap .i64 (i_7 - 1))) * 1)) = some (.string s_8) ∧
  ∃ (s_9 : ByteArray), World.cell? w28 (Addr.add a_9 ((Int.toNat i_7) * 1)) = some (.string s_9) ∧
  ∀ w29 : World, Drawn w28 w29 →
  V5_k8 I_3 M_3 i_7 w27 d_7 keys_7 keys_7n keys_7c values_7 values_7n values_7c l ln lc i_7 (!strLt s_8 s_9) w29 R) ∧
  ((decide ((i_7 : Int) > 0)) = !true →
  ∀ w31 : World, Drawn w28 w31 →
  V5_k9 I_3 M_3 i_7 w27 d_7 keys_7 keys_7n keys_7c values_7 values_7n values_7c l ln lc i_7 w31 R)) ∧
  ((decide ((i_7 : Int) < ((ln : Nat) : Int))) = false →
  ∃ (I_4 : Int → World → Prop) (M_4 : Int → World → Nat), I_4 0 w27 ∧
  ∀ (i_10 : Int) (w33 : World), I_4 i_10 w33 →
  ((decide ((i_10 : Int) < ((keys_7n : Nat) : Int))) = true →
  ptrC keys_7 fun a_10 => (0 : Int) ≤ i_10 ∧ i_10 < ((keys_7n : Nat) : Int) ∧
  ∃ (s_10 : ByteArray), World.cell? w33 (Addr.add a_10 ((Int.toNat i_10) * 1)) = some (.string s_10) ∧
  Calls Try.prog 23 #[.pointer d_7, .string s_10] w33 fun e_ w34 => ∃ (n_9 : Int), ∃ (b_7 : Bool), e_ = .returned (.tuple #[.int .i64 n_9, .bool b_7]) ∧
  ((!b_7) = false →
  ptrC values_7 fun a_11 => (0 : Int) ≤ i_10 ∧ i_10 < ((values_7n : Nat) : Int) ∧
  ∃ (n_10 : Int), World.cell? w34 (Addr.add a_11 ((Int.toNat i_10) * 1)) = some (.int .i64 n_10) ∧
  V5_k10 I_4 M_4 i_10 w33 d_7 keys_7 keys_7n keys_7c values_7 values_7n values_7c i_10 ((n_9 : Int) != n_10) w34 R) ∧
  ((!b_7) = !false →
  V5_k11 I_4 M_4 i_10 w33 d_7 keys_7 keys_7n keys_7c values_7 values_7n values_7c i_10 w34 R)) ∧
  ((decide ((i_10 : Int) < ((keys_7n : Nat) : Int))) = false →
  R (.returned (.bool true)) w33)))
set_option maxRecDepth 100000 in
def V5_k13 (I_5 : Int → World → Prop) (M_5 : Int → World → Nat) (i_13 : Int) (w38 : World) (d_13 : Option Addr) (keys_13 : Option Addr) (keys_13n keys_13c : Nat) (values_13 : Option Addr) (values_13n values_13c : Nat) (l_5 : Option Addr) (l_5n l_5c : Nat) (i_14 : Int) (b_9 : Bool) (w41 : World) (R : Ending → World → Prop) : Prop :=
  (b_9 = true →
  R (.returned (.bool false)) w41) ∧
  (b_9 = false →
  (I_5 (IntKind.wrap .i64 (i_14 + 1)) w41 ∧ M_5 (IntKind.wrap .i64 (i_14 + 1)) w41 < M_5 i_13 w38))
set_option maxRecDepth 100000 in
def V5_k14 (I_5 : Int → World → Prop) (M_5 : Int → World → Nat) (i_13 : Int) (w38 : World) (d_14 : Option Addr) (keys_14 : Option Addr) (keys_14n keys_14c : Nat) (values_14 : Option Addr) (values_14n values_14c : Nat) (l_6 : Option Addr) (l_6n l_6c : Nat) (i_15 : Int) (w43 : World) (R : Ending → World → Prop) : Prop :=
  (false = true →
  R (.returned (.bool false)) w43) ∧
  (false = false →
  (I_5 (IntKind.wrap .i64 (i_15 + 1)) w43 ∧ M_5 (IntKind.wrap .i64 (i_15 + 1)) w43 < M_5 i_13 w38))
set_option maxRecDepth 100000 in
def V5_k15 (I_6 : Int → World → Prop) (M_6 : Int → World → Nat) (i_16 : Int) (w44 : World) (d_15 : Option Addr) (keys_15 : Option Addr) (keys_15n keys_15c : Nat) (values_15 : Option Addr) (values_15n values_15c : Nat) (i_17 : Int) (b_11 : Bool) (w46 : World) (R : Ending → World → Prop) : Prop :=
  (b_11 = true →
  R (.returned (.bool false)) w46) ∧
  (b_11 = false →
  (I_6 (IntKind.wrap .i64 (i_17 + 1)) w46 ∧ M_6 (IntKind.wrap .i64 (i_17 + 1)) w46 < M_6 i_16 w44))
set_option maxRecDepth 100000 in
def V5_k16 (I_6 : Int → World → Prop) (M_6 : Int → World → Nat) (i_16 : Int) (w44 : World) (d_16 : Option Addr) (keys_16 : Option Addr) (keys_16n keys_16c : Nat) (values_16 : Option Addr) (values_16n values_16c : Nat) (i_18 : Int) (w47 : World) (R : Ending → World → Prop) : Prop :=
  (true = true →
  R (.returned (.bool false)) w47) ∧
  (true = false →
  (I_6 (IntKind.wrap .i64 (i_18 + 1)) w47 ∧ M_6 (IntKind.wrap .i64 (i_18 + 1)) w47 < M_6 i_16 w44))
set_option maxRecDepth 100000 in
def V5_k12 (d_12 : Option Addr) (keys_12 : Option Addr) (keys_12n keys_12c : Nat) (values_12 : Option Addr) (values_12n values_12c : Nat) (l_4 : Option Addr) (l_4n l_4c : Nat) (w37 : World) (R : Ending → World → Prop) : Prop :=
  (true = true →
  R (.returned (.bool false)) w37) ∧
  (true = false →
  ∃ (I_5 : Int → World → Prop) (M_5 : Int → World → Nat), I_5 0 w37 ∧
  ∀ (i_13 : Int) (w38 : World), I_5 i_13 w38 →
  ((decide ((i_13 : Int) < ((l_4n : Nat) : Int))) = true →
  ∀ w39 : World, Drawn w38 w39 →
  ((decide ((i_13 : Int) > 0)) = true →
  ptrC l_4 fun a_12 => (0 : Int) ≤ (IntKind.wrap .i64 (i_13 - 1)) ∧ (IntKind.wrap .i64 (i_13 - 1)) < ((l_4n : Nat) : Int) ∧
  ptrC l_4 fun a_13 => (0 : Int) ≤ i_13 ∧ i_13 < ((l_4n : Nat) : Int) ∧
  ∃ (s_11 : ByteArray), World.cell? w39 (Addr.add a_12 ((Int.toNat (IntKind.wrap .i64 (i_13 - 1))) * 1)) = some (.string s_11) ∧
  ∃ (s_12 : ByteArray), World.cell? w39 (Addr.add a_13 ((Int.toNat i_13) * 1)) = some (.string s_12) ∧
  ∀ w40 : World, Drawn w39 w40 →
  V5_k13 I_5 M_5 i_13 w38 d_12 keys_12 keys_12n keys_12c values_12 values_12n values_12c l_4 l_4n l_4c i_13 (!strLt s_11 s_12) w40 R) ∧
  ((decide ((i_13 : Int) > 0)) = !true →
  ∀ w42 : World, Drawn w39 w42 →
  V5_k14 I_5 M_5 i_13 w38 d_12 keys_12 keys_12n keys_12c values_12 values_12n values_12c l_4 l_4n l_4c i_13 w42 R)) ∧
  ((decide ((i_13 : Int) < ((l_4n : Nat) : Int))) = false →
  ∃ (I_6 : Int → World → Prop) (M_6 : Int → World → Nat), I_6 0 w38 ∧
  ∀ (i_16 : Int) (w44 : World), I_6 i_16 w44 →
  ((decide ((i_16 : Int) < ((keys_12n : Nat) : Int))) = true →
  ptrC keys_12 fun a_14 => (0 : Int) ≤ i_16 ∧ i_16 < ((keys_12n : Nat) : Int) ∧
  ∃ (s_13 : ByteArray), World.cell? w44 (Addr.add a_14 ((Int.toNat i_16) * 1)) = some (.string s_13) ∧
  Calls Try.prog 23 #[.pointer d_12, .string s_13] w44 fun e_ w45 => ∃ (n_11 : Int), ∃ (b_10 : Bool), e_ = .returned (.tuple #[.int .i64 n_11, .bool b_10]) ∧
  ((!b_10) = false →
  ptrC values_12 fun a_15 => (0 : Int) ≤ i_16 ∧ i_16 < ((values_12n : Nat) : Int) ∧
  ∃ (n_12 : Int), World.cell? w45 (Addr.add a_15 ((Int.toNat i_16) * 1)) = some (.int .i64 n_12) ∧
  V5_k15 I_6 M_6 i_16 w44 d_12 keys_12 keys_12n keys_12c values_12 values_12n values_12c i_16 ((n_11 : Int) != n_12) w45 R) ∧
  ((!b_10) = !false →
  V5_k16 I_6 M_6 i_16 w44 d_12 keys_12 keys_12n keys_12c values_12 values_12n values_12c i_16 w45 R)) ∧
  ((decide ((i_16 : Int) < ((keys_12n : Nat) : Int))) = false →
  R (.returned (.bool true)) w44)))
set_option maxRecDepth 100000 in
def V5_k1 (script_2 : Option Addr) (script_2n script_2c : Nat) (d : Option Addr) (b_2 : Bool) (w3 : World) (R : Ending → World → Prop) : Prop :=
  (b_2 = true →
  R (.returned (.bool false)) w3) ∧
  (b_2 = false →
  ∃ (I : Option Addr → Nat → Nat → Option Addr → Nat → Nat → Int → World → Prop) (M : Option Addr → Nat → Nat → Option Addr → Nat → Nat → Int → World → Nat), I none 0 0 none 0 0 0 w3 ∧
  ∀ (keys : Option Addr) (keysn keysc : Nat) (values : Option Addr) (valuesn valuesc : Nat) (i : Int) (w4 : World), I keys keysn keysc values valuesn valuesc i w4 →
  ((decide ((i : Int) < ((script_2n : Nat) : Int))) = true →
  ptrC script_2 fun a => (0 : Int) ≤ i ∧ i < ((script_2n : Nat) : Int) ∧
  ∃ (n : Int), World.cell? w4 (Addr.add a ((Int.toNat i) * 3)) = some (.int .i64 n) ∧
  ∃ (s : ByteArray), World.cell? w4 ((Addr.add a ((Int.toNat i) * 3)).add 1) = some (.string s) ∧
  ∃ (n_2 : Int), World.cell? w4 ((Addr.add a ((Int.toNat i) * 3)).add 2) = some (.int .i64 n_2) ∧
  ∀ (g : Nat) (w5 : World), g = (World.heap w4).size → w5 = World.alloc w4 (.cells #[.int .i64 0, .string (ByteArray.mk #[]), .int .i64 0] 33) →
  (∃ v0 : Value, World.cell? w5 ⟨g, 0, none⟩ = some v0) ∧ World.frozen? w5 ⟨g, 0, none⟩ = false ∧
  (∃ v0 : Value, World.cell? (World.setCell w5 ⟨g, 0, none⟩ (.int .i64 n)) ⟨g, 1, none⟩ = some v0) ∧ World.frozen? (World.setCell w5 ⟨g, 0, none⟩ (.int .i64 n)) ⟨g, 1, none⟩ = false ∧
  (∃ v0 : Value, World.cell? (World.setCell (World.setCell w5 ⟨g, 0, none⟩ (.int .i64 n)) ⟨g, 1, none⟩ (.string s)) ⟨g, 2, none⟩ = some v0) ∧ World.frozen? (World.setCell (World.setCell w5 ⟨g, 0, none⟩ (.int .i64 n)) ⟨g, 1, none⟩ (.string s)) ⟨g, 2, none⟩ = false ∧
  ∀ w6 : World, w6 = (World.setCell (World.setCell (World.setCell w5 ⟨g, 0, none⟩ (.int .i64 n)) ⟨g, 1, none⟩ (.string s)) ⟨g, 2, none⟩ (.int .i64 n_2)) →
  ∃ (I_2 : Int → Int → World → Prop) (M_2 : Int → Int → World → Nat), I_2 (-1) 0 w6 ∧
  ∀ (at_ : Int) (k : Int) (w7 : World), I_2 at_ k w7 →
  ((decide ((k : Int) < ((keysn : Nat) : Int))) = true →
  ∀ w8 : World, Drawn w7 w8 →
  ptrC keys fun a_2 => (0 : Int) ≤ k ∧ k < ((keysn : Nat) : Int) ∧
  ∃ (s_2 : ByteArray), World.cell? w8 (Addr.add a_2 ((Int.toNat k) * 1)) = some (.string s_2) ∧
  ∃ (s_3 : ByteArray), World.cell? w8 ⟨g, 1, none⟩ = some (.string s_3) ∧
  ∀ w9 : World, Drawn w8 w9 →
  ((strEq s_2 s_3) = true →
  V5_k2 I_2 M_2 at_ k w7 script_2 script_2n script_2c d keys keysn keysc values valuesn valuesc i ⟨g, 0, none⟩ k k w9 R) ∧
  ((strEq s_2 s_3) = false →
  V5_k2 I_2 M_2 at_ k w7 script_2 script_2n script_2c d keys keysn keysc values valuesn valuesc i ⟨g, 0, none⟩ at_ k w9 R)) ∧
  ((decide ((k : Int) < ((keysn : Nat) : Int))) = false →
  ∃ (n_3 : Int), World.cell? w7 ⟨g, 0, none⟩ = some (.int .i64 n_3) ∧
  (((n_3 : Int) == 0) = true →
  ∃ (s_4 : ByteArray), World.cell? w7 ⟨g, 1, none⟩ = some (.string s_4) ∧
  ∃ (n_4 : Int), World.cell? w7 ⟨g, 2, none⟩ = some (.int .i64 n_4) ∧
  Calls Try.prog 19 #[.pointer d, .string s_4, .int .i64 n_4] w7 fun e_ w12 => ∃ (b_3 : Bool), e_ = .returned (.bool b_3) ∧
  ((!(b_3 == (decide ((at_ : Int) < 0)))) = true →
  R (.returned (.bool false)) w12) ∧
  ((!(b_3 == (decide ((at_ : Int) < 0)))) = false →
  ((decide ((at_ : Int) < 0)) = true →
  ∃ (s_5 : ByteArray), World.cell? w12 ⟨g, 1, none⟩ = some (.string s_5) ∧
  ∀ (g_2 : Nat) (w13 : World), g_2 = (World.heap w12).size → w13 = World.alloc w12 (.cells #[.string s_5] 9) →
  ∃ (q : Option Addr) (qn qc : Nat), ∃ w14 : World, Sem.run Try.prog (builtin .append #[30, 30] 30 #[false, false] #[.slice keys keysn keysc, .slice (some ⟨g_2, 0, none⟩) 1 1]) w13 = .ok (.value (.slice q qn qc)) w14 ∧
  ∃ (n_5 : Int), World.cell? w14 ⟨g, 2, none⟩ = some (.int .i64 n_5) ∧
  ∀ (g_3 : Nat) (w15 : World), g_3 = (World.heap w14).size → w15 = World.alloc w14 (.cells #[.int .i64 n_5] 3) →
  ∃ (q_2 : Option Addr) (q_2n q_2c : Nat), ∃ w16 : World, Sem.run Try.prog (builtin .append #[31, 31] 31 #[false, false] #[.slice values valuesn valuesc, .slice (some ⟨g_3, 0, none⟩) 1 1]) w15 = .ok (.value (.slice q_2 q_2n q_2c)) w16 ∧
  V5_k4 I M keys keysn keysc values valuesn valuesc i w4 script_2 script_2n script_2c d q qn qc q_2 q_2n q_2c i w16 R) ∧
  ((decide ((at_ : Int) < 0)) = false →
  ∃ (n_6 : Int), World.cell? w12 ⟨g, 2, none⟩ = some (.int .i64 n_6) ∧
  ptrC values fun a_3 => (0 : Int) ≤ at_ ∧ at_ < ((valuesn : Nat) : Int) ∧
  (∃ v0 : Value, World.cell? w12 (Addr.add a_3 ((Int.toNat at_) * 1)) = some v0) ∧ World.frozen? w12 (Addr.add a_3 ((Int.toNat at_) * 1)) = false ∧
  ∀ w20 : World, w20 = (World.setCell w12 (Addr.add a_3 ((Int.toNat at_) * 1)) (.int .i64 n_6)) →
  V5_k4 I M keys keysn keysc values valuesn valuesc i w4 script_2 script_2n script_2c d keys keysn keysc values valuesn valuesc i w20 R))) ∧
  (((n_3 : Int) == 0) = false →
  (((n_3 : Int) == 1) = true →
  ∃ (s_6 : ByteArray), World.cell? w7 ⟨g, 1, none⟩ = some (.string s_6) ∧
  Calls Try.prog 20 #[.pointer d, .string s_6] w7 fun e_ w21 => ∃ (b_4 : Bool), e_ = .returned (.bool b_4) ∧
  ((!(b_4 == (decide ((at_ : Int) ≥ 0)))) = true →
  R (.returned (.bool false)) w21) ∧
  ((!(b_4 == (decide ((at_ : Int) ≥ 0)))) = false →
  ((decide ((at_ : Int) ≥ 0)) = true →
  ptrC keys fun a_4 => (0 : Int) ≤ (IntKind.wrap .i64 (((keysn : Nat) : Int) - 1)) ∧ (IntKind.wrap .i64 (((keysn : Nat) : Int) - 1)) < ((keysn : Nat) : Int) ∧
  ∃ (s_7 : ByteArray), World.cell? w21 (Addr.add a_4 ((Int.toNat (IntKind.wrap .i64 (((keysn : Nat) : Int) - 1))) * 1)) = some (.string s_7) ∧
  ptrC keys fun a_5 => (0 : Int) ≤ at_ ∧ at_ < ((keysn : Nat) : Int) ∧
  (∃ v0 : Value, World.cell? w21 (Addr.add a_5 ((Int.toNat at_) * 1)) = some v0) ∧ World.frozen? w21 (Addr.add a_5 ((Int.toNat at_) * 1)) = false ∧
  ∀ w22 : World, w22 = (World.setCell w21 (Addr.add a_5 ((Int.toNat at_) * 1)) (.string s_7)) →
  ptrC values fun a_6 => (0 : Int) ≤ (IntKind.wrap .i64 (((keysn : Nat) : Int) - 1)) ∧ (IntKind.wrap .i64 (((keysn : Nat) : Int) - 1)) < ((valuesn : Nat) : Int) ∧
  ∃ (n_7 : Int), World.cell? w22 (Addr.add a_6 ((Int.toNat (IntKind.wrap .i64 (((keysn : Nat) : Int) - 1))) * 1)) = some (.int .i64 n_7) ∧
  ptrC values fun a_7 => (0 : Int) ≤ at_ ∧ at_ < ((valuesn : Nat) : Int) ∧
  (∃ v0 : Value, World.cell? w22 (Addr.add a_7 ((Int.toNat at_) * 1)) = some v0) ∧ World.frozen? w22 (Addr.add a_7 ((Int.toNat at_) * 1)) = false ∧
  ∀ w23 : World, w23 = (World.setCell w22 (Addr.add a_7 ((Int.toNat at_) * 1)) (.int .i64 n_7)) →
  (0 : Int) ≤ (IntKind.wrap .i64 (((keysn : Nat) : Int) - 1)) ∧ ((IntKind.wrap .i64 (((keysn : Nat) : Int) - 1)) : Int) ≤ ((keysc : Nat) : Int) ∧
  (0 : Int) ≤ (IntKind.wrap .i64 (((keysn : Nat) : Int) - 1)) ∧ ((IntKind.wrap .i64 (((keysn : Nat) : Int) - 1)) : Int) ≤ ((valuesc : Nat) : Int) ∧
  V5_k4 I M keys keysn keysc values valuesn valuesc i w4 script_2 script_2n script_2c d (cutA keys 0 keysc 1) ((Int.toNat (IntKind.wrap .i64 (((keysn : Nat) : Int) - 1))) - 0) (keysc - 0) (cutA values 0 valuesc 1) ((Int.toNat (IntKind.wrap .i64 (((keysn : Nat) : Int) - 1))) - 0) (valuesc - 0) i w23 R) ∧
  ((decide ((at_ : Int) ≥ 0)) = false →
  V5_k4 I M keys keysn keysc values valuesn valuesc i w4 script_2 script_2n script_2c d keys keysn keysc values valuesn valuesc i w21 R))) ∧
  (((n_3 : Int) == 1) = false →
  V5_k4 I M keys keysn keysc values valuesn valuesc i w4 script_2 script_2n script_2c d keys keysn keysc values valuesn valuesc i w7 R)))) ∧
  ((decide ((i : Int) < ((script_2n : Nat) : Int))) = false →
  Calls Try.prog 21 #[.pointer d] w4 fun e_ w24 => ∃ (q_3 : Option Addr) (q_3n q_3c : Nat), e_ = .returned (.slice q_3 q_3n q_3c) ∧
  (((((q_3n : Nat) : Int) : Int) != ((keysn : Nat) : Int)) = false →
  Calls Try.prog 22 #[.pointer d] w24 fun e_ w25 => ∃ (n_8 : Int), e_ = .returned (.int .i64 n_8) ∧
  V5_k7 d keys keysn keysc values valuesn valuesc q_3 q_3n q_3c ((n_8 : Int) != ((keysn : Nat) : Int)) w25 R) ∧
  (((((q_3n : Nat) : Int) : Int) != ((keysn : Nat) : Int)) = !false →
  V5_k12 d keys keysn keysc values valuesn valuesc q_3 q_3n q_3c w24 R)))
set_option maxRecDepth 100000 in
def V5_k19 (I_8 : Int → Int → World → Prop) (M_8 : Int → Int → World → Nat) (at__4 : Int) (k_4 : Int) (w52 : World) (script_10 : Option Addr) (script_10n script_10c : Nat) (d_19 : Option Addr) (keys_19 : Option Addr) (keys_19n keys_19c : Nat) (values_19 : Option Addr) (values_19n values_19c : Nat) (i_21 : Int) (o_4 : Addr) (at__6 : Int) (k_6 : Int) (w56 : World) (R : Ending → World → Prop) : Prop :=
  (I_8 at__6 (IntKind.wrap .i64 (k_6 + 1)) w56 ∧ M_8 at__6 (IntKind.wrap .i64 (k_6 + 1)) w56 < M_8 at__4 k_4 w52)
set_option maxRecDepth 100000 in
def V5_k18 (I_8 : Int → Int → World → Prop) (M_8 : Int → Int → World → Nat) (at__4 : Int) (k_4 : Int) (w52 : World) (script_9 : Option Addr) (script_9n script_9c : Nat) (d_18 : Option Addr) (keys_18 : Option Addr) (keys_18n keys_18c : Nat) (values_18 : Option Addr) (values_18n values_18c : Nat) (i_20 : Int) (o_3 : Addr) (at__5 : Int) (k_5 : Int) (w55 : World) (R : Ending → World → Prop) : Prop :=
  V5_k19 I_8 M_8 at__4 k_4 w52 script_9 script_9n script_9c d_18 keys_18 keys_18n keys_18c values_18 values_18n values_18c i_20 o_3 at__5 k_5 w55 R
set_option maxRecDepth 100000 in
def V5_k22 (I_7 : Option Addr → Nat → Nat → Option Addr → Nat → Nat → Int → World → Prop) (M_7 : Option Addr → Nat → Nat → Option Addr → Nat → Nat → Int → World → Nat) (keys_17 : Option Addr) (keys_17n : Nat) (keys_17c : Nat) (values_17 : Option Addr) (values_17n : Nat) (values_17c : Nat) (i_19 : Int) (w49 : World) (script_13 : Option Addr) (script_13n script_13c : Nat) (d_22 : Option Addr) (keys_22 : Option Addr) (keys_22n keys_22c : Nat) (values_22 : Option Addr) (values_22n values_22c : Nat) (i_24 : Int) (w64 : World) (R : Ending → World → Prop) : Prop :=
  (I_7 keys_22 keys_22n keys_22c values_22 values_22n values_22c (IntKind.wrap .i64 (i_24 + 1)) w64 ∧ M_7 keys_22 keys_22n keys_22c values_22 values_22n values_22c (IntKind.wrap .i64 (i_24 + 1)) w64 < M_7 keys_17 keys_17n keys_17c values_17 values_17n values_17c i_19 w49)
set_option maxRecDepth 100000 in
def V5_k21 (I_7 : Option Addr → Nat → Nat → Option Addr → Nat → Nat → Int → World → Prop) (M_7 : Option Addr → Nat → Nat → Option Addr → Nat → Nat → Int → World → Nat) (keys_17 : Option Addr) (keys_17n : Nat) (keys_17c : Nat) (values_17 : Option Addr) (values_17n : Nat) (values_17c : Nat) (i_19 : Int) (w49 : World) (script_12 : Option Addr) (script_12n script_12c : Nat) (d_21 : Option Addr) (keys_21 : Option Addr) (keys_21n keys_21c : Nat) (values_21 : Option Addr) (values_21n values_21c : Nat) (i_23 : Int) (w63 : World) (R : Ending → World → Prop) : Prop :=
  V5_k22 I_7 M_7 keys_17 keys_17n keys_17c values_17 values_17n values_17c i_19 w49 script_12 script_12n script_12c d_21 keys_21 keys_21n keys_21c values_21 values_21n values_21c i_23 w63 R
set_option maxRecDepth 100000 in
def V5_k20 (I_7 : Option Addr → Nat → Nat → Option Addr → Nat → Nat → Int → World → Prop) (M_7 : Option Addr → Nat → Nat → Option Addr → Nat → Nat → Int → World → Nat) (keys_17 : Option Addr) (keys_17n : Nat) (keys_17c : Nat) (values_17 : Option Addr) (values_17n : Nat) (values_17c : Nat) (i_19 : Int) (w49 : World) (script_11 : Option Addr) (script_11n script_11c : Nat) (d_20 : Option Addr) (keys_20 : Option Addr) (keys_20n keys_20c : Nat) (values_20 : Option Addr) (values_20n values_20c : Nat) (i_22 : Int) (w62 : World) (R : Ending → World → Prop) : Prop :=
  V5_k21 I_7 M_7 keys_17 keys_17n keys_17c values_17 values_17n values_17c i_19 w49 script_11 script_11n script_11c d_20 keys_20 keys_20n keys_20c values_20 values_20n values_20c i_22 w62 R
set_option maxRecDepth 100000 in
def V5_k24 (I_9 : Int → World → Prop) (M_9 : Int → World → Nat) (i_25 : Int) (w72 : World) (d_24 : Option Addr) (keys_24 : Option Addr) (keys_24n keys_24c : Nat) (values_24 : Option Addr) (values_24n values_24c : Nat) (l_8 : Option Addr) (l_8n l_8c : Nat) (i_26 : Int) (b_15 : Bool) (w75 : World) (R : Ending → World → Prop) : Prop :=
  (b_15 = true →
  R (.returned (.bool false)) w75) ∧
  (b_15 = false →
  (I_9 (IntKind.wrap .i64 (i_26 + 1)) w75 ∧ M_9 (IntKind.wrap .i64 (i_26 + 1)) w75 < M_9 i_25 w72))
set_option maxRecDepth 100000 in
def V5_k25 (I_9 : Int → World → Prop) (M_9 : Int → World → Nat) (i_25 : Int) (w72 : World) (d_25 : Option Addr) (keys_25 : Option Addr) (keys_25n keys_25c : Nat) (values_25 : Option Addr) (values_25n values_25c : Nat) (l_9 : Option Addr) (l_9n l_9c : Nat) (i_27 : Int) (w77 : World) (R : Ending → World → Prop) : Prop :=
  (false = true →
  R (.returned (.bool false)) w77) ∧
  (false = false →
  (I_9 (IntKind.wrap .i64 (i_27 + 1)) w77 ∧ M_9 (IntKind.wrap .i64 (i_27 + 1)) w77 < M_9 i_25 w72))
set_option maxRecDepth 100000 in
def V5_k26 (I_10 : Int → World → Prop) (M_10 : Int → World → Nat) (i_28 : Int) (w78 : World) (d_26 : Option Addr) (keys_26 : Option Addr) (keys_26n keys_26c : Nat) (values_26 : Option Addr) (values_26n values_26c : Nat) (i_29 : Int) (b_17 : Bool) (w80 : World) (R : Ending → World → Prop) : Prop :=
  (b_17 = true →
  R (.returned (.bool false)) w80) ∧
  (b_17 = false →
  (I_10 (IntKind.wrap .i64 (i_29 + 1)) w80 ∧ M_10 (IntKind.wrap .i64 (i_29 + 1)) w80 < M_10 i_28 w78))
set_option maxRecDepth 100000 in
def V5_k27 (I_10 : Int → World → Prop) (M_10 : Int → World → Nat) (i_28 : Int) (w78 : World) (d_27 : Option Addr) (keys_27 : Option Addr) (keys_27n keys_27c : Nat) (values_27 : Option Addr) (values_27n values_27c : Nat) (i_30 : Int) (w81 : World) (R : Ending → World → Prop) : Prop :=
  (true = true →
  R (.returned (.bool false)) w81) ∧
  (true = false →
  (I_10 (IntKind.wrap .i64 (i_30 + 1)) w81 ∧ M_10 (IntKind.wrap .i64 (i_30 + 1)) w81 < M_10 i_28 w78))
set_option maxRecDepth 100000 in
def V5_k23 (d_23 : Option Addr) (keys_23 : Option Addr) (keys_23n keys_23c : Nat) (values_23 : Option Addr) (values_23n values_23c : Nat) (l_7 : Option Addr) (l_7n l_7c : Nat) (b_14 : Bool) (w71 : World) (R : Ending → World → Prop) : Prop :=
  (b_14 = true →
  R (.returned (.bool false)) w71) ∧
  (b_14 = false →
  ∃ (I_9 : Int → World → Prop) (M_9 : Int → World → Nat), I_9 0 w71 ∧
  ∀ (i_25 : Int) (w72 : World), I_9 i_25 w72 →
  ((decide ((i_25 : Int) < ((l_7n : Nat) : Int))) = true →
  ∀ w73 : World, Drawn w72 w73 →
  ((decide ((i_25 : Int) > 0)) = true →
  ptrC l_7 fun a_23 => (0 : Int) ≤ (IntKind.wrap .i64 (i_25 - 1)) ∧ (IntKind.wrap .i64 (i_25 - 1)) < ((l_7n : Nat) : Int) ∧
  ptrC l_7 fun a_24 => (0 : Int) ≤ i_25 ∧ i_25 < ((l_7n : Nat) : Int) ∧
  ∃ (s_21 : ByteArray), World.cell? w73 (Addr.add a_23 ((Int.toNat (IntKind.wrap .i64 (i_25 - 1))) * 1)) = some (.string s_21) ∧
  ∃ (s_22 : ByteArray), World.cell? w73 (Addr.add a_24 ((Int.toNat i_25) * 1)) = some (.string s_22) ∧
  ∀ w74 : World, Drawn w73 w74 →
  V5_k24 I_9 M_9 i_25 w72 d_23 keys_23 keys_23n keys_23c values_23 values_23n values_23c l_7 l_7n l_7c i_25 (!strLt s_21 s_22) w74 R) ∧
  ((decide ((i_25 : Int) > 0)) = !true →
  ∀ w76 : World, Drawn w73 w76 →
  V5_k25 I_9 M_9 i_25 w72 d_23 keys_23 keys_23n keys_23c values_23 values_23n values_23c l_7 l_7n l_7c i_25 w76 R)) ∧
  ((decide ((i_25 : Int) < ((l_7n : Nat) : Int))) = false →
  ∃ (I_10 : Int → World → Prop) (M_10 : Int → World → Nat), I_10 0 w72 ∧
  ∀ (i_28 : Int) (w78 : World), I_10 i_28 w78 →
  ((decide ((i_28 : Int) < ((keys_23n : Nat) : Int))) = true →
  ptrC keys_23 fun a_25 => (0 : Int) ≤ i_28 ∧ i_28 < ((keys_23n : Nat) : Int) ∧
  ∃ (s_23 : ByteArray), World.cell? w78 (Addr.add a_25 ((Int.toNat i_28) * 1)) = some (.string s_23) ∧
  Calls Try.prog 23 #[.pointer d_23, .string s_23] w78 fun e_ w79 => ∃ (n_21 : Int), ∃ (b_16 : Bool), e_ = .returned (.tuple #[.int .i64 n_21, .bool b_16]) ∧
  ((!b_16) = false →
  ptrC values_23 fun a_26 => (0 : Int) ≤ i_28 ∧ i_28 < ((values_23n : Nat) : Int) ∧
  ∃ (n_22 : Int), World.cell? w79 (Addr.add a_26 ((Int.toNat i_28) * 1)) = some (.int .i64 n_22) ∧
  V5_k26 I_10 M_10 i_28 w78 d_23 keys_23 keys_23n keys_23c values_23 values_23n values_23c i_28 ((n_21 : Int) != n_22) w79 R) ∧
  ((!b_16) = !false →
  V5_k27 I_10 M_10 i_28 w78 d_23 keys_23 keys_23n keys_23c values_23 values_23n values_23c i_28 w79 R)) ∧
  ((decide ((i_28 : Int) < ((keys_23n : Nat) : Int))) = false →
  R (.returned (.bool true)) w78)))
set_option maxRecDepth 100000 in
def V5_k29 (I_11 : Int → World → Prop) (M_11 : Int → World → Nat) (i_31 : Int) (w83 : World) (d_29 : Option Addr) (keys_29 : Option Addr) (keys_29n keys_29c : Nat) (values_29 : Option Addr) (values_29n values_29c : Nat) (l_11 : Option Addr) (l_11n l_11c : Nat) (i_32 : Int) (b_18 : Bool) (w86 : World) (R : Ending → World → Prop) : Prop :=
  (b_18 = true →
  R (.returned (.bool false)) w86) ∧
  (b_18 = false →
  (I_11 (IntKind.wrap .i64 (i_32 + 1)) w86 ∧ M_11 (IntKind.wrap .i64 (i_32 + 1)) w86 < M_11 i_31 w83))
set_option maxRecDepth 100000 in
def V5_k30 (I_11 : Int → World → Prop) (M_11 : Int → World → Nat) (i_31 : Int) (w83 : World) (d_30 : Option Addr) (keys_30 : Option Addr) (keys_30n keys_30c : Nat) (values_30 : Option Addr) (values_30n values_30c : Nat) (l_12 : Option Addr) (l_12n l_12c : Nat) (i_33 : Int) (w88 : World) (R : Ending → World → Prop) : Prop :=
  (false = true →
  R (.returned (.bool false)) w88) ∧
  (false = false →
  (I_11 (IntKind.wrap .i64 (i_33 + 1)) w88 ∧ M_11 (IntKind.wrap .i64 (i_33 + 1)) w88 < M_11 i_31 w83))
set_option maxRecDepth 100000 in
def V5_k31 (I_12 : Int → World → Prop) (M_12 : Int → World → Nat) (i_34 : Int) (w89 : World) (d_31 : Option Addr) (keys_31 : Option Addr) (keys_31n keys_31c : Nat) (values_31 : Option Addr) (values_31n values_31c : Nat) (i_35 : Int) (b_20 : Bool) (w91 : World) (R : Ending → World → Prop) : Prop :=
  (b_20 = true →
  R (.returned (.bool false)) w91) ∧
  (b_20 = false →
  (I_12 (IntKind.wrap .i64 (i_35 + 1)) w91 ∧ M_12 (IntKind.wrap .i64 (i_35 + 1)) w91 < M_12 i_34 w89))
set_option maxRecDepth 100000 in
def V5_k32 (I_12 : Int → World → Prop) (M_12 : Int → World → Nat) (i_34 : Int) (w89 : World) (d_32 : Option Addr) (keys_32 : Option Addr) (keys_32n keys_32c : Nat) (values_32 : Option Addr) (values_32n values_32c : Nat) (i_36 : Int) (w92 : World) (R : Ending → World → Prop) : Prop :=
  (true = true →
  R (.returned (.bool false)) w92) ∧
  (true = false →
  (I_12 (IntKind.wrap .i64 (i_36 + 1)) w92 ∧ M_12 (IntKind.wrap .i64 (i_36 + 1)) w92 < M_12 i_34 w89))
set_option maxRecDepth 100000 in
def V5_k28 (d_28 : Option Addr) (keys_28 : Option Addr) (keys_28n keys_28c : Nat) (values_28 : Option Addr) (values_28n values_28c : Nat) (l_10 : Option Addr) (l_10n l_10c : Nat) (w82 : World) (R : Ending → World → Prop) : Prop :=
  (true = true →
  R (.returned (.bool false)) w82) ∧
  (true = false →
  ∃ (I_11 : Int → World → Prop) (M_11 : Int → World → Nat), I_11 0 w82 ∧
  ∀ (i_31 : Int) (w83 : World), I_11 i_31 w83 →
  ((decide ((i_31 : Int) < ((l_10n : Nat) : Int))) = true →
  ∀ w84 : World, Drawn w83 w84 →
  ((decide ((i_31 : Int) > 0)) = true →
  ptrC l_10 fun a_27 => (0 : Int) ≤ (IntKind.wrap .i64 (i_31 - 1)) ∧ (IntKind.wrap .i64 (i_31 - 1)) < ((l_10n : Nat) : Int) ∧
  ptrC l_10 fun a_28 => (0 : Int) ≤ i_31 ∧ i_31 < ((l_10n : Nat) : Int) ∧
  ∃ (s_24 : ByteArray), World.cell? w84 (Addr.add a_27 ((Int.toNat (IntKind.wrap .i64 (i_31 - 1))) * 1)) = some (.string s_24) ∧
  ∃ (s_25 : ByteArray), World.cell? w84 (Addr.add a_28 ((Int.toNat i_31) * 1)) = some (.string s_25) ∧
  ∀ w85 : World, Drawn w84 w85 →
  V5_k29 I_11 M_11 i_31 w83 d_28 keys_28 keys_28n keys_28c values_28 values_28n values_28c l_10 l_10n l_10c i_31 (!strLt s_24 s_25) w85 R) ∧
  ((decide ((i_31 : Int) > 0)) = !true →
  ∀ w87 : World, Drawn w84 w87 →
  V5_k30 I_11 M_11 i_31 w83 d_28 keys_28 keys_28n keys_28c values_28 values_28n values_28c l_10 l_10n l_10c i_31 w87 R)) ∧
  ((decide ((i_31 : Int) < ((l_10n : Nat) : Int))) = false →
  ∃ (I_12 : Int → World → Prop) (M_12 : Int → World → Nat), I_12 0 w83 ∧
  ∀ (i_34 : Int) (w89 : World), I_12 i_34 w89 →
  ((decide ((i_34 : Int) < ((keys_28n : Nat) : Int))) = true →
  ptrC keys_28 fun a_29 => (0 : Int) ≤ i_34 ∧ i_34 < ((keys_28n : Nat) : Int) ∧
  ∃ (s_26 : ByteArray), World.cell? w89 (Addr.add a_29 ((Int.toNat i_34) * 1)) = some (.string s_26) ∧
  Calls Try.prog 23 #[.pointer d_28, .string s_26] w89 fun e_ w90 => ∃ (n_23 : Int), ∃ (b_19 : Bool), e_ = .returned (.tuple #[.int .i64 n_23, .bool b_19]) ∧
  ((!b_19) = false →
  ptrC values_28 fun a_30 => (0 : Int) ≤ i_34 ∧ i_34 < ((values_28n : Nat) : Int) ∧
  ∃ (n_24 : Int), World.cell? w90 (Addr.add a_30 ((Int.toNat i_34) * 1)) = some (.int .i64 n_24) ∧
  V5_k31 I_12 M_12 i_34 w89 d_28 keys_28 keys_28n keys_28c values_28 values_28n values_28c i_34 ((n_23 : Int) != n_24) w90 R) ∧
  ((!b_19) = !false →
  V5_k32 I_12 M_12 i_34 w89 d_28 keys_28 keys_28n keys_28c values_28 values_28n values_28c i_34 w90 R)) ∧
  ((decide ((i_34 : Int) < ((keys_28n : Nat) : Int))) = false →
  R (.returned (.bool true)) w89)))
set_option maxRecDepth 100000 in
def V5_k17 (script_8 : Option Addr) (script_8n script_8c : Nat) (d_17 : Option Addr) (w48 : World) (R : Ending → World → Prop) : Prop :=
  (true = true →
  R (.returned (.bool false)) w48) ∧
  (true = false →
  ∃ (I_7 : Option Addr → Nat → Nat → Option Addr → Nat → Nat → Int → World → Prop) (M_7 : Option Addr → Nat → Nat → Option Addr → Nat → Nat → Int → World → Nat), I_7 none 0 0 none 0 0 0 w48 ∧
  ∀ (keys_17 : Option Addr) (keys_17n keys_17c : Nat) (values_17 : Option Addr) (values_17n values_17c : Nat) (i_19 : Int) (w49 : World), I_7 keys_17 keys_17n keys_17c values_17 values_17n values_17c i_19 w49 →
  ((decide ((i_19 : Int) < ((script_8n : Nat) : Int))) = true →
  ptrC script_8 fun a_16 => (0 : Int) ≤ i_19 ∧ i_19 < ((script_8n : Nat) : Int) ∧
  ∃ (n_13 : Int), World.cell? w49 (Addr.add a_16 ((Int.toNat i_19) * 3)) = some (.int .i64 n_13) ∧
  ∃ (s_14 : ByteArray), World.cell? w49 ((Addr.add a_16 ((Int.toNat i_19) * 3)).add 1) = some (.string s_14) ∧
  ∃ (n_14 : Int), World.cell? w49 ((Addr.add a_16 ((Int.toNat i_19) * 3)).add 2) = some (.int .i64 n_14) ∧
  ∀ (g_4 : Nat) (w50 : World), g_4 = (World.heap w49).size → w50 = World.alloc w49 (.cells #[.int .i64 0, .string (ByteArray.mk #[]), .int .i64 0] 33) →
  (∃ v0 : Value, World.cell? w50 ⟨g_4, 0, none⟩ = some v0) ∧ World.frozen? w50 ⟨g_4, 0, none⟩ = false ∧
  (∃ v0 : Value, World.cell? (World.setCell w50 ⟨g_4, 0, none⟩ (.int .i64 n_13)) ⟨g_4, 1, none⟩ = some v0) ∧ World.frozen? (World.setCell w50 ⟨g_4, 0, none⟩ (.int .i64 n_13)) ⟨g_4, 1, none⟩ = false ∧
  (∃ v0 : Value, World.cell? (World.setCell (World.setCell w50 ⟨g_4, 0, none⟩ (.int .i64 n_13)) ⟨g_4, 1, none⟩ (.string s_14)) ⟨g_4, 2, none⟩ = some v0) ∧ World.frozen? (World.setCell (World.setCell w50 ⟨g_4, 0, none⟩ (.int .i64 n_13)) ⟨g_4, 1, none⟩ (.string s_14)) ⟨g_4, 2, none⟩ = false ∧
  ∀ w51 : World, w51 = (World.setCell (World.setCell (World.setCell w50 ⟨g_4, 0, none⟩ (.int .i64 n_13)) ⟨g_4, 1, none⟩ (.string s_14)) ⟨g_4, 2, none⟩ (.int .i64 n_14)) →
  ∃ (I_8 : Int → Int → World → Prop) (M_8 : Int → Int → World → Nat), I_8 (-1) 0 w51 ∧
  ∀ (at__4 : Int) (k_4 : Int) (w52 : World), I_8 at__4 k_4 w52 →
  ((decide ((k_4 : Int) < ((keys_17n : Nat) : Int))) = true →
  ∀ w53 : World, Drawn w52 w53 →
  ptrC keys_17 fun a_17 => (0 : Int) ≤ k_4 ∧ k_4 < ((keys_17n : Nat) : Int) ∧
  ∃ (s_15 : ByteArray), World.cell? w53 (Addr.add a_17 ((Int.toNat k_4) * 1)) = some (.string s_15) ∧
  ∃ (s_16 : ByteArray), World.cell? w53 ⟨g_4, 1, none⟩ = some (.string s_16) ∧
  ∀ w54 : World, Drawn w53 w54 →
  ((strEq s_15 s_16) = true →
  V5_k18 I_8 M_8 at__4 k_4 w52 script_8 script_8n script_8c d_17 keys_17 keys_17n keys_17c values_17 values_17n values_17c i_19 ⟨g_4, 0, none⟩ k_4 k_4 w54 R) ∧
  ((strEq s_15 s_16) = false →
  V5_k18 I_8 M_8 at__4 k_4 w52 script_8 script_8n script_8c d_17 keys_17 keys_17n keys_17c values_17 values_17n values_17c i_19 ⟨g_4, 0, none⟩ at__4 k_4 w54 R)) ∧
  ((decide ((k_4 : Int) < ((keys_17n : Nat) : Int))) = false →
  ∃ (n_15 : Int), World.cell? w52 ⟨g_4, 0, none⟩ = some (.int .i64 n_15) ∧
  (((n_15 : Int) == 0) = true →
  ∃ (s_17 : ByteArray), World.cell? w52 ⟨g_4, 1, none⟩ = some (.string s_17) ∧
  ∃ (n_16 : Int), World.cell? w52 ⟨g_4, 2, none⟩ = some (.int .i64 n_16) ∧
  Calls Try.prog 19 #[.pointer d_17, .string s_17, .int .i64 n_16] w52 fun e_ w57 => ∃ (b_12 : Bool), e_ = .returned (.bool b_12) ∧
  ((!(b_12 == (decide ((at__4 : Int) < 0)))) = true →
  R (.returned (.bool false)) w57) ∧
  ((!(b_12 == (decide ((at__4 : Int) < 0)))) = false →
  ((decide ((at__4 : Int) < 0)) = true →
  ∃ (s_18 : ByteArray), World.cell? w57 ⟨g_4, 1, none⟩ = some (.string s_18) ∧
  ∀ (g_5 : Nat) (w58 : World), g_5 = (World.heap w57).size → w58 = World.alloc w57 (.cells #[.string s_18] 9) →
  ∃ (q_4 : Option Addr) (q_4n q_4c : Nat), ∃ w59 : World, Sem.run Try.prog (builtin .append #[30, 30] 30 #[false, false] #[.slice keys_17 keys_17n keys_17c, .slice (some ⟨g_5, 0, none⟩) 1 1]) w58 = .ok (.value (.slice q_4 q_4n q_4c)) w59 ∧
  ∃ (n_17 : Int), World.cell? w59 ⟨g_4, 2, none⟩ = some (.int .i64 n_17) ∧
  ∀ (g_6 : Nat) (w60 : World), g_6 = (World.heap w59).size → w60 = World.alloc w59 (.cells #[.int .i64 n_17] 3) →
  ∃ (q_5 : Option Addr) (q_5n q_5c : Nat), ∃ w61 : World, Sem.run Try.prog (builtin .append #[31, 31] 31 #[false, false] #[.slice values_17 values_17n values_17c, .slice (some ⟨g_6, 0, none⟩) 1 1]) w60 = .ok (.value (.slice q_5 q_5n q_5c)) w61 ∧
  V5_k20 I_7 M_7 keys_17 keys_17n keys_17c values_17 values_17n values_17c i_19 w49 script_8 script_8n script_8c d_17 q_4 q_4n q_4c q_5 q_5n q_5c i_19 w61 R) ∧
  ((decide ((at__4 : Int) < 0)) = false →
  ∃ (n_18 : Int), World.cell? w57 ⟨g_4, 2, none⟩ = some (.int .i64 n_18) ∧
  ptrC values_17 fun a_18 => (0 : Int) ≤ at__4 ∧ at__4 < ((values_17n : Nat) : Int) ∧
  (∃ v0 : Value, World.cell? w57 (Addr.add a_18 ((Int.toNat at__4) * 1)) = some v0) ∧ World.frozen? w57 (Addr.add a_18 ((Int.toNat at__4) * 1)) = false ∧
  ∀ w65 : World, w65 = (World.setCell w57 (Addr.add a_18 ((Int.toNat at__4) * 1)) (.int .i64 n_18)) →
  V5_k20 I_7 M_7 keys_17 keys_17n keys_17c values_17 values_17n values_17c i_19 w49 script_8 script_8n script_8c d_17 keys_17 keys_17n keys_17c values_17 values_17n values_17c i_19 w65 R))) ∧
  (((n_15 : Int) == 0) = false →
  (((n_15 : Int) == 1) = true →
  ∃ (s_19 : ByteArray), World.cell? w52 ⟨g_4, 1, none⟩ = some (.string s_19) ∧
  Calls Try.prog 20 #[.pointer d_17, .string s_19] w52 fun e_ w66 => ∃ (b_13 : Bool), e_ = .returned (.bool b_13) ∧
  ((!(b_13 == (decide ((at__4 : Int) ≥ 0)))) = true →
  R (.returned (.bool false)) w66) ∧
  ((!(b_13 == (decide ((at__4 : Int) ≥ 0)))) = false →
  ((decide ((at__4 : Int) ≥ 0)) = true →
  ptrC keys_17 fun a_19 => (0 : Int) ≤ (IntKind.wrap .i64 (((keys_17n : Nat) : Int) - 1)) ∧ (IntKind.wrap .i64 (((keys_17n : Nat) : Int) - 1)) < ((keys_17n : Nat) : Int) ∧
  ∃ (s_20 : ByteArray), World.cell? w66 (Addr.add a_19 ((Int.toNat (IntKind.wrap .i64 (((keys_17n : Nat) : Int) - 1))) * 1)) = some (.string s_20) ∧
  ptrC keys_17 fun a_20 => (0 : Int) ≤ at__4 ∧ at__4 < ((keys_17n : Nat) : Int) ∧
  (∃ v0 : Value, World.cell? w66 (Addr.add a_20 ((Int.toNat at__4) * 1)) = some v0) ∧ World.frozen? w66 (Addr.add a_20 ((Int.toNat at__4) * 1)) = false ∧
  ∀ w67 : World, w67 = (World.setCell w66 (Addr.add a_20 ((Int.toNat at__4) * 1)) (.string s_20)) →
  ptrC values_17 fun a_21 => (0 : Int) ≤ (IntKind.wrap .i64 (((keys_17n : Nat) : Int) - 1)) ∧ (IntKind.wrap .i64 (((keys_17n : Nat) : Int) - 1)) < ((values_17n : Nat) : Int) ∧
  ∃ (n_19 : Int), World.cell? w67 (Addr.add a_21 ((Int.toNat (IntKind.wrap .i64 (((keys_17n : Nat) : Int) - 1))) * 1)) = some (.int .i64 n_19) ∧
  ptrC values_17 fun a_22 => (0 : Int) ≤ at__4 ∧ at__4 < ((values_17n : Nat) : Int) ∧
  (∃ v0 : Value, World.cell? w67 (Addr.add a_22 ((Int.toNat at__4) * 1)) = some v0) ∧ World.frozen? w67 (Addr.add a_22 ((Int.toNat at__4) * 1)) = false ∧
  ∀ w68 : World, w68 = (World.setCell w67 (Addr.add a_22 ((Int.toNat at__4) * 1)) (.int .i64 n_19)) →
  (0 : Int) ≤ (IntKind.wrap .i64 (((keys_17n : Nat) : Int) - 1)) ∧ ((IntKind.wrap .i64 (((keys_17n : Nat) : Int) - 1)) : Int) ≤ ((keys_17c : Nat) : Int) ∧
  (0 : Int) ≤ (IntKind.wrap .i64 (((keys_17n : Nat) : Int) - 1)) ∧ ((IntKind.wrap .i64 (((keys_17n : Nat) : Int) - 1)) : Int) ≤ ((values_17c : Nat) : Int) ∧
  V5_k20 I_7 M_7 keys_17 keys_17n keys_17c values_17 values_17n values_17c i_19 w49 script_8 script_8n script_8c d_17 (cutA keys_17 0 keys_17c 1) ((Int.toNat (IntKind.wrap .i64 (((keys_17n : Nat) : Int) - 1))) - 0) (keys_17c - 0) (cutA values_17 0 values_17c 1) ((Int.toNat (IntKind.wrap .i64 (((keys_17n : Nat) : Int) - 1))) - 0) (values_17c - 0) i_19 w68 R) ∧
  ((decide ((at__4 : Int) ≥ 0)) = false →
  V5_k20 I_7 M_7 keys_17 keys_17n keys_17c values_17 values_17n values_17c i_19 w49 script_8 script_8n script_8c d_17 keys_17 keys_17n keys_17c values_17 values_17n values_17c i_19 w66 R))) ∧
  (((n_15 : Int) == 1) = false →
  V5_k20 I_7 M_7 keys_17 keys_17n keys_17c values_17 values_17n values_17c i_19 w49 script_8 script_8n script_8c d_17 keys_17 keys_17n keys_17c values_17 values_17n values_17c i_19 w52 R)))) ∧
  ((decide ((i_19 : Int) < ((script_8n : Nat) : Int))) = false →
  Calls Try.prog 21 #[.pointer d_17] w49 fun e_ w69 => ∃ (q_6 : Option Addr) (q_6n q_6c : Nat), e_ = .returned (.slice q_6 q_6n q_6c) ∧
  (((((q_6n : Nat) : Int) : Int) != ((keys_17n : Nat) : Int)) = false →
  Calls Try.prog 22 #[.pointer d_17] w69 fun e_ w70 => ∃ (n_20 : Int), e_ = .returned (.int .i64 n_20) ∧
  V5_k23 d_17 keys_17 keys_17n keys_17c values_17 values_17n values_17c q_6 q_6n q_6c ((n_20 : Int) != ((keys_17n : Nat) : Int)) w70 R) ∧
  (((((q_6n : Nat) : Int) : Int) != ((keys_17n : Nat) : Int)) = !false →
  V5_k28 d_17 keys_17 keys_17n keys_17c values_17 values_17n values_17c q_6 q_6n q_6c w69 R)))
set_option maxRecDepth 100000 in
def V5 (seed : Int) (script : Option Addr) (scriptn scriptc : Nat) (w : World) (R : Ending → World → Prop) : Prop :=
  Calls Try.prog 18 #[.int .i64 seed] w fun e_ w1 => ∃ (p : Option Addr), e_ = .returned (.pointer p) ∧
  Calls Try.prog 15 #[] w1 fun e_ w2 => ∃ (b : Bool), e_ = .returned (.bool b) ∧
  ((!b) = false →
  V5_k1 script scriptn scriptc p (Option.isNone p) w2 R) ∧
  ((!b) = !false →
  V5_k17 script scriptn scriptc p w2 R)
theorem b5 : Try.f5.body = some (bodyOf Try.f5) := by kernel_rfl
theorem ok5 : okF Try.prog an5 Try.f5 (bodyOf Try.f5) 2 = true := by kernel_rfl
theorem e5 (seed : Int) (script : Option Addr) (scriptn scriptc : Nat) (w : World) (R : Ending → World → Prop) : vcF Try.prog an5 Try.f5 (bodyOf Try.f5) [.int .i64 seed, .slice script scriptn scriptc] w R = V5 seed script scriptn scriptc w R := by kernel_rfl
theorem v5 (seed : Int) (script : Option Addr) (scriptn scriptc : Nat) (w : World) (R : Ending → World → Prop) (hV : V5 seed script scriptn scriptc w R) : Calls Try.prog 5 #[.int .i64 seed, .slice script scriptn scriptc] w R := calls_vc mixed Try.func5 b5 rfl ok5 (e5 seed script scriptn scriptc w R) hV

end Go.Proofs.Ytcljmlgbmjjldaa.F
