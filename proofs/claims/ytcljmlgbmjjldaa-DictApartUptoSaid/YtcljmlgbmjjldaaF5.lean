/- The verification conditions of Go functions, printed by wip/gen/gen.py; the kernel checks that each is the one reckoned from the code. -/
import Derived.Test.YtcljmlgbmjjldaaProg
import Derived.Test.YtcljmlgbmjjldaaVC
import Derived.Test.YtcljmlgbmjjldaaF0
set_option linter.unusedVariables false
namespace Go.Proofs.Ytcljmlgbmjjldaa.F
open Go Go.VC Go.Proofs
/-- (*cistern/dict.table).clone -/
def an73 : Ann := { loops := [(3, [(22, .int .i64)])], draws := [(1, false, Tr.seq [0, 1, 2, 4, 5, 6, 3, 7, 8] (.alt 9 (Tr.seq [10, 11, 12] .nil) (.one 11 (Tr.seq [9, 10, 12] .nil))), [9, 11, 12], [9, 11], []), (5, false, Tr.seq [0, 2, 3, 1, 4, 5, 6] .nil, [4, 6], [4], [])], tys := [] }
set_option maxRecDepth 100000 in
def V73_k1 (t_2 : Addr) (a : Addr) (c : Addr) (w10 : World) (R : Ending → World → Prop) : Prop :=
  ∃ (q_2 : Option Addr) (q_2n q_2c : Nat), World.cell? w10 t_2 = some (.slice q_2 q_2n q_2c) ∧
  ∃ (I : Int → World → Prop) (M : Int → World → Nat), I 0 w10 ∧
  ∀ (n_2 : Int) (w11 : World), I n_2 w11 →
  ((decide ((n_2 : Int) < ((q_2n : Nat) : Int))) = true →
  ptrC q_2 fun a_2 => (0 : Int) ≤ n_2 ∧ n_2 < ((q_2n : Nat) : Int) ∧
  ∃ (q_3 : Option Addr) (q_3n q_3c : Nat), World.cell? w11 (Addr.add a_2 ((Int.toNat n_2) * 1)) = some (.slice q_3 q_3n q_3c) ∧
  ∀ w12 : World, Drawn w11 w12 →
  ∃ (q_4 : Option Addr) (q_4n q_4c : Nat), World.cell? w12 c = some (.slice q_4 q_4n q_4c) ∧
  ∀ w13 : World, Drawn w12 w13 →
  Calls Try.prog 121 #[.slice q_3 q_3n q_3c] w13 fun e_ w14 => ∃ (q_5 : Option Addr) (q_5n q_5c : Nat), e_ = .returned (.slice q_5 q_5n q_5c) ∧
  Ext w13 w14 ∧
  ptrC q_4 fun a_3 => (0 : Int) ≤ n_2 ∧ n_2 < ((q_4n : Nat) : Int) ∧
  ∀ w15 : World, Drawn w14 w15 →
  (∃ v0 : Value, World.cell? w15 (Addr.add a_3 ((Int.toNat n_2) * 1)) = some v0) ∧ World.frozen? w15 (Addr.add a_3 ((Int.toNat n_2) * 1)) = false ∧
  ∀ w16 : World, w16 = (World.setCell w15 (Addr.add a_3 ((Int.toNat n_2) * 1)) (.slice q_5 q_5n q_5c)) →
  ∀ w17 : World, Drawn w16 w17 →
  (I (IntKind.wrap .i64 (n_2 + 1)) w17 ∧ M (IntKind.wrap .i64 (n_2 + 1)) w17 < M n_2 w11)) ∧
  ((decide ((n_2 : Int) < ((q_2n : Nat) : Int))) = false →
  ∃ (q_6 : Option Addr) (q_6n q_6c : Nat), World.cell? w11 c = some (.slice q_6 q_6n q_6c) ∧
  ∃ (n_3 : Int), World.cell? w11 (c.add 1) = some (.int .i64 n_3) ∧
  (∃ v0 : Value, World.cell? w11 a = some v0) ∧ World.frozen? w11 a = false ∧
  (∃ v0 : Value, World.cell? (World.setCell w11 a (.slice q_6 q_6n q_6c)) (a.add 1) = some v0) ∧ World.frozen? (World.setCell w11 a (.slice q_6 q_6n q_6c)) (a.add 1) = false ∧
  ∀ w18 : World, w18 = (World.setCell (World.setCell w11 a (.slice q_6 q_6n q_6c)) (a.add 1) (.int .i64 n_3)) →
  ∃ (q_7 : Option Addr) (q_7n q_7c : Nat), World.cell? w18 a = some (.slice q_7 q_7n q_7c) ∧
  ∃ (n_4 : Int), World.cell? w18 (a.add 1) = some (.int .i64 n_4) ∧
  R (.returned (.agg #[.slice q_7 q_7n q_7c, .int .i64 n_4])) w18)
set_option maxRecDepth 100000 in
def V73 (t : Addr) (w : World) (R : Ending → World → Prop) : Prop :=
  ∀ (g : Nat) (w1 : World), g = (World.heap w).size → w1 = World.alloc w (.cells #[.slice none 0 0, .int .i64 0] 103) →
  ∀ w2 : World, Drawn w1 w2 →
  ∃ (n : Int), World.cell? w2 (t.add 1) = some (.int .i64 n) ∧
  ∃ (q : Option Addr) (qn qc : Nat), World.cell? w2 t = some (.slice q qn qc) ∧
  (∀ w3 : World, Drawn w2 w3 →
  (0 : Int) ≤ ((qn : Nat) : Int) ∧ (((qn : Nat) : Int) : Int) ≤ ((qn : Nat) : Int) ∧ (((qn : Nat) : Int) : Int) < 9223372036854775808 ∧ ((24 : Nat) : Int) * ((qn : Nat) : Int) ≤ 281474976710656 ∧
  ∀ (g_2 : Nat) (w4 : World), g_2 = (World.heap w3).size → w4 = World.alloc w3 (.cells (zeroRow #[.slice none 0 0] ((Int.toNat ((qn : Nat) : Int)) * 1)) 30) →
  Ext w3 w4 ∧
  ∀ w5 : World, Drawn w4 w5 →
  ∀ (g_3 : Nat) (w6 : World), g_3 = (World.heap w5).size → w6 = World.alloc w5 (.cells #[.slice none 0 0, .int .i64 0] 103) →
  Ext w5 w6 ∧
  ∀ w7 : World, Drawn w6 w7 →
  (∃ v0 : Value, World.cell? w7 ⟨g_3, 0, none⟩ = some v0) ∧ World.frozen? w7 ⟨g_3, 0, none⟩ = false ∧
  (∃ v0 : Value, World.cell? (World.setCell w7 ⟨g_3, 0, none⟩ (.slice (some ⟨g_2, 0, none⟩) (Int.toNat ((qn : Nat) : Int)) (Int.toNat ((qn : Nat) : Int)))) ⟨g_3, 1, none⟩ = some v0) ∧ World.frozen? (World.setCell w7 ⟨g_3, 0, none⟩ (.slice (some ⟨g_2, 0, none⟩) (Int.toNat ((qn : Nat) : Int)) (Int.toNat ((qn : Nat) : Int)))) ⟨g_3, 1, none⟩ = false ∧
  ∀ w8 : World, w8 = (World.setCell (World.setCell w7 ⟨g_3, 0, none⟩ (.slice (some ⟨g_2, 0, none⟩) (Int.toNat ((qn : Nat) : Int)) (Int.toNat ((qn : Nat) : Int)))) ⟨g_3, 1, none⟩ (.int .i64 n)) →
  ∀ w9 : World, Drawn w8 w9 →
  V73_k1 t ⟨g, 0, none⟩ ⟨g_3, 0, none⟩ w9 R) ∧
  (∀ w19 : World, Drawn w2 w19 →
  ∀ (g_4 : Nat) (w20 : World), g_4 = (World.heap w19).size → w20 = World.alloc w19 (.cells #[.slice none 0 0, .int .i64 0] 103) →
  Ext w19 w20 ∧
  ∀ w21 : World, Drawn w20 w21 →
  (0 : Int) ≤ ((qn : Nat) : Int) ∧ (((qn : Nat) : Int) : Int) ≤ ((qn : Nat) : Int) ∧ (((qn : Nat) : Int) : Int) < 9223372036854775808 ∧ ((24 : Nat) : Int) * ((qn : Nat) : Int) ≤ 281474976710656 ∧
  ∀ (g_5 : Nat) (w22 : World), g_5 = (World.heap w21).size → w22 = World.alloc w21 (.cells (zeroRow #[.slice none 0 0] ((Int.toNat ((qn : Nat) : Int)) * 1)) 30) →
  Ext w21 w22 ∧
  ∀ w23 : World, Drawn w22 w23 →
  (∃ v0 : Value, World.cell? w23 ⟨g_4, 0, none⟩ = some v0) ∧ World.frozen? w23 ⟨g_4, 0, none⟩ = false ∧
  (∃ v0 : Value, World.cell? (World.setCell w23 ⟨g_4, 0, none⟩ (.slice (some ⟨g_5, 0, none⟩) (Int.toNat ((qn : Nat) : Int)) (Int.toNat ((qn : Nat) : Int)))) ⟨g_4, 1, none⟩ = some v0) ∧ World.frozen? (World.setCell w23 ⟨g_4, 0, none⟩ (.slice (some ⟨g_5, 0, none⟩) (Int.toNat ((qn : Nat) : Int)) (Int.toNat ((qn : Nat) : Int)))) ⟨g_4, 1, none⟩ = false ∧
  ∀ w24 : World, w24 = (World.setCell (World.setCell w23 ⟨g_4, 0, none⟩ (.slice (some ⟨g_5, 0, none⟩) (Int.toNat ((qn : Nat) : Int)) (Int.toNat ((qn : Nat) : Int)))) ⟨g_4, 1, none⟩ (.int .i64 n)) →
  ∀ w25 : World, Drawn w24 w25 →
  V73_k1 t ⟨g, 0, none⟩ ⟨g_4, 0, none⟩ w25 R)
theorem b73 : Try.f73.body = some (bodyOf Try.f73) := by kernel_rfl
theorem ok73 : okF Try.prog an73 Try.f73 (bodyOf Try.f73) 1 = true := by kernel_rfl
theorem e73 (t : Addr) (w : World) (R : Ending → World → Prop) : vcF Try.prog an73 Try.f73 (bodyOf Try.f73) [.pointer (some t)] w R = V73 t w R := by kernel_rfl
theorem v73 (t : Addr) (w : World) (R : Ending → World → Prop) (hV : V73 t w R) : Calls Try.prog 73 #[.pointer (some t)] w R := calls_vc mixed Try.func73 b73 rfl ok73 (e73 t w R) hV

/-- cistern/cisternlaw08.DictApart -/
def an10 : Ann := { loops := [(5, [(8, .int .i64)]), (14, [(14, .int .i64)]), (21, [(18, .int .i64)]), (29, [(23, .int .i64)]), (36, [(28, .int .i64)]), (40, [(29, .int .i64)])], draws := [], tys := [] }
set_option maxRecDepth 100000 in
def V10_k3 (d_3 : Option Addr) (c_2 : Option Addr) (a_4 : Option Addr) (a_4n a_4c : Nat) (b_6 : Option Addr) (b_6n b_6c : Nat) (s_4 : Option Addr) (s_4n s_4c : Nat) (b_7 : Bool) (w23 : World) (R : Ending → World → Prop) : Prop :=
  (b_7 = true →
  R (.returned (.bool false)) w23) ∧
  (b_7 = false →
  ∃ (I_4 : Int → World → Prop) (M_4 : Int → World → Nat), I_4 0 w23 ∧
  ∀ (i_4 : Int) (w24 : World), I_4 i_4 w24 →
  ((decide ((i_4 : Int) < ((a_4n : Nat) : Int))) = true →
  ptrC a_4 fun a_5 => (0 : Int) ≤ i_4 ∧ i_4 < ((a_4n : Nat) : Int) ∧
  ∃ (s_5 : ByteArray), World.cell? w24 (Addr.add a_5 ((Int.toNat i_4) * 1)) = some (.string s_5) ∧
  Calls Try.prog 23 #[.pointer d_3, .string s_5] w24 fun e_ w25 => ∃ (n_16 : Int), ∃ (b_8 : Bool), e_ = .returned (.tuple #[.int .i64 n_16, .bool b_8]) ∧
  ptrC a_4 fun a_6 => (0 : Int) ≤ i_4 ∧ i_4 < ((a_4n : Nat) : Int) ∧
  ∃ (s_6 : ByteArray), World.cell? w25 (Addr.add a_6 ((Int.toNat i_4) * 1)) = some (.string s_6) ∧
  Calls Try.prog 23 #[.pointer c_2, .string s_6] w25 fun e_ w26 => ∃ (n_17 : Int), ∃ (b_9 : Bool), e_ = .returned (.tuple #[.int .i64 n_17, .bool b_9]) ∧
  (((n_16 : Int) != n_17) = true →
  R (.returned (.bool false)) w26) ∧
  (((n_16 : Int) != n_17) = false →
  (I_4 (IntKind.wrap .i64 (i_4 + 1)) w26 ∧ M_4 (IntKind.wrap .i64 (i_4 + 1)) w26 < M_4 i_4 w24))) ∧
  ((decide ((i_4 : Int) < ((a_4n : Nat) : Int))) = false →
  ∃ (I_5 : Int → World → Prop) (M_5 : Int → World → Nat), I_5 0 w24 ∧
  ∀ (i_5 : Int) (w27 : World), I_5 i_5 w27 →
  ((decide ((i_5 : Int) < ((a_4n : Nat) : Int))) = true →
  ptrC a_4 fun a_7 => (0 : Int) ≤ i_5 ∧ i_5 < ((a_4n : Nat) : Int) ∧
  (∃ v0 : Value, World.cell? w27 (Addr.add a_7 ((Int.toNat i_5) * 1)) = some v0) ∧ World.frozen? w27 (Addr.add a_7 ((Int.toNat i_5) * 1)) = false ∧
  ∀ w28 : World, w28 = (World.setCell w27 (Addr.add a_7 ((Int.toNat i_5) * 1)) (.string (ByteArray.mk #[49]))) →
  (I_5 (IntKind.wrap .i64 (i_5 + 1)) w28 ∧ M_5 (IntKind.wrap .i64 (i_5 + 1)) w28 < M_5 i_5 w27)) ∧
  ((decide ((i_5 : Int) < ((a_4n : Nat) : Int))) = false →
  ∃ (I_6 : Int → World → Prop) (M_6 : Int → World → Nat), I_6 0 w27 ∧
  ∀ (i_6 : Int) (w29 : World), I_6 i_6 w29 →
  ((decide ((i_6 : Int) < ((s_4n : Nat) : Int))) = true →
  ptrC s_4 fun a_8 => (0 : Int) ≤ i_6 ∧ i_6 < ((s_4n : Nat) : Int) ∧
  (∃ v0 : Value, World.cell? w29 (Addr.add a_8 ((Int.toNat i_6) * 1)) = some v0) ∧ World.frozen? w29 (Addr.add a_8 ((Int.toNat i_6) * 1)) = false ∧
  ∀ w30 : World, w30 = (World.setCell w29 (Addr.add a_8 ((Int.toNat i_6) * 1)) (.string (ByteArray.mk #[50]))) →
  (I_6 (IntKind.wrap .i64 (i_6 + 1)) w30 ∧ M_6 (IntKind.wrap .i64 (i_6 + 1)) w30 < M_6 i_6 w29)) ∧
  ((decide ((i_6 : Int) < ((s_4n : Nat) : Int))) = false →
  ∀ (g : Nat) (w31 : World), g = (World.heap w29).size → w31 = World.alloc w29 (.cells #[.string (ByteArray.mk #[51]), .string (ByteArray.mk #[51]), .string (ByteArray.mk #[51])] 9) →
  ∃ (q_6 : Option Addr) (q_6n q_6c : Nat), ∃ w32 : World, Sem.run Try.prog (builtin .append #[30, 30] 30 #[false, false] #[.slice a_4 a_4n a_4c, .slice (some ⟨g, 0, none⟩) 3 3]) w31 = .ok (.value (.slice q_6 q_6n q_6c)) w32 ∧
  ∀ (g_2 : Nat) (w33 : World), g_2 = (World.heap w32).size → w33 = World.alloc w32 (.cells #[.string (ByteArray.mk #[52]), .string (ByteArray.mk #[52]), .string (ByteArray.mk #[52])] 9) →
  ∃ (q_7 : Option Addr) (q_7n q_7c : Nat), ∃ w34 : World, Sem.run Try.prog (builtin .append #[30, 30] 30 #[false, false] #[.slice s_4 s_4n s_4c, .slice (some ⟨g_2, 0, none⟩) 3 3]) w33 = .ok (.value (.slice q_7 q_7n q_7c)) w34 ∧
  Calls Try.prog 21 #[.pointer d_3] w34 fun e_ w35 => ∃ (q_8 : Option Addr) (q_8n q_8c : Nat), e_ = .returned (.slice q_8 q_8n q_8c) ∧
  Calls Try.prog 34 #[.slice q_8 q_8n q_8c, .slice b_6 b_6n b_6c] w35 fun e_ w36 => ∃ (b_10 : Bool), e_ = .returned (.bool b_10) ∧
  (b_10 = true →
  ptrC q_6 fun a_9 => (0 : Int) ≤ (IntKind.wrap .i64 (((q_6n : Nat) : Int) - 1)) ∧ (IntKind.wrap .i64 (((q_6n : Nat) : Int) - 1)) < ((q_6n : Nat) : Int) ∧
  ∃ (s_7 : ByteArray), World.cell? w36 (Addr.add a_9 ((Int.toNat (IntKind.wrap .i64 (((q_6n : Nat) : Int) - 1))) * 1)) = some (.string s_7) ∧
  ((strEq s_7 (ByteArray.mk #[51])) = true →
  ptrC q_7 fun a_10 => (0 : Int) ≤ (IntKind.wrap .i64 (((q_7n : Nat) : Int) - 1)) ∧ (IntKind.wrap .i64 (((q_7n : Nat) : Int) - 1)) < ((q_7n : Nat) : Int) ∧
  ∃ (s_8 : ByteArray), World.cell? w36 (Addr.add a_10 ((Int.toNat (IntKind.wrap .i64 (((q_7n : Nat) : Int) - 1))) * 1)) = some (.string s_8) ∧
  R (.returned (.bool (strEq s_8 (ByteArray.mk #[52])))) w36) ∧
  ((strEq s_7 (ByteArray.mk #[51])) = !true →
  R (.returned (.bool false)) w36)) ∧
  (b_10 = !true →
  R (.returned (.bool false)) w36)))))
set_option maxRecDepth 100000 in
def V10_k2 (more_3 : Option Addr) (more_3n more_3c : Nat) (d_2 : Option Addr) (c : Option Addr) (b_4 : Bool) (w14 : World) (R : Ending → World → Prop) : Prop :=
  (b_4 = true →
  R (.returned (.bool false)) w14) ∧
  (b_4 = false →
  ∃ (I_3 : Int → World → Prop) (M_3 : Int → World → Nat), I_3 0 w14 ∧
  ∀ (i_3 : Int) (w15 : World), I_3 i_3 w15 →
  ((decide ((i_3 : Int) < ((more_3n : Nat) : Int))) = true →
  ptrC more_3 fun a_3 => (0 : Int) ≤ i_3 ∧ i_3 < ((more_3n : Nat) : Int) ∧
  ∃ (n_11 : Int), World.cell? w15 (Addr.add a_3 ((Int.toNat i_3) * 3)) = some (.int .i64 n_11) ∧
  ∃ (s_3 : ByteArray), World.cell? w15 ((Addr.add a_3 ((Int.toNat i_3) * 3)).add 1) = some (.string s_3) ∧
  ∃ (n_12 : Int), World.cell? w15 ((Addr.add a_3 ((Int.toNat i_3) * 3)).add 2) = some (.int .i64 n_12) ∧
  Calls Try.prog 24 #[.pointer d_2, .slice none 0 0, .agg #[.int .i64 n_11, .string s_3, .int .i64 n_12]] w15 fun e_ w16 => e_ = .returned (.tuple #[]) ∧
  (I_3 (IntKind.wrap .i64 (i_3 + 1)) w16 ∧ M_3 (IntKind.wrap .i64 (i_3 + 1)) w16 < M_3 i_3 w15)) ∧
  ((decide ((i_3 : Int) < ((more_3n : Nat) : Int))) = false →
  Calls Try.prog 21 #[.pointer d_2] w15 fun e_ w17 => ∃ (q_3 : Option Addr) (q_3n q_3c : Nat), e_ = .returned (.slice q_3 q_3n q_3c) ∧
  Calls Try.prog 21 #[.pointer c] w17 fun e_ w18 => ∃ (q_4 : Option Addr) (q_4n q_4c : Nat), e_ = .returned (.slice q_4 q_4n q_4c) ∧
  Calls Try.prog 25 #[.pointer d_2, .int .i64 0, .int .i64 1000000] w18 fun e_ w19 => ∃ (q_5 : Option Addr) (q_5n q_5c : Nat), ∃ (n_13 : Int), e_ = .returned (.tuple #[.slice q_5 q_5n q_5c, .int .i64 n_13]) ∧
  Calls Try.prog 34 #[.slice q_3 q_3n q_3c, .slice q_4 q_4n q_4c] w19 fun e_ w20 => ∃ (b_5 : Bool), e_ = .returned (.bool b_5) ∧
  ((!b_5) = false →
  Calls Try.prog 22 #[.pointer d_2] w20 fun e_ w21 => ∃ (n_14 : Int), e_ = .returned (.int .i64 n_14) ∧
  Calls Try.prog 22 #[.pointer c] w21 fun e_ w22 => ∃ (n_15 : Int), e_ = .returned (.int .i64 n_15) ∧
  V10_k3 d_2 c q_3 q_3n q_3c q_4 q_4n q_4c q_5 q_5n q_5c ((n_14 : Int) != n_15) w22 R) ∧
  ((!b_5) = !false →
  V10_k3 d_2 c q_3 q_3n q_3c q_4 q_4n q_4c q_5 q_5n q_5c true w20 R)))
set_option maxRecDepth 100000 in
def V10_k1 (script_2 : Option Addr) (script_2n script_2c : Nat) (more_2 : Option Addr) (more_2n more_2c : Nat) (d : Option Addr) (b_2 : Bool) (w3 : World) (R : Ending → World → Prop) : Prop :=
  (b_2 = true →
  R (.returned (.bool false)) w3) ∧
  (b_2 = false →
  ∃ (I : Int → World → Prop) (M : Int → World → Nat), I 0 w3 ∧
  ∀ (i : Int) (w4 : World), I i w4 →
  ((decide ((i : Int) < ((script_2n : Nat) : Int))) = true →
  ptrC script_2 fun a => (0 : Int) ≤ i ∧ i < ((script_2n : Nat) : Int) ∧
  ∃ (n : Int), World.cell? w4 (Addr.add a ((Int.toNat i) * 3)) = some (.int .i64 n) ∧
  ∃ (s : ByteArray), World.cell? w4 ((Addr.add a ((Int.toNat i) * 3)).add 1) = some (.string s) ∧
  ∃ (n_2 : Int), World.cell? w4 ((Addr.add a ((Int.toNat i) * 3)).add 2) = some (.int .i64 n_2) ∧
  Calls Try.prog 24 #[.pointer d, .slice none 0 0, .agg #[.int .i64 n, .string s, .int .i64 n_2]] w4 fun e_ w5 => e_ = .returned (.tuple #[]) ∧
  (I (IntKind.wrap .i64 (i + 1)) w5 ∧ M (IntKind.wrap .i64 (i + 1)) w5 < M i w4)) ∧
  ((decide ((i : Int) < ((script_2n : Nat) : Int))) = false →
  Calls Try.prog 35 #[.pointer d] w4 fun e_ w6 => ∃ (p_2 : Option Addr), e_ = .returned (.pointer p_2) ∧
  Calls Try.prog 21 #[.pointer d] w6 fun e_ w7 => ∃ (q : Option Addr) (qn qc : Nat), e_ = .returned (.slice q qn qc) ∧
  ((Option.isNone p_2) = true →
  R (.returned (.bool false)) w7) ∧
  ((Option.isNone p_2) = false →
  Calls Try.prog 26 #[.pointer d] w7 fun e_ w8 => ∃ (n_3 : Int), ∃ (n_4 : Int), ∃ (n_5 : Int), e_ = .returned (.tuple #[.int .i64 n_3, .int .i64 n_4, .int .i64 n_5]) ∧
  ∃ (I_2 : Int → World → Prop) (M_2 : Int → World → Nat), I_2 0 w8 ∧
  ∀ (i_2 : Int) (w9 : World), I_2 i_2 w9 →
  ((decide ((i_2 : Int) < ((more_2n : Nat) : Int))) = true →
  ptrC more_2 fun a_2 => (0 : Int) ≤ i_2 ∧ i_2 < ((more_2n : Nat) : Int) ∧
  ∃ (n_6 : Int), World.cell? w9 (Addr.add a_2 ((Int.toNat i_2) * 3)) = some (.int .i64 n_6) ∧
  ∃ (s_2 : ByteArray), World.cell? w9 ((Addr.add a_2 ((Int.toNat i_2) * 3)).add 1) = some (.string s_2) ∧
  ∃ (n_7 : Int), World.cell? w9 ((Addr.add a_2 ((Int.toNat i_2) * 3)).add 2) = some (.int .i64 n_7) ∧
  Calls Try.prog 24 #[.pointer p_2, .slice none 0 0, .agg #[.int .i64 n_6, .string s_2, .int .i64 n_7]] w9 fun e_ w10 => e_ = .returned (.tuple #[]) ∧
  (I_2 (IntKind.wrap .i64 (i_2 + 1)) w10 ∧ M_2 (IntKind.wrap .i64 (i_2 + 1)) w10 < M_2 i_2 w9)) ∧
  ((decide ((i_2 : Int) < ((more_2n : Nat) : Int))) = false →
  Calls Try.prog 26 #[.pointer d] w9 fun e_ w11 => ∃ (n_8 : Int), ∃ (n_9 : Int), ∃ (n_10 : Int), e_ = .returned (.tuple #[.int .i64 n_8, .int .i64 n_9, .int .i64 n_10]) ∧
  (((n_3 : Int) != n_8) = false →
  (((n_4 : Int) != n_9) = false →
  (((n_5 : Int) != n_10) = false →
  Calls Try.prog 21 #[.pointer d] w11 fun e_ w12 => ∃ (q_2 : Option Addr) (q_2n q_2c : Nat), e_ = .returned (.slice q_2 q_2n q_2c) ∧
  Calls Try.prog 34 #[.slice q_2 q_2n q_2c, .slice q qn qc] w12 fun e_ w13 => ∃ (b_3 : Bool), e_ = .returned (.bool b_3) ∧
  V10_k2 more_2 more_2n more_2c d p_2 (!b_3) w13 R) ∧
  (((n_5 : Int) != n_10) = !false →
  V10_k2 more_2 more_2n more_2c d p_2 true w11 R)) ∧
  (((n_4 : Int) != n_9) = !false →
  V10_k2 more_2 more_2n more_2c d p_2 true w11 R)) ∧
  (((n_3 : Int) != n_8) = !false →
  V10_k2 more_2 more_2n more_2c d p_2 true w11 R)))))
set_option maxRecDepth 100000 in
def V10 (seed : Int) (script : Option Addr) (scriptn scriptc : Nat) (more : Option Addr) (moren morec : Nat) (w : World) (R : Ending → World → Prop) : Prop :=
  Calls Try.prog 18 #[.int .i64 seed] w fun e_ w1 => ∃ (p : Option Addr), e_ = .returned (.pointer p) ∧
  Calls Try.prog 15 #[] w1 fun e_ w2 => ∃ (b : Bool), e_ = .returned (.bool b) ∧
  ((!b) = false →
  V10_k1 script scriptn scriptc more moren morec p (Option.isNone p) w2 R) ∧
  ((!b) = !false →
  V10_k1 script scriptn scriptc more moren morec p true w2 R)
theorem b10 : Try.f10.body = some (bodyOf Try.f10) := by kernel_rfl
theorem ok10 : okF Try.prog an10 Try.f10 (bodyOf Try.f10) 3 = true := by kernel_rfl
theorem e10 (seed : Int) (script : Option Addr) (scriptn scriptc : Nat) (more : Option Addr) (moren morec : Nat) (w : World) (R : Ending → World → Prop) : vcF Try.prog an10 Try.f10 (bodyOf Try.f10) [.int .i64 seed, .slice script scriptn scriptc, .slice more moren morec] w R = V10 seed script scriptn scriptc more moren morec w R := by kernel_rfl
theorem v10 (seed : Int) (script : Option Addr) (scriptn scriptc : Nat) (more : Option Addr) (moren morec : Nat) (w : World) (R : Ending → World → Prop) (hV : V10 seed script scriptn scriptc more moren morec w R) : Calls Try.prog 10 #[.int .i64 seed, .slice script scriptn scriptc, .slice more moren morec] w R := calls_vc mixed Try.func10 b10 rfl ok10 (e10 seed script scriptn scriptc more moren morec w R) hV

/-- cistern/cisternlaw08.DictPlays -/
def an9 : Ann := { loops := [(6, [(5, .ptr), (7, .int .i64)])], draws := [], tys := [] }
set_option maxRecDepth 100000 in
def V9_k4 (I : Option Addr → Int → World → Prop) (M : Option Addr → Int → World → Nat) (d_2 : Option Addr) (i : Int) (w7 : World) (script_5 : Option Addr) (script_5n script_5c : Nat) (d_5 : Option Addr) (r_4 : Addr) (i_4 : Int) (b_6 : Bool) (w18 : World) (R : Ending → World → Prop) : Prop :=
  (b_6 = true →
  R (.returned (.bool false)) w18) ∧
  (b_6 = false →
  (I d_5 (IntKind.wrap .i64 (i_4 + 1)) w18 ∧ M d_5 (IntKind.wrap .i64 (i_4 + 1)) w18 < M d_2 i w7))
set_option maxRecDepth 100000 in
def V9_k3 (I : Option Addr → Int → World → Prop) (M : Option Addr → Int → World → Nat) (d_2 : Option Addr) (i : Int) (w7 : World) (script_4 : Option Addr) (script_4n script_4c : Nat) (d_4 : Option Addr) (r_3 : Addr) (i_3 : Int) (ok_2 : Bool) (w16 : World) (R : Ending → World → Prop) : Prop :=
  ((!ok_2) = false →
  ∃ (n_22 : Int), World.cell? w16 r_3 = some (.int .i64 n_22) ∧
  ∃ (n_23 : Int), World.cell? w16 (r_3.add 1) = some (.int .i64 n_23) ∧
  ∃ (q_9 : Option Addr) (q_9n q_9c : Nat), World.cell? w16 (r_3.add 2) = some (.slice q_9 q_9n q_9c) ∧
  ∃ (n_24 : Int), World.cell? w16 (r_3.add 3) = some (.int .i64 n_24) ∧
  ∃ (q_10 : Option Addr) (q_10n q_10c : Nat), World.cell? w16 (r_3.add 4) = some (.slice q_10 q_10n q_10c) ∧
  ∃ (n_25 : Int), World.cell? w16 (r_3.add 5) = some (.int .i64 n_25) ∧
  Calls Try.prog 37 #[.pointer d_4, .agg #[.int .i64 n_22, .int .i64 n_23, .slice q_9 q_9n q_9c, .int .i64 n_24, .slice q_10 q_10n q_10c, .int .i64 n_25]] w16 fun e_ w17 => ∃ (b_5 : Bool), e_ = .returned (.bool b_5) ∧
  V9_k4 I M d_2 i w7 script_4 script_4n script_4c d_4 r_3 i_3 (!b_5) w17 R) ∧
  ((!ok_2) = !false →
  V9_k4 I M d_2 i w7 script_4 script_4n script_4c d_4 r_3 i_3 true w16 R)
set_option maxRecDepth 100000 in
def V9_k2 (I : Option Addr → Int → World → Prop) (M : Option Addr → Int → World → Nat) (d_2 : Option Addr) (i : Int) (w7 : World) (script_3 : Option Addr) (script_3n script_3c : Nat) (d_3 : Option Addr) (r_2 : Addr) (i_2 : Int) (ok : Bool) (w15 : World) (R : Ending → World → Prop) : Prop :=
  V9_k3 I M d_2 i w7 script_3 script_3n script_3c d_3 r_2 i_2 ok w15 R
set_option maxRecDepth 100000 in
def V9_k1 (script_2 : Option Addr) (script_2n script_2c : Nat) (d : Option Addr) (r : Addr) (b_2 : Bool) (w6 : World) (R : Ending → World → Prop) : Prop :=
  (b_2 = true →
  R (.returned (.bool false)) w6) ∧
  (b_2 = false →
  ∃ (I : Option Addr → Int → World → Prop) (M : Option Addr → Int → World → Nat), I d 0 w6 ∧
  ∀ (d_2 : Option Addr) (i : Int) (w7 : World), I d_2 i w7 →
  ((decide ((i : Int) < ((script_2n : Nat) : Int))) = true →
  ptrC script_2 fun a => (0 : Int) ≤ i ∧ i < ((script_2n : Nat) : Int) ∧
  ∃ (n_5 : Int), World.cell? w7 (Addr.add a ((Int.toNat i) * 3)) = some (.int .i64 n_5) ∧
  ∃ (s : ByteArray), World.cell? w7 ((Addr.add a ((Int.toNat i) * 3)).add 1) = some (.string s) ∧
  ∃ (n_6 : Int), World.cell? w7 ((Addr.add a ((Int.toNat i) * 3)).add 2) = some (.int .i64 n_6) ∧
  ∀ (g_2 : Nat) (w8 : World), g_2 = (World.heap w7).size → w8 = World.alloc w7 (.cells #[.int .i64 0, .string (ByteArray.mk #[]), .int .i64 0] 33) →
  (∃ v0 : Value, World.cell? w8 ⟨g_2, 0, none⟩ = some v0) ∧ World.frozen? w8 ⟨g_2, 0, none⟩ = false ∧
  (∃ v0 : Value, World.cell? (World.setCell w8 ⟨g_2, 0, none⟩ (.int .i64 n_5)) ⟨g_2, 1, none⟩ = some v0) ∧ World.frozen? (World.setCell w8 ⟨g_2, 0, none⟩ (.int .i64 n_5)) ⟨g_2, 1, none⟩ = false ∧
  (∃ v0 : Value, World.cell? (World.setCell (World.setCell w8 ⟨g_2, 0, none⟩ (.int .i64 n_5)) ⟨g_2, 1, none⟩ (.string s)) ⟨g_2, 2, none⟩ = some v0) ∧ World.frozen? (World.setCell (World.setCell w8 ⟨g_2, 0, none⟩ (.int .i64 n_5)) ⟨g_2, 1, none⟩ (.string s)) ⟨g_2, 2, none⟩ = false ∧
  ∀ w9 : World, w9 = (World.setCell (World.setCell (World.setCell w8 ⟨g_2, 0, none⟩ (.int .i64 n_5)) ⟨g_2, 1, none⟩ (.string s)) ⟨g_2, 2, none⟩ (.int .i64 n_6)) →
  ∃ (n_7 : Int), World.cell? w9 ⟨g_2, 0, none⟩ = some (.int .i64 n_7) ∧
  (((n_7 : Int) == 0) = true →
  ∃ (n_8 : Int), World.cell? w9 r = some (.int .i64 n_8) ∧
  ∃ (n_9 : Int), World.cell? w9 (r.add 1) = some (.int .i64 n_9) ∧
  ∃ (q_3 : Option Addr) (q_3n q_3c : Nat), World.cell? w9 (r.add 2) = some (.slice q_3 q_3n q_3c) ∧
  ∃ (n_10 : Int), World.cell? w9 (r.add 3) = some (.int .i64 n_10) ∧
  ∃ (q_4 : Option Addr) (q_4n q_4c : Nat), World.cell? w9 (r.add 4) = some (.slice q_4 q_4n q_4c) ∧
  ∃ (n_11 : Int), World.cell? w9 (r.add 5) = some (.int .i64 n_11) ∧
  ∃ (s_2 : ByteArray), World.cell? w9 ⟨g_2, 1, none⟩ = some (.string s_2) ∧
  ∃ (n_12 : Int), World.cell? w9 ⟨g_2, 2, none⟩ = some (.int .i64 n_12) ∧
  Calls Try.prog 29 #[.agg #[.int .i64 n_8, .int .i64 n_9, .slice q_3 q_3n q_3c, .int .i64 n_10, .slice q_4 q_4n q_4c, .int .i64 n_11], .string s_2, .int .i64 n_12] w9 fun e_ w10 => ∃ (n_13 : Int), ∃ (n_14 : Int), ∃ (q_5 : Option Addr) (q_5n q_5c : Nat), ∃ (n_15 : Int), ∃ (q_6 : Option Addr) (q_6n q_6c : Nat), ∃ (n_16 : Int), ∃ (b_3 : Bool), e_ = .returned (.tuple #[.agg #[.int .i64 n_13, .int .i64 n_14, .slice q_5 q_5n q_5c, .int .i64 n_15, .slice q_6 q_6n q_6c, .int .i64 n_16], .bool b_3]) ∧
  ∀ (g_3 : Nat) (w11 : World), g_3 = (World.heap w10).size → w11 = World.alloc w10 (.cells #[.int .i64 0, .int .i64 0, .slice none 0 0, .int .i64 0, .slice none 0 0, .int .i64 0] 55) →
  (∃ v0 : Value, World.cell? w11 ⟨g_3, 0, none⟩ = some v0) ∧ World.frozen? w11 ⟨g_3, 0, none⟩ = false ∧
  (∃ v0 : Value, World.cell? (World.setCell w11 ⟨g_3, 0, none⟩ (.int .i64 n_13)) ⟨g_3, 1, none⟩ = some v0) ∧ World.frozen? (World.setCell w11 ⟨g_3, 0, none⟩ (.int .i64 n_13)) ⟨g_3, 1, none⟩ = false ∧
  (∃ v0 : Value, World.cell? (World.setCell (World.setCell w11 ⟨g_3, 0, none⟩ (.int .i64 n_13)) ⟨g_3, 1, none⟩ (.int .i64 n_14)) ⟨g_3, 2, none⟩ = some v0) ∧ World.frozen? (World.setCell (World.setCell w11 ⟨g_3, 0, none⟩ (.int .i64 n_13)) ⟨g_3, 1, none⟩ (.int .i64 n_14)) ⟨g_3, 2, none⟩ = false ∧
  (∃ v0 : Value, World.cell? (World.setCell (World.setCell (World.setCell w11 ⟨g_3, 0, none⟩ (.int .i64 n_13)) ⟨g_3, 1, none⟩ (.int .i64 n_14)) ⟨g_3, 2, none⟩ (.slice q_5 q_5n q_5c)) ⟨g_3, 3, none⟩ = some v0) ∧ World.frozen? (World.setCell (World.setCell (World.setCell w11 ⟨g_3, 0, none⟩ (.int .i64 n_13)) ⟨g_3, 1, none⟩ (.int .i64 n_14)) ⟨g_3, 2, none⟩ (.slice q_5 q_5n q_5c)) ⟨g_3, 3, none⟩ = false ∧
  (∃ v0 : Value, World.cell? (World.setCell (World.setCell (World.setCell (World.setCell w11 ⟨g_3, 0, none⟩ (.int .i64 n_13)) ⟨g_3, 1, none⟩ (.int .i64 n_14)) ⟨g_3, 2, none⟩ (.slice q_5 q_5n q_5c)) ⟨g_3, 3, none⟩ (.int .i64 n_15)) ⟨g_3, 4, none⟩ = some v0) ∧ World.frozen? (World.setCell (World.setCell (World.setCell (World.setCell w11 ⟨g_3, 0, none⟩ (.int .i64 n_13)) ⟨g_3, 1, none⟩ (.int .i64 n_14)) ⟨g_3, 2, none⟩ (.slice q_5 q_5n q_5c)) ⟨g_3, 3, none⟩ (.int .i64 n_15)) ⟨g_3, 4, none⟩ = false ∧
  (∃ v0 : Value, World.cell? (World.setCell (World.setCell (World.setCell (World.setCell (World.setCell w11 ⟨g_3, 0, none⟩ (.int .i64 n_13)) ⟨g_3, 1, none⟩ (.int .i64 n_14)) ⟨g_3, 2, none⟩ (.slice q_5 q_5n q_5c)) ⟨g_3, 3, none⟩ (.int .i64 n_15)) ⟨g_3, 4, none⟩ (.slice q_6 q_6n q_6c)) ⟨g_3, 5, none⟩ = some v0) ∧ World.frozen? (World.setCell (World.setCell (World.setCell (World.setCell (World.setCell w11 ⟨g_3, 0, none⟩ (.int .i64 n_13)) ⟨g_3, 1, none⟩ (.int .i64 n_14)) ⟨g_3, 2, none⟩ (.slice q_5 q_5n q_5c)) ⟨g_3, 3, none⟩ (.int .i64 n_15)) ⟨g_3, 4, none⟩ (.slice q_6 q_6n q_6c)) ⟨g_3, 5, none⟩ = false ∧
  ∀ w12 : World, w12 = (World.setCell (World.setCell (World.setCell (World.setCell (World.setCell (World.setCell w11 ⟨g_3, 0, none⟩ (.int .i64 n_13)) ⟨g_3, 1, none⟩ (.int .i64 n_14)) ⟨g_3, 2, none⟩ (.slice q_5 q_5n q_5c)) ⟨g_3, 3, none⟩ (.int .i64 n_15)) ⟨g_3, 4, none⟩ (.slice q_6 q_6n q_6c)) ⟨g_3, 5, none⟩ (.int .i64 n_16)) →
  ∃ (s_3 : ByteArray), World.cell? w12 ⟨g_2, 1, none⟩ = some (.string s_3) ∧
  ∃ (n_17 : Int), World.cell? w12 ⟨g_2, 2, none⟩ = some (.int .i64 n_17) ∧
  Calls Try.prog 19 #[.pointer d_2, .string s_3, .int .i64 n_17] w12 fun e_ w13 => ∃ (b_4 : Bool), e_ = .returned (.bool b_4) ∧
  ∃ (n_18 : Int), World.cell? w13 ⟨g_3, 0, none⟩ = some (.int .i64 n_18) ∧
  ∃ (n_19 : Int), World.cell? w13 ⟨g_3, 1, none⟩ = some (.int .i64 n_19) ∧
  ∃ (q_7 : Option Addr) (q_7n q_7c : Nat), World.cell? w13 ⟨g_3, 2, none⟩ = some (.slice q_7 q_7n q_7c) ∧
  ∃ (n_20 : Int), World.cell? w13 ⟨g_3, 3, none⟩ = some (.int .i64 n_20) ∧
  ∃ (q_8 : Option Addr) (q_8n q_8c : Nat), World.cell? w13 ⟨g_3, 4, none⟩ = some (.slice q_8 q_8n q_8c) ∧
  ∃ (n_21 : Int), World.cell? w13 ⟨g_3, 5, none⟩ = some (.int .i64 n_21) ∧
  (∃ v0 : Value, World.cell? w13 r = some v0) ∧ World.frozen? w13 r = false ∧
  (∃ v0 : Value, World.cell? (World.setCell w13 r (.int .i64 n_18)) (r.add 1) = some v0) ∧ World.frozen? (World.setCell w13 r (.int .i64 n_18)) (r.add 1) = false ∧
  (∃ v0 : Value, World.cell? (World.setCell (World.setCell w13 r (.int .i64 n_18)) (r.add 1) (.int .i64 n_19)) (r.add 2) = some v0) ∧ World.frozen? (World.setCell (World.setCell w13 r (.int .i64 n_18)) (r.add 1) (.int .i64 n_19)) (r.add 2) = false ∧
  (∃ v0 : Value, World.cell? (World.setCell (World.setCell (World.setCell w13 r (.int .i64 n_18)) (r.add 1) (.int .i64 n_19)) (r.add 2) (.slice q_7 q_7n q_7c)) (r.add 3) = some v0) ∧ World.frozen? (World.setCell (World.setCell (World.setCell w13 r (.int .i64 n_18)) (r.add 1) (.int .i64 n_19)) (r.add 2) (.slice q_7 q_7n q_7c)) (r.add 3) = false ∧
  (∃ v0 : Value, World.cell? (World.setCell (World.setCell (World.setCell (World.setCell w13 r (.int .i64 n_18)) (r.add 1) (.int .i64 n_19)) (r.add 2) (.slice q_7 q_7n q_7c)) (r.add 3) (.int .i64 n_20)) (r.add 4) = some v0) ∧ World.frozen? (World.setCell (World.setCell (World.setCell (World.setCell w13 r (.int .i64 n_18)) (r.add 1) (.int .i64 n_19)) (r.add 2) (.slice q_7 q_7n q_7c)) (r.add 3) (.int .i64 n_20)) (r.add 4) = false ∧
  (∃ v0 : Value, World.cell? (World.setCell (World.setCell (World.setCell (World.setCell (World.setCell w13 r (.int .i64 n_18)) (r.add 1) (.int .i64 n_19)) (r.add 2) (.slice q_7 q_7n q_7c)) (r.add 3) (.int .i64 n_20)) (r.add 4) (.slice q_8 q_8n q_8c)) (r.add 5) = some v0) ∧ World.frozen? (World.setCell (World.setCell (World.setCell (World.setCell (World.setCell w13 r (.int .i64 n_18)) (r.add 1) (.int .i64 n_19)) (r.add 2) (.slice q_7 q_7n q_7c)) (r.add 3) (.int .i64 n_20)) (r.add 4) (.slice q_8 q_8n q_8c)) (r.add 5) = false ∧
  ∀ w14 : World, w14 = (World.setCell (World.setCell (World.setCell (World.setCell (World.setCell (World.setCell w13 r (.int .i64 n_18)) (r.add 1) (.int .i64 n_19)) (r.add 2) (.slice q_7 q_7n q_7c)) (r.add 3) (.int .i64 n_20)) (r.add 4) (.slice q_8 q_8n q_8c)) (r.add 5) (.int .i64 n_21)) →
  V9_k2 I M d_2 i w7 script_2 script_2n script_2c d_2 r i (b_4 == b_3) w14 R) ∧
  (((n_7 : Int) == 0) = false →
  (((n_7 : Int) == 1) = true →
  ∃ (n_26 : Int), World.cell? w9 r = some (.int .i64 n_26) ∧
  ∃ (n_27 : Int), World.cell? w9 (r.add 1) = some (.int .i64 n_27) ∧
  ∃ (q_11 : Option Addr) (q_11n q_11c : Nat), World.cell? w9 (r.add 2) = some (.slice q_11 q_11n q_11c) ∧
  ∃ (n_28 : Int), World.cell? w9 (r.add 3) = some (.int .i64 n_28) ∧
  ∃ (q_12 : Option Addr) (q_12n q_12c : Nat), World.cell? w9 (r.add 4) = some (.slice q_12 q_12n q_12c) ∧
  ∃ (n_29 : Int), World.cell? w9 (r.add 5) = some (.int .i64 n_29) ∧
  ∃ (s_4 : ByteArray), World.cell? w9 ⟨g_2, 1, none⟩ = some (.string s_4) ∧
  Calls Try.prog 30 #[.agg #[.int .i64 n_26, .int .i64 n_27, .slice q_11 q_11n q_11c, .int .i64 n_28, .slice q_12 q_12n q_12c, .int .i64 n_29], .string s_4] w9 fun e_ w19 => ∃ (n_30 : Int), ∃ (n_31 : Int), ∃ (q_13 : Option Addr) (q_13n q_13c : Nat), ∃ (n_32 : Int), ∃ (q_14 : Option Addr) (q_14n q_14c : Nat), ∃ (n_33 : Int), ∃ (b_7 : Bool), e_ = .returned (.tuple #[.agg #[.int .i64 n_30, .int .i64 n_31, .slice q_13 q_13n q_13c, .int .i64 n_32, .slice q_14 q_14n q_14c, .int .i64 n_33], .bool b_7]) ∧
  ∀ (g_4 : Nat) (w20 : World), g_4 = (World.heap w19).size → w20 = World.alloc w19 (.cells #[.int .i64 0, .int .i64 0, .slice none 0 0, .int .i64 0, .slice none 0 0, .int .i64 0] 55) →
  (∃ v0 : Value, World.cell? w20 ⟨g_4, 0, none⟩ = some v0) ∧ World.frozen? w20 ⟨g_4, 0, none⟩ = false ∧
  (∃ v0 : Value, World.cell? (World.setCell w20 ⟨g_4, 0, none⟩ (.int .i64 n_30)) ⟨g_4, 1, none⟩ = some v0) ∧ World.frozen? (World.setCell w20 ⟨g_4, 0, none⟩ (.int .i64 n_30)) ⟨g_4, 1, none⟩ = false ∧
  (∃ v0 : Value, World.cell? (World.setCell (World.setCell w20 ⟨g_4, 0, none⟩ (.int .i64 n_30)) ⟨g_4, 1, none⟩ (.int .i64 n_31)) ⟨g_4, 2, none⟩ = some v0) ∧ World.frozen? (World.setCell (World.setCell w20 ⟨g_4, 0, none⟩ (.int .i64 n_30)) ⟨g_4, 1, none⟩ (.int .i64 n_31)) ⟨g_4, 2, none⟩ = false ∧
  (∃ v0 : Value, World.cell? (World.setCell (World.setCell (World.setCell w20 ⟨g_4, 0, none⟩ (.int .i64 n_30)) ⟨g_4, 1, none⟩ (.int .i64 n_31)) ⟨g_4, 2, none⟩ (.slice q_13 q_13n q_13c)) ⟨g_4, 3, none⟩ = some v0) ∧ World.frozen? (World.setCell (World.setCell (World.setCell w20 ⟨g_4, 0, none⟩ (.int .i64 n_30)) ⟨g_4, 1, none⟩ (.int .i64 n_31)) ⟨g_4, 2, none⟩ (.slice q_13 q_13n q_13c)) ⟨g_4, 3, none⟩ = false ∧
  (∃ v0 : Value, World.cell? (World.setCell (World.setCell (World.setCell (World.setCell w20 ⟨g_4, 0, none⟩ (.int .i64 n_30)) ⟨g_4, 1, none⟩ (.int .i64 n_31)) ⟨g_4, 2, none⟩ (.slice q_13 q_13n q_13c)) ⟨g_4, 3, none⟩ (.int .i64 n_32)) ⟨g_4, 4, none⟩ = some v0) ∧ World.frozen? (World.setCell (World.setCell (World.setCell (World.setCell w20 ⟨g_4, 0, none⟩ (.int .i64 n_30)) ⟨g_4, 1, none⟩ (.int .i64 n_31)) ⟨g_4, 2, none⟩ (.slice q_13 q_13n q_13c)) ⟨g_4, 3, none⟩ (.int .i64 n_32)) ⟨g_4, 4, none⟩ = false ∧
  (∃ v0 : Value, World.cell? (World.setCell (World.setCell (World.setCell (World.setCell (World.setCell w20 ⟨g_4, 0, none⟩ (.int .i64 n_30)) ⟨g_4, 1, none⟩ (.int .i64 n_31)) ⟨g_4, 2, none⟩ (.slice q_13 q_13n q_13c)) ⟨g_4, 3, none⟩ (.int .i64 n_32)) ⟨g_4, 4, none⟩ (.slice q_14 q_14n q_14c)) ⟨g_4, 5, none⟩ = some v0) ∧ World.frozen? (World.setCell (World.setCell (World.setCell (World.setCell (World.setCell w20 ⟨g_4, 0, none⟩ (.int .i64 n_30)) ⟨g_4, 1, none⟩ (.int .i64 n_31)) ⟨g_4, 2, none⟩ (.slice q_13 q_13n q_13c)) ⟨g_4, 3, none⟩ (.int .i64 n_32)) ⟨g_4, 4, none⟩ (.slice q_14 q_14n q_14c)) ⟨g_4, 5, none⟩ = false ∧
  ∀ w21 : World, w21 = (World.setCell (World.setCell (World.setCell (World.setCell (World.setCell (World.setCell w20 ⟨g_4, 0, none⟩ (.int .i64 n_30)) ⟨g_4, 1, none⟩ (.int .i64 n_31)) ⟨g_4, 2, none⟩ (.slice q_13 q_13n q_13c)) ⟨g_4, 3, none⟩ (.int .i64 n_32)) ⟨g_4, 4, none⟩ (.slice q_14 q_14n q_14c)) ⟨g_4, 5, none⟩ (.int .i64 n_33)) →
  ∃ (s_5 : ByteArray), World.cell? w21 ⟨g_2, 1, none⟩ = some (.string s_5) ∧
  Calls Try.prog 20 #[.pointer d_2, .string s_5] w21 fun e_ w22 => ∃ (b_8 : Bool), e_ = .returned (.bool b_8) ∧
  ∃ (n_34 : Int), World.cell? w22 ⟨g_4, 0, none⟩ = some (.int .i64 n_34) ∧
  ∃ (n_35 : Int), World.cell? w22 ⟨g_4, 1, none⟩ = some (.int .i64 n_35) ∧
  ∃ (q_15 : Option Addr) (q_15n q_15c : Nat), World.cell? w22 ⟨g_4, 2, none⟩ = some (.slice q_15 q_15n q_15c) ∧
  ∃ (n_36 : Int), World.cell? w22 ⟨g_4, 3, none⟩ = some (.int .i64 n_36) ∧
  ∃ (q_16 : Option Addr) (q_16n q_16c : Nat), World.cell? w22 ⟨g_4, 4, none⟩ = some (.slice q_16 q_16n q_16c) ∧
  ∃ (n_37 : Int), World.cell? w22 ⟨g_4, 5, none⟩ = some (.int .i64 n_37) ∧
  (∃ v0 : Value, World.cell? w22 r = some v0) ∧ World.frozen? w22 r = false ∧
  (∃ v0 : Value, World.cell? (World.setCell w22 r (.int .i64 n_34)) (r.add 1) = some v0) ∧ World.frozen? (World.setCell w22 r (.int .i64 n_34)) (r.add 1) = false ∧
  (∃ v0 : Value, World.cell? (World.setCell (World.setCell w22 r (.int .i64 n_34)) (r.add 1) (.int .i64 n_35)) (r.add 2) = some v0) ∧ World.frozen? (World.setCell (World.setCell w22 r (.int .i64 n_34)) (r.add 1) (.int .i64 n_35)) (r.add 2) = false ∧
  (∃ v0 : Value, World.cell? (World.setCell (World.setCell (World.setCell w22 r (.int .i64 n_34)) (r.add 1) (.int .i64 n_35)) (r.add 2) (.slice q_15 q_15n q_15c)) (r.add 3) = some v0) ∧ World.frozen? (World.setCell (World.setCell (World.setCell w22 r (.int .i64 n_34)) (r.add 1) (.int .i64 n_35)) (r.add 2) (.slice q_15 q_15n q_15c)) (r.add 3) = false ∧
  (∃ v0 : Value, World.cell? (World.setCell (World.setCell (World.setCell (World.setCell w22 r (.int .i64 n_34)) (r.add 1) (.int .i64 n_35)) (r.add 2) (.slice q_15 q_15n q_15c)) (r.add 3) (.int .i64 n_36)) (r.add 4) = some v0) ∧ World.frozen? (World.setCell (World.setCell (World.setCell (World.setCell w22 r (.int .i64 n_34)) (r.add 1) (.int .i64 n_35)) (r.add 2) (.slice q_15 q_15n q_15c)) (r.add 3) (.int .i64 n_36)) (r.add 4) = false ∧
  (∃ v0 : Value, World.cell? (World.setCell (World.setCell (World.setCell (World.setCell (World.setCell w22 r (.int .i64 n_34)) (r.add 1) (.int .i64 n_35)) (r.add 2) (.slice q_15 q_15n q_15c)) (r.add 3) (.int .i64 n_36)) (r.add 4) (.slice q_16 q_16n q_16c)) (r.add 5) = some v0) ∧ World.frozen? (World.setCell (World.setCell (World.setCell (World.setCell (World.setCell w22 r (.int .i64 n_34)) (r.add 1) (.int .i64 n_35)) (r.add 2) (.slice q_15 q_15n q_15c)) (r.add 3) (.int .i64 n_36)) (r.add 4) (.slice q_16 q_16n q_16c)) (r.add 5) = false ∧
  ∀ w23 : World, w23 = (World.setCell (World.setCell (World.setCell (World.setCell (World.setCell (World.setCell w22 r (.int .i64 n_34)) (r.add 1) (.int .i64 n_35)) (r.add 2) (.slice q_15 q_15n q_15c)) (r.add 3) (.int .i64 n_36)) (r.add 4) (.slice q_16 q_16n q_16c)) (r.add 5) (.int .i64 n_37)) →
  V9_k2 I M d_2 i w7 script_2 script_2n script_2c d_2 r i (b_8 == b_7) w23 R) ∧
  (((n_7 : Int) == 1) = false →
  (((n_7 : Int) == 2) = true →
  ∃ (n_38 : Int), World.cell? w9 ⟨g_2, 2, none⟩ = some (.int .i64 n_38) ∧
  (100 : Int) ≠ 0 ∧
  Calls Try.prog 31 #[.pointer d_2, .int .i64 (Int.tmod n_38 100)] w9 fun e_ w24 => e_ = .returned (.tuple #[]) ∧
  ∃ (n_39 : Int), World.cell? w24 r = some (.int .i64 n_39) ∧
  ∃ (n_40 : Int), World.cell? w24 (r.add 1) = some (.int .i64 n_40) ∧
  ∃ (q_17 : Option Addr) (q_17n q_17c : Nat), World.cell? w24 (r.add 2) = some (.slice q_17 q_17n q_17c) ∧
  ∃ (n_41 : Int), World.cell? w24 (r.add 3) = some (.int .i64 n_41) ∧
  ∃ (q_18 : Option Addr) (q_18n q_18c : Nat), World.cell? w24 (r.add 4) = some (.slice q_18 q_18n q_18c) ∧
  ∃ (n_42 : Int), World.cell? w24 (r.add 5) = some (.int .i64 n_42) ∧
  ∃ (n_43 : Int), World.cell? w24 ⟨g_2, 2, none⟩ = some (.int .i64 n_43) ∧
  (100 : Int) ≠ 0 ∧
  Calls Try.prog 32 #[.agg #[.int .i64 n_39, .int .i64 n_40, .slice q_17 q_17n q_17c, .int .i64 n_41, .slice q_18 q_18n q_18c, .int .i64 n_42], .int .i64 (Int.tmod n_43 100)] w24 fun e_ w25 => ∃ (n_44 : Int), ∃ (n_45 : Int), ∃ (q_19 : Option Addr) (q_19n q_19c : Nat), ∃ (n_46 : Int), ∃ (q_20 : Option Addr) (q_20n q_20c : Nat), ∃ (n_47 : Int), e_ = .returned (.agg #[.int .i64 n_44, .int .i64 n_45, .slice q_19 q_19n q_19c, .int .i64 n_46, .slice q_20 q_20n q_20c, .int .i64 n_47]) ∧
  (∃ v0 : Value, World.cell? w25 r = some v0) ∧ World.frozen? w25 r = false ∧
  (∃ v0 : Value, World.cell? (World.setCell w25 r (.int .i64 n_44)) (r.add 1) = some v0) ∧ World.frozen? (World.setCell w25 r (.int .i64 n_44)) (r.add 1) = false ∧
  (∃ v0 : Value, World.cell? (World.setCell (World.setCell w25 r (.int .i64 n_44)) (r.add 1) (.int .i64 n_45)) (r.add 2) = some v0) ∧ World.frozen? (World.setCell (World.setCell w25 r (.int .i64 n_44)) (r.add 1) (.int .i64 n_45)) (r.add 2) = false ∧
  (∃ v0 : Value, World.cell? (World.setCell (World.setCell (World.setCell w25 r (.int .i64 n_44)) (r.add 1) (.int .i64 n_45)) (r.add 2) (.slice q_19 q_19n q_19c)) (r.add 3) = some v0) ∧ World.frozen? (World.setCell (World.setCell (World.setCell w25 r (.int .i64 n_44)) (r.add 1) (.int .i64 n_45)) (r.add 2) (.slice q_19 q_19n q_19c)) (r.add 3) = false ∧
  (∃ v0 : Value, World.cell? (World.setCell (World.setCell (World.setCell (World.setCell w25 r (.int .i64 n_44)) (r.add 1) (.int .i64 n_45)) (r.add 2) (.slice q_19 q_19n q_19c)) (r.add 3) (.int .i64 n_46)) (r.add 4) = some v0) ∧ World.frozen? (World.setCell (World.setCell (World.setCell (World.setCell w25 r (.int .i64 n_44)) (r.add 1) (.int .i64 n_45)) (r.add 2) (.slice q_19 q_19n q_19c)) (r.add 3) (.int .i64 n_46)) (r.add 4) = false ∧
  (∃ v0 : Value, World.cell? (World.setCell (World.setCell (World.setCell (World.setCell (World.setCell w25 r (.int .i64 n_44)) (r.add 1) (.int .i64 n_45)) (r.add 2) (.slice q_19 q_19n q_19c)) (r.add 3) (.int .i64 n_46)) (r.add 4) (.slice q_20 q_20n q_20c)) (r.add 5) = some v0) ∧ World.frozen? (World.setCell (World.setCell (World.setCell (World.setCell (World.setCell w25 r (.int .i64 n_44)) (r.add 1) (.int .i64 n_45)) (r.add 2) (.slice q_19 q_19n q_19c)) (r.add 3) (.int .i64 n_46)) (r.add 4) (.slice q_20 q_20n q_20c)) (r.add 5) = false ∧
  ∀ w26 : World, w26 = (World.setCell (World.setCell (World.setCell (World.setCell (World.setCell (World.setCell w25 r (.int .i64 n_44)) (r.add 1) (.int .i64 n_45)) (r.add 2) (.slice q_19 q_19n q_19c)) (r.add 3) (.int .i64 n_46)) (r.add 4) (.slice q_20 q_20n q_20c)) (r.add 5) (.int .i64 n_47)) →
  V9_k2 I M d_2 i w7 script_2 script_2n script_2c d_2 r i true w26 R) ∧
  (((n_7 : Int) == 2) = false →
  (((n_7 : Int) == 3) = true →
  ∃ (n_48 : Int), World.cell? w9 ⟨g_2, 2, none⟩ = some (.int .i64 n_48) ∧
  (7 : Int) ≠ 0 ∧
  Calls Try.prog 25 #[.pointer d_2, .int .i64 n_48, .int .i64 (Int.tmod i 7)] w9 fun e_ w27 => ∃ (q_21 : Option Addr) (q_21n q_21c : Nat), ∃ (n_49 : Int), e_ = .returned (.tuple #[.slice q_21 q_21n q_21c, .int .i64 n_49]) ∧
  ∃ (n_50 : Int), World.cell? w27 r = some (.int .i64 n_50) ∧
  ∃ (n_51 : Int), World.cell? w27 (r.add 1) = some (.int .i64 n_51) ∧
  ∃ (q_22 : Option Addr) (q_22n q_22c : Nat), World.cell? w27 (r.add 2) = some (.slice q_22 q_22n q_22c) ∧
  ∃ (n_52 : Int), World.cell? w27 (r.add 3) = some (.int .i64 n_52) ∧
  ∃ (q_23 : Option Addr) (q_23n q_23c : Nat), World.cell? w27 (r.add 4) = some (.slice q_23 q_23n q_23c) ∧
  ∃ (n_53 : Int), World.cell? w27 (r.add 5) = some (.int .i64 n_53) ∧
  ∃ (n_54 : Int), World.cell? w27 ⟨g_2, 2, none⟩ = some (.int .i64 n_54) ∧
  (7 : Int) ≠ 0 ∧
  Calls Try.prog 33 #[.agg #[.int .i64 n_50, .int .i64 n_51, .slice q_22 q_22n q_22c, .int .i64 n_52, .slice q_23 q_23n q_23c, .int .i64 n_53], .int .i64 n_54, .int .i64 (Int.tmod i 7)] w27 fun e_ w28 => ∃ (q_24 : Option Addr) (q_24n q_24c : Nat), ∃ (n_55 : Int), e_ = .returned (.tuple #[.slice q_24 q_24n q_24c, .int .i64 n_55]) ∧
  Calls Try.prog 34 #[.slice q_21 q_21n q_21c, .slice q_24 q_24n q_24c] w28 fun e_ w29 => ∃ (b_9 : Bool), e_ = .returned (.bool b_9) ∧
  (b_9 = true →
  V9_k2 I M d_2 i w7 script_2 script_2n script_2c d_2 r i ((n_49 : Int) == n_55) w29 R) ∧
  (b_9 = !true →
  V9_k2 I M d_2 i w7 script_2 script_2n script_2c d_2 r i false w29 R)) ∧
  (((n_7 : Int) == 3) = false →
  (((n_7 : Int) == 4) = true →
  Calls Try.prog 35 #[.pointer d_2] w9 fun e_ w30 => ∃ (p_2 : Option Addr), e_ = .returned (.pointer p_2) ∧
  V9_k2 I M d_2 i w7 script_2 script_2n script_2c p_2 r i (!(Option.isNone p_2)) w30 R) ∧
  (((n_7 : Int) == 4) = false →
  ∃ (s_6 : ByteArray), World.cell? w9 ⟨g_2, 1, none⟩ = some (.string s_6) ∧
  Calls Try.prog 23 #[.pointer d_2, .string s_6] w9 fun e_ w31 => ∃ (n_56 : Int), ∃ (b_10 : Bool), e_ = .returned (.tuple #[.int .i64 n_56, .bool b_10]) ∧
  ∃ (n_57 : Int), World.cell? w31 r = some (.int .i64 n_57) ∧
  ∃ (n_58 : Int), World.cell? w31 (r.add 1) = some (.int .i64 n_58) ∧
  ∃ (q_25 : Option Addr) (q_25n q_25c : Nat), World.cell? w31 (r.add 2) = some (.slice q_25 q_25n q_25c) ∧
  ∃ (n_59 : Int), World.cell? w31 (r.add 3) = some (.int .i64 n_59) ∧
  ∃ (q_26 : Option Addr) (q_26n q_26c : Nat), World.cell? w31 (r.add 4) = some (.slice q_26 q_26n q_26c) ∧
  ∃ (n_60 : Int), World.cell? w31 (r.add 5) = some (.int .i64 n_60) ∧
  ∃ (s_7 : ByteArray), World.cell? w31 ⟨g_2, 1, none⟩ = some (.string s_7) ∧
  Calls Try.prog 36 #[.agg #[.int .i64 n_57, .int .i64 n_58, .slice q_25 q_25n q_25c, .int .i64 n_59, .slice q_26 q_26n q_26c, .int .i64 n_60], .string s_7] w31 fun e_ w32 => ∃ (n_61 : Int), ∃ (b_11 : Bool), e_ = .returned (.tuple #[.int .i64 n_61, .bool b_11]) ∧
  (((n_56 : Int) == n_61) = true →
  V9_k2 I M d_2 i w7 script_2 script_2n script_2c d_2 r i (b_10 == b_11) w32 R) ∧
  (((n_56 : Int) == n_61) = !true →
  V9_k2 I M d_2 i w7 script_2 script_2n script_2c d_2 r i false w32 R))))))) ∧
  ((decide ((i : Int) < ((script_2n : Nat) : Int))) = false →
  R (.returned (.bool true)) w7))
set_option maxRecDepth 100000 in
def V9 (seed : Int) (script : Option Addr) (scriptn scriptc : Nat) (w : World) (R : Ending → World → Prop) : Prop :=
  Calls Try.prog 18 #[.int .i64 seed] w fun e_ w1 => ∃ (p : Option Addr), e_ = .returned (.pointer p) ∧
  Calls Try.prog 28 #[.int .i64 seed] w1 fun e_ w2 => ∃ (n : Int), ∃ (n_2 : Int), ∃ (q : Option Addr) (qn qc : Nat), ∃ (n_3 : Int), ∃ (q_2 : Option Addr) (q_2n q_2c : Nat), ∃ (n_4 : Int), e_ = .returned (.agg #[.int .i64 n, .int .i64 n_2, .slice q qn qc, .int .i64 n_3, .slice q_2 q_2n q_2c, .int .i64 n_4]) ∧
  ∀ (g : Nat) (w3 : World), g = (World.heap w2).size → w3 = World.alloc w2 (.cells #[.int .i64 0, .int .i64 0, .slice none 0 0, .int .i64 0, .slice none 0 0, .int .i64 0] 55) →
  (∃ v0 : Value, World.cell? w3 ⟨g, 0, none⟩ = some v0) ∧ World.frozen? w3 ⟨g, 0, none⟩ = false ∧
  (∃ v0 : Value, World.cell? (World.setCell w3 ⟨g, 0, none⟩ (.int .i64 n)) ⟨g, 1, none⟩ = some v0) ∧ World.frozen? (World.setCell w3 ⟨g, 0, none⟩ (.int .i64 n)) ⟨g, 1, none⟩ = false ∧
  (∃ v0 : Value, World.cell? (World.setCell (World.setCell w3 ⟨g, 0, none⟩ (.int .i64 n)) ⟨g, 1, none⟩ (.int .i64 n_2)) ⟨g, 2, none⟩ = some v0) ∧ World.frozen? (World.setCell (World.setCell w3 ⟨g, 0, none⟩ (.int .i64 n)) ⟨g, 1, none⟩ (.int .i64 n_2)) ⟨g, 2, none⟩ = false ∧
  (∃ v0 : Value, World.cell? (World.setCell (World.setCell (World.setCell w3 ⟨g, 0, none⟩ (.int .i64 n)) ⟨g, 1, none⟩ (.int .i64 n_2)) ⟨g, 2, none⟩ (.slice q qn qc)) ⟨g, 3, none⟩ = some v0) ∧ World.frozen? (World.setCell (World.setCell (World.setCell w3 ⟨g, 0, none⟩ (.int .i64 n)) ⟨g, 1, none⟩ (.int .i64 n_2)) ⟨g, 2, none⟩ (.slice q qn qc)) ⟨g, 3, none⟩ = false ∧
  (∃ v0 : Value, World.cell? (World.setCell (World.setCell (World.setCell (World.setCell w3 ⟨g, 0, none⟩ (.int .i64 n)) ⟨g, 1, none⟩ (.int .i64 n_2)) ⟨g, 2, none⟩ (.slice q qn qc)) ⟨g, 3, none⟩ (.int .i64 n_3)) ⟨g, 4, none⟩ = some v0) ∧ World.frozen? (World.setCell (World.setCell (World.setCell (World.setCell w3 ⟨g, 0, none⟩ (.int .i64 n)) ⟨g, 1, none⟩ (.int .i64 n_2)) ⟨g, 2, none⟩ (.slice q qn qc)) ⟨g, 3, none⟩ (.int .i64 n_3)) ⟨g, 4, none⟩ = false ∧
  (∃ v0 : Value, World.cell? (World.setCell (World.setCell (World.setCell (World.setCell (World.setCell w3 ⟨g, 0, none⟩ (.int .i64 n)) ⟨g, 1, none⟩ (.int .i64 n_2)) ⟨g, 2, none⟩ (.slice q qn qc)) ⟨g, 3, none⟩ (.int .i64 n_3)) ⟨g, 4, none⟩ (.slice q_2 q_2n q_2c)) ⟨g, 5, none⟩ = some v0) ∧ World.frozen? (World.setCell (World.setCell (World.setCell (World.setCell (World.setCell w3 ⟨g, 0, none⟩ (.int .i64 n)) ⟨g, 1, none⟩ (.int .i64 n_2)) ⟨g, 2, none⟩ (.slice q qn qc)) ⟨g, 3, none⟩ (.int .i64 n_3)) ⟨g, 4, none⟩ (.slice q_2 q_2n q_2c)) ⟨g, 5, none⟩ = false ∧
  ∀ w4 : World, w4 = (World.setCell (World.setCell (World.setCell (World.setCell (World.setCell (World.setCell w3 ⟨g, 0, none⟩ (.int .i64 n)) ⟨g, 1, none⟩ (.int .i64 n_2)) ⟨g, 2, none⟩ (.slice q qn qc)) ⟨g, 3, none⟩ (.int .i64 n_3)) ⟨g, 4, none⟩ (.slice q_2 q_2n q_2c)) ⟨g, 5, none⟩ (.int .i64 n_4)) →
  Calls Try.prog 15 #[] w4 fun e_ w5 => ∃ (b : Bool), e_ = .returned (.bool b) ∧
  ((!b) = false →
  V9_k1 script scriptn scriptc p ⟨g, 0, none⟩ (Option.isNone p) w5 R) ∧
  ((!b) = !false →
  V9_k1 script scriptn scriptc p ⟨g, 0, none⟩ true w5 R)
theorem b9 : Try.f9.body = some (bodyOf Try.f9) := by kernel_rfl
theorem ok9 : okF Try.prog an9 Try.f9 (bodyOf Try.f9) 2 = true := by kernel_rfl
theorem e9 (seed : Int) (script : Option Addr) (scriptn scriptc : Nat) (w : World) (R : Ending → World → Prop) : vcF Try.prog an9 Try.f9 (bodyOf Try.f9) [.int .i64 seed, .slice script scriptn scriptc] w R = V9 seed script scriptn scriptc w R := by kernel_rfl
theorem v9 (seed : Int) (script : Option Addr) (scriptn scriptc : Nat) (w : World) (R : Ending → World → Prop) (hV : V9 seed script scriptn scriptc w R) : Calls Try.prog 9 #[.int .i64 seed, .slice script scriptn scriptc] w R := calls_vc mixed Try.func9 b9 rfl ok9 (e9 seed script scriptn scriptc w R) hV

/-- cistern/cisternlaw08.as -/
def an37 : Ann := { loops := [], draws := [(3, false, Tr.seq [0, 1, 2, 3, 4, 5, 6, 7, 8, 9, 10, 11, 12, 13, 14, 15, 16, 17, 18, 19, 20, 21, 23, 22, 24, 25, 26, 27] .nil, [17, 22, 24], [17, 22, 24], [])], tys := [] }
set_option maxRecDepth 100000 in
def V37 (d : Addr) (r : Int) (r_2 : Int) (r_3 : Option Addr) (r_3n r_3c : Nat) (r_4 : Int) (r_5 : Option Addr) (r_5n r_5c : Nat) (r_6 : Int) (w : World) (R : Ending → World → Prop) : Prop :=
  ∀ (g : Nat) (w1 : World), g = (World.heap w).size → w1 = World.alloc w (.cells #[.int .i64 r, .int .i64 r_2, .slice r_3 r_3n r_3c, .int .i64 r_4, .slice r_5 r_5n r_5c, .int .i64 r_6] 55) →
  Calls Try.prog 26 #[.pointer (some d)] w1 fun e_ w2 => ∃ (n : Int), ∃ (n_2 : Int), ∃ (n_3 : Int), e_ = .returned (.tuple #[.int .i64 n, .int .i64 n_2, .int .i64 n_3]) ∧
  ∃ (n_4 : Int), World.cell? w2 ⟨g, 0, none⟩ = some (.int .i64 n_4) ∧
  ∃ (n_5 : Int), World.cell? w2 ⟨g, 1, none⟩ = some (.int .i64 n_5) ∧
  ∃ (q : Option Addr) (qn qc : Nat), World.cell? w2 ⟨g, 2, none⟩ = some (.slice q qn qc) ∧
  ∃ (n_6 : Int), World.cell? w2 ⟨g, 3, none⟩ = some (.int .i64 n_6) ∧
  ∃ (q_2 : Option Addr) (q_2n q_2c : Nat), World.cell? w2 ⟨g, 4, none⟩ = some (.slice q_2 q_2n q_2c) ∧
  ∃ (n_7 : Int), World.cell? w2 ⟨g, 5, none⟩ = some (.int .i64 n_7) ∧
  Calls Try.prog 75 #[.agg #[.int .i64 n_4, .int .i64 n_5, .slice q qn qc, .int .i64 n_6, .slice q_2 q_2n q_2c, .int .i64 n_7]] w2 fun e_ w3 => ∃ (n_8 : Int), ∃ (n_9 : Int), ∃ (n_10 : Int), e_ = .returned (.tuple #[.int .i64 n_8, .int .i64 n_9, .int .i64 n_10]) ∧
  ∀ w4 : World, Drawn w3 w4 →
  (((n : Int) == n_8) = true →
  (((n_2 : Int) == n_9) = true →
  (((n_3 : Int) == n_10) = true →
  ∃ (n_11 : Int), (∀ w0 : World, Ext w4 w0 → Calls Try.prog 22 #[.pointer (some d)] w0 fun e_ w00 => e_ = .returned (.int .i64 n_11) ∧ Drawn w0 w00) ∧
  ∃ (n_12 : Int), World.cell? w4 ⟨g, 0, none⟩ = some (.int .i64 n_12) ∧
  ∃ (n_13 : Int), World.cell? w4 ⟨g, 1, none⟩ = some (.int .i64 n_13) ∧
  ∃ (q_3 : Option Addr) (q_3n q_3c : Nat), World.cell? w4 ⟨g, 2, none⟩ = some (.slice q_3 q_3n q_3c) ∧
  ∃ (n_14 : Int), World.cell? w4 ⟨g, 3, none⟩ = some (.int .i64 n_14) ∧
  ∃ (q_4 : Option Addr) (q_4n q_4c : Nat), World.cell? w4 ⟨g, 4, none⟩ = some (.slice q_4 q_4n q_4c) ∧
  ∃ (n_15 : Int), World.cell? w4 ⟨g, 5, none⟩ = some (.int .i64 n_15) ∧
  ∀ w5 : World, Drawn w4 w5 →
  Calls Try.prog 76 #[.agg #[.int .i64 n_12, .int .i64 n_13, .slice q_3 q_3n q_3c, .int .i64 n_14, .slice q_4 q_4n q_4c, .int .i64 n_15]] w5 fun e_ w6 => ∃ (n_16 : Int), e_ = .returned (.int .i64 n_16) ∧
  Ext w5 w6 ∧
  (((n_11 : Int) == n_16) = true →
  ∃ (n_17 : Int), World.cell? w6 ⟨g, 0, none⟩ = some (.int .i64 n_17) ∧
  ∃ (n_18 : Int), World.cell? w6 ⟨g, 1, none⟩ = some (.int .i64 n_18) ∧
  ∃ (q_5 : Option Addr) (q_5n q_5c : Nat), World.cell? w6 ⟨g, 2, none⟩ = some (.slice q_5 q_5n q_5c) ∧
  ∃ (n_19 : Int), World.cell? w6 ⟨g, 3, none⟩ = some (.int .i64 n_19) ∧
  ∃ (q_6 : Option Addr) (q_6n q_6c : Nat), World.cell? w6 ⟨g, 4, none⟩ = some (.slice q_6 q_6n q_6c) ∧
  ∃ (n_20 : Int), World.cell? w6 ⟨g, 5, none⟩ = some (.int .i64 n_20) ∧
  ∀ w7 : World, Drawn w6 w7 →
  Calls Try.prog 21 #[.pointer (some d)] w7 fun e_ w8 => ∃ (q_7 : Option Addr) (q_7n q_7c : Nat), e_ = .returned (.slice q_7 q_7n q_7c) ∧
  Ext w7 w8 ∧
  ∀ w9 : World, Drawn w8 w9 →
  Calls Try.prog 77 #[.agg #[.int .i64 n_17, .int .i64 n_18, .slice q_5 q_5n q_5c, .int .i64 n_19, .slice q_6 q_6n q_6c, .int .i64 n_20]] w9 fun e_ w10 => ∃ (q_8 : Option Addr) (q_8n q_8c : Nat), e_ = .returned (.slice q_8 q_8n q_8c) ∧
  Ext w9 w10 ∧
  ∃ (b : Bool), (∀ w0 : World, Ext w10 w0 → Calls Try.prog 34 #[.slice q_7 q_7n q_7c, .slice q_8 q_8n q_8c] w0 fun e_ w00 => e_ = .returned (.bool b) ∧ Drawn w0 w00) ∧
  ∀ w11 : World, Drawn w10 w11 →
  R (.returned (.bool b)) w11) ∧
  (((n_11 : Int) == n_16) = !true →
  ∀ w12 : World, Drawn w6 w12 →
  R (.returned (.bool false)) w12)) ∧
  (((n_3 : Int) == n_10) = !true →
  ∀ w13 : World, Drawn w4 w13 →
  R (.returned (.bool false)) w13)) ∧
  (((n_2 : Int) == n_9) = !true →
  ∀ w14 : World, Drawn w4 w14 →
  R (.returned (.bool false)) w14)) ∧
  (((n : Int) == n_8) = !true →
  ∀ w15 : World, Drawn w4 w15 →
  R (.returned (.bool false)) w15)
theorem b37 : Try.f37.body = some (bodyOf Try.f37) := by kernel_rfl
theorem ok37 : okF Try.prog an37 Try.f37 (bodyOf Try.f37) 2 = true := by kernel_rfl
theorem e37 (d : Addr) (r : Int) (r_2 : Int) (r_3 : Option Addr) (r_3n r_3c : Nat) (r_4 : Int) (r_5 : Option Addr) (r_5n r_5c : Nat) (r_6 : Int) (w : World) (R : Ending → World → Prop) : vcF Try.prog an37 Try.f37 (bodyOf Try.f37) [.pointer (some d), .agg #[.int .i64 r, .int .i64 r_2, .slice r_3 r_3n r_3c, .int .i64 r_4, .slice r_5 r_5n r_5c, .int .i64 r_6]] w R = V37 d r r_2 r_3 r_3n r_3c r_4 r_5 r_5n r_5c r_6 w R := by kernel_rfl
theorem v37 (d : Addr) (r : Int) (r_2 : Int) (r_3 : Option Addr) (r_3n r_3c : Nat) (r_4 : Int) (r_5 : Option Addr) (r_5n r_5c : Nat) (r_6 : Int) (w : World) (R : Ending → World → Prop) (hV : V37 d r r_2 r_3 r_3n r_3c r_4 r_5 r_5n r_5c r_6 w R) : Calls Try.prog 37 #[.pointer (some d), .agg #[.int .i64 r, .int .i64 r_2, .slice r_3 r_3n r_3c, .int .i64 r_4, .slice r_5 r_5n r_5c, .int .i64 r_6]] w R := calls_vc mixed Try.func37 b37 rfl ok37 (e37 d r r_2 r_3 r_3n r_3c r_4 r_5 r_5n r_5c r_6 w R) hV

end Go.Proofs.Ytcljmlgbmjjldaa.F
