/- The verification conditions of Go functions, printed by wip/gen/gen.py; the kernel checks that each is the one reckoned from the code. -/
import Derived.Test.YtcljmlgbmjjldaaProg
import Derived.Test.YtcljmlgbmjjldaaVC
import Derived.Test.YtcljmlgbmjjldaaF0
set_option linter.unusedVariables false
namespace Go.Proofs.Ytcljmlgbmjjldaa.F
open Go Go.VC Go.Proofs
/-- (*cistern/dict.table).clone -/
def an73 : Ann := { loops := [(3, [(22, .int .i64)])], draws := [(1, false, Tr.seq [0, 1, 2, 4, 5, 6, 3, 7, 8] (.alt 9 (Tr.seq [10, 11, 12] .nil) (.one 11 (Tr.seq [9, 10, 12] .nil))), [9, 11, 12], [9, 11], []), (5, false, Tr.seq [0, 2, 3, 1, 4, 5, 6] .nil, [4, 6], [4], [])], tys := [] }
set_option maxRecDepth 100000 in
def V73_k1 (t_2 : Addr) (a : Addr) (c : Addr) (w10 : World) (R : Ending → World → Prop) : Prop :=
  ∃ (q_2 : Option Addr) (q_2n q_2c : Nat), World.cell? w10 t_2 = some (.slice q_2 q_2n q_2c) ∧
  ∃ (I : Int → World → Prop) (M : Int → World → Nat), I 0 w10 ∧
  ∀ (n_2 : Int) (w11 : World), I n_2 w11 →
  ((decide ((n_2 : Int) < ((q_2n : Nat) : Int))) = true →
  ptrC q_2 fun a_2 => (0 : Int) ≤ n_2 ∧ n_2 < ((q_2n : Nat) : Int) ∧
  ∃ (q_3 : Option Addr) (q_3n q_3c : Nat), World.cell? w11 (Addr.add a_2 ((Int.toNat n_2) * 1)) = some (.slice q_3 q_3n q_3c) ∧
  ∀ w12 : World, Drawn w11 w12 →
  ∃ (q_4 : Option Addr) (q_4n q_4c : Nat), World.cell? w12 c = some (.slice q_4 q_4n q_4c) ∧
  ∀ w13 : World, Drawn w12 w13 →
  Calls Try.prog 121 #[.slice q_3 q_3n q_3c] w13 fun e_ w14 => ∃ (q_5 : Option Addr) (q_5n q_5c : Nat), e_ = .returned (.slice q_5 q_5n q_5c) ∧
  Ext w13 w14 ∧
  ptrC q_4 fun a_3 => (0 : Int) ≤ n_2 ∧ n_2 < ((q_4n : Nat) : Int) ∧
  ∀ w15 : World, Drawn w14 w15 →
  (∃ v0 : Value, World.cell? w15 (Addr.add a_3 ((Int.toNat n_2) * 1)) = some v0) ∧ World.frozen? w15 (Addr.add a_3 ((Int.toNat n_2) * 1)) = false ∧
  ∀ w16 : World, w16 = (World.setCell w15 (Addr.add a_3 ((Int.toNat n_2) * 1)) (.slice q_5 q_5n q_5c)) →
  ∀ w17 : World, Drawn w16 w17 →
  (I (IntKind.wrap .i64 (n_2 + 1)) w17 ∧ M (IntKind.wrap .i64 (n_2 + 1)) w17 < M n_2 w11)) ∧
  ((decide ((n_2 : Int) < ((q_2n : Nat) : Int))) = false →
  ∃ (q_6 : Option Addr) (q_6n q_6c : Nat), World.cell? w11 c = some (.slice q_6 q_6n q_6c) ∧
  ∃ (n_3 : Int), World.cell? w11 (c.add 1) = some (.int .i64 n_3) ∧
  (∃ v0 : Value, World.cell? w11 a = some v0) ∧ World.frozen? w11 a = false ∧
  (∃ v0 : Value, World.cell? (World.setCell w11 a (.slice q_6 q_6n q_6c)) (a.add 1) = some v0) ∧ World.frozen? (World.setCell w11 a (.slice q_6 q_6n q_6c)) (a.add 1) = false ∧
  ∀ w18 : World, w18 = (World.setCell (World.setCell w11 a (.slice q_6 q_6n q_6c)) (a.add 1) (.int .i64 n_3)) →
  ∃ (q_7 : Option Addr) (q_7n q_7c : Nat), World.cell? w18 a = some (.slice q_7 q_7n q_7c) ∧
  ∃ (n_4 : Int), World.cell? w18 (a.add 1) = some (.int .i64 n_4) ∧
  R (.returned (.agg #[.slice q_7 q_7n q_7c, .int .i64 n_4])) w18)
set_option maxRecDepth 100000 in
def V73 (t : Addr) (w : World) (R : Ending → World → Prop) : Prop :=
  ∀ (g : Nat) (w1 : World), g = (World.heap w).size → w1 = World.alloc w (.cells #[.slice none 0 0, .int .i64 0] 103) →
  ∀ w2 : World, Drawn w1 w2 →
  ∃ (n : Int), World.cell? w2 (t.add 1) = some (.int .i64 n) ∧
  ∃ (q : Option Addr) (qn qc : Nat), World.cell? w2 t = some (.slice q qn qc) ∧
  (∀ w3 : World, Drawn w2 w3 →
  (0 : Int) ≤ ((qn : Nat) : Int) ∧ (((qn : Nat) : Int) : Int) ≤ ((qn : Nat) : Int) ∧ (((qn : Nat) : Int) : Int) < 9223372036854775808 ∧ ((24 : Nat) : Int) * ((qn : Nat) : Int) ≤ 281474976710656 ∧
  ∀ (g_2 : Nat) (w4 : World), g_2 = (World.heap w3).size → w4 = World.alloc w3 (.cells (zeroRow #[.slice none 0 0] ((Int.toNat ((qn : Nat) : Int)) * 1)) 30) →
  Ext w3 w4 ∧
  ∀ w5 : World, Drawn w4 w5 →
  ∀ (g_3 : Nat) (w6 : World), g_3 = (World.heap w5).size → w6 = World.alloc w5 (.cells #[.slice none 0 0, .int .i64 0] 103) →
  Ext w5 w6 ∧
  ∀ w7 : World, Drawn w6 w7 →
  (∃ v0 : Value, World.cell? w7 ⟨g_3, 0, none⟩ = some v0) ∧ World.frozen? w7 ⟨g_3, 0, none⟩ = false ∧
  (∃ v0 : Value, World.cell? (World.setCell w7 ⟨g_3, 0, none⟩ (.slice (some ⟨g_2, 0, none⟩) (Int.toNat ((qn : Nat) : Int)) (Int.toNat ((qn : Nat) : Int)))) ⟨g_3, 1, none⟩ = some v0) ∧ World.frozen? (World.setCell w7 ⟨g_3, 0, none⟩ (.slice (some ⟨g_2, 0, none⟩) (Int.toNat ((qn : Nat) : Int)) (Int.toNat ((qn : Nat) : Int)))) ⟨g_3, 1, none⟩ = false ∧
  ∀ w8 : World, w8 = (World.setCell (World.setCell w7 ⟨g_3, 0, none⟩ (.slice (some ⟨g_2, 0, none⟩) (Int.toNat ((qn : Nat) : Int)) (Int.toNat ((qn : Nat) : Int)))) ⟨g_3, 1, none⟩ (.int .i64 n)) →
  ∀ w9 : World, Drawn w8 w9 →
  V73_k1 t ⟨g, 0, none⟩ ⟨g_3, 0, none⟩ w9 R) ∧
  (∀ w19 : World, Drawn w2 w19 →
  ∀ (g_4 : Nat) (w20 : World), g_4 = (World.heap w19).size → w20 = World.alloc w19 (.cells #[.slice none 0 0, .int .i64 0] 103) →
  Ext w19 w20 ∧
  ∀ w21 : World, Drawn w20 w21 →
  (0 : Int) ≤ ((qn : Nat) : Int) ∧ (((qn : Nat) : Int) : Int) ≤ ((qn : Nat) : Int) ∧ (((qn : Nat) : Int) : Int) < 9223372036854775808 ∧ ((24 : Nat) : Int) * ((qn : Nat) : Int) ≤ 281474976710656 ∧
  ∀ (g_5 : Nat) (w22 : World), g_5 = (World.heap w21).size → w22 = World.alloc w21 (.cells (zeroRow #[.slice none 0 0] ((Int.toNat ((qn : Nat) : Int)) * 1)) 30) →
  Ext w21 w22 ∧
  ∀ w23 : World, Drawn w22 w23 →
  (∃ v0 : Value, World.cell? w23 ⟨g_4, 0, none⟩ = some v0) ∧ World.frozen? w23 ⟨g_4, 0, none⟩ = false ∧
  (∃ v0 : Value, World.cell? (World.setCell w23 ⟨g_4, 0, none⟩ (.slice (some ⟨g_5, 0, none⟩) (Int.toNat ((qn : Nat) : Int)) (Int.toNat ((qn : Nat) : Int)))) ⟨g_4, 1, none⟩ = some v0) ∧ World.frozen? (World.setCell w23 ⟨g_4, 0, none⟩ (.slice (some ⟨g_5, 0, none⟩) (Int.toNat ((qn : Nat) : Int)) (Int.toNat ((qn : Nat) : Int)))) ⟨g_4, 1, none⟩ = false ∧
  ∀ w24 : World, w24 = (World.setCell (World.setCell w23 ⟨g_4, 0, none⟩ (.slice (some ⟨g_5, 0, none⟩) (Int.toNat ((qn : Nat) : Int)) (Int.toNat ((qn : Nat) : Int)))) ⟨g_4, 1, none⟩ (.int .i64 n)) →
  ∀ w25 : World, Drawn w24 w25 →
  V73_k1 t ⟨g, 0, none⟩ ⟨g_4, 0, none⟩ w25 R)
theorem b73 : Try.f73.body = some (bodyOf Try.f73) := by kernel_rfl
theorem ok73 : okF Try.prog an73 Try.f73 (bodyOf Try.f73) 1 = true := by kernel_rfl
theorem e73 (t : Addr) (w : World) (R : Ending → World → Prop) : vcF Try.prog an73 Try.f73 (bodyOf Try.f73) [.pointer (some t)] w R = V73 t w R := by kernel_rfl
theorem v73 (t : Addr) (w : World) (R : Ending → World → Prop) (hV : V73 t w R) : Calls Try.prog 73 #[.pointer (some t)] w R := calls_vc mixed Try.func73 b73 rfl ok73 (e73 t w R) hV

/-- cistern/cisternlaw08.DictApart -/
def an10 : Ann := { loops := [(5, [(8, .int .i64)]), (14, [(14, .int .i64)]), (21, [(18, .int .i64)]), (29, [(23, .int .i64)]), (36, [(28, .int .i64)]), (40, [(29, .int .i64)])], draws := [], tys := [] }
set_option maxRecDepth 100000 in
def V10_k3 (d_3 : Option Addr) (c_2 : Option Addr) (a_4 : Option Addr) (a_4n a_4c : Nat) (b_6 : Option Addr) (b_6n b_6c : Nat) (s_4 : Option Addr) (s_4n s_4c : Nat) (b_7 : Bool) (w23 : World) (R : Ending → World → Prop) : Prop :=
  (b_7 = true →
  R (.returned (.bool false)) w23) ∧
  (b_7 = false →
  ∃ (I_4 : Int → World → Prop) (M_4 : Int → World → Nat), I_4 0 w23 ∧
  ∀ (i_4 : Int) (w24 : World), I_4 i_4 w24 →
  ((decide ((i_4 : Int) < ((a_4n : Nat) : Int))) = true →
  ptrC a_4 fun a_5 => (0 : Int) ≤ i_4 ∧ i_4 < ((a_4n : Nat) : Int) ∧
  ∃ (s_5 : ByteArray), World.cell? w24 (Addr.add a_5 ((Int.toNat i_4) * 1)) = some (.string s_5) ∧
  Calls Try.prog 23 #[.pointer d_3, .string s_5] w24 fun e_ w25 => ∃ (n_16 : Int), ∃ (b_8 : Bool), e_ = .returned (.tuple #[.int .i64 n_16, .bool b_8]) ∧
  ptrC a_4 fun a_6 => (0 : Int) ≤ i_4 ∧ i_4 < ((a_4n : Nat) : Int) ∧
  ∃ (s_6 : ByteArray), World.cell? w25 (Addr.add a_6 ((Int.toNat i_4) * 1)) = some (.string s_6) ∧
  Calls Try.prog 23 #[.pointer c_2, .string s_6] w25 fun e_ w26 => ∃ (n_17 : Int), ∃ (b_9 : Bool), e_ = .returned (.tuple #[.int .i64 n_17, .bool b_9]) ∧
  (((n_16 : Int) != n_17) = true →
  R (.returned (.bool false)) w26) ∧
  (((n_16 : Int) != n_17) = false →
  (I_4 (IntKind.wrap .i64 (i_4 + 1)) w26 ∧ M_4 (IntKind.wrap .i64 (i_4 + 1)) w26 < M_4 i_4 w24))) ∧
  ((decide ((i_4 : Int) < ((a_4n : Nat) : Int))) = false →
  ∃ (I_5 : Int → World → Prop) (M_5 : Int → World → Nat), I_5 0 w24 ∧
  ∀ (i_5 : Int) (w27 : World), I_5 i_5 w27 →
  ((decide ((i_5 : Int) < ((a_4n : Nat) : Int))) = true →
  ptrC a_4 fun a_7 => (0 : Int) ≤ i_5 ∧ i_5 < ((a_4n : Nat) : Int) ∧
  (∃ v0 : Value, World.cell? w27 (Addr.add a_7 ((Int.toNat i_5) * 1)) = some v0) ∧ World.frozen? w27 (Addr.add a_7 ((Int.toNat i_5) * 1)) = false ∧
  ∀ w28 : World, w28 = (World.setCell w27 (Addr.add a_7 ((Int.toNat i_5) * 1)) (.string (ByteArray.mk #[49]))) →
  (I_5 (IntKind.wrap .i64 (i_5 + 1)) w28 ∧ M_5 (IntKind.wrap .i64 (i_5 + 1)) w28 < M_5 i_5 w27)) ∧
  ((decide ((i_5 : Int) < ((a_4n : Nat) : Int))) = false →
  ∃ (I_6 : Int → World → Prop) (M_6 : Int → World → Nat), I_6 0 w27 ∧
  ∀ (i_6 : Int) (w29 : World), I_6 i_6 w29 →
  ((decide ((i_6 : Int) < ((s_4n : Nat) : Int))) = true →
  ptrC s_4 fun a_8 => (0 : Int) ≤ i_6 ∧ i_6 < ((s_4n : Nat) : Int) ∧
  (∃ v0 : Value, World.cell? w29 (Addr.add a_8 ((Int.toNat i_6) * 1)) = some v0) ∧ World.frozen? w29 (Addr.add a_8 ((Int.toNat i_6) * 1)) = false ∧
  ∀ w30 : World, w30 = (World.setCell w29 (Addr.add a_8 ((Int.toNat i_6) * 1)) (.string (ByteArray.mk #[50]))) →
  (I_6 (IntKind.wrap .i64 (i_6 + 1)) w30 ∧ M_6 (IntKind.wrap .i64 (i_6 + 1)) w30 < M_6 i_6 w29)) ∧
  ((decide ((i_6 : Int) < ((s_4n : Nat) : Int))) = false →
  ∀ (g : Nat) (w31 : World), g = (World.heap w29).size → w31 = World.alloc w29 (.cells #[.string (ByteArray.mk #[51]), .string (ByteArray.mk #[51]), .string (ByteArray.mk #[51])] 9) →
  ∃ (q_6 : Option Addr) (q_6n q_6c : Nat), ∃ w32 : World, Sem.run Try.prog (builtin .append #[30, 30] 30 #[false, false] #[.slice a_4 a_4n a_4c, .slice (some ⟨g, 0, none⟩) 3 3]) w31 = .ok (.value (.slice q_6 q_6n q_6c)) w32 ∧
  ∀ (g_2 : Nat) (w33 : World), g_2 = (World.heap w32).size → w33 = World.alloc w32 (.cells #[.string (ByteArray.mk #[52]), .string (ByteArray.mk #[52]), .string (ByteArray.mk #[52])] 9) →
  ∃ (q_7 : Option Addr) (q_7n q_7c : Nat), ∃ w34 : World, Sem.run Try.prog (builtin .append #[30, 30] 30 #[false, false] #[.slice s_4 s_4n s_4c, .slice (some ⟨g_2, 0, none⟩) 3 3]) w33 = .ok (.value (.slice q_7 q_7n q_7c)) w34 ∧
  Calls Try.prog 21 #[.pointer d_3] w34 fun e_ w35 => ∃ (q_8 : Option Addr) (q_8n q_8c : Nat), e_ = .returned (.slice q_8 q_8n q_8c) ∧
  Calls Try.prog 34 #[.slice q_8 q_8n q_8c, .slice b_6 b_6n b_6c] w35 fun e_ w36 => ∃ (b_10 : Bool), e_ = .returned (.bool b_10) ∧
  (b_10 = true →
  ptrC q_6 fun a_9 => (0 : Int) ≤ (IntKind.wrap .i64 (((q_6n : Nat) : Int) - 1)) ∧ (IntKind.wrap .i64 (((q_6n : Nat) : Int) - 1)) < ((q_6n : Nat) : Int) ∧
  ∃ (s_7 : ByteArray), World.cell? w36 (Addr.add a_9 ((Int.toNat (IntKind.wrap .i64 (((q_6n : Nat) : Int) - 1))) * 1)) = some (.string s_7) ∧
  ((strEq s_7 (ByteArray.mk #[51])) = true →
  ptrC q_7 fun a_10 => (0 : Int) ≤ (IntKind.wrap .i64 (((q_7n : Nat) : Int) - 1)) ∧ (IntKind.wrap .i64 (((q_7n : Nat) : Int) - 1)) < ((q_7n : Nat) : Int) ∧
  ∃ (s_8 : ByteArray), World.cell? w36 (Addr.add a_10 ((Int.toNat (IntKind.wrap .i64 (((q_7n : Nat) : Int) - 1))) * 1)) = some (.string s_8) ∧
  R (.returned (.bool (strEq s_8 (ByteArray.mk #[52])))) w36) ∧
  ((strEq s_7 (ByteArray.mk #[51])) = !true →
  R (.returned (.bool false)) w36)) ∧
  (b_10 = !true →
  R (.returned (.bool false)) w36)))))
set_option maxRecDepth 100000 in
def V10_k4 (d_4 : Option Addr) (c_3 : Option Addr) (a_11 : Option Addr) (a_11n a_11c : Nat) (b_11 : Option Addr) (b_11n b_11c : Nat) (s_9 : Option Addr) (s_9n s_9c : Nat) (w37 : World) (R : Ending → World → Prop) : Prop :=
  (true = true →
  R (.returned (.bool false)) w37) ∧
  (true = false →
  ∃ (I_7 : Int → World → Prop) (M_7 : Int → World → Nat), I_7 0 w37 ∧
  ∀ (i_7 : Int) (w38 : World), I_7 i_7 w38 →
  ((decide ((i_7 : Int) < ((a_11n : Nat) : Int))) = true →
  ptrC a_11 fun a_12 => (0 : Int) ≤ i_7 ∧ i_7 < ((a_11n : Nat) : Int) ∧
  ∃ (s_10 : ByteArray), World.cell? w38 (Addr.add a_12 ((Int.toNat i_7) * 1)) = some (.string s_10) ∧
  Calls Try.prog 23 #[.pointer d_4, .string s_10] w38 fun e_ w39 => ∃ (n_18 : Int), ∃ (b_12 : Bool), e_ = .returned (.tuple #[.int .i64 n_18, .bool b_12]) ∧
  ptrC a_11 fun a_13 => (0 : Int) ≤ i_7 ∧ i_7 < ((a_11n : Nat) : Int) ∧
  ∃ (s_11 : ByteArray), World.cell? w39 (Addr.add a_13 ((Int.toNat i_7) * 1)) = some (.string s_11) ∧
  Calls Try.prog 23 #[.pointer c_3, .string s_11] w39 fun e_ w40 => ∃ (n_19 : Int), ∃ (b_13 : Bool), e_ = .returned (.tuple #[.int .i64 n_19, .bool b_13]) ∧
  (((n_18 : Int) != n_19) = true →
  R (.returned (.bool false)) w40) ∧
  (((n_18 : Int) != n_19) = false →
  (I_7 (IntKind.wrap .i64 (i_7 + 1)) w40 ∧ M_7 (IntKind.wrap .i64 (i_7 + 1)) w40 < M_7 i_7 w38))) ∧
  ((decide ((i_7 : Int) < ((a_11n : Nat) : Int))) = false →
  ∃ (I_8 : Int → World → Prop) (M_8 : Int → World → Nat), I_8 0 w38 ∧
  ∀ (i_8 : Int) (w41 : World), I_8 i_8 w41 →
  ((decide ((i_8 : Int) < ((a_11n : Nat) : Int))) = true →
  ptrC a_11 fun a_14 => (0 : Int) ≤ i_8 ∧ i_8 < ((a_11n : Nat) : Int) ∧
  (∃ v0 : Value, World.cell? w41 (Addr.add a_14 ((Int.toNat i_8) * 1)) = some v0) ∧ World.frozen? w41 (Addr.add a_14 ((Int.toNat i_8) * 1)) = false ∧
  ∀ w42 : World, w42 = (World.setCell w41 (Addr.add a_14 ((Int.toNat i_8) * 1)) (.string (ByteArray.mk #[49]))) →
  (I_8 (IntKind.wrap .i64 (i_8 + 1)) w42 ∧ M_8 (IntKind.wrap .i64 (i_8 + 1)) w42 < M_8 i_8 w41)) ∧
  ((decide ((i_8 : Int) < ((a_11n : Nat) : Int))) = false →
  ∃ (I_9 : Int → World → Prop) (M_9 : Int → World → Nat), I_9 0 w41 ∧
  ∀ (i_9 : Int) (w43 : World), I_9 i_9 w43 →
  ((decide ((i_9 : Int) < ((s_9n : Nat) : Int))) = true →
  ptrC s_9 fun a_15 => (0 : Int) ≤ i_9 ∧ i_9 < ((s_9n : Nat) : Int) ∧
  (∃ v0 : Value, World.cell? w43 (Addr.add a_15 ((Int.toNat i_9) * 1)) = some v0) ∧ World.frozen? w43 (Addr.add a_15 ((Int.toNat i_9) * 1)) = false ∧
  ∀ w44 : World, w44 = (World.setCell w43 (Addr.add a_15 ((Int.toNat i_9) * 1)) (.string (ByteArray.mk #[50]))) →
  (I_9 (IntKind.wrap .i64 (i_9 + 1)) w44 ∧ M_9 (IntKind.wrap .i64 (i_9 + 1)) w44 < M_9 i_9 w43)) ∧
  ((decide ((i_9 : Int) < ((s_9n : Nat) : Int))) = false →
  ∀ (g_3 : Nat) (w45 : World), g_3 = (World.heap w43).size → w45 = World.alloc w43 (.cells #[.string (ByteArray.mk #[51]), .string (ByteArray.mk #[51]), .string (ByteArray.mk #[51])] 9) →
  ∃ (q_9 : Option Addr) (q_9n q_9c : Nat), ∃ w46 : World, Sem.run Try.prog (builtin .append #[30, 30] 30 #[false, false] #[.slice a_11 a_11n a_11c, .slice (some ⟨g_3, 0, none⟩) 3 3]) w45 = .ok (.value (.slice q_9 q_9n q_9c)) w46 ∧
  ∀ (g_4 : Nat) (w47 : World), g_4 = (World.heap w46).size → w47 = World.alloc w46 (.cells #[.string (ByteArray.mk #[52]), .string (ByteArray.mk #[52]), .string (ByteArray.mk #[52])] 9) →
  ∃ (q_10 : Option Addr) (q_10n q_10c : Nat), ∃ w48 : World, Sem.run Try.prog (builtin .append #[30, 30] 30 #[false, false] #[.slice s_9 s_9n s_9c, .slice (some ⟨g_4, 0, none⟩) 3 3]) w47 = .ok (.value (.slice q_10 q_10n q_10c)) w48 ∧
  Calls Try.prog 21 #[.pointer d_4] w48 fun e_ w49 => ∃ (q_11 : Option Addr) (q_11n q_11c : Nat), e_ = .returned (.slice q_11 q_11n q_11c) ∧
  Calls Try.prog 34 #[.slice q_11 q_11n q_11c, .slice b_11 b_11n b_11c] w49 fun e_ w50 => ∃ (b_14 : Bool), e_ = .returned (.bool b_14) ∧
  (b_14 = true →
  ptrC q_9 fun a_16 => (0 : Int) ≤ (IntKind.wrap .i64 (((q_9n : Nat) : Int) - 1)) ∧ (IntKind.wrap .i64 (((q_9n : Nat) : Int) - 1)) < ((q_9n : Nat) : Int) ∧
  ∃ (s_12 : ByteArray), World.cell? w50 (Addr.add a_16 ((Int.toNat (IntKind.wrap .i64 (((q_9n : Nat) : Int) - 1))) * 1)) = some (.string s_12) ∧
  ((strEq s_12 (ByteArray.mk #[51])) = true →
  ptrC q_10 fun a_17 => (0 : Int) ≤ (IntKind.wrap .i64 (((q_10n : Nat) : Int) - 1)) ∧ (IntKind.wrap .i64 (((q_10n : Nat) : Int) - 1)) < ((q_10n : Nat) : Int) ∧
  ∃ (s_13 : ByteArray), World.cell? w50 (Addr.add a_17 ((Int.toNat (IntKind.wrap .i64 (((q_10n : Nat) : Int) - 1))) * 1)) = some (.string s_13) ∧
  R (.returned (.bool (strEq s_13 (ByteArray.mk #[52])))) w50) ∧
  ((strEq s_12 (ByteArray.mk #[51])) = !true →
  R (.returned (.bool false)) w50)) ∧
  (b_14 = !true →
  R (.returned (.bool false)) w50)))))
set_option maxRecDepth 100000 in
def V10_k2 (more_3 : Option Addr) (more_3n more_3c : Nat) (d_2 : Option Addr) (c : Option Addr) (b_4 : Bool) (w14 : World) (R : Ending → World → Prop) : Prop :=
  (b_4 = true →
  R (.returned (.bool false)) w14) ∧
  (b_4 = false →
  ∃ (I_3 : Int → World → Prop) (M_3 : Int → World → Nat), I_3 0 w14 ∧
  ∀ (i_3 : Int) (w15 : World), I_3 i_3 w15 →
  ((decide ((i_3 : Int) < ((more_3n : Nat) : Int))) = true →
  ptrC more_3 fun a_3 => (0 : Int) ≤ i_3 ∧ i_3 < ((more_3n : Nat) : Int) ∧
  ∃ (n_11 : Int), World.cell? w15 (Addr.add a_3 ((Int.toNat i_3) * 3)) = some (.int .i64 n_11) ∧
  ∃ (s_3 : ByteArray), World.cell? w15 ((Addr.add a_3 ((Int.toNat i_3) * 3)).add 1) = some (.string s_3) ∧
  ∃ (n_12 : Int), World.cell? w15 ((Addr.add a_3 ((Int.toNat i_3) * 3)).add 2) = some (.int .i64 n_12) ∧
  Calls Try.prog 24 #[.pointer d_2, .slice none 0 0, .agg #[.int .i64 n_11, .string s_3, .int .i64 n_12]] w15 fun e_ w16 => e_ = .returned (.tuple #[]) ∧
  (I_3 (IntKind.wrap .i64 (i_3 + 1)) w16 ∧ M_3 (IntKind.wrap .i64 (i_3 + 1)) w16 < M_3 i_3 w15)) ∧
  ((decide ((i_3 : Int) < ((more_3n : Nat) : Int))) = false →
  Calls Try.prog 21 #[.pointer d_2] w15 fun e_ w17 => ∃ (q_3 : Option Addr) (q_3n q_3c : Nat), e_ = .returned (.slice q_3 q_3n q_3c) ∧
  Calls Try.prog 21 #[.pointer c] w17 fun e_ w18 => ∃ (q_4 : Option Addr) (q_4n q_4c : Nat), e_ = .returned (.slice q_4 q_4n q_4c) ∧
  Calls Try.prog 25 #[.pointer d_2, .int .i64 0, .int .i64 1000000] w18 fun e_ w19 => ∃ (q_5 : Option Addr) (q_5n q_5c : Nat), ∃ (n_13 : Int), e_ = .returned (.tuple #[.slice q_5 q_5n q_5c, .int .i64 n_13]) ∧
  Calls Try.prog 34 #[.slice q_3 q_3n q_3c, .slice q_4 q_4n q_4c] w19 fun e_ w20 => ∃ (b_5 : Bool), e_ = .returned (.bool b_5) ∧
  ((!b_5) = false →
  Calls Try.prog 22 #[.pointer d_2] w20 fun e_ w21 => ∃ (n_14 : Int), e_ = .returned (.int .i64 n_14) ∧
  Calls Try.prog 22 #[.pointer c] w21 fun e_ w22 => ∃ (n_15 : Int), e_ = .returned (.int .i64 n_15) ∧
  V10_k3 d_2 c q_3 q_3n q_3c q_4 q_4n q_4c q_5 q_5n q_5c ((n_14 : Int) != n_15) w22 R) ∧
  ((!b_5) = !false →
  V10_k4 d_2 c q_3 q_3n q_3c q_4 q_4n q_4c q_5 q_5n q_5c w20 R)))
set_option maxRecDepth 100000 in
def V10_k6 (d_6 : Option Addr) (c_5 : Option Addr) (a_19 : Option Addr) (a_19n a_19c : Nat) (b_16 : Option Addr) (b_16n b_16c : Nat) (s_15 : Option Addr) (s_15n s_15c : Nat) (b_17 : Bool) (w60 : World) (R : Ending → World → Prop) : Prop :=
  (b_17 = true →
  R (.returned (.bool false)) w60) ∧
  (b_17 = false →
  ∃ (I_11 : Int → World → Prop) (M_11 : Int → World → Nat), I_11 0 w60 ∧
  ∀ (i_11 : Int) (w61 : World), I_11 i_11 w61 →
  ((decide ((i_11 : Int) < ((a_19n : Nat) : Int))) = true →
  ptrC a_19 fun a_20 => (0 : Int) ≤ i_11 ∧ i_11 < ((a_19n : Nat) : Int) ∧
  ∃ (s_16 : ByteArray), World.cell? w61 (Addr.add a_20 ((Int.toNat i_11) * 1)) = some (.string s_16) ∧
  Calls Try.prog 23 #[.pointer d_6, .string s_16] w61 fun e_ w62 => ∃ (n_25 : Int), ∃ (b_18 : Bool), e_ = .returned (.tuple #[.int .i64 n_25, .bool b_18]) ∧
  ptrC a_19 fun a_21 => (0 : Int) ≤ i_11 ∧ i_11 < ((a_19n : Nat) : Int) ∧
  ∃ (s_17 : ByteArray), World.cell? w62 (Addr.add a_21 ((Int.toNat i_11) * 1)) = some (.string s_17) ∧
  Calls Try.prog 23 #[.pointer c_5, .string s_17] w62 fun e_ w63 => ∃ (n_26 : Int), ∃ (b_19 : Bool), e_ = .returned (.tuple #[.int .i64 n_26, .bool b_19]) ∧
  (((n_25 : Int) != n_26) = true →
  R (.returned (.bool false)) w63) ∧
  (((n_25 : Int) != n_26) = false →
  (I_11 (IntKind.wrap .i64 (i_11 + 1)) w63 ∧ M_11 (IntKind.wrap .i64 (i_11 + 1)) w63 < M_11 i_11 w61))) ∧
  ((decide ((i_11 : Int) < ((a_19n : Nat) : Int))) = false →
  ∃ (I_12 : Int → World → Prop) (M_12 : Int → World → Nat), I_12 0 w61 ∧
  ∀ (i_12 : Int) (w64 : World), I_12 i_12 w64 →
  ((decide ((i_12 : Int) < ((a_19n : Nat) : Int))) = true →
  ptrC a_19 fun a_22 => (0 : Int) ≤ i_12 ∧ i_12 < ((a_19n : Nat) : Int) ∧
  (∃ v0 : Value, World.cell? w64 (Addr.add a_22 ((Int.toNat i_12) * 1)) = some v0) ∧ World.frozen? w64 (Addr.add a_22 ((Int.toNat i_12) * 1)) = false ∧
  ∀ w65 : World, w65 = (World.setCell w64 (Addr.add a_22 ((Int.toNat i_12) * 1)) (.string (ByteArray.mk #[49]))) →
  (I_12 (IntKind.wrap .i64 (i_12 + 1)) w65 ∧ M_12 (IntKind.wrap .i64 (i_12 + 1)) w65 < M_12 i_12 w64)) ∧
  ((decide ((i_12 : Int) < ((a_19n : Nat) : Int))) = false →
  ∃ (I_13 : Int → World → Prop) (M_13 : Int → World → Nat), I_13 0 w64 ∧
  ∀ (i_13 : Int) (w66 : World), I_13 i_13 w66 →
  ((decide ((i_13 : Int) < ((s_15n : Nat) : Int))) = true →
  ptrC s_15 fun a_23 => (0 : Int) ≤ i_13 ∧ i_13 < ((s_15n : Nat) : Int) ∧
  (∃ v0 : Value, World.cell? w66 (Addr.add a_23 ((Int.toNat i_13) * 1)) = some v0) ∧ World.frozen? w66 (Addr.add a_23 ((Int.toNat i_13) * 1)) = false ∧
  ∀ w67 : World, w67 = (World.setCell w66 (Addr.add a_23 ((Int.toNat i_13) * 1)) (.string (ByteArray.mk #[50]))) →
  (I_13 (IntKind.wrap .i64 (i_13 + 1)) w67 ∧ M_13 (IntKind.wrap .i64 (i_13 + 1)) w67 < M_13 i_13 w66)) ∧
  ((decide ((i_13 : Int) < ((s_15n : Nat) : Int))) = false →
  ∀ (g_5 : Nat) (w68 : World), g_5 = (World.heap w66).size → w68 = World.alloc w66 (.cells #[.string (ByteArray.mk #[51]), .string (ByteArray.mk #[51]), .string (ByteArray.mk #[51])] 9) →
  ∃ (q_15 : Option Addr) (q_15n q_15c : Nat), ∃ w69 : World, Sem.run Try.prog (builtin .append #[30, 30] 30 #[false, false] #[.slice a_19 a_19n a_19c, .slice (some ⟨g_5, 0, none⟩) 3 3]) w68 = .ok (.value (.slice q_15 q_15n q_15c)) w69 ∧
  ∀ (g_6 : Nat) (w70 : World), g_6 = (World.heap w69).size → w70 = World.alloc w69 (.cells #[.string (ByteArray.mk #[52]), .string (ByteArray.mk #[52]), .string (ByteArray.mk #[52])] 9) →
  ∃ (q_16 : Option Addr) (q_16n q_16c : Nat), ∃ w71 : World, Sem.run Try.prog (builtin .append #[30, 30] 30 #[false, false] #[.slice s_15 s_15n s_15c, .slice (some ⟨g_6, 0, none⟩) 3 3]) w70 = .ok (.value (.slice q_16 q_16n q_16c)) w71 ∧
  Calls Try.prog 21 #[.pointer d_6] w71 fun e_ w72 => ∃ (q_17 : Option Addr) (q_17n q_17c : Nat), e_ = .returned (.slice q_17 q_17n q_17c) ∧
  Calls Try.prog 34 #[.slice q_17 q_17n q_17c, .slice b_16 b_16n b_16c] w72 fun e_ w73 => ∃ (b_20 : Bool), e_ = .returned (.bool b_20) ∧
  (b_20 = true →
  ptrC q_15 fun a_24 => (0 : Int) ≤ (IntKind.wrap .i64 (((q_15n : Nat) : Int) - 1)) ∧ (IntKind.wrap .i64 (((q_15n : Nat) : Int) - 1)) < ((q_15n : Nat) : Int) ∧
  ∃ (s_18 : ByteArray), World.cell? w73 (Addr.add a_24 ((Int.toNat (IntKind.wrap .i64 (((q_15n : Nat) : Int) - 1))) * 1)) = some (.string s_18) ∧
  ((strEq s_18 (ByteArray.mk #[51])) = true →
  ptrC q_16 fun a_25 => (0 : Int) ≤ (IntKind.wrap .i64 (((q_16n : Nat) : Int) - 1)) ∧ (IntKind.wrap .i64 (((q_16n : Nat) : Int) - 1)) < ((q_16n : Nat) : Int) ∧
  ∃ (s_19 : ByteArray), World.cell? w73 (Addr.add a_25 ((Int.toNat (IntKind.wrap .i64 (((q_16n : Nat) : Int) - 1))) * 1)) = some (.string s_19) ∧
  R (.returned (.bool (strEq s_19 (ByteArray.mk #[52])))) w73) ∧
  ((strEq s_18 (ByteArray.mk #[51])) = !true →
  R (.returned (.bool false)) w73)) ∧
  (b_20 = !true →
  R (.returned (.bool false)) w73)))))
set_option maxRecDepth 100000 in
def V10_k7 (d_7 : Option Addr) (c_6 : Option Addr) (a_26 : Option Addr) (a_26n a_26c : Nat) (b_21 : Option Addr) (b_21n b_21c : Nat) (s_20 : Option Addr) (s_20n s_20c : Nat) (w74 : World) (R : Ending → World → Prop) : Prop :=
  (true = true →
  R (.returned (.bool false)) w74) ∧
  (true = false →
  ∃ (I_14 : Int → World → Prop) (M_14 : Int → World → Nat), I_14 0 w74 ∧
  ∀ (i_14 : Int) (w75 : World), I_14 i_14 w75 →
  ((decide ((i_14 : Int) < ((a_26n : Nat) : Int))) = true →
  ptrC a_26 fun a_27 => (0 : Int) ≤ i_14 ∧ i_14 < ((a_26n : Nat) : Int) ∧
  ∃ (s_21 : ByteArray), World.cell? w75 (Addr.add a_27 ((Int.toNat i_14) * 1)) = some (.string s_21) ∧
  Calls Try.prog 23 #[.pointer d_7, .string s_21] w75 fun e_ w76 => ∃ (n_27 : Int), ∃ (b_22 : Bool), e_ = .returned (.tuple #[.int .i64 n_27, .bool b_22]) ∧
  ptrC a_26 fun a_28 => (0 : Int) ≤ i_14 ∧ i_14 < ((a_26n : Nat) : Int) ∧
  ∃ (s_22 : ByteArray), World.cell? w76 (Addr.add a_28 ((Int.toNat i_14) * 1)) = some (.string s_22) ∧
  Calls Try.prog 23 #[.pointer c_6, .string s_22] w76 fun e_ w77 => ∃ (n_28 : Int), ∃ (b_23 : Bool), e_ = .returned (.tuple #[.int .i64 n_28, .bool b_23]) ∧
  (((n_27 : Int) != n_28) = true →
  R (.returned (.bool false)) w77) ∧
  (((n_27 : Int) != n_28) = false →
  (I_14 (IntKind.wrap .i64 (i_14 + 1)) w77 ∧ M_14 (IntKind.wrap .i64 (i_14 + 1)) w77 < M_14 i_14 w75))) ∧
  ((decide ((i_14 : Int) < ((a_26n : Nat) : Int))) = false →
  ∃ (I_15 : Int → World → Prop) (M_15 : Int → World → Nat), I_15 0 w75 ∧
  ∀ (i_15 : Int) (w78 : World), I_15 i_15 w78 →
  ((decide ((i_15 : Int) < ((a_26n : Nat) : Int))) = true →
  ptrC a_26 fun a_29 => (0 : Int) ≤ i_15 ∧ i_15 < ((a_26n : Nat) : Int) ∧
  (∃ v0 : Value, World.cell? w78 (Addr.add a_29 ((Int.toNat i_15) * 1)) = some v0) ∧ World.frozen? w78 (Addr.add a_29 ((Int.toNat i_15) * 1)) = false ∧
  ∀ w79 : World, w79 = (World.setCell w78 (Addr.add a_29 ((Int.toNat i_15) * 1)) (.string (ByteArray.mk #[49]))) →
  (I_15 (IntKind.wrap .i64 (i_15 + 1)) w79 ∧ M_15 (IntKind.wrap .i64 (i_15 + 1)) w79 < M_15 i_15 w78)) ∧
  ((decide ((i_15 : Int) < ((a_26n : Nat) : Int))) = false →
  ∃ (I_16 : Int → World → Prop) (M_16 : Int → World → Nat), I_16 0 w78 ∧
  ∀ (i_16 : Int) (w80 : World), I_16 i_16 w80 →
  ((decide ((i_16 : Int) < ((s_20n : Nat) : Int))) = true →
  ptrC s_20 fun a_30 => (0 : Int) ≤ i_16 ∧ i_16 < ((s_20n : Nat) : Int) ∧
  (∃ v0 : Value, World.cell? w80 (Addr.add a_30 ((Int.toNat i_16) * 1)) = some v0) ∧ World.frozen? w80 (Addr.add a_30 ((Int.toNat i_16) * 1)) = false ∧
  ∀ w81 : World, w81 = (World.setCell w80 (Addr.add a_30 ((Int.toNat i_16) * 1)) (.string (ByteArray.mk #[50]))) →
  (I_16 (IntKind.wrap .i64 (i_16 + 1)) w81 ∧ M_16 (IntKind.wrap .i64 (i_16 + 1)) w81 < M_16 i_16 w80)) ∧
  ((decide ((i_16 : Int) < ((s_20n : Nat) : Int))) = false →
  ∀ (g_7 : Nat) (w82 : World), g_7 = (World.heap w80).size → w82 = World.alloc w80 (.cells #[.string (ByteArray.mk #[51]), .string (ByteArray.mk #[51]), .string (ByteArray.mk #[51])] 9) →
  ∃ (q_18 : Option Addr) (q_18n q_18c : Nat), ∃ w83 : World, Sem.run Try.prog (builtin .append #[30, 30] 30 #[false, false] #[.slice a_26 a_26n a_26c, .slice (some ⟨g_7, 0, none⟩) 3 3]) w82 = .ok (.value (.slice q_18 q_18n q_18c)) w83 ∧
  ∀ (g_8 : Nat) (w84 : World), g_8 = (World.heap w83).size → w84 = World.alloc w83 (.cells #[.string (ByteArray.mk #[52]), .string (ByteArray.mk #[52]), .string (ByteArray.mk #[52])] 9) →
  ∃ (q_19 : Option Addr) (q_19n q_19c : Nat), ∃ w85 : World, Sem.run Try.prog (builtin .append #[30, 30] 30 #[false, false] #[.slice s_20 s_20n s_20c, .slice (some ⟨g_8, 0, none⟩) 3 3]) w84 = .ok (.value (.slice q_19 q_19n q_19c)) w85 ∧
  Calls Try.prog 21 #[.pointer d_7] w85 fun e_ w86 => ∃ (q_20 : Option Addr) (q_20n q_20c : Nat), e_ = .returned (.slice q_20 q_20n q_20c) ∧
  Calls Try.prog 34 #[.slice q_20 q_20n q_20c, .slice b_21 b_21n b_21c] w86 fun e_ w87 => ∃ (b_24 : Bool), e_ = .returned (.bool b_24) ∧
  (b_24 = true →
  ptrC q_18 fun a_31 => (0 : Int) ≤ (IntKind.wrap .i64 (((q_18n : Nat) : Int) - 1)) ∧ (IntKind.wrap .i64 (((q_18n : Nat) : Int) - 1)) < ((q_18n : Nat) : Int) ∧
  ∃ (s_23 : ByteArray), World.cell? w87 (Addr.add a_31 ((Int.toNat (IntKind.wrap .i64 (((q_18n : Nat) : Int) - 1))) * 1)) = some (.string s_23) ∧
  ((strEq s_23 (ByteArray.mk #[51])) = true →
  ptrC q_19 fun a_32 => (0 : Int) ≤ (IntKind.wrap .i64 (((q_19n : Nat) : Int) - 1)) ∧ (IntKind.wrap .i64 (((q_19n : Nat) : Int) - 1)) < ((q_19n : Nat) : Int) ∧
  ∃ (s_24 : ByteArray), World.cell? w87 (Addr.add a_32 ((Int.toNat (IntKind.wrap .i64 (((q_19n : Nat) : Int) - 1))) * 1)) = some (.string s_24) ∧
  R (.returned (.bool (strEq s_24 (ByteArray.mk #[52])))) w87) ∧
  ((strEq s_23 (ByteArray.mk #[51])) = !true →
  R (.returned (.bool false)) w87)) ∧
  (b_24 = !true →
  R (.returned (.bool false)) w87)))))
set_option maxRecDepth 100000 in
def V10_k5 (more_4 : Option Addr) (more_4n more_4c : Nat) (d_5 : Option Addr) (c_4 : Option Addr) (w51 : World) (R : Ending → World → Prop) : Prop :=
  (true = true →
  R (.returned (.bool false)) w51) ∧
  (true = false →
  ∃ (I_10 : Int → World → Prop) (M_10 : Int → World → Nat), I_10 0 w51 ∧
  ∀ (i_10 : Int) (w52 : World), I_10 i_10 w52 →
  ((decide ((i_10 : Int) < ((more_4n : Nat) : Int))) = true →
  ptrC more_4 fun a_18 => (0 : Int) ≤ i_10 ∧ i_10 < ((more_4n : Nat) : Int) ∧
  ∃ (n_20 : Int), World.cell? w52 (Addr.add a_18 ((Int.toNat i_10) * 3)) = some (.int .i64 n_20) ∧
  ∃ (s_14 : ByteArray), World.cell? w52 ((Addr.add a_18 ((Int.toNat i_10) * 3)).add 1) = some (.string s_14) ∧
  ∃ (n_21 : Int), World.cell? w52 ((Addr.add a_18 ((Int.toNat i_10) * 3)).add 2) = some (.int .i64 n_21) ∧
  Calls Try.prog 24 #[.pointer d_5, .slice none 0 0, .agg #[.int .i64 n_20, .string s_14, .int .i64 n_21]] w52 fun e_ w53 => e_ = .returned (.tuple #[]) ∧
  (I_10 (IntKind.wrap .i64 (i_10 + 1)) w53 ∧ M_10 (IntKind.wrap .i64 (i_10 + 1)) w53 < M_10 i_10 w52)) ∧
  ((decide ((i_10 : Int) < ((more_4n : Nat) : Int))) = false →
  Calls Try.prog 21 #[.pointer d_5] w52 fun e_ w54 => ∃ (q_12 : Option Addr) (q_12n q_12c : Nat), e_ = .returned (.slice q_12 q_12n q_12c) ∧
  Calls Try.prog 21 #[.pointer c_4] w54 fun e_ w55 => ∃ (q_13 : Option Addr) (q_13n q_13c : Nat), e_ = .returned (.slice q_13 q_13n q_13c) ∧
  Calls Try.prog 25 #[.pointer d_5, .int .i64 0, .int .i64 1000000] w55 fun e_ w56 => ∃ (q_14 : Option Addr) (q_14n q_14c : Nat), ∃ (n_22 : Int), e_ = .returned (.tuple #[.slice q_14 q_14n q_14c, .int .i64 n_22]) ∧
  Calls Try.prog 34 #[.slice q_12 q_12n q_12c, .slice q_13 q_13n q_13c] w56 fun e_ w57 => ∃ (b_15 : Bool), e_ = .returned (.bool b_15) ∧
  ((!b_15) = false →
  Calls Try.prog 22 #[.pointer d_5] w57 fun e_ w58 => ∃ (n_23 : Int), e_ = .returned (.int .i64 n_23) ∧
  Calls Try.prog 22 #[.pointer c_4] w58 fun e_ w59 => ∃ (n_24 : Int), e_ = .returned (.int .i64 n_24) ∧
  V10_k6 d_5 c_4 q_12 q_12n q_12c q_13 q_13n q_13c q_14 q_14n q_14c ((n_23 : Int) != n_24) w59 R) ∧
  ((!b_15) = !false →
  V10_k7 d_5 c_4 q_12 q_12n q_12c q_13 q_13n q_13c q_14 q_14n q_14c w57 R)))
set_option maxRecDepth 100000 in
def V10_k1 (script_2 : Option Addr) (script_2n script_2c : Nat) (more_2 : Option Addr) (more_2n more_2c : Nat) (d : Option Addr) (b_2 : Bool) (w3 : World) (R : Ending → World → Prop) : Prop :=
  (b_2 = true →
  R (.returned (.bool false)) w3) ∧
  (b_2 = false →
  ∃ (I : Int → World → Prop) (M : Int → World → Nat), I 0 w3 ∧
  ∀ (i : Int) (w4 : World), I i w4 →
  ((decide ((i : Int) < ((script_2n : Nat) : Int))) = true →
  ptrC script_2 fun a => (0 : Int) ≤ i ∧ i < ((script_2n : Nat) : Int) ∧
  ∃ (n : Int), World.cell? w4 (Addr.add a ((Int.toNat i) * 3)) = some (.int .i64 n) ∧
  ∃ (s : ByteArray), World.cell? w4 ((Addr.add a ((Int.toNat i) * 3)).add 1) = some (.string s) ∧
  ∃ (n_2 : Int), World.cell? w4 ((Addr.add a ((Int.toNat i) * 3)).add 2) = some (.int .i64 n_2) ∧
  Calls Try.prog 24 #[.pointer d, .slice none 0 0, .agg #[.int .i64 n, .string s, .int .i64 n_2]] w4 fun e_ w5 => e_ = .returned (.tuple #[]) ∧
  (I (IntKind.wrap .i64 (i + 1)) w5 ∧ M (IntKind.wrap .i64 (i + 1)) w5 < M i w4)) ∧
  ((decide ((i : Int) < ((script_2n : Nat) : Int))) = false →
  Calls Try.prog 35 #[.pointer d] w4 fun e_ w6 => ∃ (p_2 : Option Addr), e_ = .returned (.pointer p_2) ∧
  Calls Try.prog 21 #[.pointer d] w6 fun e_ w7 => ∃ (q : Option Addr) (qn qc : Nat), e_ = .returned (.slice q qn qc) ∧
  ((Option.isNone p_2) = true →
  R (.returned (.bool false)) w7) ∧
  ((Option.isNone p_2) = false →
  Calls Try.prog 26 #[.pointer d] w7 fun e_ w8 => ∃ (n_3 : Int), ∃ (n_4 : Int), ∃ (n_5 : Int), e_ = .returned (.tuple #[.int .i64 n_3, .int .i64 n_4, .int .i64 n_5]) ∧
  ∃ (I_2 : Int → World → Prop) (M_2 : Int → World → Nat), I_2 0 w8 ∧
  ∀ (i_2 : Int) (w9 : World), I_2 i_2 w9 →
  ((decide ((i_2 : Int) < ((more_2n : Nat) : Int))) = true →
  ptrC more_2 fun a_2 => (0 : Int) ≤ i_2 ∧ i_2 < ((more_2n : Nat) : Int) ∧
  ∃ (n_6 : Int), World.cell? w9 (Addr.add a_2 ((Int.toNat i_2) * 3)) = some (.int .i64 n_6) ∧
  ∃ (s_2 : ByteArray), World.cell? w9 ((Addr.add a_2 ((Int.toNat i_2) * 3)).add 1) = some (.string s_2) ∧
  ∃ (n_7 : Int), World.cell? w9 ((Addr.add a_2 ((Int.toNat i_2) * 3)).add 2) = some (.int .i64 n_7) ∧
  Calls Try.prog 24 #[.pointer p_2, .slice none 0 0, .agg #[.int .i64 n_6, .string s_2, .int .i64 n_7]] w9 fun e_ w10 => e_ = .returned (.tuple #[]) ∧
  (I_2 (IntKind.wrap .i64 (i_2 + 1)) w10 ∧ M_2 (IntKind.wrap .i64 (i_2 + 1)) w10 < M_2 i_2 w9)) ∧
  ((decide ((i_2 : Int) < ((more_2n : Nat) : Int))) = false →
  Calls Try.prog 26 #[.pointer d] w9 fun e_ w11 => ∃ (n_8 : Int), ∃ (n_9 : Int), ∃ (n_10 : Int), e_ = .returned (.tuple #[.int .i64 n_8, .int .i64 n_9, .int .i64 n_10]) ∧
  (((n_3 : Int) != n_8) = false →
  (((n_4 : Int) != n_9) = false →
  (((n_5 : Int) != n_10) = false →
  Calls Try.prog 21 #[.pointer d] w11 fun e_ w12 => ∃ (q_2 : Option Addr) (q_2n q_2c : Nat), e_ = .returned (.slice q_2 q_2n q_2c) ∧
  Calls Try.prog 34 #[.slice q_2 q_2n q_2c, .slice q qn qc] w12 fun e_ w13 => ∃ (b_3 : Bool), e_ = .returned (.bool b_3) ∧
  V10_k2 more_2 more_2n more_2c d p_2 (!b_3) w13 R) ∧
  (((n_5 : Int) != n_10) = !false →
  V10_k5 more_2 more_2n more_2c d p_2 w11 R)) ∧
  (((n_4 : Int) != n_9) = !false →
  V10_k5 more_2 more_2n more_2c d p_2 w11 R)) ∧
  (((n_3 : Int) != n_8) = !false →
  V10_k5 more_2 more_2n more_2c d p_2 w11 R)))))
set_option maxRecDepth 100000 in
def V10_k10 (d_10 : Option Addr) (c_8 : Option Addr) (a_36 : Option Addr) (a_36n a_36c : Nat) (b_28 : Option Addr) (b_28n b_28c : Nat) (s_28 : Option Addr) (s_28n s_28c : Nat) (b_29 : Bool) (w108 : World) (R : Ending → World → Prop) : Prop :=
  (b_29 = true →
  R (.returned (.bool false)) w108) ∧
  (b_29 = false →
  ∃ (I_20 : Int → World → Prop) (M_20 : Int → World → Nat), I_20 0 w108 ∧
  ∀ (i_20 : Int) (w109 : World), I_20 i_20 w109 →
  ((decide ((i_20 : Int) < ((a_36n : Nat) : Int))) = true →
  ptrC a_36 fun a_37 => (0 : Int) ≤ i_20 ∧ i_20 < ((a_36n : Nat) : Int) ∧
  ∃ (s_29 : ByteArray), World.cell? w109 (Addr.add a_37 ((Int.toNat i_20) * 1)) = some (.string s_29) ∧
  Calls Try.prog 23 #[.pointer d_10, .string s_29] w109 fun e_ w110 => ∃ (n_44 : Int), ∃ (b_30 : Bool), e_ = .returned (.tuple #[.int .i64 n_44, .bool b_30]) ∧
  ptrC a_36 fun a_38 => (0 : Int) ≤ i_20 ∧ i_20 < ((a_36n : Nat) : Int) ∧
  ∃ (s_30 : ByteArray), World.cell? w110 (Addr.add a_38 ((Int.toNat i_20) * 1)) = some (.string s_30) ∧
  Calls Try.prog 23 #[.pointer c_8, .string s_30] w110 fun e_ w111 => ∃ (n_45 : Int), ∃ (b_31 : Bool), e_ = .returned (.tuple #[.int .i64 n_45, .bool b_31]) ∧
  (((n_44 : Int) != n_45) = true →
  R (.returned (.bool false)) w111) ∧
  (((n_44 : Int) != n_45) = false →
  (I_20 (IntKind.wrap .i64 (i_20 + 1)) w111 ∧ M_20 (IntKind.wrap .i64 (i_20 + 1)) w111 < M_20 i_20 w109))) ∧
  ((decide ((i_20 : Int) < ((a_36n : Nat) : Int))) = false →
  ∃ (I_21 : Int → World → Prop) (M_21 : Int → World → Nat), I_21 0 w109 ∧
  ∀ (i_21 : Int) (w112 : World), I_21 i_21 w112 →
  ((decide ((i_21 : Int) < ((a_36n : Nat) : Int))) = true →
  ptrC a_36 fun a_39 => (0 : Int) ≤ i_21 ∧ i_21 < ((a_36n : Nat) : Int) ∧
  (∃ v0 : Value, World.cell? w112 (Addr.add a_39 ((Int.toNat i_21) * 1)) = some v0) ∧ World.frozen? w112 (Addr.add a_39 ((Int.toNat i_21) * 1)) = false ∧
  ∀ w113 : World, w113 = (World.setCell w112 (Addr.add a_39 ((Int.toNat i_21) * 1)) (.string (ByteArray.mk #[49]))) →
  (I_21 (IntKind.wrap .i64 (i_21 + 1)) w113 ∧ M_21 (IntKind.wrap .i64 (i_21 + 1)) w113 < M_21 i_21 w112)) ∧
  ((decide ((i_21 : Int) < ((a_36n : Nat) : Int))) = false →
  ∃ (I_22 : Int → World → Prop) (M_22 : Int → World → Nat), I_22 0 w112 ∧
  ∀ (i_22 : Int) (w114 : World), I_22 i_22 w114 →
  ((decide ((i_22 : Int) < ((s_28n : Nat) : Int))) = true →
  ptrC s_28 fun a_40 => (0 : Int) ≤ i_22 ∧ i_22 < ((s_28n : Nat) : Int) ∧
  (∃ v0 : Value, World.cell? w114 (Addr.add a_40 ((Int.toNat i_22) * 1)) = some v0) ∧ World.frozen? w114 (Addr.add a_40 ((Int.toNat i_22) * 1)) = false ∧
  ∀ w115 : World, w115 = (World.setCell w114 (Addr.add a_40 ((Int.toNat i_22) * 1)) (.string (ByteArray.mk #[50]))) →
  (I_22 (IntKind.wrap .i64 (i_22 + 1)) w115 ∧ M_22 (IntKind.wrap .i64 (i_22 + 1)) w115 < M_22 i_22 w114)) ∧
  ((decide ((i_22 : Int) < ((s_28n : Nat) : Int))) = false →
  ∀ (g_9 : Nat) (w116 : World), g_9 = (World.heap w114).size → w116 = World.alloc w114 (.cells #[.string (ByteArray.mk #[51]), .string (ByteArray.mk #[51]), .string (ByteArray.mk #[51])] 9) →
  ∃ (q_26 : Option Addr) (q_26n q_26c : Nat), ∃ w117 : World, Sem.run Try.prog (builtin .append #[30, 30] 30 #[false, false] #[.slice a_36 a_36n a_36c, .slice (some ⟨g_9, 0, none⟩) 3 3]) w116 = .ok (.value (.slice q_26 q_26n q_26c)) w117 ∧
  ∀ (g_10 : Nat) (w118 : World), g_10 = (World.heap w117).size → w118 = World.alloc w117 (.cells #[.string (ByteArray.mk #[52]), .string (ByteArray.mk #[52]), .string (ByteArray.mk #[52])] 9) →
  ∃ (q_27 : Option Addr) (q_27n q_27c : Nat), ∃ w119 : World, Sem.run Try.prog (builtin .append #[30, 30] 30 #[false, false] #[.slice s_28 s_28n s_28c, .slice (some ⟨g_10, 0, none⟩) 3 3]) w118 = .ok (.value (.slice q_27 q_27n q_27c)) w119 ∧
  Calls Try.prog 21 #[.pointer d_10] w119 fun e_ w120 => ∃ (q_28 : Option Addr) (q_28n q_28c : Nat), e_ = .returned (.slice q_28 q_28n q_28c) ∧
  Calls Try.prog 34 #[.slice q_28 q_28n q_28c, .slice b_28 b_28n b_28c] w120 fun e_ w121 => ∃ (b_32 : Bool), e_ = .returned (.bool b_32) ∧
  (b_32 = true →
  ptrC q_26 fun a_41 => (0 : Int) ≤ (IntKind.wrap .i64 (((q_26n : Nat) : Int) - 1)) ∧ (IntKind.wrap .i64 (((q_26n : Nat) : Int) - 1)) < ((q_26n : Nat) : Int) ∧
  ∃ (s_31 : ByteArray), World.cell? w121 (Addr.add a_41 ((Int.toNat (IntKind.wrap .i64 (((q_26n : Nat) : Int) - 1))) * 1)) = some (.string s_31) ∧
  ((strEq s_31 (ByteArray.mk #[51])) = true →
  ptrC q_27 fun a_42 => (0 : Int) ≤ (IntKind.wrap .i64 (((q_27n : Nat) : Int) - 1)) ∧ (IntKind.wrap .i64 (((q_27n : Nat) : Int) - 1)) < ((q_27n : Nat) : Int) ∧
  ∃ (s_32 : ByteArray), World.cell? w121 (Addr.add a_42 ((Int.toNat (IntKind.wrap .i64 (((q_27n : Nat) : Int) - 1))) * 1)) = some (.string s_32) ∧
  R (.returned (.bool (strEq s_32 (ByteArray.mk #[52])))) w121) ∧
  ((strEq s_31 (ByteArray.mk #[51])) = !true →
  R (.returned (.bool false)) w121)) ∧
  (b_32 = !true →
  R (.returned (.bool false)) w121)))))
set_option maxRecDepth 100000 in
def V10_k11 (d_11 : Option Addr) (c_9 : Option Addr) (a_43 : Option Addr) (a_43n a_43c : Nat) (b_33 : Option Addr) (b_33n b_33c : Nat) (s_33 : Option Addr) (s_33n s_33c : Nat) (w122 : World) (R : Ending → World → Prop) : Prop :=
  (true = true →
  R (.returned (.bool false)) w122) ∧
  (true = false →
  ∃ (I_23 : Int → World → Prop) (M_23 : Int → World → Nat), I_23 0 w122 ∧
  ∀ (i_23 : Int) (w123 : World), I_23 i_23 w123 →
  ((decide ((i_23 : Int) < ((a_43n : Nat) : Int))) = true →
  ptrC a_43 fun a_44 => (0 : Int) ≤ i_23 ∧ i_23 < ((a_43n : Nat) : Int) ∧
  ∃ (s_34 : ByteArray), World.cell? w123 (Addr.add a_44 ((Int.toNat i_23) * 1)) = some (.string s_34) ∧
  Calls Try.prog 23 #[.pointer d_11, .string s_34] w123 fun e_ w124 => ∃ (n_46 : Int), ∃ (b_34 : Bool), e_ = .returned (.tuple #[.int .i64 n_46, .bool b_34]) ∧
  ptrC a_43 fun a_45 => (0 : Int) ≤ i_23 ∧ i_23 < ((a_43n : Nat) : Int) ∧
  ∃ (s_35 : ByteArray), World.cell? w124 (Addr.add a_45 ((Int.toNat i_23) * 1)) = some (.string s_35) ∧
  Calls Try.prog 23 #[.pointer c_9, .string s_35] w124 fun e_ w125 => ∃ (n_47 : Int), ∃ (b_35 : Bool), e_ = .returned (.tuple #[.int .i64 n_47, .bool b_35]) ∧
  (((n_46 : Int) != n_47) = true →
  R (.returned (.bool false)) w125) ∧
  (((n_46 : Int) != n_47) = false →
  (I_23 (IntKind.wrap .i64 (i_23 + 1)) w125 ∧ M_23 (IntKind.wrap .i64 (i_23 + 1)) w125 < M_23 i_23 w123))) ∧
  ((decide ((i_23 : Int) < ((a_43n : Nat) : Int))) = false →
  ∃ (I_24 : Int → World → Prop) (M_24 : Int → World → Nat), I_24 0 w123 ∧
  ∀ (i_24 : Int) (w126 : World), I_24 i_24 w126 →
  ((decide ((i_24 : Int) < ((a_43n : Nat) : Int))) = true →
  ptrC a_43 fun a_46 => (0 : Int) ≤ i_24 ∧ i_24 < ((a_43n : Nat) : Int) ∧
  (∃ v0 : Value, World.cell? w126 (Addr.add a_46 ((Int.toNat i_24) * 1)) = some v0) ∧ World.frozen? w126 (Addr.add a_46 ((Int.toNat i_24) * 1)) = false ∧
  ∀ w127 : World, w127 = (World.setCell w126 (Addr.add a_46 ((Int.toNat i_24) * 1)) (.string (ByteArray.mk #[49]))) →
  (I_24 (IntKind.wrap .i64 (i_24 + 1)) w127 ∧ M_24 (IntKind.wrap .i64 (i_24 + 1)) w127 < M_24 i_24 w126)) ∧
  ((decide ((i_24 : Int) < ((a_43n : Nat) : Int))) = false →
  ∃ (I_25 : Int → World → Prop) (M_25 : Int → World → Nat), I_25 0 w126 ∧
  ∀ (i_25 : Int) (w128 : World), I_25 i_25 w128 →
  ((decide ((i_25 : Int) < ((s_33n : Nat) : Int))) = true →
  ptrC s_33 fun a_47 => (0 : Int) ≤ i_25 ∧ i_25 < ((s_33n : Nat) : Int) ∧
  (∃ v0 : Value, World.cell? w128 (Addr.add a_47 ((Int.toNat i_25) * 1)) = some v0) ∧ World.frozen? w128 (Addr.add a_47 ((Int.toNat i_25) * 1)) = false ∧
  ∀ w129 : World, w129 = (World.setCell w128 (Addr.add a_47 ((Int.toNat i_25) * 1)) (.string (ByteArray.mk #[50]))) →
  (I_25 (IntKind.wrap .i64 (i_25 + 1)) w129 ∧ M_25 (IntKind.wrap .i64 (i_25 + 1)) w129 < M_25 i_25 w128)) ∧
  ((decide ((i_25 : Int) < ((s_33n : Nat) : Int))) = false →
  ∀ (g_11 : Nat) (w130 : World), g_11 = (World.heap w128).size → w130 = World.alloc w128 (.cells #[.string (ByteArray.mk #[51]), .string (ByteArray.mk #[51]), .string (ByteArray.mk #[51])] 9) →
  ∃ (q_29 : Option Addr) (q_29n q_29c : Nat), ∃ w131 : World, Sem.run Try.prog (builtin .append #[30, 30] 30 #[false, false] #[.slice a_43 a_43n a_43c, .slice (some ⟨g_11, 0, none⟩) 3 3]) w130 = .ok (.value (.slice q_29 q_29n q_29c)) w131 ∧
  ∀ (g_12 : Nat) (w132 : World), g_12 = (World.heap w131).size → w132 = World.alloc w131 (.cells #[.string (ByteArray.mk #[52]), .string (ByteArray.mk #[52]), .string (ByteArray.mk #[52])] 9) →
  ∃ (q_30 : Option Addr) (q_30n q_30c : Nat), ∃ w133 : World, Sem.run Try.prog (builtin .append #[30, 30] 30 #[false, false] #[.slice s_33 s_33n s_33c, .slice (some ⟨g_12, 0, none⟩) 3 3]) w132 = .ok (.value (.slice q_30 q_30n q_30c)) w133 ∧
  Calls Try.prog 21 #[.pointer d_11] w133 fun e_ w134 => ∃ (q_31 : Option Addr) (q_31n q_31c : Nat), e_ = .returned (.slice q_31 q_31n q_31c) ∧
  Calls Try.prog 34 #[.slice q_31 q_31n q_31c, .slice b_33 b_33n b_33c] w134 fun e_ w135 => ∃ (b_36 : Bool), e_ = .returned (.bool b_36) ∧
  (b_36 = true →
  ptrC q_29 fun a_48 => (0 : Int) ≤ (IntKind.wrap .i64 (((q_29n : Nat) : Int) - 1)) ∧ (IntKind.wrap .i64 (((q_29n : Nat) : Int) - 1)) < ((q_29n : Nat) : Int) ∧
  ∃ (s_36 : ByteArray), World.cell? w135 (Addr.add a_48 ((Int.toNat (IntKind.wrap .i64 (((q_29n : Nat) : Int) - 1))) * 1)) = some (.string s_36) ∧
  ((strEq s_36 (ByteArray.mk #[51])) = true →
  ptrC q_30 fun a_49 => (0 : Int) ≤ (IntKind.wrap .i64 (((q_30n : Nat) : Int) - 1)) ∧ (IntKind.wrap .i64 (((q_30n : Nat) : Int) - 1)) < ((q_30n : Nat) : Int) ∧
  ∃ (s_37 : ByteArray), World.cell? w135 (Addr.add a_49 ((Int.toNat (IntKind.wrap .i64 (((q_30n : Nat) : Int) - 1))) * 1)) = some (.string s_37) ∧
  R (.returned (.bool (strEq s_37 (ByteArray.mk #[52])))) w135) ∧
  ((strEq s_36 (ByteArray.mk #[51])) = !true →
  R (.returned (.bool false)) w135)) ∧
  (b_36 = !true →
  R (.returned (.bool false)) w135)))))
set_option maxRecDepth 100000 in
def V10_k9 (more_6 : Option Addr) (more_6n more_6c : Nat) (d_9 : Option Addr) (c_7 : Option Addr) (b_26 : Bool) (w99 : World) (R : Ending → World → Prop) : Prop :=
  (b_26 = true →
  R (.returned (.bool false)) w99) ∧
  (b_26 = false →
  ∃ (I_19 : Int → World → Prop) (M_19 : Int → World → Nat), I_19 0 w99 ∧
  ∀ (i_19 : Int) (w100 : World), I_19 i_19 w100 →
  ((decide ((i_19 : Int) < ((more_6n : Nat) : Int))) = true →
  ptrC more_6 fun a_35 => (0 : Int) ≤ i_19 ∧ i_19 < ((more_6n : Nat) : Int) ∧
  ∃ (n_39 : Int), World.cell? w100 (Addr.add a_35 ((Int.toNat i_19) * 3)) = some (.int .i64 n_39) ∧
  ∃ (s_27 : ByteArray), World.cell? w100 ((Addr.add a_35 ((Int.toNat i_19) * 3)).add 1) = some (.string s_27) ∧
  ∃ (n_40 : Int), World.cell? w100 ((Addr.add a_35 ((Int.toNat i_19) * 3)).add 2) = some (.int .i64 n_40) ∧
  Calls Try.prog 24 #[.pointer d_9, .slice none 0 0, .agg #[.int .i64 n_39, .string s_27, .int .i64 n_40]] w100 fun e_ w101 => e_ = .returned (.tuple #[]) ∧
  (I_19 (IntKind.wrap .i64 (i_19 + 1)) w101 ∧ M_19 (IntKind.wrap .i64 (i_19 + 1)) w101 < M_19 i_19 w100)) ∧
  ((decide ((i_19 : Int) < ((more_6n : Nat) : Int))) = false →
  Calls Try.prog 21 #[.pointer d_9] w100 fun e_ w102 => ∃ (q_23 : Option Addr) (q_23n q_23c : Nat), e_ = .returned (.slice q_23 q_23n q_23c) ∧
  Calls Try.prog 21 #[.pointer c_7] w102 fun e_ w103 => ∃ (q_24 : Option Addr) (q_24n q_24c : Nat), e_ = .returned (.slice q_24 q_24n q_24c) ∧
  Calls Try.prog 25 #[.pointer d_9, .int .i64 0, .int .i64 1000000] w103 fun e_ w104 => ∃ (q_25 : Option Addr) (q_25n q_25c : Nat), ∃ (n_41 : Int), e_ = .returned (.tuple #[.slice q_25 q_25n q_25c, .int .i64 n_41]) ∧
  Calls Try.prog 34 #[.slice q_23 q_23n q_23c, .slice q_24 q_24n q_24c] w104 fun e_ w105 => ∃ (b_27 : Bool), e_ = .returned (.bool b_27) ∧
  ((!b_27) = false →
  Calls Try.prog 22 #[.pointer d_9] w105 fun e_ w106 => ∃ (n_42 : Int), e_ = .returned (.int .i64 n_42) ∧
  Calls Try.prog 22 #[.pointer c_7] w106 fun e_ w107 => ∃ (n_43 : Int), e_ = .returned (.int .i64 n_43) ∧
  V10_k10 d_9 c_7 q_23 q_23n q_23c q_24 q_24n q_24c q_25 q_25n q_25c ((n_42 : Int) != n_43) w107 R) ∧
  ((!b_27) = !false →
  V10_k11 d_9 c_7 q_23 q_23n q_23c q_24 q_24n q_24c q_25 q_25n q_25c w105 R)))
set_option maxRecDepth 100000 in
def V10_k13 (d_13 : Option Addr) (c_11 : Option Addr) (a_51 : Option Addr) (a_51n a_51c : Nat) (b_38 : Option Addr) (b_38n b_38c : Nat) (s_39 : Option Addr) (s_39n s_39c : Nat) (b_39 : Bool) (w145 : World) (R : Ending → World → Prop) : Prop :=
  (b_39 = true →
  R (.returned (.bool false)) w145) ∧
  (b_39 = false →
  ∃ (I_27 : Int → World → Prop) (M_27 : Int → World → Nat), I_27 0 w145 ∧
  ∀ (i_27 : Int) (w146 : World), I_27 i_27 w146 →
  ((decide ((i_27 : Int) < ((a_51n : Nat) : Int))) = true →
  ptrC a_51 fun a_52 => (0 : Int) ≤ i_27 ∧ i_27 < ((a_51n : Nat) : Int) ∧
  ∃ (s_40 : ByteArray), World.cell? w146 (Addr.add a_52 ((Int.toNat i_27) * 1)) = some (.string s_40) ∧
  Calls Try.prog 23 #[.pointer d_13, .string s_40] w146 fun e_ w147 => ∃ (n_53 : Int), ∃ (b_40 : Bool), e_ = .returned (.tuple #[.int .i64 n_53, .bool b_40]) ∧
  ptrC a_51 fun a_53 => (0 : Int) ≤ i_27 ∧ i_27 < ((a_51n : Nat) : Int) ∧
  ∃ (s_41 : ByteArray), World.cell? w147 (Addr.add a_53 ((Int.toNat i_27) * 1)) = some (.string s_41) ∧
  Calls Try.prog 23 #[.pointer c_11, .string s_41] w147 fun e_ w148 => ∃ (n_54 : Int), ∃ (b_41 : Bool), e_ = .returned (.tuple #[.int .i64 n_54, .bool b_41]) ∧
  (((n_53 : Int) != n_54) = true →
  R (.returned (.bool false)) w148) ∧
  (((n_53 : Int) != n_54) = false →
  (I_27 (IntKind.wrap .i64 (i_27 + 1)) w148 ∧ M_27 (IntKind.wrap .i64 (i_27 + 1)) w148 < M_27 i_27 w146))) ∧
  ((decide ((i_27 : Int) < ((a_51n : Nat) : Int))) = false →
  ∃ (I_28 : Int → World → Prop) (M_28 : Int → World → Nat), I_28 0 w146 ∧
  ∀ (i_28 : Int) (w149 : World), I_28 i_28 w149 →
  ((decide ((i_28 : Int) < ((a_51n : Nat) : Int))) = true →
  ptrC a_51 fun a_54 => (0 : Int) ≤ i_28 ∧ i_28 < ((a_51n : Nat) : Int) ∧
  (∃ v0 : Value, World.cell? w149 (Addr.add a_54 ((Int.toNat i_28) * 1)) = some v0) ∧ World.frozen? w149 (Addr.add a_54 ((Int.toNat i_28) * 1)) = false ∧
  ∀ w150 : World, w150 = (World.setCell w149 (Addr.add a_54 ((Int.toNat i_28) * 1)) (.string (ByteArray.mk #[49]))) →
  (I_28 (IntKind.wrap .i64 (i_28 + 1)) w150 ∧ M_28 (IntKind.wrap .i64 (i_28 + 1)) w150 < M_28 i_28 w149)) ∧
  ((decide ((i_28 : Int) < ((a_51n : Nat) : Int))) = false →
  ∃ (I_29 : Int → World → Prop) (M_29 : Int → World → Nat), I_29 0 w149 ∧
  ∀ (i_29 : Int) (w151 : World), I_29 i_29 w151 →
  ((decide ((i_29 : Int) < ((s_39n : Nat) : Int))) = true →
  ptrC s_39 fun a_55 => (0 : Int) ≤ i_29 ∧ i_29 < ((s_39n : Nat) : Int) ∧
  (∃ v0 : Value, World.cell? w151 (Addr.add a_55 ((Int.toNat i_29) * 1)) = some v0) ∧ World.frozen? w151 (Addr.add a_55 ((Int.toNat i_29) * 1)) = false ∧
  ∀ w152 : World, w152 = (World.setCell w151 (Addr.add a_55 ((Int.toNat i_29) * 1)) (.string (ByteArray.mk #[50]))) →
  (I_29 (IntKind.wrap .i64 (i_29 + 1)) w152 ∧ M_29 (IntKind.wrap .i64 (i_29 + 1)) w152 < M_29 i_29 w151)) ∧
  ((decide ((i_29 : Int) < ((s_39n : Nat) : Int))) = false →
  ∀ (g_13 : Nat) (w153 : World), g_13 = (World.heap w151).size → w153 = World.alloc w151 (.cells #[.string (ByteArray.mk #[51]), .string (ByteArray.mk #[51]), .string (ByteArray.mk #[51])] 9) →
  ∃ (q_35 : Option Addr) (q_35n q_35c : Nat), ∃ w154 : World, Sem.run Try.prog (builtin .append #[30, 30] 30 #[false, false] #[.slice a_51 a_51n a_51c, .slice (some ⟨g_13, 0, none⟩) 3 3]) w153 = .ok (.value (.slice q_35 q_35n q_35c)) w154 ∧
  ∀ (g_14 : Nat) (w155 : World), g_14 = (World.heap w154).size → w155 = World.alloc w154 (.cells #[.string (ByteArray.mk #[52]), .string (ByteArray.mk #[52]), .string (ByteArray.mk #[52])] 9) →
  ∃ (q_36 : Option Addr) (q_36n q_36c : Nat), ∃ w156 : World, Sem.run Try.prog (builtin .append #[30, 30] 30 #[false, false] #[.slice s_39 s_39n s_39c, .slice (some ⟨g_14, 0, none⟩) 3 3]) w155 = .ok (.value (.slice q_36 q_36n q_36c)) w156 ∧
  Calls Try.prog 21 #[.pointer d_13] w156 fun e_ w157 => ∃ (q_37 : Option Addr) (q_37n q_37c : Nat), e_ = .returned (.slice q_37 q_37n q_37c) ∧
  Calls Try.prog 34 #[.slice q_37 q_37n q_37c, .slice b_38 b_38n b_38c] w157 fun e_ w158 => ∃ (b_42 : Bool), e_ = .returned (.bool b_42) ∧
  (b_42 = true →
  ptrC q_35 fun a_56 => (0 : Int) ≤ (IntKind.wrap .i64 (((q_35n : Nat) : Int) - 1)) ∧ (IntKind.wrap .i64 (((q_35n : Nat) : Int) - 1)) < ((q_35n : Nat) : Int) ∧
  ∃ (s_42 : ByteArray), World.cell? w158 (Addr.add a_56 ((Int.toNat (IntKind.wrap .i64 (((q_35n : Nat) : Int) - 1))) * 1)) = some (.string s_42) ∧
  ((strEq s_42 (ByteArray.mk #[51])) = true →
  ptrC q_36 fun a_57 => (0 : Int) ≤ (IntKind.wrap .i64 (((q_36n : Nat) : Int) - 1)) ∧ (IntKind.wrap .i64 (((q_36n : Nat) : Int) - 1)) < ((q_36n : Nat) : Int) ∧
  ∃ (s_43 : ByteArray), World.cell? w158 (Addr.add a_57 ((Int.toNat (IntKind.wrap .i64 (((q_36n : Nat) : Int) - 1))) * 1)) = some (.string s_43) ∧
  R (.returned (.bool (strEq s_43 (ByteArray.mk #[52])))) w158) ∧
  ((strEq s_42 (ByteArray.mk #[51])) = !true →
  R (.returned (.bool false)) w158)) ∧
  (b_42 = !true →
  R (.returned (.bool false)) w158)))))
set_option maxRecDepth 100000 in
def V10_k14 (d_14 : Option Addr) (c_12 : Option Addr) (a_58 : Option Addr) (a_58n a_58c : Nat) (b_43 : Option Addr) (b_43n b_43c : Nat) (s_44 : Option Addr) (s_44n s_44c : Nat) (w159 : World) (R : Ending → World → Prop) : Prop :=
  (true = true →
  R (.returned (.bool false)) w159) ∧
  (true = false →
  ∃ (I_30 : Int → World → Prop) (M_30 : Int → World → Nat), I_30 0 w159 ∧
  ∀ (i_30 : Int) (w160 : World), I_30 i_30 w160 →
  ((decide ((i_30 : Int) < ((a_58n : Nat) : Int))) = true →
  ptrC a_58 fun a_59 => (0 : Int) ≤ i_30 ∧ i_30 < ((a_58n : Nat) : Int) ∧
  ∃ (s_45 : ByteArray), World.cell? w160 (Addr.add a_59 ((Int.toNat i_30) * 1)) = some (.string s_45) ∧
  Calls Try.prog 23 #[.pointer d_14, .string s_45] w160 fun e_ w161 => ∃ (n_55 : Int), ∃ (b_44 : Bool), e_ = .returned (.tuple #[.int .i64 n_55, .bool b_44]) ∧
  ptrC a_58 fun a_60 => (0 : Int) ≤ i_30 ∧ i_30 < ((a_58n : Nat) : Int) ∧
  ∃ (s_46 : ByteArray), World.cell? w161 (Addr.add a_60 ((Int.toNat i_30) * 1)) = some (.string s_46) ∧
  Calls Try.prog 23 #[.pointer c_12, .string s_46] w161 fun e_ w162 => ∃ (n_56 : Int), ∃ (b_45 : Bool), e_ = .returned (.tuple #[.int .i64 n_56, .bool b_45]) ∧
  (((n_55 : Int) != n_56) = true →
  R (.returned (.bool false)) w162) ∧
  (((n_55 : Int) != n_56) = false →
  (I_30 (IntKind.wrap .i64 (i_30 + 1)) w162 ∧ M_30 (IntKind.wrap .i64 (i_30 + 1)) w162 < M_30 i_30 w160))) ∧
  ((decide ((i_30 : Int) < ((a_58n : Nat) : Int))) = false →
  ∃ (I_31 : Int → World → Prop) (M_31 : Int → World → Nat), I_31 0 w160 ∧
  ∀ (i_31 : Int) (w163 : World), I_31 i_31 w163 →
  ((decide ((i_31 : Int) < ((a_58n : Nat) : Int))) = true →
  ptrC a_58 fun a_61 => (0 : Int) ≤ i_31 ∧ i_31 < ((a_58n : Nat) : Int) ∧
  (∃ v0 : Value, World.cell? w163 (Addr.add a_61 ((Int.toNat i_31) * 1)) = some v0) ∧ World.frozen? w163 (Addr.add a_61 ((Int.toNat i_31) * 1)) = false ∧
  ∀ w164 : World, w164 = (World.setCell w163 (Addr.add a_61 ((Int.toNat i_31) * 1)) (.string (ByteArray.mk #[49]))) →
  (I_31 (IntKind.wrap .i64 (i_31 + 1)) w164 ∧ M_31 (IntKind.wrap .i64 (i_31 + 1)) w164 < M_31 i_31 w163)) ∧
  ((decide ((i_31 : Int) < ((a_58n : Nat) : Int))) = false →
  ∃ (I_32 : Int → World → Prop) (M_32 : Int → World → Nat), I_32 0 w163 ∧
  ∀ (i_32 : Int) (w165 : World), I_32 i_32 w165 →
  ((decide ((i_32 : Int) < ((s_44n : Nat) : Int))) = true →
  ptrC s_44 fun a_62 => (0 : Int) ≤ i_32 ∧ i_32 < ((s_44n : Nat) : Int) ∧
  (∃ v0 : Value, World.cell? w165 (Addr.add a_62 ((Int.toNat i_32) * 1)) = some v0) ∧ World.frozen? w165 (Addr.add a_62 ((Int.toNat i_32) * 1)) = false ∧
  ∀ w166 : World, w166 = (World.setCell w165 (Addr.add a_62 ((Int.toNat i_32) * 1)) (.string (ByteArray.mk #[50]))) →
  (I_32 (IntKind.wrap .i64 (i_32 + 1)) w166 ∧ M_32 (IntKind.wrap .i64 (i_32 + 1)) w166 < M_32 i_32 w165)) ∧
  ((decide ((i_32 : Int) < ((s_44n : Nat) : Int))) = false →
  ∀ (g_15 : Nat) (w167 : World), g_15 = (World.heap w165).size → w167 = World.alloc w165 (.cells #[.string (ByteArray.mk #[51]), .string (ByteArray.mk #[51]), .string (ByteArray.mk #[51])] 9) →
  ∃ (q_38 : Option Addr) (q_38n q_38c : Nat), ∃ w168 : World, Sem.run Try.prog (builtin .append #[30, 30] 30 #[false, false] #[.slice a_58 a_58n a_58c, .slice (some ⟨g_15, 0, none⟩) 3 3]) w167 = .ok (.value (.slice q_38 q_38n q_38c)) w168 ∧
  ∀ (g_16 : Nat) (w169 : World), g_16 = (World.heap w168).size → w169 = World.alloc w168 (.cells #[.string (ByteArray.mk #[52]), .string (ByteArray.mk #[52]), .string (ByteArray.mk #[52])] 9) →
  ∃ (q_39 : Option Addr) (q_39n q_39c : Nat), ∃ w170 : World, Sem.run Try.prog (builtin .append #[30, 30] 30 #[false, false] #[.slice s_44 s_44n s_44c, .slice (some ⟨g_16, 0, none⟩) 3 3]) w169 = .ok (.value (.slice q_39 q_39n q_39c)) w170 ∧
  Calls Try.prog 21 #[.pointer d_14] w170 fun e_ w171 => ∃ (q_40 : Option Addr) (q_40n q_40c : Nat), e_ = .returned (.slice q_40 q_40n q_40c) ∧
  Calls Try.prog 34 #[.slice q_40 q_40n q_40c, .slice b_43 b_43n b_43c] w171 fun e_ w172 => ∃ (b_46 : Bool), e_ = .returned (.bool b_46) ∧
  (b_46 = true →
  ptrC q_38 fun a_63 => (0 : Int) ≤ (IntKind.wrap .i64 (((q_38n : Nat) : Int) - 1)) ∧ (IntKind.wrap .i64 (((q_38n : Nat) : Int) - 1)) < ((q_38n : Nat) : Int) ∧
  ∃ (s_47 : ByteArray), World.cell? w172 (Addr.add a_63 ((Int.toNat (IntKind.wrap .i64 (((q_38n : Nat) : Int) - 1))) * 1)) = some (.string s_47) ∧
  ((strEq s_47 (ByteArray.mk #[51])) = true →
  ptrC q_39 fun a_64 => (0 : Int) ≤ (IntKind.wrap .i64 (((q_39n : Nat) : Int) - 1)) ∧ (IntKind.wrap .i64 (((q_39n : Nat) : Int) - 1)) < ((q_39n : Nat) : Int) ∧
  ∃ (s_48 : ByteArray), World.cell? w172 (Addr.add a_64 ((Int.toNat (IntKind.wrap .i64 (((q_39n : Nat) : Int) - 1))) * 1)) = some (.string s_48) ∧
  R (.returned (.bool (strEq s_48 (ByteArray.mk #[52])))) w172) ∧
  ((strEq s_47 (ByteArray.mk #[51])) = !true →
  R (.returned (.bool false)) w172)) ∧
  (b_46 = !true →
  R (.returned (.bool false)) w172)))))
set_option maxRecDepth 100000 in
def V10_k12 (more_7 : Option Addr) (more_7n more_7c : Nat) (d_12 : Option Addr) (c_10 : Option Addr) (w136 : World) (R : Ending → World → Prop) : Prop :=
  (true = true →
  R (.returned (.bool false)) w136) ∧
  (true = false →
  ∃ (I_26 : Int → World → Prop) (M_26 : Int → World → Nat), I_26 0 w136 ∧
  ∀ (i_26 : Int) (w137 : World), I_26 i_26 w137 →
  ((decide ((i_26 : Int) < ((more_7n : Nat) : Int))) = true →
  ptrC more_7 fun a_50 => (0 : Int) ≤ i_26 ∧ i_26 < ((more_7n : Nat) : Int) ∧
  ∃ (n_48 : Int), World.cell? w137 (Addr.add a_50 ((Int.toNat i_26) * 3)) = some (.int .i64 n_48) ∧
  ∃ (s_38 : ByteArray), World.cell? w137 ((Addr.add a_50 ((Int.toNat i_26) * 3)).add 1) = some (.string s_38) ∧
  ∃ (n_49 : Int), World.cell? w137 ((Addr.add a_50 ((Int.toNat i_26) * 3)).add 2) = some (.int .i64 n_49) ∧
  Calls Try.prog 24 #[.pointer d_12, .slice none 0 0, .agg #[.int .i64 n_48, .string s_38, .int .i64 n_49]] w137 fun e_ w138 => e_ = .returned (.tuple #[]) ∧
  (I_26 (IntKind.wrap .i64 (i_26 + 1)) w138 ∧ M_26 (IntKind.wrap .i64 (i_26 + 1)) w138 < M_26 i_26 w137)) ∧
  ((decide ((i_26 : Int) < ((more_7n : Nat) : Int))) = false →
  Calls Try.prog 21 #[.pointer d_12] w137 fun e_ w139 => ∃ (q_32 : Option Addr) (q_32n q_32c : Nat), e_ = .returned (.slice q_32 q_32n q_32c) ∧
  Calls Try.prog 21 #[.pointer c_10] w139 fun e_ w140 => ∃ (q_33 : Option Addr) (q_33n q_33c : Nat), e_ = .returned (.slice q_33 q_33n q_33c) ∧
  Calls Try.prog 25 #[.pointer d_12, .int .i64 0, .int .i64 1000000] w140 fun e_ w141 => ∃ (q_34 : Option Addr) (q_34n q_34c : Nat), ∃ (n_50 : Int), e_ = .returned (.tuple #[.slice q_34 q_34n q_34c, .int .i64 n_50]) ∧
  Calls Try.prog 34 #[.slice q_32 q_32n q_32c, .slice q_33 q_33n q_33c] w141 fun e_ w142 => ∃ (b_37 : Bool), e_ = .returned (.bool b_37) ∧
  ((!b_37) = false →
  Calls Try.prog 22 #[.pointer d_12] w142 fun e_ w143 => ∃ (n_51 : Int), e_ = .returned (.int .i64 n_51) ∧
  Calls Try.prog 22 #[.pointer c_10] w143 fun e_ w144 => ∃ (n_52 : Int), e_ = .returned (.int .i64 n_52) ∧
  V10_k13 d_12 c_10 q_32 q_32n q_32c q_33 q_33n q_33c q_34 q_34n q_34c ((n_51 : Int) != n_52) w144 R) ∧
  ((!b_37) = !false →
  V10_k14 d_12 c_10 q_32 q_32n q_32c q_33 q_33n q_33c q_34 q_34n q_34c w142 R)))
set_option maxRecDepth 100000 in
def V10_k8 (script_3 : Option Addr) (script_3n script_3c : Nat) (more_5 : Option Addr) (more_5n more_5c : Nat) (d_8 : Option Addr) (w88 : World) (R : Ending → World → Prop) : Prop :=
  (true = true →
  R (.returned (.bool false)) w88) ∧
  (true = false →
  ∃ (I_17 : Int → World → Prop) (M_17 : Int → World → Nat), I_17 0 w88 ∧
  ∀ (i_17 : Int) (w89 : World), I_17 i_17 w89 →
  ((decide ((i_17 : Int) < ((script_3n : Nat) : Int))) = true →
  ptrC script_3 fun a_33 => (0 : Int) ≤ i_17 ∧ i_17 < ((script_3n : Nat) : Int) ∧
  ∃ (n_29 : Int), World.cell? w89 (Addr.add a_33 ((Int.toNat i_17) * 3)) = some (.int .i64 n_29) ∧
  ∃ (s_25 : ByteArray), World.cell? w89 ((Addr.add a_33 ((Int.toNat i_17) * 3)).add 1) = some (.string s_25) ∧
  ∃ (n_30 : Int), World.cell? w89 ((Addr.add a_33 ((Int.toNat i_17) * 3)).add 2) = some (.int .i64 n_30) ∧
  Calls Try.prog 24 #[.pointer d_8, .slice none 0 0, .agg #[.int .i64 n_29, .string s_25, .int .i64 n_30]] w89 fun e_ w90 => e_ = .returned (.tuple #[]) ∧
  (I_17 (IntKind.wrap .i64 (i_17 + 1)) w90 ∧ M_17 (IntKind.wrap .i64 (i_17 + 1)) w90 < M_17 i_17 w89)) ∧
  ((decide ((i_17 : Int) < ((script_3n : Nat) : Int))) = false →
  Calls Try.prog 35 #[.pointer d_8] w89 fun e_ w91 => ∃ (p_3 : Option Addr), e_ = .returned (.pointer p_3) ∧
  Calls Try.prog 21 #[.pointer d_8] w91 fun e_ w92 => ∃ (q_21 : Option Addr) (q_21n q_21c : Nat), e_ = .returned (.slice q_21 q_21n q_21c) ∧
  ((Option.isNone p_3) = true →
  R (.returned (.bool false)) w92) ∧
  ((Option.isNone p_3) = false →
  Calls Try.prog 26 #[.pointer d_8] w92 fun e_ w93 => ∃ (n_31 : Int), ∃ (n_32 : Int), ∃ (n_33 : Int), e_ = .returned (.tuple #[.int .i64 n_31, .int .i64 n_32, .int .i64 n_33]) ∧
  ∃ (I_18 : Int → World → Prop) (M_18 : Int → World → Nat), I_18 0 w93 ∧
  ∀ (i_18 : Int) (w94 : World), I_18 i_18 w94 →
  ((decide ((i_18 : Int) < ((more_5n : Nat) : Int))) = true →
  ptrC more_5 fun a_34 => (0 : Int) ≤ i_18 ∧ i_18 < ((more_5n : Nat) : Int) ∧
  ∃ (n_34 : Int), World.cell? w94 (Addr.add a_34 ((Int.toNat i_18) * 3)) = some (.int .i64 n_34) ∧
  ∃ (s_26 : ByteArray), World.cell? w94 ((Addr.add a_34 ((Int.toNat i_18) * 3)).add 1) = some (.string s_26) ∧
  ∃ (n_35 : Int), World.cell? w94 ((Addr.add a_34 ((Int.toNat i_18) * 3)).add 2) = some (.int .i64 n_35) ∧
  Calls Try.prog 24 #[.pointer p_3, .slice none 0 0, .agg #[.int .i64 n_34, .string s_26, .int .i64 n_35]] w94 fun e_ w95 => e_ = .returned (.tuple #[]) ∧
  (I_18 (IntKind.wrap .i64 (i_18 + 1)) w95 ∧ M_18 (IntKind.wrap .i64 (i_18 + 1)) w95 < M_18 i_18 w94)) ∧
  ((decide ((i_18 : Int) < ((more_5n : Nat) : Int))) = false →
  Calls Try.prog 26 #[.pointer d_8] w94 fun e_ w96 => ∃ (n_36 : Int), ∃ (n_37 : Int), ∃ (n_38 : Int), e_ = .returned (.tuple #[.int .i64 n_36, .int .i64 n_37, .int .i64 n_38]) ∧
  (((n_31 : Int) != n_36) = false →
  (((n_32 : Int) != n_37) = false →
  (((n_33 : Int) != n_38) = false →
  Calls Try.prog 21 #[.pointer d_8] w96 fun e_ w97 => ∃ (q_22 : Option Addr) (q_22n q_22c : Nat), e_ = .returned (.slice q_22 q_22n q_22c) ∧
  Calls Try.prog 34 #[.slice q_22 q_22n q_22c, .slice q_21 q_21n q_21c] w97 fun e_ w98 => ∃ (b_25 : Bool), e_ = .returned (.bool b_25) ∧
  V10_k9 more_5 more_5n more_5c d_8 p_3 (!b_25) w98 R) ∧
  (((n_33 : Int) != n_38) = !false →
  V10_k12 more_5 more_5n more_5c d_8 p_3 w96 R)) ∧
  (((n_32 : Int) != n_37) = !false →
  V10_k12 more_5 more_5n more_5c d_8 p_3 w96 R)) ∧
  (((n_31 : Int) != n_36) = !false →
  V10_k12 more_5 more_5n more_5c d_8 p_3 w96 R)))))
set_option maxRecDepth 100000 in
def V10 (seed : Int) (script : Option Addr) (scriptn scriptc : Nat) (more : Option Addr) (moren morec : Nat) (w : World) (R : Ending → World → Prop) : Prop :=
  Calls Try.prog 18 #[.int .i64 seed] w fun e_ w1 => ∃ (p : Option Addr), e_ = .returned (.pointer p) ∧
  Calls Try.prog 15 #[] w1 fun e_ w2 => ∃ (b : Bool), e_ = .returned (.bool b) ∧
  ((!b) = false →
  V10_k1 script scriptn scriptc more moren morec p (Option.isNone p) w2 R) ∧
  ((!b) = !false →
  V10_k8 script scriptn scriptc more moren morec p w2 R)
theorem b10 : Try.f10.body = some (bodyOf Try.f10) := by kernel_rfl
theorem ok10 : okF Try.prog an10 Try.f10 (bodyOf Try.f10) 3 = true := by kernel_rfl
theorem e10 (seed : Int) (script : Option Addr) (scriptn scriptc : Nat) (more : Option Addr) (moren morec : Nat) (w : World) (R : Ending → World → Prop) : vcF Try.prog an10 Try.f10 (bodyOf Try.f10) [.int .i64 seed, .slice script scriptn scriptc, .slice more moren morec] w R = V10 seed script scriptn scriptc more moren morec w R := by kernel_rfl
theorem v10 (seed : Int) (script : Option Addr) (scriptn scriptc : Nat) (more : Option Addr) (moren morec : Nat) (w : World) (R : Ending → World → Prop) (hV : V10 seed script scriptn scriptc more moren morec w R) : Calls Try.prog 10 #[.int .i64 seed, .slice script scriptn scriptc, .slice more moren morec] w R := calls_vc mixed Try.func10 b10 rfl ok10 (e10 seed script scriptn scriptc more moren morec w R) hV

end Go.Proofs.Ytcljmlgbmjjldaa.F
