/- The verification conditions of Go functions, printed by wip/gen/gen.py; the kernel checks that each is the one reckoned from the code. -/
import Derived.Test.YtcljmlgbmjjldaaProg
import Derived.Test.YtcljmlgbmjjldaaVC
import Derived.Test.YtcljmlgbmjjldaaF0
set_option linter.unusedVariables false
namespace Go.Proofs.Ytcljmlgbmjjldaa.F
open Go Go.VC Go.Proofs
/-- cistern/cisternref08.New -/
def an28 : Ann := { loops := [], draws := [], tys := [] }
set_option maxRecDepth 100000 in
def V28 (seed : Int) (w : World) (R : Ending → World → Prop) : Prop :=
  ∀ (g : Nat) (w1 : World), g = (World.heap w).size → w1 = World.alloc w (.cells #[.int .i64 0, .int .i64 0, .slice none 0 0, .int .i64 0, .slice none 0 0, .int .i64 0] 55) →
  storeN ⟨g, 0, none⟩ [(.int .i64 seed : Value), .int .i64 0, .slice none 0 0, .int .i64 0, .slice none 0 0, .int .i64 0] 0 w1 fun w2 => ∀ w3 : World, w3 = w2 →
  ∃ (n : Int), World.cell? w3 ⟨g, 0, none⟩ = some (.int .i64 n) ∧
  ∃ (n_2 : Int), World.cell? w3 ⟨g, 1, none⟩ = some (.int .i64 n_2) ∧
  ∃ (q : Option Addr) (qn qc : Nat), World.cell? w3 ⟨g, 2, none⟩ = some (.slice q qn qc) ∧
  ∃ (n_3 : Int), World.cell? w3 ⟨g, 3, none⟩ = some (.int .i64 n_3) ∧
  ∃ (q_2 : Option Addr) (q_2n q_2c : Nat), World.cell? w3 ⟨g, 4, none⟩ = some (.slice q_2 q_2n q_2c) ∧
  ∃ (n_4 : Int), World.cell? w3 ⟨g, 5, none⟩ = some (.int .i64 n_4) ∧
  R (.returned (.agg #[.int .i64 n, .int .i64 n_2, .slice q qn qc, .int .i64 n_3, .slice q_2 q_2n q_2c, .int .i64 n_4])) w3
theorem b28 : Try.f28.body = some (bodyOf Try.f28) := by kernel_rfl
theorem ok28 : okF Try.prog an28 Try.f28 (bodyOf Try.f28) 1 = true := by kernel_rfl
theorem e28 (seed : Int) (w : World) (R : Ending → World → Prop) : vcF Try.prog an28 Try.f28 (bodyOf Try.f28) [.int .i64 seed] w R = V28 seed w R := by kernel_rfl
theorem v28 (seed : Int) (w : World) (R : Ending → World → Prop) (hV : V28 seed w R) : Calls Try.prog 28 #[.int .i64 seed] w R := calls_vc mixed Try.func28 b28 rfl ok28 (e28 seed w R) hV

/-- cistern/cisternref08.Set -/
def an29 : Ann := { loops := [], draws := [], tys := [] }
set_option maxRecDepth 100000 in
def V29_k2 (d_8 : Addr) (a_4 : Addr) (w23 : World) (R : Ending → World → Prop) : Prop :=
  ∃ (n_34 : Int), World.cell? w23 d_8 = some (.int .i64 n_34) ∧
  ∃ (n_35 : Int), World.cell? w23 (d_8.add 1) = some (.int .i64 n_35) ∧
  ∃ (q_23 : Option Addr) (q_23n q_23c : Nat), World.cell? w23 (d_8.add 2) = some (.slice q_23 q_23n q_23c) ∧
  ∃ (n_36 : Int), World.cell? w23 (d_8.add 3) = some (.int .i64 n_36) ∧
  ∃ (q_24 : Option Addr) (q_24n q_24c : Nat), World.cell? w23 (d_8.add 4) = some (.slice q_24 q_24n q_24c) ∧
  ∃ (n_37 : Int), World.cell? w23 (d_8.add 5) = some (.int .i64 n_37) ∧
  storeN a_4 [(.int .i64 n_34 : Value), .int .i64 n_35, .slice q_23 q_23n q_23c, .int .i64 n_36, .slice q_24 q_24n q_24c, .int .i64 n_37] 0 w23 fun w24 => ∀ w25 : World, w25 = w24 →
  ∃ (n_38 : Int), World.cell? w25 a_4 = some (.int .i64 n_38) ∧
  ∃ (n_39 : Int), World.cell? w25 (a_4.add 1) = some (.int .i64 n_39) ∧
  ∃ (q_25 : Option Addr) (q_25n q_25c : Nat), World.cell? w25 (a_4.add 2) = some (.slice q_25 q_25n q_25c) ∧
  ∃ (n_40 : Int), World.cell? w25 (a_4.add 3) = some (.int .i64 n_40) ∧
  ∃ (q_26 : Option Addr) (q_26n q_26c : Nat), World.cell? w25 (a_4.add 4) = some (.slice q_26 q_26n q_26c) ∧
  ∃ (n_41 : Int), World.cell? w25 (a_4.add 5) = some (.int .i64 n_41) ∧
  R (.returned (.tuple #[.agg #[.int .i64 n_38, .int .i64 n_39, .slice q_25 q_25n q_25c, .int .i64 n_40, .slice q_26 q_26n q_26c, .int .i64 n_41], .bool true])) w25
set_option maxRecDepth 100000 in
def V29_k1 (key_2 : ByteArray) (v_2 : Int) (d_7 : Addr) (a_3 : Addr) (w19 : World) (R : Ending → World → Prop) : Prop :=
  ∃ (n_30 : Int), World.cell? w19 d_7 = some (.int .i64 n_30) ∧
  ∃ (n_31 : Int), World.cell? w19 (d_7.add 1) = some (.int .i64 n_31) ∧
  ∃ (q_19 : Option Addr) (q_19n q_19c : Nat), World.cell? w19 (d_7.add 2) = some (.slice q_19 q_19n q_19c) ∧
  ∃ (n_32 : Int), World.cell? w19 (d_7.add 3) = some (.int .i64 n_32) ∧
  ∃ (q_20 : Option Addr) (q_20n q_20c : Nat), World.cell? w19 (d_7.add 4) = some (.slice q_20 q_20n q_20c) ∧
  ∃ (n_33 : Int), World.cell? w19 (d_7.add 5) = some (.int .i64 n_33) ∧
  Calls Try.prog 67 #[.agg #[.int .i64 n_30, .int .i64 n_31, .slice q_19 q_19n q_19c, .int .i64 n_32, .slice q_20 q_20n q_20c, .int .i64 n_33]] w19 fun e_ w20 => ∃ (b : Bool), e_ = .returned (.bool b) ∧
  (b = true →
  ∃ (q_21 : Option Addr) (q_21n q_21c : Nat), World.cell? w20 (d_7.add 4) = some (.slice q_21 q_21n q_21c) ∧
  Calls Try.prog 69 #[.slice q_21 q_21n q_21c, .agg #[.string key_2, .int .i64 v_2]] w20 fun e_ w21 => ∃ (q_22 : Option Addr) (q_22n q_22c : Nat), e_ = .returned (.slice q_22 q_22n q_22c) ∧
  (∃ v0 : Value, World.cell? w21 (d_7.add 4) = some v0) ∧ World.frozen? w21 (d_7.add 4) = false ∧
  ∀ w22 : World, w22 = (World.setCell w21 (d_7.add 4) (.slice q_22 q_22n q_22c)) →
  V29_k2 d_7 a_3 w22 R) ∧
  (b = false →
  ∃ (q_27 : Option Addr) (q_27n q_27c : Nat), World.cell? w20 (d_7.add 2) = some (.slice q_27 q_27n q_27c) ∧
  Calls Try.prog 69 #[.slice q_27 q_27n q_27c, .agg #[.string key_2, .int .i64 v_2]] w20 fun e_ w26 => ∃ (q_28 : Option Addr) (q_28n q_28c : Nat), e_ = .returned (.slice q_28 q_28n q_28c) ∧
  (∃ v0 : Value, World.cell? w26 (d_7.add 2) = some v0) ∧ World.frozen? w26 (d_7.add 2) = false ∧
  ∀ w27 : World, w27 = (World.setCell w26 (d_7.add 2) (.slice q_28 q_28n q_28c)) →
  V29_k2 d_7 a_3 w27 R)
set_option maxRecDepth 100000 in
def V29_k3 (key_3 : ByteArray) (v_3 : Int) (d_9 : Addr) (a_5 : Addr) (b_3 : Bool) (w29 : World) (R : Ending → World → Prop) : Prop :=
  (b_3 = true →
  ∃ (n_47 : Int), World.cell? w29 d_9 = some (.int .i64 n_47) ∧
  ∃ (n_48 : Int), World.cell? w29 (d_9.add 1) = some (.int .i64 n_48) ∧
  ∃ (q_32 : Option Addr) (q_32n q_32c : Nat), World.cell? w29 (d_9.add 2) = some (.slice q_32 q_32n q_32c) ∧
  ∃ (n_49 : Int), World.cell? w29 (d_9.add 3) = some (.int .i64 n_49) ∧
  ∃ (q_33 : Option Addr) (q_33n q_33c : Nat), World.cell? w29 (d_9.add 4) = some (.slice q_33 q_33n q_33c) ∧
  ∃ (n_50 : Int), World.cell? w29 (d_9.add 5) = some (.int .i64 n_50) ∧
  ∃ (n_51 : Int), World.cell? w29 (d_9.add 1) = some (.int .i64 n_51) ∧
  Calls Try.prog 68 #[.agg #[.int .i64 n_47, .int .i64 n_48, .slice q_32 q_32n q_32c, .int .i64 n_49, .slice q_33 q_33n q_33c, .int .i64 n_50], .int .i64 (IntKind.wrap .i64 (2 * n_51))] w29 fun e_ w30 => ∃ (n_52 : Int), ∃ (n_53 : Int), ∃ (q_34 : Option Addr) (q_34n q_34c : Nat), ∃ (n_54 : Int), ∃ (q_35 : Option Addr) (q_35n q_35c : Nat), ∃ (n_55 : Int), e_ = .returned (.agg #[.int .i64 n_52, .int .i64 n_53, .slice q_34 q_34n q_34c, .int .i64 n_54, .slice q_35 q_35n q_35c, .int .i64 n_55]) ∧
  storeN d_9 [(.int .i64 n_52 : Value), .int .i64 n_53, .slice q_34 q_34n q_34c, .int .i64 n_54, .slice q_35 q_35n q_35c, .int .i64 n_55] 0 w30 fun w31 => ∀ w32 : World, w32 = w31 →
  V29_k1 key_3 v_3 d_9 a_5 w32 R) ∧
  (b_3 = false →
  V29_k1 key_3 v_3 d_9 a_5 w29 R)
set_option maxRecDepth 100000 in
def V29 (d : Int) (d_2 : Int) (d_3 : Option Addr) (d_3n d_3c : Nat) (d_4 : Int) (d_5 : Option Addr) (d_5n d_5c : Nat) (d_6 : Int) (key : ByteArray) (v : Int) (w : World) (R : Ending → World → Prop) : Prop :=
  ∀ (g : Nat) (w1 : World), g = (World.heap w).size → w1 = World.alloc w (.cells #[.int .i64 d, .int .i64 d_2, .slice d_3 d_3n d_3c, .int .i64 d_4, .slice d_5 d_5n d_5c, .int .i64 d_6] 55) →
  ∀ (g_2 : Nat) (w2 : World), g_2 = (World.heap w1).size → w2 = World.alloc w1 (.cells #[.int .i64 0, .int .i64 0, .slice none 0 0, .int .i64 0, .slice none 0 0, .int .i64 0] 55) →
  ∃ (n : Int), World.cell? w2 ⟨g, 0, none⟩ = some (.int .i64 n) ∧
  ∃ (n_2 : Int), World.cell? w2 ⟨g, 1, none⟩ = some (.int .i64 n_2) ∧
  ∃ (q : Option Addr) (qn qc : Nat), World.cell? w2 ⟨g, 2, none⟩ = some (.slice q qn qc) ∧
  ∃ (n_3 : Int), World.cell? w2 ⟨g, 3, none⟩ = some (.int .i64 n_3) ∧
  ∃ (q_2 : Option Addr) (q_2n q_2c : Nat), World.cell? w2 ⟨g, 4, none⟩ = some (.slice q_2 q_2n q_2c) ∧
  ∃ (n_4 : Int), World.cell? w2 ⟨g, 5, none⟩ = some (.int .i64 n_4) ∧
  Calls Try.prog 65 #[.agg #[.int .i64 n, .int .i64 n_2, .slice q qn qc, .int .i64 n_3, .slice q_2 q_2n q_2c, .int .i64 n_4]] w2 fun e_ w3 => ∃ (n_5 : Int), ∃ (n_6 : Int), ∃ (q_3 : Option Addr) (q_3n q_3c : Nat), ∃ (n_7 : Int), ∃ (q_4 : Option Addr) (q_4n q_4c : Nat), ∃ (n_8 : Int), e_ = .returned (.agg #[.int .i64 n_5, .int .i64 n_6, .slice q_3 q_3n q_3c, .int .i64 n_7, .slice q_4 q_4n q_4c, .int .i64 n_8]) ∧
  storeN ⟨g, 0, none⟩ [(.int .i64 n_5 : Value), .int .i64 n_6, .slice q_3 q_3n q_3c, .int .i64 n_7, .slice q_4 q_4n q_4c, .int .i64 n_8] 0 w3 fun w4 => ∀ w5 : World, w5 = w4 →
  ∃ (n_9 : Int), World.cell? w5 ⟨g, 1, none⟩ = some (.int .i64 n_9) ∧
  ∃ (q_5 : Option Addr) (q_5n q_5c : Nat), World.cell? w5 ⟨g, 2, none⟩ = some (.slice q_5 q_5n q_5c) ∧
  Calls Try.prog 66 #[.agg #[.int .i64 n_9, .slice q_5 q_5n q_5c], .string key] w5 fun e_ w6 => ∃ (n_10 : Int), e_ = .returned (.int .i64 n_10) ∧
  ((decide ((n_10 : Int) ≥ 0)) = true →
  ∃ (q_6 : Option Addr) (q_6n q_6c : Nat), World.cell? w6 ⟨g, 2, none⟩ = some (.slice q_6 q_6n q_6c) ∧
  ∃ (q_7 : Option Addr) (q_7n q_7c : Nat), ∃ w7 : World, Sem.run Try.prog (builtin .append #[51, 51] 51 #[false, false] #[.slice none 0 0, .slice q_6 q_6n q_6c]) w6 = .ok (.value (.slice q_7 q_7n q_7c)) w7 ∧
  ptrC q_7 fun a => (0 : Int) ≤ n_10 ∧ n_10 < ((q_7n : Nat) : Int) ∧
  (∃ v0 : Value, World.cell? w7 ((Addr.add a ((Int.toNat n_10) * 2)).add 1) = some v0) ∧ World.frozen? w7 ((Addr.add a ((Int.toNat n_10) * 2)).add 1) = false ∧
  ∀ w8 : World, w8 = (World.setCell w7 ((Addr.add a ((Int.toNat n_10) * 2)).add 1) (.int .i64 v)) →
  (∃ v0 : Value, World.cell? w8 ⟨g, 2, none⟩ = some v0) ∧ World.frozen? w8 ⟨g, 2, none⟩ = false ∧
  ∀ w9 : World, w9 = (World.setCell w8 ⟨g, 2, none⟩ (.slice q_7 q_7n q_7c)) →
  ∃ (n_11 : Int), World.cell? w9 ⟨g, 0, none⟩ = some (.int .i64 n_11) ∧
  ∃ (n_12 : Int), World.cell? w9 ⟨g, 1, none⟩ = some (.int .i64 n_12) ∧
  ∃ (q_8 : Option Addr) (q_8n q_8c : Nat), World.cell? w9 ⟨g, 2, none⟩ = some (.slice q_8 q_8n q_8c) ∧
  ∃ (n_13 : Int), World.cell? w9 ⟨g, 3, none⟩ = some (.int .i64 n_13) ∧
  ∃ (q_9 : Option Addr) (q_9n q_9c : Nat), World.cell? w9 ⟨g, 4, none⟩ = some (.slice q_9 q_9n q_9c) ∧
  ∃ (n_14 : Int), World.cell? w9 ⟨g, 5, none⟩ = some (.int .i64 n_14) ∧
  storeN ⟨g_2, 0, none⟩ [(.int .i64 n_11 : Value), .int .i64 n_12, .slice q_8 q_8n q_8c, .int .i64 n_13, .slice q_9 q_9n q_9c, .int .i64 n_14] 0 w9 fun w10 => ∀ w11 : World, w11 = w10 →
  ∃ (n_15 : Int), World.cell? w11 ⟨g_2, 0, none⟩ = some (.int .i64 n_15) ∧
  ∃ (n_16 : Int), World.cell? w11 ⟨g_2, 1, none⟩ = some (.int .i64 n_16) ∧
  ∃ (q_10 : Option Addr) (q_10n q_10c : Nat), World.cell? w11 ⟨g_2, 2, none⟩ = some (.slice q_10 q_10n q_10c) ∧
  ∃ (n_17 : Int), World.cell? w11 ⟨g_2, 3, none⟩ = some (.int .i64 n_17) ∧
  ∃ (q_11 : Option Addr) (q_11n q_11c : Nat), World.cell? w11 ⟨g_2, 4, none⟩ = some (.slice q_11 q_11n q_11c) ∧
  ∃ (n_18 : Int), World.cell? w11 ⟨g_2, 5, none⟩ = some (.int .i64 n_18) ∧
  R (.returned (.tuple #[.agg #[.int .i64 n_15, .int .i64 n_16, .slice q_10 q_10n q_10c, .int .i64 n_17, .slice q_11 q_11n q_11c, .int .i64 n_18], .bool false])) w11) ∧
  ((decide ((n_10 : Int) ≥ 0)) = false →
  ∃ (n_19 : Int), World.cell? w6 ⟨g, 3, none⟩ = some (.int .i64 n_19) ∧
  ∃ (q_12 : Option Addr) (q_12n q_12c : Nat), World.cell? w6 ⟨g, 4, none⟩ = some (.slice q_12 q_12n q_12c) ∧
  Calls Try.prog 66 #[.agg #[.int .i64 n_19, .slice q_12 q_12n q_12c], .string key] w6 fun e_ w12 => ∃ (n_20 : Int), e_ = .returned (.int .i64 n_20) ∧
  ((decide ((n_20 : Int) ≥ 0)) = true →
  ∃ (q_13 : Option Addr) (q_13n q_13c : Nat), World.cell? w12 ⟨g, 4, none⟩ = some (.slice q_13 q_13n q_13c) ∧
  ∃ (q_14 : Option Addr) (q_14n q_14c : Nat), ∃ w13 : World, Sem.run Try.prog (builtin .append #[51, 51] 51 #[false, false] #[.slice none 0 0, .slice q_13 q_13n q_13c]) w12 = .ok (.value (.slice q_14 q_14n q_14c)) w13 ∧
  ptrC q_14 fun a_2 => (0 : Int) ≤ n_20 ∧ n_20 < ((q_14n : Nat) : Int) ∧
  (∃ v0 : Value, World.cell? w13 ((Addr.add a_2 ((Int.toNat n_20) * 2)).add 1) = some v0) ∧ World.frozen? w13 ((Addr.add a_2 ((Int.toNat n_20) * 2)).add 1) = false ∧
  ∀ w14 : World, w14 = (World.setCell w13 ((Addr.add a_2 ((Int.toNat n_20) * 2)).add 1) (.int .i64 v)) →
  (∃ v0 : Value, World.cell? w14 ⟨g, 4, none⟩ = some v0) ∧ World.frozen? w14 ⟨g, 4, none⟩ = false ∧
  ∀ w15 : World, w15 = (World.setCell w14 ⟨g, 4, none⟩ (.slice q_14 q_14n q_14c)) →
  ∃ (n_21 : Int), World.cell? w15 ⟨g, 0, none⟩ = some (.int .i64 n_21) ∧
  ∃ (n_22 : Int), World.cell? w15 ⟨g, 1, none⟩ = some (.int .i64 n_22) ∧
  ∃ (q_15 : Option Addr) (q_15n q_15c : Nat), World.cell? w15 ⟨g, 2, none⟩ = some (.slice q_15 q_15n q_15c) ∧
  ∃ (n_23 : Int), World.cell? w15 ⟨g, 3, none⟩ = some (.int .i64 n_23) ∧
  ∃ (q_16 : Option Addr) (q_16n q_16c : Nat), World.cell? w15 ⟨g, 4, none⟩ = some (.slice q_16 q_16n q_16c) ∧
  ∃ (n_24 : Int), World.cell? w15 ⟨g, 5, none⟩ = some (.int .i64 n_24) ∧
  storeN ⟨g_2, 0, none⟩ [(.int .i64 n_21 : Value), .int .i64 n_22, .slice q_15 q_15n q_15c, .int .i64 n_23, .slice q_16 q_16n q_16c, .int .i64 n_24] 0 w15 fun w16 => ∀ w17 : World, w17 = w16 →
  ∃ (n_25 : Int), World.cell? w17 ⟨g_2, 0, none⟩ = some (.int .i64 n_25) ∧
  ∃ (n_26 : Int), World.cell? w17 ⟨g_2, 1, none⟩ = some (.int .i64 n_26) ∧
  ∃ (q_17 : Option Addr) (q_17n q_17c : Nat), World.cell? w17 ⟨g_2, 2, none⟩ = some (.slice q_17 q_17n q_17c) ∧
  ∃ (n_27 : Int), World.cell? w17 ⟨g_2, 3, none⟩ = some (.int .i64 n_27) ∧
  ∃ (q_18 : Option Addr) (q_18n q_18c : Nat), World.cell? w17 ⟨g_2, 4, none⟩ = some (.slice q_18 q_18n q_18c) ∧
  ∃ (n_28 : Int), World.cell? w17 ⟨g_2, 5, none⟩ = some (.int .i64 n_28) ∧
  R (.returned (.tuple #[.agg #[.int .i64 n_25, .int .i64 n_26, .slice q_17 q_17n q_17c, .int .i64 n_27, .slice q_18 q_18n q_18c, .int .i64 n_28], .bool false])) w17) ∧
  ((decide ((n_20 : Int) ≥ 0)) = false →
  ∃ (n_29 : Int), World.cell? w12 ⟨g, 1, none⟩ = some (.int .i64 n_29) ∧
  (((n_29 : Int) == 0) = true →
  (∃ v0 : Value, World.cell? w12 ⟨g, 1, none⟩ = some v0) ∧ World.frozen? w12 ⟨g, 1, none⟩ = false ∧
  ∀ w18 : World, w18 = (World.setCell w12 ⟨g, 1, none⟩ (.int .i64 4)) →
  V29_k1 key v ⟨g, 0, none⟩ ⟨g_2, 0, none⟩ w18 R) ∧
  (((n_29 : Int) == 0) = false →
  ∃ (n_42 : Int), World.cell? w12 ⟨g, 0, none⟩ = some (.int .i64 n_42) ∧
  ∃ (n_43 : Int), World.cell? w12 ⟨g, 1, none⟩ = some (.int .i64 n_43) ∧
  ∃ (q_29 : Option Addr) (q_29n q_29c : Nat), World.cell? w12 ⟨g, 2, none⟩ = some (.slice q_29 q_29n q_29c) ∧
  ∃ (n_44 : Int), World.cell? w12 ⟨g, 3, none⟩ = some (.int .i64 n_44) ∧
  ∃ (q_30 : Option Addr) (q_30n q_30c : Nat), World.cell? w12 ⟨g, 4, none⟩ = some (.slice q_30 q_30n q_30c) ∧
  ∃ (n_45 : Int), World.cell? w12 ⟨g, 5, none⟩ = some (.int .i64 n_45) ∧
  Calls Try.prog 67 #[.agg #[.int .i64 n_42, .int .i64 n_43, .slice q_29 q_29n q_29c, .int .i64 n_44, .slice q_30 q_30n q_30c, .int .i64 n_45]] w12 fun e_ w28 => ∃ (b_2 : Bool), e_ = .returned (.bool b_2) ∧
  ((!b_2) = true →
  ∃ (q_31 : Option Addr) (q_31n q_31c : Nat), World.cell? w28 ⟨g, 2, none⟩ = some (.slice q_31 q_31n q_31c) ∧
  ∃ (n_46 : Int), World.cell? w28 ⟨g, 1, none⟩ = some (.int .i64 n_46) ∧
  V29_k3 key v ⟨g, 0, none⟩ ⟨g_2, 0, none⟩ (decide ((((q_31n : Nat) : Int) : Int) ≥ n_46)) w28 R) ∧
  ((!b_2) = !true →
  V29_k3 key v ⟨g, 0, none⟩ ⟨g_2, 0, none⟩ false w28 R))))
theorem b29 : Try.f29.body = some (bodyOf Try.f29) := by kernel_rfl
theorem ok29 : okF Try.prog an29 Try.f29 (bodyOf Try.f29) 3 = true := by kernel_rfl
theorem e29 (d : Int) (d_2 : Int) (d_3 : Option Addr) (d_3n d_3c : Nat) (d_4 : Int) (d_5 : Option Addr) (d_5n d_5c : Nat) (d_6 : Int) (key : ByteArray) (v : Int) (w : World) (R : Ending → World → Prop) : vcF Try.prog an29 Try.f29 (bodyOf Try.f29) [.agg #[.int .i64 d, .int .i64 d_2, .slice d_3 d_3n d_3c, .int .i64 d_4, .slice d_5 d_5n d_5c, .int .i64 d_6], .string key, .int .i64 v] w R = V29 d d_2 d_3 d_3n d_3c d_4 d_5 d_5n d_5c d_6 key v w R := by kernel_rfl
theorem v29 (d : Int) (d_2 : Int) (d_3 : Option Addr) (d_3n d_3c : Nat) (d_4 : Int) (d_5 : Option Addr) (d_5n d_5c : Nat) (d_6 : Int) (key : ByteArray) (v : Int) (w : World) (R : Ending → World → Prop) (hV : V29 d d_2 d_3 d_3n d_3c d_4 d_5 d_5n d_5c d_6 key v w R) : Calls Try.prog 29 #[.agg #[.int .i64 d, .int .i64 d_2, .slice d_3 d_3n d_3c, .int .i64 d_4, .slice d_5 d_5n d_5c, .int .i64 d_6], .string key, .int .i64 v] w R := calls_vc mixed Try.func29 b29 rfl ok29 (e29 d d_2 d_3 d_3n d_3c d_4 d_5 d_5n d_5c d_6 key v w R) hV

/-- cistern/cisternref08.Delete -/
def an30 : Ann := { loops := [(13, [(9, .int .i64)])], draws := [], tys := [] }
set_option maxRecDepth 100000 in
def V30_k4 (d_10 : Addr) (a_4 : Addr) (w23 : World) (R : Ending → World → Prop) : Prop :=
  ∃ (n_44 : Int), World.cell? w23 d_10 = some (.int .i64 n_44) ∧
  ∃ (n_45 : Int), World.cell? w23 (d_10.add 1) = some (.int .i64 n_45) ∧
  ∃ (q_24 : Option Addr) (q_24n q_24c : Nat), World.cell? w23 (d_10.add 2) = some (.slice q_24 q_24n q_24c) ∧
  ∃ (n_46 : Int), World.cell? w23 (d_10.add 3) = some (.int .i64 n_46) ∧
  ∃ (q_25 : Option Addr) (q_25n q_25c : Nat), World.cell? w23 (d_10.add 4) = some (.slice q_25 q_25n q_25c) ∧
  ∃ (n_47 : Int), World.cell? w23 (d_10.add 5) = some (.int .i64 n_47) ∧
  storeN a_4 [(.int .i64 n_44 : Value), .int .i64 n_45, .slice q_24 q_24n q_24c, .int .i64 n_46, .slice q_25 q_25n q_25c, .int .i64 n_47] 0 w23 fun w24 => ∀ w25 : World, w25 = w24 →
  ∃ (n_48 : Int), World.cell? w25 a_4 = some (.int .i64 n_48) ∧
  ∃ (n_49 : Int), World.cell? w25 (a_4.add 1) = some (.int .i64 n_49) ∧
  ∃ (q_26 : Option Addr) (q_26n q_26c : Nat), World.cell? w25 (a_4.add 2) = some (.slice q_26 q_26n q_26c) ∧
  ∃ (n_50 : Int), World.cell? w25 (a_4.add 3) = some (.int .i64 n_50) ∧
  ∃ (q_27 : Option Addr) (q_27n q_27c : Nat), World.cell? w25 (a_4.add 4) = some (.slice q_27 q_27n q_27c) ∧
  ∃ (n_51 : Int), World.cell? w25 (a_4.add 5) = some (.int .i64 n_51) ∧
  R (.returned (.tuple #[.agg #[.int .i64 n_48, .int .i64 n_49, .slice q_26 q_26n q_26c, .int .i64 n_50, .slice q_27 q_27n q_27c, .int .i64 n_51], .bool true])) w25
set_option maxRecDepth 100000 in
def V30_k3 (d_9 : Addr) (a_3 : Addr) (n_35 : Int) (b_3 : Bool) (w18 : World) (R : Ending → World → Prop) : Prop :=
  (b_3 = true →
  ∃ (I : Int → World → Prop) (M : Int → World → Nat), I 4 w18 ∧
  ∀ (size : Int) (w19 : World), I size w19 →
  ((decide ((size : Int) < n_35)) = true →
  (I (IntKind.wrap .i64 (2 * size)) w19 ∧ M (IntKind.wrap .i64 (2 * size)) w19 < M size w19)) ∧
  ((decide ((size : Int) < n_35)) = false →
  ∃ (n_36 : Int), World.cell? w19 d_9 = some (.int .i64 n_36) ∧
  ∃ (n_37 : Int), World.cell? w19 (d_9.add 1) = some (.int .i64 n_37) ∧
  ∃ (q_20 : Option Addr) (q_20n q_20c : Nat), World.cell? w19 (d_9.add 2) = some (.slice q_20 q_20n q_20c) ∧
  ∃ (n_38 : Int), World.cell? w19 (d_9.add 3) = some (.int .i64 n_38) ∧
  ∃ (q_21 : Option Addr) (q_21n q_21c : Nat), World.cell? w19 (d_9.add 4) = some (.slice q_21 q_21n q_21c) ∧
  ∃ (n_39 : Int), World.cell? w19 (d_9.add 5) = some (.int .i64 n_39) ∧
  Calls Try.prog 68 #[.agg #[.int .i64 n_36, .int .i64 n_37, .slice q_20 q_20n q_20c, .int .i64 n_38, .slice q_21 q_21n q_21c, .int .i64 n_39], .int .i64 size] w19 fun e_ w20 => ∃ (n_40 : Int), ∃ (n_41 : Int), ∃ (q_22 : Option Addr) (q_22n q_22c : Nat), ∃ (n_42 : Int), ∃ (q_23 : Option Addr) (q_23n q_23c : Nat), ∃ (n_43 : Int), e_ = .returned (.agg #[.int .i64 n_40, .int .i64 n_41, .slice q_22 q_22n q_22c, .int .i64 n_42, .slice q_23 q_23n q_23c, .int .i64 n_43]) ∧
  storeN d_9 [(.int .i64 n_40 : Value), .int .i64 n_41, .slice q_22 q_22n q_22c, .int .i64 n_42, .slice q_23 q_23n q_23c, .int .i64 n_43] 0 w20 fun w21 => ∀ w22 : World, w22 = w21 →
  V30_k4 d_9 a_3 w22 R)) ∧
  (b_3 = false →
  V30_k4 d_9 a_3 w18 R)
set_option maxRecDepth 100000 in
def V30_k2 (d_8 : Addr) (a_2 : Addr) (w13 : World) (R : Ending → World → Prop) : Prop :=
  ∃ (n_21 : Int), World.cell? w13 d_8 = some (.int .i64 n_21) ∧
  ∃ (n_22 : Int), World.cell? w13 (d_8.add 1) = some (.int .i64 n_22) ∧
  ∃ (q_13 : Option Addr) (q_13n q_13c : Nat), World.cell? w13 (d_8.add 2) = some (.slice q_13 q_13n q_13c) ∧
  ∃ (n_23 : Int), World.cell? w13 (d_8.add 3) = some (.int .i64 n_23) ∧
  ∃ (q_14 : Option Addr) (q_14n q_14c : Nat), World.cell? w13 (d_8.add 4) = some (.slice q_14 q_14n q_14c) ∧
  ∃ (n_24 : Int), World.cell? w13 (d_8.add 5) = some (.int .i64 n_24) ∧
  Calls Try.prog 71 #[.agg #[.int .i64 n_21, .int .i64 n_22, .slice q_13 q_13n q_13c, .int .i64 n_23, .slice q_14 q_14n q_14c, .int .i64 n_24]] w13 fun e_ w14 => ∃ (n_25 : Int), ∃ (n_26 : Int), ∃ (q_15 : Option Addr) (q_15n q_15c : Nat), ∃ (n_27 : Int), ∃ (q_16 : Option Addr) (q_16n q_16c : Nat), ∃ (n_28 : Int), e_ = .returned (.agg #[.int .i64 n_25, .int .i64 n_26, .slice q_15 q_15n q_15c, .int .i64 n_27, .slice q_16 q_16n q_16c, .int .i64 n_28]) ∧
  storeN d_8 [(.int .i64 n_25 : Value), .int .i64 n_26, .slice q_15 q_15n q_15c, .int .i64 n_27, .slice q_16 q_16n q_16c, .int .i64 n_28] 0 w14 fun w15 => ∀ w16 : World, w16 = w15 →
  ∃ (q_17 : Option Addr) (q_17n q_17c : Nat), World.cell? w16 (d_8.add 2) = some (.slice q_17 q_17n q_17c) ∧
  ∃ (n_29 : Int), World.cell? w16 d_8 = some (.int .i64 n_29) ∧
  ∃ (n_30 : Int), World.cell? w16 (d_8.add 1) = some (.int .i64 n_30) ∧
  ∃ (q_18 : Option Addr) (q_18n q_18c : Nat), World.cell? w16 (d_8.add 2) = some (.slice q_18 q_18n q_18c) ∧
  ∃ (n_31 : Int), World.cell? w16 (d_8.add 3) = some (.int .i64 n_31) ∧
  ∃ (q_19 : Option Addr) (q_19n q_19c : Nat), World.cell? w16 (d_8.add 4) = some (.slice q_19 q_19n q_19c) ∧
  ∃ (n_32 : Int), World.cell? w16 (d_8.add 5) = some (.int .i64 n_32) ∧
  Calls Try.prog 67 #[.agg #[.int .i64 n_29, .int .i64 n_30, .slice q_18 q_18n q_18c, .int .i64 n_31, .slice q_19 q_19n q_19c, .int .i64 n_32]] w16 fun e_ w17 => ∃ (b_2 : Bool), e_ = .returned (.bool b_2) ∧
  ((!b_2) = true →
  ∃ (n_33 : Int), World.cell? w17 (d_8.add 1) = some (.int .i64 n_33) ∧
  ((decide ((n_33 : Int) > 4)) = true →
  ∃ (n_34 : Int), World.cell? w17 (d_8.add 1) = some (.int .i64 n_34) ∧
  V30_k3 d_8 a_2 ((q_17n : Nat) : Int) (decide (((IntKind.wrap .i64 (8 * ((q_17n : Nat) : Int))) : Int) ≤ n_34)) w17 R) ∧
  ((decide ((n_33 : Int) > 4)) = !true →
  V30_k3 d_8 a_2 ((q_17n : Nat) : Int) false w17 R)) ∧
  ((!b_2) = !true →
  V30_k3 d_8 a_2 ((q_17n : Nat) : Int) false w17 R)
set_option maxRecDepth 100000 in
def V30_k1 (d_7 : Addr) (a : Addr) (i : Int) (k : Int) (b : Bool) (w8 : World) (R : Ending → World → Prop) : Prop :=
  (b = true →
  ∃ (n_13 : Int), World.cell? w8 d_7 = some (.int .i64 n_13) ∧
  ∃ (n_14 : Int), World.cell? w8 (d_7.add 1) = some (.int .i64 n_14) ∧
  ∃ (q_7 : Option Addr) (q_7n q_7c : Nat), World.cell? w8 (d_7.add 2) = some (.slice q_7 q_7n q_7c) ∧
  ∃ (n_15 : Int), World.cell? w8 (d_7.add 3) = some (.int .i64 n_15) ∧
  ∃ (q_8 : Option Addr) (q_8n q_8c : Nat), World.cell? w8 (d_7.add 4) = some (.slice q_8 q_8n q_8c) ∧
  ∃ (n_16 : Int), World.cell? w8 (d_7.add 5) = some (.int .i64 n_16) ∧
  storeN a [(.int .i64 n_13 : Value), .int .i64 n_14, .slice q_7 q_7n q_7c, .int .i64 n_15, .slice q_8 q_8n q_8c, .int .i64 n_16] 0 w8 fun w9 => ∀ w10 : World, w10 = w9 →
  ∃ (n_17 : Int), World.cell? w10 a = some (.int .i64 n_17) ∧
  ∃ (n_18 : Int), World.cell? w10 (a.add 1) = some (.int .i64 n_18) ∧
  ∃ (q_9 : Option Addr) (q_9n q_9c : Nat), World.cell? w10 (a.add 2) = some (.slice q_9 q_9n q_9c) ∧
  ∃ (n_19 : Int), World.cell? w10 (a.add 3) = some (.int .i64 n_19) ∧
  ∃ (q_10 : Option Addr) (q_10n q_10c : Nat), World.cell? w10 (a.add 4) = some (.slice q_10 q_10n q_10c) ∧
  ∃ (n_20 : Int), World.cell? w10 (a.add 5) = some (.int .i64 n_20) ∧
  R (.returned (.tuple #[.agg #[.int .i64 n_17, .int .i64 n_18, .slice q_9 q_9n q_9c, .int .i64 n_19, .slice q_10 q_10n q_10c, .int .i64 n_20], .bool false])) w10) ∧
  (b = false →
  ((decide ((i : Int) ≥ 0)) = true →
  ∃ (q_11 : Option Addr) (q_11n q_11c : Nat), World.cell? w8 (d_7.add 2) = some (.slice q_11 q_11n q_11c) ∧
  Calls Try.prog 70 #[.slice q_11 q_11n q_11c, .int .i64 i] w8 fun e_ w11 => ∃ (q_12 : Option Addr) (q_12n q_12c : Nat), e_ = .returned (.slice q_12 q_12n q_12c) ∧
  (∃ v0 : Value, World.cell? w11 (d_7.add 2) = some v0) ∧ World.frozen? w11 (d_7.add 2) = false ∧
  ∀ w12 : World, w12 = (World.setCell w11 (d_7.add 2) (.slice q_12 q_12n q_12c)) →
  V30_k2 d_7 a w12 R) ∧
  ((decide ((i : Int) ≥ 0)) = false →
  ∃ (q_28 : Option Addr) (q_28n q_28c : Nat), World.cell? w8 (d_7.add 4) = some (.slice q_28 q_28n q_28c) ∧
  Calls Try.prog 70 #[.slice q_28 q_28n q_28c, .int .i64 k] w8 fun e_ w26 => ∃ (q_29 : Option Addr) (q_29n q_29c : Nat), e_ = .returned (.slice q_29 q_29n q_29c) ∧
  (∃ v0 : Value, World.cell? w26 (d_7.add 4) = some v0) ∧ World.frozen? w26 (d_7.add 4) = false ∧
  ∀ w27 : World, w27 = (World.setCell w26 (d_7.add 4) (.slice q_29 q_29n q_29c)) →
  V30_k2 d_7 a w27 R))
set_option maxRecDepth 100000 in
def V30 (d : Int) (d_2 : Int) (d_3 : Option Addr) (d_3n d_3c : Nat) (d_4 : Int) (d_5 : Option Addr) (d_5n d_5c : Nat) (d_6 : Int) (key : ByteArray) (w : World) (R : Ending → World → Prop) : Prop :=
  ∀ (g : Nat) (w1 : World), g = (World.heap w).size → w1 = World.alloc w (.cells #[.int .i64 d, .int .i64 d_2, .slice d_3 d_3n d_3c, .int .i64 d_4, .slice d_5 d_5n d_5c, .int .i64 d_6] 55) →
  ∀ (g_2 : Nat) (w2 : World), g_2 = (World.heap w1).size → w2 = World.alloc w1 (.cells #[.int .i64 0, .int .i64 0, .slice none 0 0, .int .i64 0, .slice none 0 0, .int .i64 0] 55) →
  ∃ (n : Int), World.cell? w2 ⟨g, 0, none⟩ = some (.int .i64 n) ∧
  ∃ (n_2 : Int), World.cell? w2 ⟨g, 1, none⟩ = some (.int .i64 n_2) ∧
  ∃ (q : Option Addr) (qn qc : Nat), World.cell? w2 ⟨g, 2, none⟩ = some (.slice q qn qc) ∧
  ∃ (n_3 : Int), World.cell? w2 ⟨g, 3, none⟩ = some (.int .i64 n_3) ∧
  ∃ (q_2 : Option Addr) (q_2n q_2c : Nat), World.cell? w2 ⟨g, 4, none⟩ = some (.slice q_2 q_2n q_2c) ∧
  ∃ (n_4 : Int), World.cell? w2 ⟨g, 5, none⟩ = some (.int .i64 n_4) ∧
  Calls Try.prog 65 #[.agg #[.int .i64 n, .int .i64 n_2, .slice q qn qc, .int .i64 n_3, .slice q_2 q_2n q_2c, .int .i64 n_4]] w2 fun e_ w3 => ∃ (n_5 : Int), ∃ (n_6 : Int), ∃ (q_3 : Option Addr) (q_3n q_3c : Nat), ∃ (n_7 : Int), ∃ (q_4 : Option Addr) (q_4n q_4c : Nat), ∃ (n_8 : Int), e_ = .returned (.agg #[.int .i64 n_5, .int .i64 n_6, .slice q_3 q_3n q_3c, .int .i64 n_7, .slice q_4 q_4n q_4c, .int .i64 n_8]) ∧
  storeN ⟨g, 0, none⟩ [(.int .i64 n_5 : Value), .int .i64 n_6, .slice q_3 q_3n q_3c, .int .i64 n_7, .slice q_4 q_4n q_4c, .int .i64 n_8] 0 w3 fun w4 => ∀ w5 : World, w5 = w4 →
  ∃ (n_9 : Int), World.cell? w5 ⟨g, 1, none⟩ = some (.int .i64 n_9) ∧
  ∃ (q_5 : Option Addr) (q_5n q_5c : Nat), World.cell? w5 ⟨g, 2, none⟩ = some (.slice q_5 q_5n q_5c) ∧
  Calls Try.prog 66 #[.agg #[.int .i64 n_9, .slice q_5 q_5n q_5c], .string key] w5 fun e_ w6 => ∃ (n_10 : Int), e_ = .returned (.int .i64 n_10) ∧
  ∃ (n_11 : Int), World.cell? w6 ⟨g, 3, none⟩ = some (.int .i64 n_11) ∧
  ∃ (q_6 : Option Addr) (q_6n q_6c : Nat), World.cell? w6 ⟨g, 4, none⟩ = some (.slice q_6 q_6n q_6c) ∧
  Calls Try.prog 66 #[.agg #[.int .i64 n_11, .slice q_6 q_6n q_6c], .string key] w6 fun e_ w7 => ∃ (n_12 : Int), e_ = .returned (.int .i64 n_12) ∧
  ((decide ((n_10 : Int) < 0)) = true →
  V30_k1 ⟨g, 0, none⟩ ⟨g_2, 0, none⟩ n_10 n_12 (decide ((n_12 : Int) < 0)) w7 R) ∧
  ((decide ((n_10 : Int) < 0)) = !true →
  V30_k1 ⟨g, 0, none⟩ ⟨g_2, 0, none⟩ n_10 n_12 false w7 R)
theorem b30 : Try.f30.body = some (bodyOf Try.f30) := by kernel_rfl
theorem ok30 : okF Try.prog an30 Try.f30 (bodyOf Try.f30) 2 = true := by kernel_rfl
theorem e30 (d : Int) (d_2 : Int) (d_3 : Option Addr) (d_3n d_3c : Nat) (d_4 : Int) (d_5 : Option Addr) (d_5n d_5c : Nat) (d_6 : Int) (key : ByteArray) (w : World) (R : Ending → World → Prop) : vcF Try.prog an30 Try.f30 (bodyOf Try.f30) [.agg #[.int .i64 d, .int .i64 d_2, .slice d_3 d_3n d_3c, .int .i64 d_4, .slice d_5 d_5n d_5c, .int .i64 d_6], .string key] w R = V30 d d_2 d_3 d_3n d_3c d_4 d_5 d_5n d_5c d_6 key w R := by kernel_rfl
theorem v30 (d : Int) (d_2 : Int) (d_3 : Option Addr) (d_3n d_3c : Nat) (d_4 : Int) (d_5 : Option Addr) (d_5n d_5c : Nat) (d_6 : Int) (key : ByteArray) (w : World) (R : Ending → World → Prop) (hV : V30 d d_2 d_3 d_3n d_3c d_4 d_5 d_5n d_5c d_6 key w R) : Calls Try.prog 30 #[.agg #[.int .i64 d, .int .i64 d_2, .slice d_3 d_3n d_3c, .int .i64 d_4, .slice d_5 d_5n d_5c, .int .i64 d_6], .string key] w R := calls_vc mixed Try.func30 b30 rfl ok30 (e30 d d_2 d_3 d_3n d_3c d_4 d_5 d_5n d_5c d_6 key w R) hV

/-- cistern/cisternref08.Step -/
def an32 : Ann := { loops := [(2, [(5, .int .i64)])], draws := [], tys := [] }
set_option maxRecDepth 100000 in
def V32_k1 (I : Int → World → Prop) (M : Int → World → Nat) (i : Int) (w3 : World) (n_6 : Int) (d_7 : Addr) (a : Addr) (i_2 : Int) (b_2 : Bool) (w5 : World) (R : Ending → World → Prop) : Prop :=
  (b_2 = true →
  ∃ (n_7 : Int), World.cell? w5 d_7 = some (.int .i64 n_7) ∧
  ∃ (n_8 : Int), World.cell? w5 (d_7.add 1) = some (.int .i64 n_8) ∧
  ∃ (q_3 : Option Addr) (q_3n q_3c : Nat), World.cell? w5 (d_7.add 2) = some (.slice q_3 q_3n q_3c) ∧
  ∃ (n_9 : Int), World.cell? w5 (d_7.add 3) = some (.int .i64 n_9) ∧
  ∃ (q_4 : Option Addr) (q_4n q_4c : Nat), World.cell? w5 (d_7.add 4) = some (.slice q_4 q_4n q_4c) ∧
  ∃ (n_10 : Int), World.cell? w5 (d_7.add 5) = some (.int .i64 n_10) ∧
  Calls Try.prog 65 #[.agg #[.int .i64 n_7, .int .i64 n_8, .slice q_3 q_3n q_3c, .int .i64 n_9, .slice q_4 q_4n q_4c, .int .i64 n_10]] w5 fun e_ w6 => ∃ (n_11 : Int), ∃ (n_12 : Int), ∃ (q_5 : Option Addr) (q_5n q_5c : Nat), ∃ (n_13 : Int), ∃ (q_6 : Option Addr) (q_6n q_6c : Nat), ∃ (n_14 : Int), e_ = .returned (.agg #[.int .i64 n_11, .int .i64 n_12, .slice q_5 q_5n q_5c, .int .i64 n_13, .slice q_6 q_6n q_6c, .int .i64 n_14]) ∧
  storeN d_7 [(.int .i64 n_11 : Value), .int .i64 n_12, .slice q_5 q_5n q_5c, .int .i64 n_13, .slice q_6 q_6n q_6c, .int .i64 n_14] 0 w6 fun w7 => ∀ w8 : World, w8 = w7 →
  (I (IntKind.wrap .i64 (i_2 + 1)) w8 ∧ M (IntKind.wrap .i64 (i_2 + 1)) w8 < M i w3)) ∧
  (b_2 = false →
  ∃ (n_15 : Int), World.cell? w5 d_7 = some (.int .i64 n_15) ∧
  ∃ (n_16 : Int), World.cell? w5 (d_7.add 1) = some (.int .i64 n_16) ∧
  ∃ (q_7 : Option Addr) (q_7n q_7c : Nat), World.cell? w5 (d_7.add 2) = some (.slice q_7 q_7n q_7c) ∧
  ∃ (n_17 : Int), World.cell? w5 (d_7.add 3) = some (.int .i64 n_17) ∧
  ∃ (q_8 : Option Addr) (q_8n q_8c : Nat), World.cell? w5 (d_7.add 4) = some (.slice q_8 q_8n q_8c) ∧
  ∃ (n_18 : Int), World.cell? w5 (d_7.add 5) = some (.int .i64 n_18) ∧
  storeN a [(.int .i64 n_15 : Value), .int .i64 n_16, .slice q_7 q_7n q_7c, .int .i64 n_17, .slice q_8 q_8n q_8c, .int .i64 n_18] 0 w5 fun w9 => ∀ w10 : World, w10 = w9 →
  ∃ (n_19 : Int), World.cell? w10 a = some (.int .i64 n_19) ∧
  ∃ (n_20 : Int), World.cell? w10 (a.add 1) = some (.int .i64 n_20) ∧
  ∃ (q_9 : Option Addr) (q_9n q_9c : Nat), World.cell? w10 (a.add 2) = some (.slice q_9 q_9n q_9c) ∧
  ∃ (n_21 : Int), World.cell? w10 (a.add 3) = some (.int .i64 n_21) ∧
  ∃ (q_10 : Option Addr) (q_10n q_10c : Nat), World.cell? w10 (a.add 4) = some (.slice q_10 q_10n q_10c) ∧
  ∃ (n_22 : Int), World.cell? w10 (a.add 5) = some (.int .i64 n_22) ∧
  R (.returned (.agg #[.int .i64 n_19, .int .i64 n_20, .slice q_9 q_9n q_9c, .int .i64 n_21, .slice q_10 q_10n q_10c, .int .i64 n_22])) w10)
set_option maxRecDepth 100000 in
def V32 (d : Int) (d_2 : Int) (d_3 : Option Addr) (d_3n d_3c : Nat) (d_4 : Int) (d_5 : Option Addr) (d_5n d_5c : Nat) (d_6 : Int) (n : Int) (w : World) (R : Ending → World → Prop) : Prop :=
  ∀ (g : Nat) (w1 : World), g = (World.heap w).size → w1 = World.alloc w (.cells #[.int .i64 d, .int .i64 d_2, .slice d_3 d_3n d_3c, .int .i64 d_4, .slice d_5 d_5n d_5c, .int .i64 d_6] 55) →
  ∀ (g_2 : Nat) (w2 : World), g_2 = (World.heap w1).size → w2 = World.alloc w1 (.cells #[.int .i64 0, .int .i64 0, .slice none 0 0, .int .i64 0, .slice none 0 0, .int .i64 0] 55) →
  ∃ (I : Int → World → Prop) (M : Int → World → Nat), I 0 w2 ∧
  ∀ (i : Int) (w3 : World), I i w3 →
  ((decide ((i : Int) < n)) = true →
  ∃ (n_2 : Int), World.cell? w3 ⟨g, 0, none⟩ = some (.int .i64 n_2) ∧
  ∃ (n_3 : Int), World.cell? w3 ⟨g, 1, none⟩ = some (.int .i64 n_3) ∧
  ∃ (q : Option Addr) (qn qc : Nat), World.cell? w3 ⟨g, 2, none⟩ = some (.slice q qn qc) ∧
  ∃ (n_4 : Int), World.cell? w3 ⟨g, 3, none⟩ = some (.int .i64 n_4) ∧
  ∃ (q_2 : Option Addr) (q_2n q_2c : Nat), World.cell? w3 ⟨g, 4, none⟩ = some (.slice q_2 q_2n q_2c) ∧
  ∃ (n_5 : Int), World.cell? w3 ⟨g, 5, none⟩ = some (.int .i64 n_5) ∧
  Calls Try.prog 67 #[.agg #[.int .i64 n_2, .int .i64 n_3, .slice q qn qc, .int .i64 n_4, .slice q_2 q_2n q_2c, .int .i64 n_5]] w3 fun e_ w4 => ∃ (b : Bool), e_ = .returned (.bool b) ∧
  V32_k1 I M i w3 n ⟨g, 0, none⟩ ⟨g_2, 0, none⟩ i b w4 R) ∧
  ((decide ((i : Int) < n)) = !true →
  V32_k1 I M i w3 n ⟨g, 0, none⟩ ⟨g_2, 0, none⟩ i false w3 R)
theorem b32 : Try.f32.body = some (bodyOf Try.f32) := by kernel_rfl
theorem ok32 : okF Try.prog an32 Try.f32 (bodyOf Try.f32) 2 = true := by kernel_rfl
theorem e32 (d : Int) (d_2 : Int) (d_3 : Option Addr) (d_3n d_3c : Nat) (d_4 : Int) (d_5 : Option Addr) (d_5n d_5c : Nat) (d_6 : Int) (n : Int) (w : World) (R : Ending → World → Prop) : vcF Try.prog an32 Try.f32 (bodyOf Try.f32) [.agg #[.int .i64 d, .int .i64 d_2, .slice d_3 d_3n d_3c, .int .i64 d_4, .slice d_5 d_5n d_5c, .int .i64 d_6], .int .i64 n] w R = V32 d d_2 d_3 d_3n d_3c d_4 d_5 d_5n d_5c d_6 n w R := by kernel_rfl
theorem v32 (d : Int) (d_2 : Int) (d_3 : Option Addr) (d_3n d_3c : Nat) (d_4 : Int) (d_5 : Option Addr) (d_5n d_5c : Nat) (d_6 : Int) (n : Int) (w : World) (R : Ending → World → Prop) (hV : V32 d d_2 d_3 d_3n d_3c d_4 d_5 d_5n d_5c d_6 n w R) : Calls Try.prog 32 #[.agg #[.int .i64 d, .int .i64 d_2, .slice d_3 d_3n d_3c, .int .i64 d_4, .slice d_5 d_5n d_5c, .int .i64 d_6], .int .i64 n] w R := calls_vc mixed Try.func32 b32 rfl ok32 (e32 d d_2 d_3 d_3n d_3c d_4 d_5 d_5n d_5c d_6 n w R) hV

/-- cistern/cisternref08.Scan -/
def an33 : Ann := { loops := [(5, [(1, .int .i64), (8, .slice)])], draws := [], tys := [] }
set_option maxRecDepth 100000 in
def V33_k1 (I : Int → Option Addr → Nat → Nat → World → Prop) (M : Int → Option Addr → Nat → Nat → World → Nat) (c_2 : Int) (out : Option Addr) (outn : Nat) (outc : Nat) (w2 : World) (c_3 : Int) (n_8 : Int) (d_7 : Addr) (out_2 : Option Addr) (out_2n out_2c : Nat) (b : Bool) (w5 : World) (R : Ending → World → Prop) : Prop :=
  (b = true →
  R (.returned (.tuple #[.slice out_2 out_2n out_2c, .int .i64 c_3])) w5) ∧
  (b = false →
  (I c_3 out_2 out_2n out_2c w5 ∧ M c_3 out_2 out_2n out_2c w5 < M c_2 out outn outc w2))
set_option maxRecDepth 100000 in
def V33 (d : Int) (d_2 : Int) (d_3 : Option Addr) (d_3n d_3c : Nat) (d_4 : Int) (d_5 : Option Addr) (d_5n d_5c : Nat) (d_6 : Int) (c : Int) (n : Int) (w : World) (R : Ending → World → Prop) : Prop :=
  ∀ (g : Nat) (w1 : World), g = (World.heap w).size → w1 = World.alloc w (.cells #[.int .i64 d, .int .i64 d_2, .slice d_3 d_3n d_3c, .int .i64 d_4, .slice d_5 d_5n d_5c, .int .i64 d_6] 55) →
  ∃ (n_2 : Int), World.cell? w1 ⟨g, 1, none⟩ = some (.int .i64 n_2) ∧
  (((n_2 : Int) == 0) = true →
  R (.returned (.tuple #[.slice none 0 0, .int .i64 0])) w1) ∧
  (((n_2 : Int) == 0) = false →
  ∃ (I : Int → Option Addr → Nat → Nat → World → Prop) (M : Int → Option Addr → Nat → Nat → World → Nat), I (if c > 0 then c else 0) none 0 0 w1 ∧
  ∀ (c_2 : Int) (out : Option Addr) (outn outc : Nat) (w2 : World), I c_2 out outn outc w2 →
  ∃ (n_3 : Int), World.cell? w2 ⟨g, 0, none⟩ = some (.int .i64 n_3) ∧
  ∃ (n_4 : Int), World.cell? w2 ⟨g, 1, none⟩ = some (.int .i64 n_4) ∧
  ∃ (q : Option Addr) (qn qc : Nat), World.cell? w2 ⟨g, 2, none⟩ = some (.slice q qn qc) ∧
  ∃ (n_5 : Int), World.cell? w2 ⟨g, 3, none⟩ = some (.int .i64 n_5) ∧
  ∃ (q_2 : Option Addr) (q_2n q_2c : Nat), World.cell? w2 ⟨g, 4, none⟩ = some (.slice q_2 q_2n q_2c) ∧
  ∃ (n_6 : Int), World.cell? w2 ⟨g, 5, none⟩ = some (.int .i64 n_6) ∧
  Calls Try.prog 72 #[.agg #[.int .i64 n_3, .int .i64 n_4, .slice q qn qc, .int .i64 n_5, .slice q_2 q_2n q_2c, .int .i64 n_6], .int .i64 c_2] w2 fun e_ w3 => ∃ (q_3 : Option Addr) (q_3n q_3c : Nat), ∃ (n_7 : Int), e_ = .returned (.tuple #[.slice q_3 q_3n q_3c, .int .i64 n_7]) ∧
  ∃ (q_4 : Option Addr) (q_4n q_4c : Nat), ∃ w4 : World, Sem.run Try.prog (builtin .append #[30, 30] 30 #[false, false] #[.slice out outn outc, .slice q_3 q_3n q_3c]) w3 = .ok (.value (.slice q_4 q_4n q_4c)) w4 ∧
  (((n_7 : Int) == 0) = false →
  V33_k1 I M c_2 out outn outc w2 n_7 n ⟨g, 0, none⟩ q_4 q_4n q_4c (decide ((((q_4n : Nat) : Int) : Int) ≥ (if n > 1 then n else 1))) w4 R) ∧
  (((n_7 : Int) == 0) = !false →
  V33_k1 I M c_2 out outn outc w2 n_7 n ⟨g, 0, none⟩ q_4 q_4n q_4c true w4 R))
theorem b33 : Try.f33.body = some (bodyOf Try.f33) := by kernel_rfl
theorem ok33 : okF Try.prog an33 Try.f33 (bodyOf Try.f33) 3 = true := by kernel_rfl
theorem e33 (d : Int) (d_2 : Int) (d_3 : Option Addr) (d_3n d_3c : Nat) (d_4 : Int) (d_5 : Option Addr) (d_5n d_5c : Nat) (d_6 : Int) (c : Int) (n : Int) (w : World) (R : Ending → World → Prop) : vcF Try.prog an33 Try.f33 (bodyOf Try.f33) [.agg #[.int .i64 d, .int .i64 d_2, .slice d_3 d_3n d_3c, .int .i64 d_4, .slice d_5 d_5n d_5c, .int .i64 d_6], .int .i64 c, .int .i64 n] w R = V33 d d_2 d_3 d_3n d_3c d_4 d_5 d_5n d_5c d_6 c n w R := by kernel_rfl
theorem v33 (d : Int) (d_2 : Int) (d_3 : Option Addr) (d_3n d_3c : Nat) (d_4 : Int) (d_5 : Option Addr) (d_5n d_5c : Nat) (d_6 : Int) (c : Int) (n : Int) (w : World) (R : Ending → World → Prop) (hV : V33 d d_2 d_3 d_3n d_3c d_4 d_5 d_5n d_5c d_6 c n w R) : Calls Try.prog 33 #[.agg #[.int .i64 d, .int .i64 d_2, .slice d_3 d_3n d_3c, .int .i64 d_4, .slice d_5 d_5n d_5c, .int .i64 d_6], .int .i64 c, .int .i64 n] w R := calls_vc mixed Try.func33 b33 rfl ok33 (e33 d d_2 d_3 d_3n d_3c d_4 d_5 d_5n d_5c d_6 c n w R) hV

/-- cistern/cisternref08.Get -/
def an36 : Ann := { loops := [], draws := [], tys := [] }
set_option maxRecDepth 100000 in
def V36 (d : Int) (d_2 : Int) (d_3 : Option Addr) (d_3n d_3c : Nat) (d_4 : Int) (d_5 : Option Addr) (d_5n d_5c : Nat) (d_6 : Int) (key : ByteArray) (w : World) (R : Ending → World → Prop) : Prop :=
  ∀ (g : Nat) (w1 : World), g = (World.heap w).size → w1 = World.alloc w (.cells #[.int .i64 d, .int .i64 d_2, .slice d_3 d_3n d_3c, .int .i64 d_4, .slice d_5 d_5n d_5c, .int .i64 d_6] 55) →
  ∃ (n : Int), World.cell? w1 ⟨g, 1, none⟩ = some (.int .i64 n) ∧
  ∃ (q : Option Addr) (qn qc : Nat), World.cell? w1 ⟨g, 2, none⟩ = some (.slice q qn qc) ∧
  Calls Try.prog 66 #[.agg #[.int .i64 n, .slice q qn qc], .string key] w1 fun e_ w2 => ∃ (n_2 : Int), e_ = .returned (.int .i64 n_2) ∧
  ((decide ((n_2 : Int) ≥ 0)) = true →
  ∃ (q_2 : Option Addr) (q_2n q_2c : Nat), World.cell? w2 ⟨g, 2, none⟩ = some (.slice q_2 q_2n q_2c) ∧
  ptrC q_2 fun a => (0 : Int) ≤ n_2 ∧ n_2 < ((q_2n : Nat) : Int) ∧
  ∃ (n_3 : Int), World.cell? w2 ((Addr.add a ((Int.toNat n_2) * 2)).add 1) = some (.int .i64 n_3) ∧
  R (.returned (.tuple #[.int .i64 n_3, .bool true])) w2) ∧
  ((decide ((n_2 : Int) ≥ 0)) = false →
  ∃ (n_4 : Int), World.cell? w2 ⟨g, 3, none⟩ = some (.int .i64 n_4) ∧
  ∃ (q_3 : Option Addr) (q_3n q_3c : Nat), World.cell? w2 ⟨g, 4, none⟩ = some (.slice q_3 q_3n q_3c) ∧
  Calls Try.prog 66 #[.agg #[.int .i64 n_4, .slice q_3 q_3n q_3c], .string key] w2 fun e_ w3 => ∃ (n_5 : Int), e_ = .returned (.int .i64 n_5) ∧
  ((decide ((n_5 : Int) ≥ 0)) = true →
  ∃ (q_4 : Option Addr) (q_4n q_4c : Nat), World.cell? w3 ⟨g, 4, none⟩ = some (.slice q_4 q_4n q_4c) ∧
  ptrC q_4 fun a_2 => (0 : Int) ≤ n_5 ∧ n_5 < ((q_4n : Nat) : Int) ∧
  ∃ (n_6 : Int), World.cell? w3 ((Addr.add a_2 ((Int.toNat n_5) * 2)).add 1) = some (.int .i64 n_6) ∧
  R (.returned (.tuple #[.int .i64 n_6, .bool true])) w3) ∧
  ((decide ((n_5 : Int) ≥ 0)) = false →
  R (.returned (.tuple #[.int .i64 0, .bool false])) w3))
theorem b36 : Try.f36.body = some (bodyOf Try.f36) := by kernel_rfl
theorem ok36 : okF Try.prog an36 Try.f36 (bodyOf Try.f36) 2 = true := by kernel_rfl
theorem e36 (d : Int) (d_2 : Int) (d_3 : Option Addr) (d_3n d_3c : Nat) (d_4 : Int) (d_5 : Option Addr) (d_5n d_5c : Nat) (d_6 : Int) (key : ByteArray) (w : World) (R : Ending → World → Prop) : vcF Try.prog an36 Try.f36 (bodyOf Try.f36) [.agg #[.int .i64 d, .int .i64 d_2, .slice d_3 d_3n d_3c, .int .i64 d_4, .slice d_5 d_5n d_5c, .int .i64 d_6], .string key] w R = V36 d d_2 d_3 d_3n d_3c d_4 d_5 d_5n d_5c d_6 key w R := by kernel_rfl
theorem v36 (d : Int) (d_2 : Int) (d_3 : Option Addr) (d_3n d_3c : Nat) (d_4 : Int) (d_5 : Option Addr) (d_5n d_5c : Nat) (d_6 : Int) (key : ByteArray) (w : World) (R : Ending → World → Prop) (hV : V36 d d_2 d_3 d_3n d_3c d_4 d_5 d_5n d_5c d_6 key w R) : Calls Try.prog 36 #[.agg #[.int .i64 d, .int .i64 d_2, .slice d_3 d_3n d_3c, .int .i64 d_4, .slice d_5 d_5n d_5c, .int .i64 d_6], .string key] w R := calls_vc mixed Try.func36 b36 rfl ok36 (e36 d d_2 d_3 d_3n d_3c d_4 d_5 d_5n d_5c d_6 key w R) hV

/-- cistern/cisternref08.step -/
def an65 : Ann := { loops := [(4, [(3, .int .i64)]), (8, [(4, .slice), (5, .int .i64)]), (14, [(6, .int .i64)])], draws := [(10, false, Tr.seq [1, 2, 4, 8, 9, 12, 0, 3, 5, 6, 7, 10, 11, 13] .nil, [11], [11], []), (16, false, Tr.seq [1, 2, 4, 8, 9, 12, 0, 3, 5, 6, 7, 10, 11, 13] .nil, [11], [11], []), (17, false, Tr.seq [0, 1, 3, 4, 6, 2, 5, 7, 8, 9, 10, 11, 12] .nil, [9, 12], [9], [])], tys := [] }
set_option maxRecDepth 100000 in
def V65_k2 (I_2 : Option Addr → Nat → Nat → Int → World → Prop) (M_2 : Option Addr → Nat → Nat → Int → World → Nat) (stay : Option Addr) (stayn : Nat) (stayc : Nat) (i : Int) (w7 : World) (d_8 : Addr) (a_4 : Addr) (b_4 : Int) (stay_3 : Option Addr) (stay_3n stay_3c : Nat) (i_3 : Int) (w15 : World) (R : Ending → World → Prop) : Prop :=
  (I_2 stay_3 stay_3n stay_3c (IntKind.wrap .i64 (i_3 + 1)) w15 ∧ M_2 stay_3 stay_3n stay_3c (IntKind.wrap .i64 (i_3 + 1)) w15 < M_2 stay stayn stayc i w7)
set_option maxRecDepth 100000 in
def V65_k1 (I_2 : Option Addr → Nat → Nat → Int → World → Prop) (M_2 : Option Addr → Nat → Nat → Int → World → Nat) (stay : Option Addr) (stayn : Nat) (stayc : Nat) (i : Int) (w7 : World) (d_7 : Addr) (a_3 : Addr) (b_3 : Int) (stay_2 : Option Addr) (stay_2n stay_2c : Nat) (i_2 : Int) (w14 : World) (R : Ending → World → Prop) : Prop :=
  V65_k2 I_2 M_2 stay stayn stayc i w7 d_7 a_3 b_3 stay_2 stay_2n stay_2c i_2 w14 R
set_option maxRecDepth 100000 in
def V65_k4 (I_3 : Int → World → Prop) (M_3 : Int → World → Nat) (i_4 : Int) (w16 : World) (d_10 : Addr) (a_8 : Addr) (b_6 : Int) (stay_5 : Option Addr) (stay_5n stay_5c : Nat) (i_6 : Int) (w28 : World) (R : Ending → World → Prop) : Prop :=
  (I_3 (IntKind.wrap .i64 (i_6 + 1)) w28 ∧ M_3 (IntKind.wrap .i64 (i_6 + 1)) w28 < M_3 i_4 w16)
set_option maxRecDepth 100000 in
def V65_k3 (I_3 : Int → World → Prop) (M_3 : Int → World → Nat) (i_4 : Int) (w16 : World) (d_9 : Addr) (a_7 : Addr) (b_5 : Int) (stay_4 : Option Addr) (stay_4n stay_4c : Nat) (i_5 : Int) (w27 : World) (R : Ending → World → Prop) : Prop :=
  V65_k4 I_3 M_3 i_4 w16 d_9 a_7 b_5 stay_4 stay_4n stay_4c i_5 w27 R
set_option maxRecDepth 100000 in
def V65 (d : Int) (d_2 : Int) (d_3 : Option Addr) (d_3n d_3c : Nat) (d_4 : Int) (d_5 : Option Addr) (d_5n d_5c : Nat) (d_6 : Int) (w : World) (R : Ending → World → Prop) : Prop :=
  ∀ (g : Nat) (w1 : World), g = (World.heap w).size → w1 = World.alloc w (.cells #[.int .i64 d, .int .i64 d_2, .slice d_3 d_3n d_3c, .int .i64 d_4, .slice d_5 d_5n d_5c, .int .i64 d_6] 55) →
  ∀ (g_2 : Nat) (w2 : World), g_2 = (World.heap w1).size → w2 = World.alloc w1 (.cells #[.int .i64 0, .int .i64 0, .slice none 0 0, .int .i64 0, .slice none 0 0, .int .i64 0] 55) →
  ∃ (n : Int), World.cell? w2 ⟨g, 0, none⟩ = some (.int .i64 n) ∧
  ∃ (n_2 : Int), World.cell? w2 ⟨g, 1, none⟩ = some (.int .i64 n_2) ∧
  ∃ (q : Option Addr) (qn qc : Nat), World.cell? w2 ⟨g, 2, none⟩ = some (.slice q qn qc) ∧
  ∃ (n_3 : Int), World.cell? w2 ⟨g, 3, none⟩ = some (.int .i64 n_3) ∧
  ∃ (q_2 : Option Addr) (q_2n q_2c : Nat), World.cell? w2 ⟨g, 4, none⟩ = some (.slice q_2 q_2n q_2c) ∧
  ∃ (n_4 : Int), World.cell? w2 ⟨g, 5, none⟩ = some (.int .i64 n_4) ∧
  Calls Try.prog 67 #[.agg #[.int .i64 n, .int .i64 n_2, .slice q qn qc, .int .i64 n_3, .slice q_2 q_2n q_2c, .int .i64 n_4]] w2 fun e_ w3 => ∃ (b : Bool), e_ = .returned (.bool b) ∧
  ((!b) = true →
  ∃ (n_5 : Int), World.cell? w3 ⟨g, 0, none⟩ = some (.int .i64 n_5) ∧
  ∃ (n_6 : Int), World.cell? w3 ⟨g, 1, none⟩ = some (.int .i64 n_6) ∧
  ∃ (q_3 : Option Addr) (q_3n q_3c : Nat), World.cell? w3 ⟨g, 2, none⟩ = some (.slice q_3 q_3n q_3c) ∧
  ∃ (n_7 : Int), World.cell? w3 ⟨g, 3, none⟩ = some (.int .i64 n_7) ∧
  ∃ (q_4 : Option Addr) (q_4n q_4c : Nat), World.cell? w3 ⟨g, 4, none⟩ = some (.slice q_4 q_4n q_4c) ∧
  ∃ (n_8 : Int), World.cell? w3 ⟨g, 5, none⟩ = some (.int .i64 n_8) ∧
  storeN ⟨g_2, 0, none⟩ [(.int .i64 n_5 : Value), .int .i64 n_6, .slice q_3 q_3n q_3c, .int .i64 n_7, .slice q_4 q_4n q_4c, .int .i64 n_8] 0 w3 fun w4 => ∀ w5 : World, w5 = w4 →
  ∃ (n_9 : Int), World.cell? w5 ⟨g_2, 0, none⟩ = some (.int .i64 n_9) ∧
  ∃ (n_10 : Int), World.cell? w5 ⟨g_2, 1, none⟩ = some (.int .i64 n_10) ∧
  ∃ (q_5 : Option Addr) (q_5n q_5c : Nat), World.cell? w5 ⟨g_2, 2, none⟩ = some (.slice q_5 q_5n q_5c) ∧
  ∃ (n_11 : Int), World.cell? w5 ⟨g_2, 3, none⟩ = some (.int .i64 n_11) ∧
  ∃ (q_6 : Option Addr) (q_6n q_6c : Nat), World.cell? w5 ⟨g_2, 4, none⟩ = some (.slice q_6 q_6n q_6c) ∧
  ∃ (n_12 : Int), World.cell? w5 ⟨g_2, 5, none⟩ = some (.int .i64 n_12) ∧
  R (.returned (.agg #[.int .i64 n_9, .int .i64 n_10, .slice q_5 q_5n q_5c, .int .i64 n_11, .slice q_6 q_6n q_6c, .int .i64 n_12])) w5) ∧
  ((!b) = false →
  ∃ (n_13 : Int), World.cell? w3 ⟨g, 5, none⟩ = some (.int .i64 n_13) ∧
  ∃ (I : Int → World → Prop) (M : Int → World → Nat), I n_13 w3 ∧
  ∀ (b_2 : Int) (w6 : World), I b_2 w6 →
  ∃ (n_14 : Int), World.cell? w6 ⟨g, 1, none⟩ = some (.int .i64 n_14) ∧
  ((decide ((b_2 : Int) < n_14)) = true →
  ∃ (I_2 : Option Addr → Nat → Nat → Int → World → Prop) (M_2 : Option Addr → Nat → Nat → Int → World → Nat), I_2 none 0 0 0 w6 ∧
  ∀ (stay : Option Addr) (stayn stayc : Nat) (i : Int) (w7 : World), I_2 stay stayn stayc i w7 →
  ∃ (q_7 : Option Addr) (q_7n q_7c : Nat), World.cell? w7 ⟨g, 2, none⟩ = some (.slice q_7 q_7n q_7c) ∧
  ((decide ((i : Int) < ((q_7n : Nat) : Int))) = true →
  ∀ w8 : World, Drawn w7 w8 →
  ∃ (n_15 : Int), World.cell? w8 ⟨g, 0, none⟩ = some (.int .i64 n_15) ∧
  ∃ (n_16 : Int), World.cell? w8 ⟨g, 1, none⟩ = some (.int .i64 n_16) ∧
  ∃ (q_8 : Option Addr) (q_8n q_8c : Nat), World.cell? w8 ⟨g, 2, none⟩ = some (.slice q_8 q_8n q_8c) ∧
  ∃ (n_17 : Int), World.cell? w8 ⟨g, 3, none⟩ = some (.int .i64 n_17) ∧
  ∃ (q_9 : Option Addr) (q_9n q_9c : Nat), World.cell? w8 ⟨g, 4, none⟩ = some (.slice q_9 q_9n q_9c) ∧
  ∃ (n_18 : Int), World.cell? w8 ⟨g, 5, none⟩ = some (.int .i64 n_18) ∧
  ∃ (q_10 : Option Addr) (q_10n q_10c : Nat), World.cell? w8 ⟨g, 2, none⟩ = some (.slice q_10 q_10n q_10c) ∧
  ptrC q_10 fun a => (0 : Int) ≤ i ∧ i < ((q_10n : Nat) : Int) ∧
  ∃ (s : ByteArray), World.cell? w8 (Addr.add a ((Int.toNat i) * 2)) = some (.string s) ∧
  ∃ (n_19 : Int), World.cell? w8 ⟨g, 1, none⟩ = some (.int .i64 n_19) ∧
  ∀ w9 : World, Drawn w8 w9 →
  Calls Try.prog 118 #[.agg #[.int .i64 n_15, .int .i64 n_16, .slice q_8 q_8n q_8c, .int .i64 n_17, .slice q_9 q_9n q_9c, .int .i64 n_18], .string s, .int .i64 n_19] w9 fun e_ w10 => ∃ (n_20 : Int), e_ = .returned (.int .i64 n_20) ∧
  Ext w9 w10 ∧
  ∀ w11 : World, Drawn w10 w11 →
  (((n_20 : Int) != b_2) = true →
  ∃ (q_11 : Option Addr) (q_11n q_11c : Nat), World.cell? w11 ⟨g, 2, none⟩ = some (.slice q_11 q_11n q_11c) ∧
  ptrC q_11 fun a_2 => (0 : Int) ≤ i ∧ i < ((q_11n : Nat) : Int) ∧
  ∃ (s_2 : ByteArray), World.cell? w11 (Addr.add a_2 ((Int.toNat i) * 2)) = some (.string s_2) ∧
  ∃ (n_21 : Int), World.cell? w11 ((Addr.add a_2 ((Int.toNat i) * 2)).add 1) = some (.int .i64 n_21) ∧
  ∀ (g_3 : Nat) (w12 : World), g_3 = (World.heap w11).size → w12 = World.alloc w11 (.cells #[.string s_2, .int .i64 n_21] 115) →
  ∃ (q_12 : Option Addr) (q_12n q_12c : Nat), ∃ w13 : World, Sem.run Try.prog (builtin .append #[51, 51] 51 #[false, false] #[.slice stay stayn stayc, .slice (some ⟨g_3, 0, none⟩) 1 1]) w12 = .ok (.value (.slice q_12 q_12n q_12c)) w13 ∧
  V65_k1 I_2 M_2 stay stayn stayc i w7 ⟨g, 0, none⟩ ⟨g_2, 0, none⟩ b_2 q_12 q_12n q_12c i w13 R) ∧
  (((n_20 : Int) != b_2) = false →
  V65_k1 I_2 M_2 stay stayn stayc i w7 ⟨g, 0, none⟩ ⟨g_2, 0, none⟩ b_2 stay stayn stayc i w11 R)) ∧
  ((decide ((i : Int) < ((q_7n : Nat) : Int))) = false →
  ∃ (q_13 : Option Addr) (q_13n q_13c : Nat), World.cell? w7 ⟨g, 2, none⟩ = some (.slice q_13 q_13n q_13c) ∧
  (((((stayn : Nat) : Int) : Int) == ((q_13n : Nat) : Int)) = true →
  (I (IntKind.wrap .i64 (b_2 + 1)) w7 ∧ M (IntKind.wrap .i64 (b_2 + 1)) w7 < M b_2 w6)) ∧
  (((((stayn : Nat) : Int) : Int) == ((q_13n : Nat) : Int)) = false →
  ∃ (I_3 : Int → World → Prop) (M_3 : Int → World → Nat), I_3 0 w7 ∧
  ∀ (i_4 : Int) (w16 : World), I_3 i_4 w16 →
  ∃ (q_14 : Option Addr) (q_14n q_14c : Nat), World.cell? w16 ⟨g, 2, none⟩ = some (.slice q_14 q_14n q_14c) ∧
  ((decide ((i_4 : Int) < ((q_14n : Nat) : Int))) = true →
  ∀ w17 : World, Drawn w16 w17 →
  ∃ (n_22 : Int), World.cell? w17 ⟨g, 0, none⟩ = some (.int .i64 n_22) ∧
  ∃ (n_23 : Int), World.cell? w17 ⟨g, 1, none⟩ = some (.int .i64 n_23) ∧
  ∃ (q_15 : Option Addr) (q_15n q_15c : Nat), World.cell? w17 ⟨g, 2, none⟩ = some (.slice q_15 q_15n q_15c) ∧
  ∃ (n_24 : Int), World.cell? w17 ⟨g, 3, none⟩ = some (.int .i64 n_24) ∧
  ∃ (q_16 : Option Addr) (q_16n q_16c : Nat), World.cell? w17 ⟨g, 4, none⟩ = some (.slice q_16 q_16n q_16c) ∧
  ∃ (n_25 : Int), World.cell? w17 ⟨g, 5, none⟩ = some (.int .i64 n_25) ∧
  ∃ (q_17 : Option Addr) (q_17n q_17c : Nat), World.cell? w17 ⟨g, 2, none⟩ = some (.slice q_17 q_17n q_17c) ∧
  ptrC q_17 fun a_5 => (0 : Int) ≤ i_4 ∧ i_4 < ((q_17n : Nat) : Int) ∧
  ∃ (s_3 : ByteArray), World.cell? w17 (Addr.add a_5 ((Int.toNat i_4) * 2)) = some (.string s_3) ∧
  ∃ (n_26 : Int), World.cell? w17 ⟨g, 1, none⟩ = some (.int .i64 n_26) ∧
  ∀ w18 : World, Drawn w17 w18 →
  Calls Try.prog 118 #[.agg #[.int .i64 n_22, .int .i64 n_23, .slice q_15 q_15n q_15c, .int .i64 n_24, .slice q_16 q_16n q_16c, .int .i64 n_25], .string s_3, .int .i64 n_26] w18 fun e_ w19 => ∃ (n_27 : Int), e_ = .returned (.int .i64 n_27) ∧
  Ext w18 w19 ∧
  ∀ w20 : World, Drawn w19 w20 →
  (((n_27 : Int) == b_2) = true →
  ∀ w21 : World, Drawn w20 w21 →
  ∃ (q_18 : Option Addr) (q_18n q_18c : Nat), World.cell? w21 ⟨g, 4, none⟩ = some (.slice q_18 q_18n q_18c) ∧
  ∃ (q_19 : Option Addr) (q_19n q_19c : Nat), World.cell? w21 ⟨g, 2, none⟩ = some (.slice q_19 q_19n q_19c) ∧
  ptrC q_19 fun a_6 => (0 : Int) ≤ i_4 ∧ i_4 < ((q_19n : Nat) : Int) ∧
  ∃ (s_4 : ByteArray), World.cell? w21 (Addr.add a_6 ((Int.toNat i_4) * 2)) = some (.string s_4) ∧
  ∃ (n_28 : Int), World.cell? w21 ((Addr.add a_6 ((Int.toNat i_4) * 2)).add 1) = some (.int .i64 n_28) ∧
  ∀ w22 : World, Drawn w21 w22 →
  Calls Try.prog 69 #[.slice q_18 q_18n q_18c, .agg #[.string s_4, .int .i64 n_28]] w22 fun e_ w23 => ∃ (q_20 : Option Addr) (q_20n q_20c : Nat), e_ = .returned (.slice q_20 q_20n q_20c) ∧
  Ext w22 w23 ∧
  ∀ w24 : World, Drawn w23 w24 →
  (∃ v0 : Value, World.cell? w24 ⟨g, 4, none⟩ = some v0) ∧ World.frozen? w24 ⟨g, 4, none⟩ = false ∧
  ∀ w25 : World, w25 = (World.setCell w24 ⟨g, 4, none⟩ (.slice q_20 q_20n q_20c)) →
  ∀ w26 : World, Drawn w25 w26 →
  V65_k3 I_3 M_3 i_4 w16 ⟨g, 0, none⟩ ⟨g_2, 0, none⟩ b_2 stay stayn stayc i_4 w26 R) ∧
  (((n_27 : Int) == b_2) = false →
  V65_k3 I_3 M_3 i_4 w16 ⟨g, 0, none⟩ ⟨g_2, 0, none⟩ b_2 stay stayn stayc i_4 w20 R)) ∧
  ((decide ((i_4 : Int) < ((q_14n : Nat) : Int))) = false →
  (∃ v0 : Value, World.cell? w16 ⟨g, 2, none⟩ = some v0) ∧ World.frozen? w16 ⟨g, 2, none⟩ = false ∧
  ∀ w29 : World, w29 = (World.setCell w16 ⟨g, 2, none⟩ (.slice stay stayn stayc)) →
  (∃ v0 : Value, World.cell? w29 ⟨g, 5, none⟩ = some v0) ∧ World.frozen? w29 ⟨g, 5, none⟩ = false ∧
  ∀ w30 : World, w30 = (World.setCell w29 ⟨g, 5, none⟩ (.int .i64 (IntKind.wrap .i64 (b_2 + 1)))) →
  ∃ (n_29 : Int), World.cell? w30 ⟨g, 0, none⟩ = some (.int .i64 n_29) ∧
  ∃ (n_30 : Int), World.cell? w30 ⟨g, 1, none⟩ = some (.int .i64 n_30) ∧
  ∃ (q_21 : Option Addr) (q_21n q_21c : Nat), World.cell? w30 ⟨g, 2, none⟩ = some (.slice q_21 q_21n q_21c) ∧
  ∃ (n_31 : Int), World.cell? w30 ⟨g, 3, none⟩ = some (.int .i64 n_31) ∧
  ∃ (q_22 : Option Addr) (q_22n q_22c : Nat), World.cell? w30 ⟨g, 4, none⟩ = some (.slice q_22 q_22n q_22c) ∧
  ∃ (n_32 : Int), World.cell? w30 ⟨g, 5, none⟩ = some (.int .i64 n_32) ∧
  Calls Try.prog 71 #[.agg #[.int .i64 n_29, .int .i64 n_30, .slice q_21 q_21n q_21c, .int .i64 n_31, .slice q_22 q_22n q_22c, .int .i64 n_32]] w30 fun e_ w31 => ∃ (n_33 : Int), ∃ (n_34 : Int), ∃ (q_23 : Option Addr) (q_23n q_23c : Nat), ∃ (n_35 : Int), ∃ (q_24 : Option Addr) (q_24n q_24c : Nat), ∃ (n_36 : Int), e_ = .returned (.agg #[.int .i64 n_33, .int .i64 n_34, .slice q_23 q_23n q_23c, .int .i64 n_35, .slice q_24 q_24n q_24c, .int .i64 n_36]) ∧
  storeN ⟨g_2, 0, none⟩ [(.int .i64 n_33 : Value), .int .i64 n_34, .slice q_23 q_23n q_23c, .int .i64 n_35, .slice q_24 q_24n q_24c, .int .i64 n_36] 0 w31 fun w32 => ∀ w33 : World, w33 = w32 →
  ∃ (n_37 : Int), World.cell? w33 ⟨g_2, 0, none⟩ = some (.int .i64 n_37) ∧
  ∃ (n_38 : Int), World.cell? w33 ⟨g_2, 1, none⟩ = some (.int .i64 n_38) ∧
  ∃ (q_25 : Option Addr) (q_25n q_25c : Nat), World.cell? w33 ⟨g_2, 2, none⟩ = some (.slice q_25 q_25n q_25c) ∧
  ∃ (n_39 : Int), World.cell? w33 ⟨g_2, 3, none⟩ = some (.int .i64 n_39) ∧
  ∃ (q_26 : Option Addr) (q_26n q_26c : Nat), World.cell? w33 ⟨g_2, 4, none⟩ = some (.slice q_26 q_26n q_26c) ∧
  ∃ (n_40 : Int), World.cell? w33 ⟨g_2, 5, none⟩ = some (.int .i64 n_40) ∧
  R (.returned (.agg #[.int .i64 n_37, .int .i64 n_38, .slice q_25 q_25n q_25c, .int .i64 n_39, .slice q_26 q_26n q_26c, .int .i64 n_40])) w33)))) ∧
  ((decide ((b_2 : Int) < n_14)) = false →
  ∃ (n_41 : Int), World.cell? w6 ⟨g, 0, none⟩ = some (.int .i64 n_41) ∧
  ∃ (n_42 : Int), World.cell? w6 ⟨g, 1, none⟩ = some (.int .i64 n_42) ∧
  ∃ (q_27 : Option Addr) (q_27n q_27c : Nat), World.cell? w6 ⟨g, 2, none⟩ = some (.slice q_27 q_27n q_27c) ∧
  ∃ (n_43 : Int), World.cell? w6 ⟨g, 3, none⟩ = some (.int .i64 n_43) ∧
  ∃ (q_28 : Option Addr) (q_28n q_28c : Nat), World.cell? w6 ⟨g, 4, none⟩ = some (.slice q_28 q_28n q_28c) ∧
  ∃ (n_44 : Int), World.cell? w6 ⟨g, 5, none⟩ = some (.int .i64 n_44) ∧
  storeN ⟨g_2, 0, none⟩ [(.int .i64 n_41 : Value), .int .i64 n_42, .slice q_27 q_27n q_27c, .int .i64 n_43, .slice q_28 q_28n q_28c, .int .i64 n_44] 0 w6 fun w34 => ∀ w35 : World, w35 = w34 →
  ∃ (n_45 : Int), World.cell? w35 ⟨g_2, 0, none⟩ = some (.int .i64 n_45) ∧
  ∃ (n_46 : Int), World.cell? w35 ⟨g_2, 1, none⟩ = some (.int .i64 n_46) ∧
  ∃ (q_29 : Option Addr) (q_29n q_29c : Nat), World.cell? w35 ⟨g_2, 2, none⟩ = some (.slice q_29 q_29n q_29c) ∧
  ∃ (n_47 : Int), World.cell? w35 ⟨g_2, 3, none⟩ = some (.int .i64 n_47) ∧
  ∃ (q_30 : Option Addr) (q_30n q_30c : Nat), World.cell? w35 ⟨g_2, 4, none⟩ = some (.slice q_30 q_30n q_30c) ∧
  ∃ (n_48 : Int), World.cell? w35 ⟨g_2, 5, none⟩ = some (.int .i64 n_48) ∧
  R (.returned (.agg #[.int .i64 n_45, .int .i64 n_46, .slice q_29 q_29n q_29c, .int .i64 n_47, .slice q_30 q_30n q_30c, .int .i64 n_48])) w35))
theorem b65 : Try.f65.body = some (bodyOf Try.f65) := by kernel_rfl
theorem ok65 : okF Try.prog an65 Try.f65 (bodyOf Try.f65) 1 = true := by kernel_rfl
theorem e65 (d : Int) (d_2 : Int) (d_3 : Option Addr) (d_3n d_3c : Nat) (d_4 : Int) (d_5 : Option Addr) (d_5n d_5c : Nat) (d_6 : Int) (w : World) (R : Ending → World → Prop) : vcF Try.prog an65 Try.f65 (bodyOf Try.f65) [.agg #[.int .i64 d, .int .i64 d_2, .slice d_3 d_3n d_3c, .int .i64 d_4, .slice d_5 d_5n d_5c, .int .i64 d_6]] w R = V65 d d_2 d_3 d_3n d_3c d_4 d_5 d_5n d_5c d_6 w R := by kernel_rfl
theorem v65 (d : Int) (d_2 : Int) (d_3 : Option Addr) (d_3n d_3c : Nat) (d_4 : Int) (d_5 : Option Addr) (d_5n d_5c : Nat) (d_6 : Int) (w : World) (R : Ending → World → Prop) (hV : V65 d d_2 d_3 d_3n d_3c d_4 d_5 d_5n d_5c d_6 w R) : Calls Try.prog 65 #[.agg #[.int .i64 d, .int .i64 d_2, .slice d_3 d_3n d_3c, .int .i64 d_4, .slice d_5 d_5n d_5c, .int .i64 d_6]] w R := calls_vc mixed Try.func65 b65 rfl ok65 (e65 d d_2 d_3 d_3n d_3c d_4 d_5 d_5n d_5c d_6 w R) hV

/-- cistern/cisternref08.at -/
def an66 : Ann := { loops := [(2, [(5, .int .i64)])], draws := [], tys := [] }
set_option maxRecDepth 100000 in
def V66 (t : Int) (t_2 : Option Addr) (t_2n t_2c : Nat) (key : ByteArray) (w : World) (R : Ending → World → Prop) : Prop :=
  ∀ (g : Nat) (w1 : World), g = (World.heap w).size → w1 = World.alloc w (.cells #[.int .i64 t, .slice t_2 t_2n t_2c] 53) →
  ∃ (I : Int → World → Prop) (M : Int → World → Nat), I 0 w1 ∧
  ∀ (i : Int) (w2 : World), I i w2 →
  ∃ (q : Option Addr) (qn qc : Nat), World.cell? w2 ⟨g, 1, none⟩ = some (.slice q qn qc) ∧
  ((decide ((i : Int) < ((qn : Nat) : Int))) = true →
  ∃ (q_2 : Option Addr) (q_2n q_2c : Nat), World.cell? w2 ⟨g, 1, none⟩ = some (.slice q_2 q_2n q_2c) ∧
  ptrC q_2 fun a => (0 : Int) ≤ i ∧ i < ((q_2n : Nat) : Int) ∧
  ∃ (s : ByteArray), World.cell? w2 (Addr.add a ((Int.toNat i) * 2)) = some (.string s) ∧
  ((strEq s key) = true →
  R (.returned (.int .i64 i)) w2) ∧
  ((strEq s key) = false →
  (I (IntKind.wrap .i64 (i + 1)) w2 ∧ M (IntKind.wrap .i64 (i + 1)) w2 < M i w2))) ∧
  ((decide ((i : Int) < ((qn : Nat) : Int))) = false →
  R (.returned (.int .i64 (-1))) w2)
theorem b66 : Try.f66.body = some (bodyOf Try.f66) := by kernel_rfl
theorem ok66 : okF Try.prog an66 Try.f66 (bodyOf Try.f66) 2 = true := by kernel_rfl
theorem e66 (t : Int) (t_2 : Option Addr) (t_2n t_2c : Nat) (key : ByteArray) (w : World) (R : Ending → World → Prop) : vcF Try.prog an66 Try.f66 (bodyOf Try.f66) [.agg #[.int .i64 t, .slice t_2 t_2n t_2c], .string key] w R = V66 t t_2 t_2n t_2c key w R := by kernel_rfl
theorem v66 (t : Int) (t_2 : Option Addr) (t_2n t_2c : Nat) (key : ByteArray) (w : World) (R : Ending → World → Prop) (hV : V66 t t_2 t_2n t_2c key w R) : Calls Try.prog 66 #[.agg #[.int .i64 t, .slice t_2 t_2n t_2c], .string key] w R := calls_vc mixed Try.func66 b66 rfl ok66 (e66 t t_2 t_2n t_2c key w R) hV

/-- cistern/cisternref08.moving -/
def an67 : Ann := { loops := [], draws := [], tys := [] }
set_option maxRecDepth 100000 in
def V67 (d : Int) (d_2 : Int) (d_3 : Option Addr) (d_3n d_3c : Nat) (d_4 : Int) (d_5 : Option Addr) (d_5n d_5c : Nat) (d_6 : Int) (w : World) (R : Ending → World → Prop) : Prop :=
  ∀ (g : Nat) (w1 : World), g = (World.heap w).size → w1 = World.alloc w (.cells #[.int .i64 d, .int .i64 d_2, .slice d_3 d_3n d_3c, .int .i64 d_4, .slice d_5 d_5n d_5c, .int .i64 d_6] 55) →
  ∃ (n : Int), World.cell? w1 ⟨g, 3, none⟩ = some (.int .i64 n) ∧
  R (.returned (.bool (decide ((n : Int) > 0)))) w1
theorem b67 : Try.f67.body = some (bodyOf Try.f67) := by kernel_rfl
theorem ok67 : okF Try.prog an67 Try.f67 (bodyOf Try.f67) 1 = true := by kernel_rfl
theorem e67 (d : Int) (d_2 : Int) (d_3 : Option Addr) (d_3n d_3c : Nat) (d_4 : Int) (d_5 : Option Addr) (d_5n d_5c : Nat) (d_6 : Int) (w : World) (R : Ending → World → Prop) : vcF Try.prog an67 Try.f67 (bodyOf Try.f67) [.agg #[.int .i64 d, .int .i64 d_2, .slice d_3 d_3n d_3c, .int .i64 d_4, .slice d_5 d_5n d_5c, .int .i64 d_6]] w R = V67 d d_2 d_3 d_3n d_3c d_4 d_5 d_5n d_5c d_6 w R := by kernel_rfl
theorem v67 (d : Int) (d_2 : Int) (d_3 : Option Addr) (d_3n d_3c : Nat) (d_4 : Int) (d_5 : Option Addr) (d_5n d_5c : Nat) (d_6 : Int) (w : World) (R : Ending → World → Prop) (hV : V67 d d_2 d_3 d_3n d_3c d_4 d_5 d_5n d_5c d_6 w R) : Calls Try.prog 67 #[.agg #[.int .i64 d, .int .i64 d_2, .slice d_3 d_3n d_3c, .int .i64 d_4, .slice d_5 d_5n d_5c, .int .i64 d_6]] w R := calls_vc mixed Try.func67 b67 rfl ok67 (e67 d d_2 d_3 d_3n d_3c d_4 d_5 d_5n d_5c d_6 w R) hV

/-- cistern/cisternref08.begin -/
def an68 : Ann := { loops := [], draws := [], tys := [] }
set_option maxRecDepth 100000 in
def V68 (d : Int) (d_2 : Int) (d_3 : Option Addr) (d_3n d_3c : Nat) (d_4 : Int) (d_5 : Option Addr) (d_5n d_5c : Nat) (d_6 : Int) (size : Int) (w : World) (R : Ending → World → Prop) : Prop :=
  ∀ (g : Nat) (w1 : World), g = (World.heap w).size → w1 = World.alloc w (.cells #[.int .i64 d, .int .i64 d_2, .slice d_3 d_3n d_3c, .int .i64 d_4, .slice d_5 d_5n d_5c, .int .i64 d_6] 55) →
  ∀ (g_2 : Nat) (w2 : World), g_2 = (World.heap w1).size → w2 = World.alloc w1 (.cells #[.int .i64 0, .int .i64 0, .slice none 0 0, .int .i64 0, .slice none 0 0, .int .i64 0] 55) →
  storeN ⟨g, 3, none⟩ [(.int .i64 size : Value), .slice none 0 0] 0 w2 fun w3 => ∀ w4 : World, w4 = w3 →
  (∃ v0 : Value, World.cell? w4 ⟨g, 5, none⟩ = some v0) ∧ World.frozen? w4 ⟨g, 5, none⟩ = false ∧
  ∀ w5 : World, w5 = (World.setCell w4 ⟨g, 5, none⟩ (.int .i64 0)) →
  ∃ (n : Int), World.cell? w5 ⟨g, 0, none⟩ = some (.int .i64 n) ∧
  ∃ (n_2 : Int), World.cell? w5 ⟨g, 1, none⟩ = some (.int .i64 n_2) ∧
  ∃ (q : Option Addr) (qn qc : Nat), World.cell? w5 ⟨g, 2, none⟩ = some (.slice q qn qc) ∧
  ∃ (n_3 : Int), World.cell? w5 ⟨g, 3, none⟩ = some (.int .i64 n_3) ∧
  ∃ (q_2 : Option Addr) (q_2n q_2c : Nat), World.cell? w5 ⟨g, 4, none⟩ = some (.slice q_2 q_2n q_2c) ∧
  ∃ (n_4 : Int), World.cell? w5 ⟨g, 5, none⟩ = some (.int .i64 n_4) ∧
  Calls Try.prog 71 #[.agg #[.int .i64 n, .int .i64 n_2, .slice q qn qc, .int .i64 n_3, .slice q_2 q_2n q_2c, .int .i64 n_4]] w5 fun e_ w6 => ∃ (n_5 : Int), ∃ (n_6 : Int), ∃ (q_3 : Option Addr) (q_3n q_3c : Nat), ∃ (n_7 : Int), ∃ (q_4 : Option Addr) (q_4n q_4c : Nat), ∃ (n_8 : Int), e_ = .returned (.agg #[.int .i64 n_5, .int .i64 n_6, .slice q_3 q_3n q_3c, .int .i64 n_7, .slice q_4 q_4n q_4c, .int .i64 n_8]) ∧
  storeN ⟨g_2, 0, none⟩ [(.int .i64 n_5 : Value), .int .i64 n_6, .slice q_3 q_3n q_3c, .int .i64 n_7, .slice q_4 q_4n q_4c, .int .i64 n_8] 0 w6 fun w7 => ∀ w8 : World, w8 = w7 →
  ∃ (n_9 : Int), World.cell? w8 ⟨g_2, 0, none⟩ = some (.int .i64 n_9) ∧
  ∃ (n_10 : Int), World.cell? w8 ⟨g_2, 1, none⟩ = some (.int .i64 n_10) ∧
  ∃ (q_5 : Option Addr) (q_5n q_5c : Nat), World.cell? w8 ⟨g_2, 2, none⟩ = some (.slice q_5 q_5n q_5c) ∧
  ∃ (n_11 : Int), World.cell? w8 ⟨g_2, 3, none⟩ = some (.int .i64 n_11) ∧
  ∃ (q_6 : Option Addr) (q_6n q_6c : Nat), World.cell? w8 ⟨g_2, 4, none⟩ = some (.slice q_6 q_6n q_6c) ∧
  ∃ (n_12 : Int), World.cell? w8 ⟨g_2, 5, none⟩ = some (.int .i64 n_12) ∧
  R (.returned (.agg #[.int .i64 n_9, .int .i64 n_10, .slice q_5 q_5n q_5c, .int .i64 n_11, .slice q_6 q_6n q_6c, .int .i64 n_12])) w8
theorem b68 : Try.f68.body = some (bodyOf Try.f68) := by kernel_rfl
theorem ok68 : okF Try.prog an68 Try.f68 (bodyOf Try.f68) 2 = true := by kernel_rfl
theorem e68 (d : Int) (d_2 : Int) (d_3 : Option Addr) (d_3n d_3c : Nat) (d_4 : Int) (d_5 : Option Addr) (d_5n d_5c : Nat) (d_6 : Int) (size : Int) (w : World) (R : Ending → World → Prop) : vcF Try.prog an68 Try.f68 (bodyOf Try.f68) [.agg #[.int .i64 d, .int .i64 d_2, .slice d_3 d_3n d_3c, .int .i64 d_4, .slice d_5 d_5n d_5c, .int .i64 d_6], .int .i64 size] w R = V68 d d_2 d_3 d_3n d_3c d_4 d_5 d_5n d_5c d_6 size w R := by kernel_rfl
theorem v68 (d : Int) (d_2 : Int) (d_3 : Option Addr) (d_3n d_3c : Nat) (d_4 : Int) (d_5 : Option Addr) (d_5n d_5c : Nat) (d_6 : Int) (size : Int) (w : World) (R : Ending → World → Prop) (hV : V68 d d_2 d_3 d_3n d_3c d_4 d_5 d_5n d_5c d_6 size w R) : Calls Try.prog 68 #[.agg #[.int .i64 d, .int .i64 d_2, .slice d_3 d_3n d_3c, .int .i64 d_4, .slice d_5 d_5n d_5c, .int .i64 d_6], .int .i64 size] w R := calls_vc mixed Try.func68 b68 rfl ok68 (e68 d d_2 d_3 d_3n d_3c d_4 d_5 d_5n d_5c d_6 size w R) hV

/-- cistern/cisternref08.with -/
def an69 : Ann := { loops := [], draws := [], tys := [] }
set_option maxRecDepth 100000 in
def V69 (l : Option Addr) (ln lc : Nat) (x : ByteArray) (x_2 : Int) (w : World) (R : Ending → World → Prop) : Prop :=
  ∀ (g : Nat) (w1 : World), g = (World.heap w).size → w1 = World.alloc w (.cells #[.string x, .int .i64 x_2] 115) →
  ∃ (q : Option Addr) (qn qc : Nat), ∃ w2 : World, Sem.run Try.prog (builtin .append #[51, 51] 51 #[false, false] #[.slice none 0 0, .slice l ln lc]) w1 = .ok (.value (.slice q qn qc)) w2 ∧
  ∃ (s : ByteArray), World.cell? w2 ⟨g, 0, none⟩ = some (.string s) ∧
  ∃ (n : Int), World.cell? w2 ⟨g, 1, none⟩ = some (.int .i64 n) ∧
  ∀ (g_2 : Nat) (w3 : World), g_2 = (World.heap w2).size → w3 = World.alloc w2 (.cells #[.string s, .int .i64 n] 115) →
  ∃ (q_2 : Option Addr) (q_2n q_2c : Nat), ∃ w4 : World, Sem.run Try.prog (builtin .append #[51, 51] 51 #[false, false] #[.slice q qn qc, .slice (some ⟨g_2, 0, none⟩) 1 1]) w3 = .ok (.value (.slice q_2 q_2n q_2c)) w4 ∧
  R (.returned (.slice q_2 q_2n q_2c)) w4
theorem b69 : Try.f69.body = some (bodyOf Try.f69) := by kernel_rfl
theorem ok69 : okF Try.prog an69 Try.f69 (bodyOf Try.f69) 2 = true := by kernel_rfl
theorem e69 (l : Option Addr) (ln lc : Nat) (x : ByteArray) (x_2 : Int) (w : World) (R : Ending → World → Prop) : vcF Try.prog an69 Try.f69 (bodyOf Try.f69) [.slice l ln lc, .agg #[.string x, .int .i64 x_2]] w R = V69 l ln lc x x_2 w R := by kernel_rfl
theorem v69 (l : Option Addr) (ln lc : Nat) (x : ByteArray) (x_2 : Int) (w : World) (R : Ending → World → Prop) (hV : V69 l ln lc x x_2 w R) : Calls Try.prog 69 #[.slice l ln lc, .agg #[.string x, .int .i64 x_2]] w R := calls_vc mixed Try.func69 b69 rfl ok69 (e69 l ln lc x x_2 w R) hV

/-- cistern/cisternref08.without -/
def an70 : Ann := { loops := [], draws := [], tys := [] }
set_option maxRecDepth 100000 in
def V70 (l : Option Addr) (ln lc : Nat) (i : Int) (w : World) (R : Ending → World → Prop) : Prop :=
  (0 : Int) ≤ i ∧ (i : Int) ≤ ((lc : Nat) : Int) ∧
  ∃ (q : Option Addr) (qn qc : Nat), ∃ w1 : World, Sem.run Try.prog (builtin .append #[51, 51] 51 #[false, false] #[.slice none 0 0, .slice (cutA l 0 lc 2) ((Int.toNat i) - 0) (lc - 0)]) w = .ok (.value (.slice q qn qc)) w1 ∧
  (0 : Int) ≤ (IntKind.wrap .i64 (i + 1)) ∧ ((IntKind.wrap .i64 (i + 1)) : Int) ≤ ((ln : Nat) : Int) ∧
  ∃ (q_2 : Option Addr) (q_2n q_2c : Nat), ∃ w2 : World, Sem.run Try.prog (builtin .append #[51, 51] 51 #[false, false] #[.slice q qn qc, .slice (cutA l (Int.toNat (IntKind.wrap .i64 (i + 1))) lc 2) (ln - (Int.toNat (IntKind.wrap .i64 (i + 1)))) (lc - (Int.toNat (IntKind.wrap .i64 (i + 1))))]) w1 = .ok (.value (.slice q_2 q_2n q_2c)) w2 ∧
  R (.returned (.slice q_2 q_2n q_2c)) w2
theorem b70 : Try.f70.body = some (bodyOf Try.f70) := by kernel_rfl
theorem ok70 : okF Try.prog an70 Try.f70 (bodyOf Try.f70) 2 = true := by kernel_rfl
theorem e70 (l : Option Addr) (ln lc : Nat) (i : Int) (w : World) (R : Ending → World → Prop) : vcF Try.prog an70 Try.f70 (bodyOf Try.f70) [.slice l ln lc, .int .i64 i] w R = V70 l ln lc i w R := by kernel_rfl
theorem v70 (l : Option Addr) (ln lc : Nat) (i : Int) (w : World) (R : Ending → World → Prop) (hV : V70 l ln lc i w R) : Calls Try.prog 70 #[.slice l ln lc, .int .i64 i] w R := calls_vc mixed Try.func70 b70 rfl ok70 (e70 l ln lc i w R) hV

/-- cistern/cisternref08.over -/
def an71 : Ann := { loops := [], draws := [], tys := [] }
set_option maxRecDepth 100000 in
def V71_k2 (d_8 : Addr) (a_2 : Addr) (w10 : World) (R : Ending → World → Prop) : Prop :=
  ∃ (n_6 : Int), World.cell? w10 d_8 = some (.int .i64 n_6) ∧
  ∃ (n_7 : Int), World.cell? w10 (d_8.add 1) = some (.int .i64 n_7) ∧
  ∃ (q_5 : Option Addr) (q_5n q_5c : Nat), World.cell? w10 (d_8.add 2) = some (.slice q_5 q_5n q_5c) ∧
  ∃ (n_8 : Int), World.cell? w10 (d_8.add 3) = some (.int .i64 n_8) ∧
  ∃ (q_6 : Option Addr) (q_6n q_6c : Nat), World.cell? w10 (d_8.add 4) = some (.slice q_6 q_6n q_6c) ∧
  ∃ (n_9 : Int), World.cell? w10 (d_8.add 5) = some (.int .i64 n_9) ∧
  storeN a_2 [(.int .i64 n_6 : Value), .int .i64 n_7, .slice q_5 q_5n q_5c, .int .i64 n_8, .slice q_6 q_6n q_6c, .int .i64 n_9] 0 w10 fun w11 => ∀ w12 : World, w12 = w11 →
  ∃ (n_10 : Int), World.cell? w12 a_2 = some (.int .i64 n_10) ∧
  ∃ (n_11 : Int), World.cell? w12 (a_2.add 1) = some (.int .i64 n_11) ∧
  ∃ (q_7 : Option Addr) (q_7n q_7c : Nat), World.cell? w12 (a_2.add 2) = some (.slice q_7 q_7n q_7c) ∧
  ∃ (n_12 : Int), World.cell? w12 (a_2.add 3) = some (.int .i64 n_12) ∧
  ∃ (q_8 : Option Addr) (q_8n q_8c : Nat), World.cell? w12 (a_2.add 4) = some (.slice q_8 q_8n q_8c) ∧
  ∃ (n_13 : Int), World.cell? w12 (a_2.add 5) = some (.int .i64 n_13) ∧
  R (.returned (.agg #[.int .i64 n_10, .int .i64 n_11, .slice q_7 q_7n q_7c, .int .i64 n_12, .slice q_8 q_8n q_8c, .int .i64 n_13])) w12
set_option maxRecDepth 100000 in
def V71_k1 (d_7 : Addr) (a : Addr) (b_2 : Bool) (w4 : World) (R : Ending → World → Prop) : Prop :=
  (b_2 = true →
  ∃ (n_5 : Int), World.cell? w4 (d_7.add 3) = some (.int .i64 n_5) ∧
  ∃ (q_4 : Option Addr) (q_4n q_4c : Nat), World.cell? w4 (d_7.add 4) = some (.slice q_4 q_4n q_4c) ∧
  storeN (d_7.add 1) [(.int .i64 n_5 : Value), .slice q_4 q_4n q_4c] 0 w4 fun w5 => ∀ w6 : World, w6 = w5 →
  storeN (d_7.add 3) [(.int .i64 0 : Value), .slice none 0 0] 0 w6 fun w7 => ∀ w8 : World, w8 = w7 →
  (∃ v0 : Value, World.cell? w8 (d_7.add 5) = some v0) ∧ World.frozen? w8 (d_7.add 5) = false ∧
  ∀ w9 : World, w9 = (World.setCell w8 (d_7.add 5) (.int .i64 0)) →
  V71_k2 d_7 a w9 R) ∧
  (b_2 = false →
  V71_k2 d_7 a w4 R)
set_option maxRecDepth 100000 in
def V71 (d : Int) (d_2 : Int) (d_3 : Option Addr) (d_3n d_3c : Nat) (d_4 : Int) (d_5 : Option Addr) (d_5n d_5c : Nat) (d_6 : Int) (w : World) (R : Ending → World → Prop) : Prop :=
  ∀ (g : Nat) (w1 : World), g = (World.heap w).size → w1 = World.alloc w (.cells #[.int .i64 d, .int .i64 d_2, .slice d_3 d_3n d_3c, .int .i64 d_4, .slice d_5 d_5n d_5c, .int .i64 d_6] 55) →
  ∀ (g_2 : Nat) (w2 : World), g_2 = (World.heap w1).size → w2 = World.alloc w1 (.cells #[.int .i64 0, .int .i64 0, .slice none 0 0, .int .i64 0, .slice none 0 0, .int .i64 0] 55) →
  ∃ (n : Int), World.cell? w2 ⟨g, 0, none⟩ = some (.int .i64 n) ∧
  ∃ (n_2 : Int), World.cell? w2 ⟨g, 1, none⟩ = some (.int .i64 n_2) ∧
  ∃ (q : Option Addr) (qn qc : Nat), World.cell? w2 ⟨g, 2, none⟩ = some (.slice q qn qc) ∧
  ∃ (n_3 : Int), World.cell? w2 ⟨g, 3, none⟩ = some (.int .i64 n_3) ∧
  ∃ (q_2 : Option Addr) (q_2n q_2c : Nat), World.cell? w2 ⟨g, 4, none⟩ = some (.slice q_2 q_2n q_2c) ∧
  ∃ (n_4 : Int), World.cell? w2 ⟨g, 5, none⟩ = some (.int .i64 n_4) ∧
  Calls Try.prog 67 #[.agg #[.int .i64 n, .int .i64 n_2, .slice q qn qc, .int .i64 n_3, .slice q_2 q_2n q_2c, .int .i64 n_4]] w2 fun e_ w3 => ∃ (b : Bool), e_ = .returned (.bool b) ∧
  (b = true →
  ∃ (q_3 : Option Addr) (q_3n q_3c : Nat), World.cell? w3 ⟨g, 2, none⟩ = some (.slice q_3 q_3n q_3c) ∧
  V71_k1 ⟨g, 0, none⟩ ⟨g_2, 0, none⟩ ((((q_3n : Nat) : Int) : Int) == 0) w3 R) ∧
  (b = !true →
  V71_k1 ⟨g, 0, none⟩ ⟨g_2, 0, none⟩ false w3 R)
theorem b71 : Try.f71.body = some (bodyOf Try.f71) := by kernel_rfl
theorem ok71 : okF Try.prog an71 Try.f71 (bodyOf Try.f71) 1 = true := by kernel_rfl
theorem e71 (d : Int) (d_2 : Int) (d_3 : Option Addr) (d_3n d_3c : Nat) (d_4 : Int) (d_5 : Option Addr) (d_5n d_5c : Nat) (d_6 : Int) (w : World) (R : Ending → World → Prop) : vcF Try.prog an71 Try.f71 (bodyOf Try.f71) [.agg #[.int .i64 d, .int .i64 d_2, .slice d_3 d_3n d_3c, .int .i64 d_4, .slice d_5 d_5n d_5c, .int .i64 d_6]] w R = V71 d d_2 d_3 d_3n d_3c d_4 d_5 d_5n d_5c d_6 w R := by kernel_rfl
theorem v71 (d : Int) (d_2 : Int) (d_3 : Option Addr) (d_3n d_3c : Nat) (d_4 : Int) (d_5 : Option Addr) (d_5n d_5c : Nat) (d_6 : Int) (w : World) (R : Ending → World → Prop) (hV : V71 d d_2 d_3 d_3n d_3c d_4 d_5 d_5n d_5c d_6 w R) : Calls Try.prog 71 #[.agg #[.int .i64 d, .int .i64 d_2, .slice d_3 d_3n d_3c, .int .i64 d_4, .slice d_5 d_5n d_5c, .int .i64 d_6]] w R := calls_vc mixed Try.func71 b71 rfl ok71 (e71 d d_2 d_3 d_3n d_3c d_4 d_5 d_5n d_5c d_6 w R) hV

/-- cistern/cisternref08.visit -/
def an72 : Ann := { loops := [(7, [(1, .int .i64), (8, .slice)])], draws := [(2, false, Tr.seq [1, 3, 4, 5, 9, 10, 11, 0, 2, 6, 7, 12, 8, 13, 14, 15] .nil, [8], [8], []), (3, true, Tr.seq [0, 2, 1, 3] (.alt 4 (Tr.seq [5, 6, 7] .nil) (.one 5 (Tr.seq [4, 6, 7] .nil))), [4, 5, 6, 7], [4, 5, 6, 7], [4, 5, 1]), (6, false, Tr.seq [2, 3, 0, 1, 4, 5, 6, 7] .nil, [6], [6], []), (7, false, Tr.seq [0, 3, 4, 1, 2, 5, 6, 7, 8, 9] .nil, [7, 8], [7], [])], tys := [] }
set_option maxRecDepth 100000 in
def V72_k2 (c_3 : Int) (d_8 : Addr) (less_2 : Addr) (more_2 : Addr) (w24 : World) (R : Ending → World → Prop) : Prop :=
  ∀ w25 : World, Drawn w24 w25 →
  ∃ (n_19 : Int), World.cell? w25 d_8 = some (.int .i64 n_19) ∧
  ∃ (n_20 : Int), World.cell? w25 (d_8.add 1) = some (.int .i64 n_20) ∧
  ∃ (q_11 : Option Addr) (q_11n q_11c : Nat), World.cell? w25 (d_8.add 2) = some (.slice q_11 q_11n q_11c) ∧
  ∃ (n_21 : Int), World.cell? w25 (d_8.add 3) = some (.int .i64 n_21) ∧
  ∃ (q_12 : Option Addr) (q_12n q_12c : Nat), World.cell? w25 (d_8.add 4) = some (.slice q_12 q_12n q_12c) ∧
  ∃ (n_22 : Int), World.cell? w25 (d_8.add 5) = some (.int .i64 n_22) ∧
  ∃ (n_23 : Int), World.cell? w25 less_2 = some (.int .i64 n_23) ∧
  ∃ (q_13 : Option Addr) (q_13n q_13c : Nat), World.cell? w25 (less_2.add 1) = some (.slice q_13 q_13n q_13c) ∧
  ∃ (n_24 : Int), World.cell? w25 less_2 = some (.int .i64 n_24) ∧
  (n_24 : Int) ≠ 0 ∧
  ∀ w26 : World, Drawn w25 w26 →
  Calls Try.prog 119 #[.agg #[.int .i64 n_19, .int .i64 n_20, .slice q_11 q_11n q_11c, .int .i64 n_21, .slice q_12 q_12n q_12c, .int .i64 n_22], .agg #[.int .i64 n_23, .slice q_13 q_13n q_13c], .int .i64 (Int.tmod c_3 n_24)] w26 fun e_ w27 => ∃ (q_14 : Option Addr) (q_14n q_14c : Nat), e_ = .returned (.slice q_14 q_14n q_14c) ∧
  Ext w26 w27 ∧
  ∀ w28 : World, Drawn w27 w28 →
  ∃ (I : Int → Option Addr → Nat → Nat → World → Prop) (M : Int → Option Addr → Nat → Nat → World → Nat), I c_3 q_14 q_14n q_14c w28 ∧
  ∀ (c_4 : Int) (out : Option Addr) (outn outc : Nat) (w29 : World), I c_4 out outn outc w29 →
  ∀ w30 : World, Drawn w29 w30 →
  ∃ (n_25 : Int), World.cell? w30 d_8 = some (.int .i64 n_25) ∧
  ∃ (n_26 : Int), World.cell? w30 (d_8.add 1) = some (.int .i64 n_26) ∧
  ∃ (q_15 : Option Addr) (q_15n q_15c : Nat), World.cell? w30 (d_8.add 2) = some (.slice q_15 q_15n q_15c) ∧
  ∃ (n_27 : Int), World.cell? w30 (d_8.add 3) = some (.int .i64 n_27) ∧
  ∃ (q_16 : Option Addr) (q_16n q_16c : Nat), World.cell? w30 (d_8.add 4) = some (.slice q_16 q_16n q_16c) ∧
  ∃ (n_28 : Int), World.cell? w30 (d_8.add 5) = some (.int .i64 n_28) ∧
  ∃ (n_29 : Int), World.cell? w30 more_2 = some (.int .i64 n_29) ∧
  ∃ (q_17 : Option Addr) (q_17n q_17c : Nat), World.cell? w30 (more_2.add 1) = some (.slice q_17 q_17n q_17c) ∧
  ∃ (n_30 : Int), World.cell? w30 more_2 = some (.int .i64 n_30) ∧
  (n_30 : Int) ≠ 0 ∧
  ∀ w31 : World, Drawn w30 w31 →
  Calls Try.prog 119 #[.agg #[.int .i64 n_25, .int .i64 n_26, .slice q_15 q_15n q_15c, .int .i64 n_27, .slice q_16 q_16n q_16c, .int .i64 n_28], .agg #[.int .i64 n_29, .slice q_17 q_17n q_17c], .int .i64 (Int.tmod c_4 n_30)] w31 fun e_ w32 => ∃ (q_18 : Option Addr) (q_18n q_18c : Nat), e_ = .returned (.slice q_18 q_18n q_18c) ∧
  Ext w31 w32 ∧
  ∀ w33 : World, Drawn w32 w33 →
  ∃ (q_19 : Option Addr) (q_19n q_19c : Nat), ∃ w34 : World, Sem.run Try.prog (builtin .append #[30, 30] 30 #[false, false] #[.slice out outn outc, .slice q_18 q_18n q_18c]) w33 = .ok (.value (.slice q_19 q_19n q_19c)) w34 ∧
  ∀ w35 : World, Drawn w34 w35 →
  ∃ (n_31 : Int), World.cell? w35 more_2 = some (.int .i64 n_31) ∧
  Calls Try.prog 120 #[.int .i64 c_4, .int .i64 n_31] w35 fun e_ w36 => ∃ (n_32 : Int), e_ = .returned (.int .i64 n_32) ∧
  ∃ (n_33 : Int), World.cell? w36 more_2 = some (.int .i64 n_33) ∧
  ∃ (n_34 : Int), World.cell? w36 less_2 = some (.int .i64 n_34) ∧
  ((((andI .i64 n_32 (IntKind.wrap .i64 (n_33 - n_34))) : Int) == 0) = true →
  R (.returned (.tuple #[.slice q_19 q_19n q_19c, .int .i64 n_32])) w36) ∧
  ((((andI .i64 n_32 (IntKind.wrap .i64 (n_33 - n_34))) : Int) == 0) = false →
  (I n_32 q_19 q_19n q_19c w36 ∧ M n_32 q_19 q_19n q_19c w36 < M c_4 out outn outc w29))
set_option maxRecDepth 100000 in
def V72_k1 (c_2 : Int) (d_7 : Addr) (less : Addr) (more : Addr) (w19 : World) (R : Ending → World → Prop) : Prop :=
  ∃ (n_15 : Int), World.cell? w19 less = some (.int .i64 n_15) ∧
  ∃ (n_16 : Int), World.cell? w19 more = some (.int .i64 n_16) ∧
  ((decide ((n_15 : Int) > n_16)) = true →
  ∃ (n_17 : Int), World.cell? w19 more = some (.int .i64 n_17) ∧
  ∃ (q_9 : Option Addr) (q_9n q_9c : Nat), World.cell? w19 (more.add 1) = some (.slice q_9 q_9n q_9c) ∧
  ∃ (n_18 : Int), World.cell? w19 less = some (.int .i64 n_18) ∧
  ∃ (q_10 : Option Addr) (q_10n q_10c : Nat), World.cell? w19 (less.add 1) = some (.slice q_10 q_10n q_10c) ∧
  storeN less [(.int .i64 n_17 : Value), .slice q_9 q_9n q_9c] 0 w19 fun w20 => ∀ w21 : World, w21 = w20 →
  storeN more [(.int .i64 n_18 : Value), .slice q_10 q_10n q_10c] 0 w21 fun w22 => ∀ w23 : World, w23 = w22 →
  V72_k2 c_2 d_7 less more w23 R) ∧
  ((decide ((n_15 : Int) > n_16)) = false →
  V72_k2 c_2 d_7 less more w19 R)
set_option maxRecDepth 100000 in
def V72 (d : Int) (d_2 : Int) (d_3 : Option Addr) (d_3n d_3c : Nat) (d_4 : Int) (d_5 : Option Addr) (d_5n d_5c : Nat) (d_6 : Int) (c : Int) (w : World) (R : Ending → World → Prop) : Prop :=
  ∀ (g : Nat) (w1 : World), g = (World.heap w).size → w1 = World.alloc w (.cells #[.int .i64 d, .int .i64 d_2, .slice d_3 d_3n d_3c, .int .i64 d_4, .slice d_5 d_5n d_5c, .int .i64 d_6] 55) →
  ∃ (n : Int), World.cell? w1 ⟨g, 0, none⟩ = some (.int .i64 n) ∧
  ∃ (n_2 : Int), World.cell? w1 ⟨g, 1, none⟩ = some (.int .i64 n_2) ∧
  ∃ (q : Option Addr) (qn qc : Nat), World.cell? w1 ⟨g, 2, none⟩ = some (.slice q qn qc) ∧
  ∃ (n_3 : Int), World.cell? w1 ⟨g, 3, none⟩ = some (.int .i64 n_3) ∧
  ∃ (q_2 : Option Addr) (q_2n q_2c : Nat), World.cell? w1 ⟨g, 4, none⟩ = some (.slice q_2 q_2n q_2c) ∧
  ∃ (n_4 : Int), World.cell? w1 ⟨g, 5, none⟩ = some (.int .i64 n_4) ∧
  Calls Try.prog 67 #[.agg #[.int .i64 n, .int .i64 n_2, .slice q qn qc, .int .i64 n_3, .slice q_2 q_2n q_2c, .int .i64 n_4]] w1 fun e_ w2 => ∃ (b : Bool), e_ = .returned (.bool b) ∧
  ((!b) = true →
  ∀ w3 : World, Drawn w2 w3 →
  ∃ (n_5 : Int), World.cell? w3 ⟨g, 0, none⟩ = some (.int .i64 n_5) ∧
  ∃ (n_6 : Int), World.cell? w3 ⟨g, 1, none⟩ = some (.int .i64 n_6) ∧
  ∃ (q_3 : Option Addr) (q_3n q_3c : Nat), World.cell? w3 ⟨g, 2, none⟩ = some (.slice q_3 q_3n q_3c) ∧
  ∃ (n_7 : Int), World.cell? w3 ⟨g, 3, none⟩ = some (.int .i64 n_7) ∧
  ∃ (q_4 : Option Addr) (q_4n q_4c : Nat), World.cell? w3 ⟨g, 4, none⟩ = some (.slice q_4 q_4n q_4c) ∧
  ∃ (n_8 : Int), World.cell? w3 ⟨g, 5, none⟩ = some (.int .i64 n_8) ∧
  ∃ (n_9 : Int), World.cell? w3 ⟨g, 1, none⟩ = some (.int .i64 n_9) ∧
  ∃ (q_5 : Option Addr) (q_5n q_5c : Nat), World.cell? w3 ⟨g, 2, none⟩ = some (.slice q_5 q_5n q_5c) ∧
  ∃ (n_10 : Int), World.cell? w3 ⟨g, 1, none⟩ = some (.int .i64 n_10) ∧
  (n_10 : Int) ≠ 0 ∧
  ∃ (n_11 : Int), World.cell? w3 ⟨g, 1, none⟩ = some (.int .i64 n_11) ∧
  ∀ w4 : World, Drawn w3 w4 →
  Calls Try.prog 119 #[.agg #[.int .i64 n_5, .int .i64 n_6, .slice q_3 q_3n q_3c, .int .i64 n_7, .slice q_4 q_4n q_4c, .int .i64 n_8], .agg #[.int .i64 n_9, .slice q_5 q_5n q_5c], .int .i64 (Int.tmod c n_10)] w4 fun e_ w5 => ∃ (q_6 : Option Addr) (q_6n q_6c : Nat), e_ = .returned (.slice q_6 q_6n q_6c) ∧
  Ext w4 w5 ∧
  ∃ (n_12 : Int), (∀ w0 : World, Ext w5 w0 → Calls Try.prog 120 #[.int .i64 c, .int .i64 n_11] w0 fun e_ w00 => e_ = .returned (.int .i64 n_12) ∧ Drawn w0 w00) ∧
  ∀ w6 : World, Drawn w5 w6 →
  R (.returned (.tuple #[.slice q_6 q_6n q_6c, .int .i64 n_12])) w6) ∧
  ((!b) = false →
  ∀ w7 : World, Drawn w2 w7 →
  ∃ B : Nat → Prop,
  ∃ (n_13 : Int), World.cell? w7 ⟨g, 1, none⟩ = some (.int .i64 n_13) ∧
  ∃ (q_7 : Option Addr) (q_7n q_7c : Nat), World.cell? w7 ⟨g, 2, none⟩ = some (.slice q_7 q_7n q_7c) ∧
  ¬ B (Addr.block ⟨g, 3, none⟩) ∧
  ∃ (n_14 : Int), World.cell? w7 ⟨g, 3, none⟩ = some (.int .i64 n_14) ∧
  ∃ (q_8 : Option Addr) (q_8n q_8c : Nat), World.cell? w7 ⟨g, 4, none⟩ = some (.slice q_8 q_8n q_8c) ∧
  (∀ w8 : World, Drawn w7 w8 →
  ∀ (g_2 : Nat) (w9 : World), g_2 = (World.heap w8).size → w9 = World.alloc w8 (.cells #[.int .i64 0, .slice none 0 0] 53) →
  Ext w8 w9 ∧
  ∀ w10 : World, Drawn w9 w10 →
  ∀ (g_3 : Nat) (w11 : World), g_3 = (World.heap w10).size → w11 = World.alloc w10 (.cells #[.int .i64 0, .slice none 0 0] 53) →
  Ext w10 w11 ∧
  ∀ w12 : World, Drawn w11 w12 →
  storeN ⟨g_2, 0, none⟩ [(.int .i64 n_13 : Value), .slice q_7 q_7n q_7c] 0 w12 fun w13 => ∀ w14 : World, w14 = w13 →
  ExtB B w12 w14 ∧
  ∀ w15 : World, Drawn w14 w15 →
  storeN ⟨g_3, 0, none⟩ [(.int .i64 n_14 : Value), .slice q_8 q_8n q_8c] 0 w15 fun w16 => ∀ w17 : World, w17 = w16 →
  ExtB B w15 w17 ∧
  ∀ w18 : World, Drawn w17 w18 →
  V72_k1 c ⟨g, 0, none⟩ ⟨g_2, 0, none⟩ ⟨g_3, 0, none⟩ w18 R) ∧
  (∀ w37 : World, Drawn w7 w37 →
  ∀ (g_4 : Nat) (w38 : World), g_4 = (World.heap w37).size → w38 = World.alloc w37 (.cells #[.int .i64 0, .slice none 0 0] 53) →
  Ext w37 w38 ∧
  ∀ w39 : World, Drawn w38 w39 →
  ∀ (g_5 : Nat) (w40 : World), g_5 = (World.heap w39).size → w40 = World.alloc w39 (.cells #[.int .i64 0, .slice none 0 0] 53) →
  Ext w39 w40 ∧
  ∀ w41 : World, Drawn w40 w41 →
  storeN ⟨g_5, 0, none⟩ [(.int .i64 n_13 : Value), .slice q_7 q_7n q_7c] 0 w41 fun w42 => ∀ w43 : World, w43 = w42 →
  ExtB B w41 w43 ∧
  ∀ w44 : World, Drawn w43 w44 →
  storeN ⟨g_4, 0, none⟩ [(.int .i64 n_14 : Value), .slice q_8 q_8n q_8c] 0 w44 fun w45 => ∀ w46 : World, w46 = w45 →
  ExtB B w44 w46 ∧
  ∀ w47 : World, Drawn w46 w47 →
  V72_k1 c ⟨g, 0, none⟩ ⟨g_5, 0, none⟩ ⟨g_4, 0, none⟩ w47 R))
theorem b72 : Try.f72.body = some (bodyOf Try.f72) := by kernel_rfl
theorem ok72 : okF Try.prog an72 Try.f72 (bodyOf Try.f72) 2 = true := by kernel_rfl
theorem e72 (d : Int) (d_2 : Int) (d_3 : Option Addr) (d_3n d_3c : Nat) (d_4 : Int) (d_5 : Option Addr) (d_5n d_5c : Nat) (d_6 : Int) (c : Int) (w : World) (R : Ending → World → Prop) : vcF Try.prog an72 Try.f72 (bodyOf Try.f72) [.agg #[.int .i64 d, .int .i64 d_2, .slice d_3 d_3n d_3c, .int .i64 d_4, .slice d_5 d_5n d_5c, .int .i64 d_6], .int .i64 c] w R = V72 d d_2 d_3 d_3n d_3c d_4 d_5 d_5n d_5c d_6 c w R := by kernel_rfl
theorem v72 (d : Int) (d_2 : Int) (d_3 : Option Addr) (d_3n d_3c : Nat) (d_4 : Int) (d_5 : Option Addr) (d_5n d_5c : Nat) (d_6 : Int) (c : Int) (w : World) (R : Ending → World → Prop) (hV : V72 d d_2 d_3 d_3n d_3c d_4 d_5 d_5n d_5c d_6 c w R) : Calls Try.prog 72 #[.agg #[.int .i64 d, .int .i64 d_2, .slice d_3 d_3n d_3c, .int .i64 d_4, .slice d_5 d_5n d_5c, .int .i64 d_6], .int .i64 c] w R := calls_vc mixed Try.func72 b72 rfl ok72 (e72 d d_2 d_3 d_3n d_3c d_4 d_5 d_5n d_5c d_6 c w R) hV

/-- cistern/cisternref08.Tables -/
def an75 : Ann := { loops := [], draws := [(2, false, Tr.seq [0, 1, 3, 4, 6, 2, 8, 5, 9, 7, 10] .nil, [], [], [])], tys := [] }
set_option maxRecDepth 100000 in
def V75 (d : Int) (d_2 : Int) (d_3 : Option Addr) (d_3n d_3c : Nat) (d_4 : Int) (d_5 : Option Addr) (d_5n d_5c : Nat) (d_6 : Int) (w : World) (R : Ending → World → Prop) : Prop :=
  ∀ (g : Nat) (w1 : World), g = (World.heap w).size → w1 = World.alloc w (.cells #[.int .i64 d, .int .i64 d_2, .slice d_3 d_3n d_3c, .int .i64 d_4, .slice d_5 d_5n d_5c, .int .i64 d_6] 55) →
  ∃ (n : Int), World.cell? w1 ⟨g, 0, none⟩ = some (.int .i64 n) ∧
  ∃ (n_2 : Int), World.cell? w1 ⟨g, 1, none⟩ = some (.int .i64 n_2) ∧
  ∃ (q : Option Addr) (qn qc : Nat), World.cell? w1 ⟨g, 2, none⟩ = some (.slice q qn qc) ∧
  ∃ (n_3 : Int), World.cell? w1 ⟨g, 3, none⟩ = some (.int .i64 n_3) ∧
  ∃ (q_2 : Option Addr) (q_2n q_2c : Nat), World.cell? w1 ⟨g, 4, none⟩ = some (.slice q_2 q_2n q_2c) ∧
  ∃ (n_4 : Int), World.cell? w1 ⟨g, 5, none⟩ = some (.int .i64 n_4) ∧
  Calls Try.prog 67 #[.agg #[.int .i64 n, .int .i64 n_2, .slice q qn qc, .int .i64 n_3, .slice q_2 q_2n q_2c, .int .i64 n_4]] w1 fun e_ w2 => ∃ (b : Bool), e_ = .returned (.bool b) ∧
  (b = true →
  ∀ w3 : World, Drawn w2 w3 →
  ∃ (n_5 : Int), World.cell? w3 ⟨g, 1, none⟩ = some (.int .i64 n_5) ∧
  ∃ (n_6 : Int), World.cell? w3 ⟨g, 3, none⟩ = some (.int .i64 n_6) ∧
  ∃ (n_7 : Int), World.cell? w3 ⟨g, 5, none⟩ = some (.int .i64 n_7) ∧
  ∀ w4 : World, Drawn w3 w4 →
  R (.returned (.tuple #[.int .i64 n_5, .int .i64 n_6, .int .i64 n_7])) w4) ∧
  (b = false →
  ∃ (n_8 : Int), World.cell? w2 ⟨g, 1, none⟩ = some (.int .i64 n_8) ∧
  R (.returned (.tuple #[.int .i64 n_8, .int .i64 0, .int .i64 (-1)])) w2)
theorem b75 : Try.f75.body = some (bodyOf Try.f75) := by kernel_rfl
theorem ok75 : okF Try.prog an75 Try.f75 (bodyOf Try.f75) 1 = true := by kernel_rfl
theorem e75 (d : Int) (d_2 : Int) (d_3 : Option Addr) (d_3n d_3c : Nat) (d_4 : Int) (d_5 : Option Addr) (d_5n d_5c : Nat) (d_6 : Int) (w : World) (R : Ending → World → Prop) : vcF Try.prog an75 Try.f75 (bodyOf Try.f75) [.agg #[.int .i64 d, .int .i64 d_2, .slice d_3 d_3n d_3c, .int .i64 d_4, .slice d_5 d_5n d_5c, .int .i64 d_6]] w R = V75 d d_2 d_3 d_3n d_3c d_4 d_5 d_5n d_5c d_6 w R := by kernel_rfl
theorem v75 (d : Int) (d_2 : Int) (d_3 : Option Addr) (d_3n d_3c : Nat) (d_4 : Int) (d_5 : Option Addr) (d_5n d_5c : Nat) (d_6 : Int) (w : World) (R : Ending → World → Prop) (hV : V75 d d_2 d_3 d_3n d_3c d_4 d_5 d_5n d_5c d_6 w R) : Calls Try.prog 75 #[.agg #[.int .i64 d, .int .i64 d_2, .slice d_3 d_3n d_3c, .int .i64 d_4, .slice d_5 d_5n d_5c, .int .i64 d_6]] w R := calls_vc mixed Try.func75 b75 rfl ok75 (e75 d d_2 d_3 d_3n d_3c d_4 d_5 d_5n d_5c d_6 w R) hV

/-- cistern/cisternref08.Len -/
def an76 : Ann := { loops := [], draws := [], tys := [] }
set_option maxRecDepth 100000 in
def V76 (d : Int) (d_2 : Int) (d_3 : Option Addr) (d_3n d_3c : Nat) (d_4 : Int) (d_5 : Option Addr) (d_5n d_5c : Nat) (d_6 : Int) (w : World) (R : Ending → World → Prop) : Prop :=
  ∀ (g : Nat) (w1 : World), g = (World.heap w).size → w1 = World.alloc w (.cells #[.int .i64 d, .int .i64 d_2, .slice d_3 d_3n d_3c, .int .i64 d_4, .slice d_5 d_5n d_5c, .int .i64 d_6] 55) →
  ∃ (q : Option Addr) (qn qc : Nat), World.cell? w1 ⟨g, 2, none⟩ = some (.slice q qn qc) ∧
  ∃ (q_2 : Option Addr) (q_2n q_2c : Nat), World.cell? w1 ⟨g, 4, none⟩ = some (.slice q_2 q_2n q_2c) ∧
  R (.returned (.int .i64 (IntKind.wrap .i64 (((qn : Nat) : Int) + ((q_2n : Nat) : Int))))) w1
theorem b76 : Try.f76.body = some (bodyOf Try.f76) := by kernel_rfl
theorem ok76 : okF Try.prog an76 Try.f76 (bodyOf Try.f76) 1 = true := by kernel_rfl
theorem e76 (d : Int) (d_2 : Int) (d_3 : Option Addr) (d_3n d_3c : Nat) (d_4 : Int) (d_5 : Option Addr) (d_5n d_5c : Nat) (d_6 : Int) (w : World) (R : Ending → World → Prop) : vcF Try.prog an76 Try.f76 (bodyOf Try.f76) [.agg #[.int .i64 d, .int .i64 d_2, .slice d_3 d_3n d_3c, .int .i64 d_4, .slice d_5 d_5n d_5c, .int .i64 d_6]] w R = V76 d d_2 d_3 d_3n d_3c d_4 d_5 d_5n d_5c d_6 w R := by kernel_rfl
theorem v76 (d : Int) (d_2 : Int) (d_3 : Option Addr) (d_3n d_3c : Nat) (d_4 : Int) (d_5 : Option Addr) (d_5n d_5c : Nat) (d_6 : Int) (w : World) (R : Ending → World → Prop) (hV : V76 d d_2 d_3 d_3n d_3c d_4 d_5 d_5n d_5c d_6 w R) : Calls Try.prog 76 #[.agg #[.int .i64 d, .int .i64 d_2, .slice d_3 d_3n d_3c, .int .i64 d_4, .slice d_5 d_5n d_5c, .int .i64 d_6]] w R := calls_vc mixed Try.func76 b76 rfl ok76 (e76 d d_2 d_3 d_3n d_3c d_4 d_5 d_5n d_5c d_6 w R) hV

/-- cistern/cisternref08.Keys -/
def an77 : Ann := { loops := [], draws := [], tys := [] }
set_option maxRecDepth 100000 in
def V77 (d : Int) (d_2 : Int) (d_3 : Option Addr) (d_3n d_3c : Nat) (d_4 : Int) (d_5 : Option Addr) (d_5n d_5c : Nat) (d_6 : Int) (w : World) (R : Ending → World → Prop) : Prop :=
  ∀ (g : Nat) (w1 : World), g = (World.heap w).size → w1 = World.alloc w (.cells #[.int .i64 d, .int .i64 d_2, .slice d_3 d_3n d_3c, .int .i64 d_4, .slice d_5 d_5n d_5c, .int .i64 d_6] 55) →
  ∃ (q : Option Addr) (qn qc : Nat), World.cell? w1 ⟨g, 2, none⟩ = some (.slice q qn qc) ∧
  ∃ (q_2 : Option Addr) (q_2n q_2c : Nat), ∃ w2 : World, Sem.run Try.prog (builtin .append #[51, 51] 51 #[false, false] #[.slice none 0 0, .slice q qn qc]) w1 = .ok (.value (.slice q_2 q_2n q_2c)) w2 ∧
  ∃ (q_3 : Option Addr) (q_3n q_3c : Nat), World.cell? w2 ⟨g, 4, none⟩ = some (.slice q_3 q_3n q_3c) ∧
  ∃ (q_4 : Option Addr) (q_4n q_4c : Nat), ∃ w3 : World, Sem.run Try.prog (builtin .append #[51, 51] 51 #[false, false] #[.slice q_2 q_2n q_2c, .slice q_3 q_3n q_3c]) w2 = .ok (.value (.slice q_4 q_4n q_4c)) w3 ∧
  Calls Try.prog 123 #[.slice q_4 q_4n q_4c] w3 fun e_ w4 => ∃ (q_5 : Option Addr) (q_5n q_5c : Nat), e_ = .returned (.slice q_5 q_5n q_5c) ∧
  R (.returned (.slice q_5 q_5n q_5c)) w4
theorem b77 : Try.f77.body = some (bodyOf Try.f77) := by kernel_rfl
theorem ok77 : okF Try.prog an77 Try.f77 (bodyOf Try.f77) 1 = true := by kernel_rfl
theorem e77 (d : Int) (d_2 : Int) (d_3 : Option Addr) (d_3n d_3c : Nat) (d_4 : Int) (d_5 : Option Addr) (d_5n d_5c : Nat) (d_6 : Int) (w : World) (R : Ending → World → Prop) : vcF Try.prog an77 Try.f77 (bodyOf Try.f77) [.agg #[.int .i64 d, .int .i64 d_2, .slice d_3 d_3n d_3c, .int .i64 d_4, .slice d_5 d_5n d_5c, .int .i64 d_6]] w R = V77 d d_2 d_3 d_3n d_3c d_4 d_5 d_5n d_5c d_6 w R := by kernel_rfl
theorem v77 (d : Int) (d_2 : Int) (d_3 : Option Addr) (d_3n d_3c : Nat) (d_4 : Int) (d_5 : Option Addr) (d_5n d_5c : Nat) (d_6 : Int) (w : World) (R : Ending → World → Prop) (hV : V77 d d_2 d_3 d_3n d_3c d_4 d_5 d_5n d_5c d_6 w R) : Calls Try.prog 77 #[.agg #[.int .i64 d, .int .i64 d_2, .slice d_3 d_3n d_3c, .int .i64 d_4, .slice d_5 d_5n d_5c, .int .i64 d_6]] w R := calls_vc mixed Try.func77 b77 rfl ok77 (e77 d d_2 d_3 d_3n d_3c d_4 d_5 d_5n d_5c d_6 w R) hV

/-- cistern/cisternref08.bucket -/
def an118 : Ann := { loops := [], draws := [], tys := [] }
set_option maxRecDepth 100000 in
def V118 (d : Int) (d_2 : Int) (d_3 : Option Addr) (d_3n d_3c : Nat) (d_4 : Int) (d_5 : Option Addr) (d_5n d_5c : Nat) (d_6 : Int) (key : ByteArray) (size : Int) (w : World) (R : Ending → World → Prop) : Prop :=
  ∀ (g : Nat) (w1 : World), g = (World.heap w).size → w1 = World.alloc w (.cells #[.int .i64 d, .int .i64 d_2, .slice d_3 d_3n d_3c, .int .i64 d_4, .slice d_5 d_5n d_5c, .int .i64 d_6] 55) →
  ∃ (n : Int), World.cell? w1 ⟨g, 0, none⟩ = some (.int .i64 n) ∧
  Calls Try.prog 17 #[.int .i64 n, .string key] w1 fun e_ w2 => ∃ (n_2 : Int), e_ = .returned (.int .i64 n_2) ∧
  (size : Int) ≠ 0 ∧
  R (.returned (.int .i64 (Int.tmod n_2 size))) w2
theorem b118 : Try.f118.body = some (bodyOf Try.f118) := by kernel_rfl
theorem ok118 : okF Try.prog an118 Try.f118 (bodyOf Try.f118) 3 = true := by kernel_rfl
theorem e118 (d : Int) (d_2 : Int) (d_3 : Option Addr) (d_3n d_3c : Nat) (d_4 : Int) (d_5 : Option Addr) (d_5n d_5c : Nat) (d_6 : Int) (key : ByteArray) (size : Int) (w : World) (R : Ending → World → Prop) : vcF Try.prog an118 Try.f118 (bodyOf Try.f118) [.agg #[.int .i64 d, .int .i64 d_2, .slice d_3 d_3n d_3c, .int .i64 d_4, .slice d_5 d_5n d_5c, .int .i64 d_6], .string key, .int .i64 size] w R = V118 d d_2 d_3 d_3n d_3c d_4 d_5 d_5n d_5c d_6 key size w R := by kernel_rfl
theorem v118 (d : Int) (d_2 : Int) (d_3 : Option Addr) (d_3n d_3c : Nat) (d_4 : Int) (d_5 : Option Addr) (d_5n d_5c : Nat) (d_6 : Int) (key : ByteArray) (size : Int) (w : World) (R : Ending → World → Prop) (hV : V118 d d_2 d_3 d_3n d_3c d_4 d_5 d_5n d_5c d_6 key size w R) : Calls Try.prog 118 #[.agg #[.int .i64 d, .int .i64 d_2, .slice d_3 d_3n d_3c, .int .i64 d_4, .slice d_5 d_5n d_5c, .int .i64 d_6], .string key, .int .i64 size] w R := calls_vc mixed Try.func118 b118 rfl ok118 (e118 d d_2 d_3 d_3n d_3c d_4 d_5 d_5n d_5c d_6 key size w R) hV

/-- cistern/cisternref08.in -/
def an119 : Ann := { loops := [(3, [(7, .slice), (8, .int .i64)])], draws := [(5, false, Tr.seq [1, 3, 7, 10, 0, 2, 4, 5, 6, 8, 9, 11] .nil, [9], [9], [])], tys := [] }
set_option maxRecDepth 100000 in
def V119_k2 (I : Option Addr → Nat → Nat → Int → World → Prop) (M : Option Addr → Nat → Nat → Int → World → Nat) (l : Option Addr) (ln : Nat) (lc : Nat) (i : Int) (w3 : World) (b_3 : Int) (d_8 : Addr) (t_4 : Addr) (l_3 : Option Addr) (l_3n l_3c : Nat) (i_3 : Int) (w11 : World) (R : Ending → World → Prop) : Prop :=
  (I l_3 l_3n l_3c (IntKind.wrap .i64 (i_3 + 1)) w11 ∧ M l_3 l_3n l_3c (IntKind.wrap .i64 (i_3 + 1)) w11 < M l ln lc i w3)
set_option maxRecDepth 100000 in
def V119_k1 (I : Option Addr → Nat → Nat → Int → World → Prop) (M : Option Addr → Nat → Nat → Int → World → Nat) (l : Option Addr) (ln : Nat) (lc : Nat) (i : Int) (w3 : World) (b_2 : Int) (d_7 : Addr) (t_3 : Addr) (l_2 : Option Addr) (l_2n l_2c : Nat) (i_2 : Int) (w10 : World) (R : Ending → World → Prop) : Prop :=
  V119_k2 I M l ln lc i w3 b_2 d_7 t_3 l_2 l_2n l_2c i_2 w10 R
set_option maxRecDepth 100000 in
def V119 (d : Int) (d_2 : Int) (d_3 : Option Addr) (d_3n d_3c : Nat) (d_4 : Int) (d_5 : Option Addr) (d_5n d_5c : Nat) (d_6 : Int) (t : Int) (t_2 : Option Addr) (t_2n t_2c : Nat) (b : Int) (w : World) (R : Ending → World → Prop) : Prop :=
  ∀ (g : Nat) (w1 : World), g = (World.heap w).size → w1 = World.alloc w (.cells #[.int .i64 d, .int .i64 d_2, .slice d_3 d_3n d_3c, .int .i64 d_4, .slice d_5 d_5n d_5c, .int .i64 d_6] 55) →
  ∀ (g_2 : Nat) (w2 : World), g_2 = (World.heap w1).size → w2 = World.alloc w1 (.cells #[.int .i64 t, .slice t_2 t_2n t_2c] 53) →
  ∃ (I : Option Addr → Nat → Nat → Int → World → Prop) (M : Option Addr → Nat → Nat → Int → World → Nat), I none 0 0 0 w2 ∧
  ∀ (l : Option Addr) (ln lc : Nat) (i : Int) (w3 : World), I l ln lc i w3 →
  ∃ (q : Option Addr) (qn qc : Nat), World.cell? w3 ⟨g_2, 1, none⟩ = some (.slice q qn qc) ∧
  ((decide ((i : Int) < ((qn : Nat) : Int))) = true →
  ∀ w4 : World, Drawn w3 w4 →
  ∃ (n : Int), World.cell? w4 ⟨g, 0, none⟩ = some (.int .i64 n) ∧
  ∃ (n_2 : Int), World.cell? w4 ⟨g, 1, none⟩ = some (.int .i64 n_2) ∧
  ∃ (q_2 : Option Addr) (q_2n q_2c : Nat), World.cell? w4 ⟨g, 2, none⟩ = some (.slice q_2 q_2n q_2c) ∧
  ∃ (n_3 : Int), World.cell? w4 ⟨g, 3, none⟩ = some (.int .i64 n_3) ∧
  ∃ (q_3 : Option Addr) (q_3n q_3c : Nat), World.cell? w4 ⟨g, 4, none⟩ = some (.slice q_3 q_3n q_3c) ∧
  ∃ (n_4 : Int), World.cell? w4 ⟨g, 5, none⟩ = some (.int .i64 n_4) ∧
  ∃ (q_4 : Option Addr) (q_4n q_4c : Nat), World.cell? w4 ⟨g_2, 1, none⟩ = some (.slice q_4 q_4n q_4c) ∧
  ptrC q_4 fun a => (0 : Int) ≤ i ∧ i < ((q_4n : Nat) : Int) ∧
  ∃ (s : ByteArray), World.cell? w4 (Addr.add a ((Int.toNat i) * 2)) = some (.string s) ∧
  ∃ (n_5 : Int), World.cell? w4 ⟨g_2, 0, none⟩ = some (.int .i64 n_5) ∧
  ∀ w5 : World, Drawn w4 w5 →
  Calls Try.prog 118 #[.agg #[.int .i64 n, .int .i64 n_2, .slice q_2 q_2n q_2c, .int .i64 n_3, .slice q_3 q_3n q_3c, .int .i64 n_4], .string s, .int .i64 n_5] w5 fun e_ w6 => ∃ (n_6 : Int), e_ = .returned (.int .i64 n_6) ∧
  Ext w5 w6 ∧
  ∀ w7 : World, Drawn w6 w7 →
  (((n_6 : Int) == b) = true →
  ∃ (q_5 : Option Addr) (q_5n q_5c : Nat), World.cell? w7 ⟨g_2, 1, none⟩ = some (.slice q_5 q_5n q_5c) ∧
  ptrC q_5 fun a_2 => (0 : Int) ≤ i ∧ i < ((q_5n : Nat) : Int) ∧
  ∃ (s_2 : ByteArray), World.cell? w7 (Addr.add a_2 ((Int.toNat i) * 2)) = some (.string s_2) ∧
  ∃ (n_7 : Int), World.cell? w7 ((Addr.add a_2 ((Int.toNat i) * 2)).add 1) = some (.int .i64 n_7) ∧
  ∀ (g_3 : Nat) (w8 : World), g_3 = (World.heap w7).size → w8 = World.alloc w7 (.cells #[.string s_2, .int .i64 n_7] 115) →
  ∃ (q_6 : Option Addr) (q_6n q_6c : Nat), ∃ w9 : World, Sem.run Try.prog (builtin .append #[51, 51] 51 #[false, false] #[.slice l ln lc, .slice (some ⟨g_3, 0, none⟩) 1 1]) w8 = .ok (.value (.slice q_6 q_6n q_6c)) w9 ∧
  V119_k1 I M l ln lc i w3 b ⟨g, 0, none⟩ ⟨g_2, 0, none⟩ q_6 q_6n q_6c i w9 R) ∧
  (((n_6 : Int) == b) = false →
  V119_k1 I M l ln lc i w3 b ⟨g, 0, none⟩ ⟨g_2, 0, none⟩ l ln lc i w7 R)) ∧
  ((decide ((i : Int) < ((qn : Nat) : Int))) = false →
  Calls Try.prog 123 #[.slice l ln lc] w3 fun e_ w12 => ∃ (q_7 : Option Addr) (q_7n q_7c : Nat), e_ = .returned (.slice q_7 q_7n q_7c) ∧
  R (.returned (.slice q_7 q_7n q_7c)) w12)
theorem b119 : Try.f119.body = some (bodyOf Try.f119) := by kernel_rfl
theorem ok119 : okF Try.prog an119 Try.f119 (bodyOf Try.f119) 3 = true := by kernel_rfl
theorem e119 (d : Int) (d_2 : Int) (d_3 : Option Addr) (d_3n d_3c : Nat) (d_4 : Int) (d_5 : Option Addr) (d_5n d_5c : Nat) (d_6 : Int) (t : Int) (t_2 : Option Addr) (t_2n t_2c : Nat) (b : Int) (w : World) (R : Ending → World → Prop) : vcF Try.prog an119 Try.f119 (bodyOf Try.f119) [.agg #[.int .i64 d, .int .i64 d_2, .slice d_3 d_3n d_3c, .int .i64 d_4, .slice d_5 d_5n d_5c, .int .i64 d_6], .agg #[.int .i64 t, .slice t_2 t_2n t_2c], .int .i64 b] w R = V119 d d_2 d_3 d_3n d_3c d_4 d_5 d_5n d_5c d_6 t t_2 t_2n t_2c b w R := by kernel_rfl
theorem v119 (d : Int) (d_2 : Int) (d_3 : Option Addr) (d_3n d_3c : Nat) (d_4 : Int) (d_5 : Option Addr) (d_5n d_5c : Nat) (d_6 : Int) (t : Int) (t_2 : Option Addr) (t_2n t_2c : Nat) (b : Int) (w : World) (R : Ending → World → Prop) (hV : V119 d d_2 d_3 d_3n d_3c d_4 d_5 d_5n d_5c d_6 t t_2 t_2n t_2c b w R) : Calls Try.prog 119 #[.agg #[.int .i64 d, .int .i64 d_2, .slice d_3 d_3n d_3c, .int .i64 d_4, .slice d_5 d_5n d_5c, .int .i64 d_6], .agg #[.int .i64 t, .slice t_2 t_2n t_2c], .int .i64 b] w R := calls_vc mixed Try.func119 b119 rfl ok119 (e119 d d_2 d_3 d_3n d_3c d_4 d_5 d_5n d_5c d_6 t t_2 t_2n t_2c b w R) hV

/-- cistern/cisternref08.next -/
def an120 : Ann := { loops := [(2, [(5, .int .i64)])], draws := [], tys := [] }
set_option maxRecDepth 100000 in
def V120 (c : Int) (size : Int) (w : World) (R : Ending → World → Prop) : Prop :=
  ∃ (I : Int → World → Prop) (M : Int → World → Nat), I 0 w ∧
  ∀ (bits : Int) (w1 : World), I bits w1 →
  (0 : Int) ≤ (IntKind.wrap .u64 bits) ∧
  ((decide (((IntKind.wrap .i64 (1 * 2 ^ (min (Int.toNat (IntKind.wrap .u64 bits)) (IntKind.bits .i64)))) : Int) < size)) = true →
  (I (IntKind.wrap .i64 (bits + 1)) w1 ∧ M (IntKind.wrap .i64 (bits + 1)) w1 < M bits w1)) ∧
  ((decide (((IntKind.wrap .i64 (1 * 2 ^ (min (Int.toNat (IntKind.wrap .u64 bits)) (IntKind.bits .i64)))) : Int) < size)) = false →
  Calls Try.prog 141 #[.int .i64 c, .int .i64 bits] w1 fun e_ w2 => ∃ (n : Int), e_ = .returned (.int .i64 n) ∧
  (size : Int) ≠ 0 ∧
  Calls Try.prog 141 #[.int .i64 (Int.tmod (IntKind.wrap .i64 (n + 1)) size), .int .i64 bits] w2 fun e_ w3 => ∃ (n_2 : Int), e_ = .returned (.int .i64 n_2) ∧
  R (.returned (.int .i64 n_2)) w3)
theorem b120 : Try.f120.body = some (bodyOf Try.f120) := by kernel_rfl
theorem ok120 : okF Try.prog an120 Try.f120 (bodyOf Try.f120) 2 = true := by kernel_rfl
theorem e120 (c : Int) (size : Int) (w : World) (R : Ending → World → Prop) : vcF Try.prog an120 Try.f120 (bodyOf Try.f120) [.int .i64 c, .int .i64 size] w R = V120 c size w R := by kernel_rfl
theorem v120 (c : Int) (size : Int) (w : World) (R : Ending → World → Prop) (hV : V120 c size w R) : Calls Try.prog 120 #[.int .i64 c, .int .i64 size] w R := calls_vc mixed Try.func120 b120 rfl ok120 (e120 c size w R) hV

/-- cistern/cisternref08.rising -/
def an123 : Ann := { loops := [(3, [(3, .slice), (4, .int .i64)]), (7, [(5, .int .i64)])], draws := [(7, false, Tr.seq [0, 1, 2, 3, 4, 5, 6, 8, 9, 10, 11, 7, 12, 13, 14] .nil, [], [], [])], tys := [] }
set_option maxRecDepth 100000 in
def V123_k1 (I : Option Addr → Nat → Nat → Int → World → Prop) (M : Option Addr → Nat → Nat → Int → World → Nat) (out : Option Addr) (outn : Nat) (outc : Nat) (i : Int) (w1 : World) (I_2 : Int → World → Prop) (M_2 : Int → World → Nat) (k : Int) (w4 : World) (l_2 : Option Addr) (l_2n l_2c : Nat) (out_2 : Option Addr) (out_2n out_2c : Nat) (i_2 : Int) (k_2 : Int) (b : Bool) (w7 : World) (R : Ending → World → Prop) : Prop :=
  (b = true →
  ptrC out_2 fun a_3 => (0 : Int) ≤ (IntKind.wrap .i64 (k_2 - 1)) ∧ (IntKind.wrap .i64 (k_2 - 1)) < ((out_2n : Nat) : Int) ∧
  ∃ (s_3 : ByteArray), World.cell? w7 (Addr.add a_3 ((Int.toNat (IntKind.wrap .i64 (k_2 - 1))) * 1)) = some (.string s_3) ∧
  ptrC out_2 fun a_4 => (0 : Int) ≤ k_2 ∧ k_2 < ((out_2n : Nat) : Int) ∧
  (∃ v0 : Value, World.cell? w7 (Addr.add a_4 ((Int.toNat k_2) * 1)) = some v0) ∧ World.frozen? w7 (Addr.add a_4 ((Int.toNat k_2) * 1)) = false ∧
  ∀ w8 : World, w8 = (World.setCell w7 (Addr.add a_4 ((Int.toNat k_2) * 1)) (.string s_3)) →
  (I_2 (IntKind.wrap .i64 (k_2 - 1)) w8 ∧ M_2 (IntKind.wrap .i64 (k_2 - 1)) w8 < M_2 k w4)) ∧
  (b = false →
  ptrC l_2 fun a_5 => (0 : Int) ≤ i_2 ∧ i_2 < ((l_2n : Nat) : Int) ∧
  ∃ (s_4 : ByteArray), World.cell? w7 (Addr.add a_5 ((Int.toNat i_2) * 2)) = some (.string s_4) ∧
  ptrC out_2 fun a_6 => (0 : Int) ≤ k_2 ∧ k_2 < ((out_2n : Nat) : Int) ∧
  (∃ v0 : Value, World.cell? w7 (Addr.add a_6 ((Int.toNat k_2) * 1)) = some v0) ∧ World.frozen? w7 (Addr.add a_6 ((Int.toNat k_2) * 1)) = false ∧
  ∀ w9 : World, w9 = (World.setCell w7 (Addr.add a_6 ((Int.toNat k_2) * 1)) (.string s_4)) →
  (I out_2 out_2n out_2c (IntKind.wrap .i64 (i_2 + 1)) w9 ∧ M out_2 out_2n out_2c (IntKind.wrap .i64 (i_2 + 1)) w9 < M out outn outc i w1))
set_option maxRecDepth 100000 in
def V123 (l : Option Addr) (ln lc : Nat) (w : World) (R : Ending → World → Prop) : Prop :=
  ∃ (I : Option Addr → Nat → Nat → Int → World → Prop) (M : Option Addr → Nat → Nat → Int → World → Nat), I none 0 0 0 w ∧
  ∀ (out : Option Addr) (outn outc : Nat) (i : Int) (w1 : World), I out outn outc i w1 →
  ((decide ((i : Int) < ((ln : Nat) : Int))) = true →
  ∀ (g : Nat) (w2 : World), g = (World.heap w1).size → w2 = World.alloc w1 (.cells #[.string (ByteArray.mk #[])] 9) →
  ∃ (q : Option Addr) (qn qc : Nat), ∃ w3 : World, Sem.run Try.prog (builtin .append #[30, 30] 30 #[false, false] #[.slice out outn outc, .slice (some ⟨g, 0, none⟩) 1 1]) w2 = .ok (.value (.slice q qn qc)) w3 ∧
  ∃ (I_2 : Int → World → Prop) (M_2 : Int → World → Nat), I_2 ((outn : Nat) : Int) w3 ∧
  ∀ (k : Int) (w4 : World), I_2 k w4 →
  ∀ w5 : World, Drawn w4 w5 →
  ((decide ((k : Int) > 0)) = true →
  ptrC q fun a => (0 : Int) ≤ (IntKind.wrap .i64 (k - 1)) ∧ (IntKind.wrap .i64 (k - 1)) < ((qn : Nat) : Int) ∧
  ptrC l fun a_2 => (0 : Int) ≤ i ∧ i < ((ln : Nat) : Int) ∧
  ∃ (s : ByteArray), World.cell? w5 (Addr.add a ((Int.toNat (IntKind.wrap .i64 (k - 1))) * 1)) = some (.string s) ∧
  ∃ (s_2 : ByteArray), World.cell? w5 (Addr.add a_2 ((Int.toNat i) * 2)) = some (.string s_2) ∧
  ∀ w6 : World, Drawn w5 w6 →
  V123_k1 I M out outn outc i w1 I_2 M_2 k w4 l ln lc q qn qc i k (!(strLt s s_2 || strEq s s_2)) w6 R) ∧
  ((decide ((k : Int) > 0)) = !true →
  ∀ w10 : World, Drawn w5 w10 →
  V123_k1 I M out outn outc i w1 I_2 M_2 k w4 l ln lc q qn qc i k false w10 R)) ∧
  ((decide ((i : Int) < ((ln : Nat) : Int))) = false →
  R (.returned (.slice out outn outc)) w1)
theorem b123 : Try.f123.body = some (bodyOf Try.f123) := by kernel_rfl
theorem ok123 : okF Try.prog an123 Try.f123 (bodyOf Try.f123) 1 = true := by kernel_rfl
theorem e123 (l : Option Addr) (ln lc : Nat) (w : World) (R : Ending → World → Prop) : vcF Try.prog an123 Try.f123 (bodyOf Try.f123) [.slice l ln lc] w R = V123 l ln lc w R := by kernel_rfl
theorem v123 (l : Option Addr) (ln lc : Nat) (w : World) (R : Ending → World → Prop) (hV : V123 l ln lc w R) : Calls Try.prog 123 #[.slice l ln lc] w R := calls_vc mixed Try.func123 b123 rfl ok123 (e123 l ln lc w R) hV

/-- cistern/cisternref08.turned -/
def an141 : Ann := { loops := [(3, [(5, .int .i64), (6, .int .i64)])], draws := [], tys := [] }
set_option maxRecDepth 100000 in
def V141 (c : Int) (bits : Int) (w : World) (R : Ending → World → Prop) : Prop :=
  ∃ (I : Int → Int → World → Prop) (M : Int → Int → World → Nat), I 0 0 w ∧
  ∀ (out : Int) (i : Int) (w1 : World), I out i w1 →
  ((decide ((i : Int) < bits)) = true →
  (0 : Int) ≤ (IntKind.wrap .u64 i) ∧
  (I (IntKind.wrap .i64 ((IntKind.wrap .i64 (out * 2)) + (andI .i64 (Int.fdiv c (2 ^ (min (Int.toNat (IntKind.wrap .u64 i)) (IntKind.bits .i64)))) 1))) (IntKind.wrap .i64 (i + 1)) w1 ∧ M (IntKind.wrap .i64 ((IntKind.wrap .i64 (out * 2)) + (andI .i64 (Int.fdiv c (2 ^ (min (Int.toNat (IntKind.wrap .u64 i)) (IntKind.bits .i64)))) 1))) (IntKind.wrap .i64 (i + 1)) w1 < M out i w1)) ∧
  ((decide ((i : Int) < bits)) = false →
  R (.returned (.int .i64 out)) w1)
theorem b141 : Try.f141.body = some (bodyOf Try.f141) := by kernel_rfl
theorem ok141 : okF Try.prog an141 Try.f141 (bodyOf Try.f141) 2 = true := by kernel_rfl
theorem e141 (c : Int) (bits : Int) (w : World) (R : Ending → World → Prop) : vcF Try.prog an141 Try.f141 (bodyOf Try.f141) [.int .i64 c, .int .i64 bits] w R = V141 c bits w R := by kernel_rfl
theorem v141 (c : Int) (bits : Int) (w : World) (R : Ending → World → Prop) (hV : V141 c bits w R) : Calls Try.prog 141 #[.int .i64 c, .int .i64 bits] w R := calls_vc mixed Try.func141 b141 rfl ok141 (e141 c bits w R) hV

end Go.Proofs.Ytcljmlgbmjjldaa.F
