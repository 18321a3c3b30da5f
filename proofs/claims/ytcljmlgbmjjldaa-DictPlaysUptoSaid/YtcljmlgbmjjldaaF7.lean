/- The verification conditions of Go functions, printed by wip/gen/gen.py; the kernel checks that each is the one reckoned from the code. -/
import Derived.Test.YtcljmlgbmjjldaaProg
import Derived.Test.YtcljmlgbmjjldaaVC
import Derived.Test.YtcljmlgbmjjldaaF0
set_option linter.unusedVariables false
namespace Go.Proofs.Ytcljmlgbmjjldaa.F
open Go Go.VC Go.Proofs
/-- cistern/cisternlaw08.as -/
def an37 : Ann := { loops := [], draws := [(3, false, Tr.seq [0, 1, 2, 3, 4, 5, 6, 7, 8, 9, 10, 11, 12, 13, 14, 15, 16, 17, 18, 19, 20, 21, 23, 22, 24, 25, 26, 27] .nil, [17, 22, 24], [17, 22, 24], [])], tys := [] }
set_option maxRecDepth 100000 in
def V37 (d : Addr) (r : Int) (r_2 : Int) (r_3 : Option Addr) (r_3n r_3c : Nat) (r_4 : Int) (r_5 : Option Addr) (r_5n r_5c : Nat) (r_6 : Int) (w : World) (R : Ending → World → Prop) : Prop :=
  ∀ (g : Nat) (w1 : World), g = (World.heap w).size → w1 = World.alloc w (.cells #[.int .i64 r, .int .i64 r_2, .slice r_3 r_3n r_3c, .int .i64 r_4, .slice r_5 r_5n r_5c, .int .i64 r_6] 55) →
  Calls Try.prog 26 #[.pointer (some d)] w1 fun e_ w2 => ∃ (n : Int), ∃ (n_2 : Int), ∃ (n_3 : Int), e_ = .returned (.tuple #[.int .i64 n, .int .i64 n_2, .int .i64 n_3]) ∧
  ∃ (n_4 : Int), World.cell? w2 ⟨g, 0, none⟩ = some (.int .i64 n_4) ∧
  ∃ (n_5 : Int), World.cell? w2 ⟨g, 1, none⟩ = some (.int .i64 n_5) ∧
  ∃ (q : Option Addr) (qn qc : Nat), World.cell? w2 ⟨g, 2, none⟩ = some (.slice q qn qc) ∧
  ∃ (n_6 : Int), World.cell? w2 ⟨g, 3, none⟩ = some (.int .i64 n_6) ∧
  ∃ (q_2 : Option Addr) (q_2n q_2c : Nat), World.cell? w2 ⟨g, 4, none⟩ = some (.slice q_2 q_2n q_2c) ∧
  ∃ (n_7 : Int), World.cell? w2 ⟨g, 5, none⟩ = some (.int .i64 n_7) ∧
  Calls Try.prog 75 #[.agg #[.int .i64 n_4, .int .i64 n_5, .slice q qn qc, .int .i64 n_6, .slice q_2 q_2n q_2c, .int .i64 n_7]] w2 fun e_ w3 => ∃ (n_8 : Int), ∃ (n_9 : Int), ∃ (n_10 : Int), e_ = .returned (.tuple #[.int .i64 n_8, .int .i64 n_9, .int .i64 n_10]) ∧
  ∀ w4 : World, Drawn w3 w4 →
  (((n : Int) == n_8) = true →
  (((n_2 : Int) == n_9) = true →
  (((n_3 : Int) == n_10) = true →
  ∃ (n_11 : Int), (∀ w0 : World, Ext w4 w0 → Calls Try.prog 22 #[.pointer (some d)] w0 fun e_ w00 => e_ = .returned (.int .i64 n_11) ∧ Drawn w0 w00) ∧
  ∃ (n_12 : Int), World.cell? w4 ⟨g, 0, none⟩ = some (.int .i64 n_12) ∧
  ∃ (n_13 : Int), World.cell? w4 ⟨g, 1, none⟩ = some (.int .i64 n_13) ∧
  ∃ (q_3 : Option Addr) (q_3n q_3c : Nat), World.cell? w4 ⟨g, 2, none⟩ = some (.slice q_3 q_3n q_3c) ∧
  ∃ (n_14 : Int), World.cell? w4 ⟨g, 3, none⟩ = some (.int .i64 n_14) ∧
  ∃ (q_4 : Option Addr) (q_4n q_4c : Nat), World.cell? w4 ⟨g, 4, none⟩ = some (.slice q_4 q_4n q_4c) ∧
  ∃ (n_15 : Int), World.cell? w4 ⟨g, 5, none⟩ = some (.int .i64 n_15) ∧
  ∀ w5 : World, Drawn w4 w5 →
  Calls Try.prog 76 #[.agg #[.int .i64 n_12, .int .i64 n_13, .slice q_3 q_3n q_3c, .int .i64 n_14, .slice q_4 q_4n q_4c, .int .i64 n_15]] w5 fun e_ w6 => ∃ (n_16 : Int), e_ = .returned (.int .i64 n_16) ∧
  Ext w5 w6 ∧
  (((n_11 : Int) == n_16) = true →
  ∃ (n_17 : Int), World.cell? w6 ⟨g, 0, none⟩ = some (.int .i64 n_17) ∧
  ∃ (n_18 : Int), World.cell? w6 ⟨g, 1, none⟩ = some (.int .i64 n_18) ∧
  ∃ (q_5 : Option Addr) (q_5n q_5c : Nat), World.cell? w6 ⟨g, 2, none⟩ = some (.slice q_5 q_5n q_5c) ∧
  ∃ (n_19 : Int), World.cell? w6 ⟨g, 3, none⟩ = some (.int .i64 n_19) ∧
  ∃ (q_6 : Option Addr) (q_6n q_6c : Nat), World.cell? w6 ⟨g, 4, none⟩ = some (.slice q_6 q_6n q_6c) ∧
  ∃ (n_20 : Int), World.cell? w6 ⟨g, 5, none⟩ = some (.int .i64 n_20) ∧
  ∀ w7 : World, Drawn w6 w7 →
  Calls Try.prog 21 #[.pointer (some d)] w7 fun e_ w8 => ∃ (q_7 : Option Addr) (q_7n q_7c : Nat), e_ = .returned (.slice q_7 q_7n q_7c) ∧
  Ext w7 w8 ∧
  ∀ w9 : World, Drawn w8 w9 →
  Calls Try.prog 77 #[.agg #[.int .i64 n_17, .int .i64 n_18, .slice q_5 q_5n q_5c, .int .i64 n_19, .slice q_6 q_6n q_6c, .int .i64 n_20]] w9 fun e_ w10 => ∃ (q_8 : Option Addr) (q_8n q_8c : Nat), e_ = .returned (.slice q_8 q_8n q_8c) ∧
  Ext w9 w10 ∧
  ∃ (b : Bool), (∀ w0 : World, Ext w10 w0 → Calls Try.prog 34 #[.slice q_7 q_7n q_7c, .slice q_8 q_8n q_8c] w0 fun e_ w00 => e_ = .returned (.bool b) ∧ Drawn w0 w00) ∧
  ∀ w11 : World, Drawn w10 w11 →
  R (.returned (.bool b)) w11) ∧
  (((n_11 : Int) == n_16) = !true →
  ∀ w12 : World, Drawn w6 w12 →
  R (.returned (.bool false)) w12)) ∧
  (((n_3 : Int) == n_10) = !true →
  ∀ w13 : World, Drawn w4 w13 →
  R (.returned (.bool false)) w13)) ∧
  (((n_2 : Int) == n_9) = !true →
  ∀ w14 : World, Drawn w4 w14 →
  R (.returned (.bool false)) w14)) ∧
  (((n : Int) == n_8) = !true →
  ∀ w15 : World, Drawn w4 w15 →
  R (.returned (.bool false)) w15)
theorem b37 : Try.f37.body = some (bodyOf Try.f37) := by kernel_rfl
theorem ok37 : okF Try.prog an37 Try.f37 (bodyOf Try.f37) 2 = true := by kernel_rfl
theorem e37 (d : Addr) (r : Int) (r_2 : Int) (r_3 : Option Addr) (r_3n r_3c : Nat) (r_4 : Int) (r_5 : Option Addr) (r_5n r_5c : Nat) (r_6 : Int) (w : World) (R : Ending → World → Prop) : vcF Try.prog an37 Try.f37 (bodyOf Try.f37) [.pointer (some d), .agg #[.int .i64 r, .int .i64 r_2, .slice r_3 r_3n r_3c, .int .i64 r_4, .slice r_5 r_5n r_5c, .int .i64 r_6]] w R = V37 d r r_2 r_3 r_3n r_3c r_4 r_5 r_5n r_5c r_6 w R := by kernel_rfl
theorem v37 (d : Addr) (r : Int) (r_2 : Int) (r_3 : Option Addr) (r_3n r_3c : Nat) (r_4 : Int) (r_5 : Option Addr) (r_5n r_5c : Nat) (r_6 : Int) (w : World) (R : Ending → World → Prop) (hV : V37 d r r_2 r_3 r_3n r_3c r_4 r_5 r_5n r_5c r_6 w R) : Calls Try.prog 37 #[.pointer (some d), .agg #[.int .i64 r, .int .i64 r_2, .slice r_3 r_3n r_3c, .int .i64 r_4, .slice r_5 r_5n r_5c, .int .i64 r_6]] w R := calls_vc mixed Try.func37 b37 rfl ok37 (e37 d r r_2 r_3 r_3n r_3c r_4 r_5 r_5n r_5c r_6 w R) hV

/-- cistern/cisternlaw08.DictPlays -/
def an9 : Ann := { loops := [(6, [(5, .ptr), (7, .int .i64)])], draws := [], tys := [] }
set_option maxRecDepth 100000 in
def V9_k4 (I : Option Addr → Int → World → Prop) (M : Option Addr → Int → World → Nat) (d_2 : Option Addr) (i : Int) (w8 : World) (script_5 : Option Addr) (script_5n script_5c : Nat) (d_5 : Option Addr) (r_4 : Addr) (i_4 : Int) (b_6 : Bool) (w22 : World) (R : Ending → World → Prop) : Prop :=
  (b_6 = true →
  R (.returned (.bool false)) w22) ∧
  (b_6 = false →
  (I d_5 (IntKind.wrap .i64 (i_4 + 1)) w22 ∧ M d_5 (IntKind.wrap .i64 (i_4 + 1)) w22 < M d_2 i w8))
set_option maxRecDepth 100000 in
def V9_k3 (I : Option Addr → Int → World → Prop) (M : Option Addr → Int → World → Nat) (d_2 : Option Addr) (i : Int) (w8 : World) (script_4 : Option Addr) (script_4n script_4c : Nat) (d_4 : Option Addr) (r_3 : Addr) (i_3 : Int) (ok_2 : Bool) (w20 : World) (R : Ending → World → Prop) : Prop :=
  ((!ok_2) = false →
  ∃ (n_22 : Int), World.cell? w20 r_3 = some (.int .i64 n_22) ∧
  ∃ (n_23 : Int), World.cell? w20 (r_3.add 1) = some (.int .i64 n_23) ∧
  ∃ (q_9 : Option Addr) (q_9n q_9c : Nat), World.cell? w20 (r_3.add 2) = some (.slice q_9 q_9n q_9c) ∧
  ∃ (n_24 : Int), World.cell? w20 (r_3.add 3) = some (.int .i64 n_24) ∧
  ∃ (q_10 : Option Addr) (q_10n q_10c : Nat), World.cell? w20 (r_3.add 4) = some (.slice q_10 q_10n q_10c) ∧
  ∃ (n_25 : Int), World.cell? w20 (r_3.add 5) = some (.int .i64 n_25) ∧
  Calls Try.prog 37 #[.pointer d_4, .agg #[.int .i64 n_22, .int .i64 n_23, .slice q_9 q_9n q_9c, .int .i64 n_24, .slice q_10 q_10n q_10c, .int .i64 n_25]] w20 fun e_ w21 => ∃ (b_5 : Bool), e_ = .returned (.bool b_5) ∧
  V9_k4 I M d_2 i w8 script_4 script_4n script_4c d_4 r_3 i_3 (!b_5) w21 R) ∧
  ((!ok_2) = !false →
  V9_k4 I M d_2 i w8 script_4 script_4n script_4c d_4 r_3 i_3 true w20 R)
set_option maxRecDepth 100000 in
def V9_k2 (I : Option Addr → Int → World → Prop) (M : Option Addr → Int → World → Nat) (d_2 : Option Addr) (i : Int) (w8 : World) (script_3 : Option Addr) (script_3n script_3c : Nat) (d_3 : Option Addr) (r_2 : Addr) (i_2 : Int) (ok : Bool) (w19 : World) (R : Ending → World → Prop) : Prop :=
  V9_k3 I M d_2 i w8 script_3 script_3n script_3c d_3 r_2 i_2 ok w19 R
set_option maxRecDepth 100000 in
def V9_k1 (script_2 : Option Addr) (script_2n script_2c : Nat) (d : Option Addr) (r : Addr) (b_2 : Bool) (w7 : World) (R : Ending → World → Prop) : Prop :=
  (b_2 = true →
  R (.returned (.bool false)) w7) ∧
  (b_2 = false →
  ∃ (I : Option Addr → Int → World → Prop) (M : Option Addr → Int → World → Nat), I d 0 w7 ∧
  ∀ (d_2 : Option Addr) (i : Int) (w8 : World), I d_2 i w8 →
  ((decide ((i : Int) < ((script_2n : Nat) : Int))) = true →
  ptrC script_2 fun a => (0 : Int) ≤ i ∧ i < ((script_2n : Nat) : Int) ∧
  ∃ (n_5 : Int), World.cell? w8 (Addr.add a ((Int.toNat i) * 3)) = some (.int .i64 n_5) ∧
  ∃ (s : ByteArray), World.cell? w8 ((Addr.add a ((Int.toNat i) * 3)).add 1) = some (.string s) ∧
  ∃ (n_6 : Int), World.cell? w8 ((Addr.add a ((Int.toNat i) * 3)).add 2) = some (.int .i64 n_6) ∧
  ∀ (g_2 : Nat) (w9 : World), g_2 = (World.heap w8).size → w9 = World.alloc w8 (.cells #[.int .i64 0, .string (ByteArray.mk #[]), .int .i64 0] 33) →
  storeN ⟨g_2, 0, none⟩ [(.int .i64 n_5 : Value), .string s, .int .i64 n_6] 0 w9 fun w10 => ∀ w11 : World, w11 = w10 →
  ∃ (n_7 : Int), World.cell? w11 ⟨g_2, 0, none⟩ = some (.int .i64 n_7) ∧
  (((n_7 : Int) == 0) = true →
  ∃ (n_8 : Int), World.cell? w11 r = some (.int .i64 n_8) ∧
  ∃ (n_9 : Int), World.cell? w11 (r.add 1) = some (.int .i64 n_9) ∧
  ∃ (q_3 : Option Addr) (q_3n q_3c : Nat), World.cell? w11 (r.add 2) = some (.slice q_3 q_3n q_3c) ∧
  ∃ (n_10 : Int), World.cell? w11 (r.add 3) = some (.int .i64 n_10) ∧
  ∃ (q_4 : Option Addr) (q_4n q_4c : Nat), World.cell? w11 (r.add 4) = some (.slice q_4 q_4n q_4c) ∧
  ∃ (n_11 : Int), World.cell? w11 (r.add 5) = some (.int .i64 n_11) ∧
  ∃ (s_2 : ByteArray), World.cell? w11 ⟨g_2, 1, none⟩ = some (.string s_2) ∧
  ∃ (n_12 : Int), World.cell? w11 ⟨g_2, 2, none⟩ = some (.int .i64 n_12) ∧
  Calls Try.prog 29 #[.agg #[.int .i64 n_8, .int .i64 n_9, .slice q_3 q_3n q_3c, .int .i64 n_10, .slice q_4 q_4n q_4c, .int .i64 n_11], .string s_2, .int .i64 n_12] w11 fun e_ w12 => ∃ (n_13 : Int), ∃ (n_14 : Int), ∃ (q_5 : Option Addr) (q_5n q_5c : Nat), ∃ (n_15 : Int), ∃ (q_6 : Option Addr) (q_6n q_6c : Nat), ∃ (n_16 : Int), ∃ (b_3 : Bool), e_ = .returned (.tuple #[.agg #[.int .i64 n_13, .int .i64 n_14, .slice q_5 q_5n q_5c, .int .i64 n_15, .slice q_6 q_6n q_6c, .int .i64 n_16], .bool b_3]) ∧
  ∀ (g_3 : Nat) (w13 : World), g_3 = (World.heap w12).size → w13 = World.alloc w12 (.cells #[.int .i64 0, .int .i64 0, .slice none 0 0, .int .i64 0, .slice none 0 0, .int .i64 0] 55) →
  storeN ⟨g_3, 0, none⟩ [(.int .i64 n_13 : Value), .int .i64 n_14, .slice q_5 q_5n q_5c, .int .i64 n_15, .slice q_6 q_6n q_6c, .int .i64 n_16] 0 w13 fun w14 => ∀ w15 : World, w15 = w14 →
  ∃ (s_3 : ByteArray), World.cell? w15 ⟨g_2, 1, none⟩ = some (.string s_3) ∧
  ∃ (n_17 : Int), World.cell? w15 ⟨g_2, 2, none⟩ = some (.int .i64 n_17) ∧
  Calls Try.prog 19 #[.pointer d_2, .string s_3, .int .i64 n_17] w15 fun e_ w16 => ∃ (b_4 : Bool), e_ = .returned (.bool b_4) ∧
  ∃ (n_18 : Int), World.cell? w16 ⟨g_3, 0, none⟩ = some (.int .i64 n_18) ∧
  ∃ (n_19 : Int), World.cell? w16 ⟨g_3, 1, none⟩ = some (.int .i64 n_19) ∧
  ∃ (q_7 : Option Addr) (q_7n q_7c : Nat), World.cell? w16 ⟨g_3, 2, none⟩ = some (.slice q_7 q_7n q_7c) ∧
  ∃ (n_20 : Int), World.cell? w16 ⟨g_3, 3, none⟩ = some (.int .i64 n_20) ∧
  ∃ (q_8 : Option Addr) (q_8n q_8c : Nat), World.cell? w16 ⟨g_3, 4, none⟩ = some (.slice q_8 q_8n q_8c) ∧
  ∃ (n_21 : Int), World.cell? w16 ⟨g_3, 5, none⟩ = some (.int .i64 n_21) ∧
  storeN r [(.int .i64 n_18 : Value), .int .i64 n_19, .slice q_7 q_7n q_7c, .int .i64 n_20, .slice q_8 q_8n q_8c, .int .i64 n_21] 0 w16 fun w17 => ∀ w18 : World, w18 = w17 →
  V9_k2 I M d_2 i w8 script_2 script_2n script_2c d_2 r i (b_4 == b_3) w18 R) ∧
  (((n_7 : Int) == 0) = false →
  (((n_7 : Int) == 1) = true →
  ∃ (n_26 : Int), World.cell? w11 r = some (.int .i64 n_26) ∧
  ∃ (n_27 : Int), World.cell? w11 (r.add 1) = some (.int .i64 n_27) ∧
  ∃ (q_11 : Option Addr) (q_11n q_11c : Nat), World.cell? w11 (r.add 2) = some (.slice q_11 q_11n q_11c) ∧
  ∃ (n_28 : Int), World.cell? w11 (r.add 3) = some (.int .i64 n_28) ∧
  ∃ (q_12 : Option Addr) (q_12n q_12c : Nat), World.cell? w11 (r.add 4) = some (.slice q_12 q_12n q_12c) ∧
  ∃ (n_29 : Int), World.cell? w11 (r.add 5) = some (.int .i64 n_29) ∧
  ∃ (s_4 : ByteArray), World.cell? w11 ⟨g_2, 1, none⟩ = some (.string s_4) ∧
  Calls Try.prog 30 #[.agg #[.int .i64 n_26, .int .i64 n_27, .slice q_11 q_11n q_11c, .int .i64 n_28, .slice q_12 q_12n q_12c, .int .i64 n_29], .string s_4] w11 fun e_ w23 => ∃ (n_30 : Int), ∃ (n_31 : Int), ∃ (q_13 : Option Addr) (q_13n q_13c : Nat), ∃ (n_32 : Int), ∃ (q_14 : Option Addr) (q_14n q_14c : Nat), ∃ (n_33 : Int), ∃ (b_7 : Bool), e_ = .returned (.tuple #[.agg #[.int .i64 n_30, .int .i64 n_31, .slice q_13 q_13n q_13c, .int .i64 n_32, .slice q_14 q_14n q_14c, .int .i64 n_33], .bool b_7]) ∧
  ∀ (g_4 : Nat) (w24 : World), g_4 = (World.heap w23).size → w24 = World.alloc w23 (.cells #[.int .i64 0, .int .i64 0, .slice none 0 0, .int .i64 0, .slice none 0 0, .int .i64 0] 55) →
  storeN ⟨g_4, 0, none⟩ [(.int .i64 n_30 : Value), .int .i64 n_31, .slice q_13 q_13n q_13c, .int .i64 n_32, .slice q_14 q_14n q_14c, .int .i64 n_33] 0 w24 fun w25 => ∀ w26 : World, w26 = w25 →
  ∃ (s_5 : ByteArray), World.cell? w26 ⟨g_2, 1, none⟩ = some (.string s_5) ∧
  Calls Try.prog 20 #[.pointer d_2, .string s_5] w26 fun e_ w27 => ∃ (b_8 : Bool), e_ = .returned (.bool b_8) ∧
  ∃ (n_34 : Int), World.cell? w27 ⟨g_4, 0, none⟩ = some (.int .i64 n_34) ∧
  ∃ (n_35 : Int), World.cell? w27 ⟨g_4, 1, none⟩ = some (.int .i64 n_35) ∧
  ∃ (q_15 : Option Addr) (q_15n q_15c : Nat), World.cell? w27 ⟨g_4, 2, none⟩ = some (.slice q_15 q_15n q_15c) ∧
  ∃ (n_36 : Int), World.cell? w27 ⟨g_4, 3, none⟩ = some (.int .i64 n_36) ∧
  ∃ (q_16 : Option Addr) (q_16n q_16c : Nat), World.cell? w27 ⟨g_4, 4, none⟩ = some (.slice q_16 q_16n q_16c) ∧
  ∃ (n_37 : Int), World.cell? w27 ⟨g_4, 5, none⟩ = some (.int .i64 n_37) ∧
  storeN r [(.int .i64 n_34 : Value), .int .i64 n_35, .slice q_15 q_15n q_15c, .int .i64 n_36, .slice q_16 q_16n q_16c, .int .i64 n_37] 0 w27 fun w28 => ∀ w29 : World, w29 = w28 →
  V9_k2 I M d_2 i w8 script_2 script_2n script_2c d_2 r i (b_8 == b_7) w29 R) ∧
  (((n_7 : Int) == 1) = false →
  (((n_7 : Int) == 2) = true →
  ∃ (n_38 : Int), World.cell? w11 ⟨g_2, 2, none⟩ = some (.int .i64 n_38) ∧
  (100 : Int) ≠ 0 ∧
  Calls Try.prog 31 #[.pointer d_2, .int .i64 (Int.tmod n_38 100)] w11 fun e_ w30 => e_ = .returned (.tuple #[]) ∧
  ∃ (n_39 : Int), World.cell? w30 r = some (.int .i64 n_39) ∧
  ∃ (n_40 : Int), World.cell? w30 (r.add 1) = some (.int .i64 n_40) ∧
  ∃ (q_17 : Option Addr) (q_17n q_17c : Nat), World.cell? w30 (r.add 2) = some (.slice q_17 q_17n q_17c) ∧
  ∃ (n_41 : Int), World.cell? w30 (r.add 3) = some (.int .i64 n_41) ∧
  ∃ (q_18 : Option Addr) (q_18n q_18c : Nat), World.cell? w30 (r.add 4) = some (.slice q_18 q_18n q_18c) ∧
  ∃ (n_42 : Int), World.cell? w30 (r.add 5) = some (.int .i64 n_42) ∧
  ∃ (n_43 : Int), World.cell? w30 ⟨g_2, 2, none⟩ = some (.int .i64 n_43) ∧
  (100 : Int) ≠ 0 ∧
  Calls Try.prog 32 #[.agg #[.int .i64 n_39, .int .i64 n_40, .slice q_17 q_17n q_17c, .int .i64 n_41, .slice q_18 q_18n q_18c, .int .i64 n_42], .int .i64 (Int.tmod n_43 100)] w30 fun e_ w31 => ∃ (n_44 : Int), ∃ (n_45 : Int), ∃ (q_19 : Option Addr) (q_19n q_19c : Nat), ∃ (n_46 : Int), ∃ (q_20 : Option Addr) (q_20n q_20c : Nat), ∃ (n_47 : Int), e_ = .returned (.agg #[.int .i64 n_44, .int .i64 n_45, .slice q_19 q_19n q_19c, .int .i64 n_46, .slice q_20 q_20n q_20c, .int .i64 n_47]) ∧
  storeN r [(.int .i64 n_44 : Value), .int .i64 n_45, .slice q_19 q_19n q_19c, .int .i64 n_46, .slice q_20 q_20n q_20c, .int .i64 n_47] 0 w31 fun w32 => ∀ w33 : World, w33 = w32 →
  V9_k2 I M d_2 i w8 script_2 script_2n script_2c d_2 r i true w33 R) ∧
  (((n_7 : Int) == 2) = false →
  (((n_7 : Int) == 3) = true →
  ∃ (n_48 : Int), World.cell? w11 ⟨g_2, 2, none⟩ = some (.int .i64 n_48) ∧
  (7 : Int) ≠ 0 ∧
  Calls Try.prog 25 #[.pointer d_2, .int .i64 n_48, .int .i64 (Int.tmod i 7)] w11 fun e_ w34 => ∃ (q_21 : Option Addr) (q_21n q_21c : Nat), ∃ (n_49 : Int), e_ = .returned (.tuple #[.slice q_21 q_21n q_21c, .int .i64 n_49]) ∧
  ∃ (n_50 : Int), World.cell? w34 r = some (.int .i64 n_50) ∧
  ∃ (n_51 : Int), World.cell? w34 (r.add 1) = some (.int .i64 n_51) ∧
  ∃ (q_22 : Option Addr) (q_22n q_22c : Nat), World.cell? w34 (r.add 2) = some (.slice q_22 q_22n q_22c) ∧
  ∃ (n_52 : Int), World.cell? w34 (r.add 3) = some (.int .i64 n_52) ∧
  ∃ (q_23 : Option Addr) (q_23n q_23c : Nat), World.cell? w34 (r.add 4) = some (.slice q_23 q_23n q_23c) ∧
  ∃ (n_53 : Int), World.cell? w34 (r.add 5) = some (.int .i64 n_53) ∧
  ∃ (n_54 : Int), World.cell? w34 ⟨g_2, 2, none⟩ = some (.int .i64 n_54) ∧
  (7 : Int) ≠ 0 ∧
  Calls Try.prog 33 #[.agg #[.int .i64 n_50, .int .i64 n_51, .slice q_22 q_22n q_22c, .int .i64 n_52, .slice q_23 q_23n q_23c, .int .i64 n_53], .int .i64 n_54, .int .i64 (Int.tmod i 7)] w34 fun e_ w35 => ∃ (q_24 : Option Addr) (q_24n q_24c : Nat), ∃ (n_55 : Int), e_ = .returned (.tuple #[.slice q_24 q_24n q_24c, .int .i64 n_55]) ∧
  Calls Try.prog 34 #[.slice q_21 q_21n q_21c, .slice q_24 q_24n q_24c] w35 fun e_ w36 => ∃ (b_9 : Bool), e_ = .returned (.bool b_9) ∧
  (b_9 = true →
  V9_k2 I M d_2 i w8 script_2 script_2n script_2c d_2 r i ((n_49 : Int) == n_55) w36 R) ∧
  (b_9 = !true →
  V9_k2 I M d_2 i w8 script_2 script_2n script_2c d_2 r i false w36 R)) ∧
  (((n_7 : Int) == 3) = false →
  (((n_7 : Int) == 4) = true →
  Calls Try.prog 35 #[.pointer d_2] w11 fun e_ w37 => ∃ (p_2 : Option Addr), e_ = .returned (.pointer p_2) ∧
  V9_k2 I M d_2 i w8 script_2 script_2n script_2c p_2 r i (!(Option.isNone p_2)) w37 R) ∧
  (((n_7 : Int) == 4) = false →
  ∃ (s_6 : ByteArray), World.cell? w11 ⟨g_2, 1, none⟩ = some (.string s_6) ∧
  Calls Try.prog 23 #[.pointer d_2, .string s_6] w11 fun e_ w38 => ∃ (n_56 : Int), ∃ (b_10 : Bool), e_ = .returned (.tuple #[.int .i64 n_56, .bool b_10]) ∧
  ∃ (n_57 : Int), World.cell? w38 r = some (.int .i64 n_57) ∧
  ∃ (n_58 : Int), World.cell? w38 (r.add 1) = some (.int .i64 n_58) ∧
  ∃ (q_25 : Option Addr) (q_25n q_25c : Nat), World.cell? w38 (r.add 2) = some (.slice q_25 q_25n q_25c) ∧
  ∃ (n_59 : Int), World.cell? w38 (r.add 3) = some (.int .i64 n_59) ∧
  ∃ (q_26 : Option Addr) (q_26n q_26c : Nat), World.cell? w38 (r.add 4) = some (.slice q_26 q_26n q_26c) ∧
  ∃ (n_60 : Int), World.cell? w38 (r.add 5) = some (.int .i64 n_60) ∧
  ∃ (s_7 : ByteArray), World.cell? w38 ⟨g_2, 1, none⟩ = some (.string s_7) ∧
  Calls Try.prog 36 #[.agg #[.int .i64 n_57, .int .i64 n_58, .slice q_25 q_25n q_25c, .int .i64 n_59, .slice q_26 q_26n q_26c, .int .i64 n_60], .string s_7] w38 fun e_ w39 => ∃ (n_61 : Int), ∃ (b_11 : Bool), e_ = .returned (.tuple #[.int .i64 n_61, .bool b_11]) ∧
  (((n_56 : Int) == n_61) = true →
  V9_k2 I M d_2 i w8 script_2 script_2n script_2c d_2 r i (b_10 == b_11) w39 R) ∧
  (((n_56 : Int) == n_61) = !true →
  V9_k2 I M d_2 i w8 script_2 script_2n script_2c d_2 r i false w39 R))))))) ∧
  ((decide ((i : Int) < ((script_2n : Nat) : Int))) = false →
  R (.returned (.bool true)) w8))
set_option maxRecDepth 100000 in
def V9 (seed : Int) (script : Option Addr) (scriptn scriptc : Nat) (w : World) (R : Ending → World → Prop) : Prop :=
  Calls Try.prog 18 #[.int .i64 seed] w fun e_ w1 => ∃ (p : Option Addr), e_ = .returned (.pointer p) ∧
  Calls Try.prog 28 #[.int .i64 seed] w1 fun e_ w2 => ∃ (n : Int), ∃ (n_2 : Int), ∃ (q : Option Addr) (qn qc : Nat), ∃ (n_3 : Int), ∃ (q_2 : Option Addr) (q_2n q_2c : Nat), ∃ (n_4 : Int), e_ = .returned (.agg #[.int .i64 n, .int .i64 n_2, .slice q qn qc, .int .i64 n_3, .slice q_2 q_2n q_2c, .int .i64 n_4]) ∧
  ∀ (g : Nat) (w3 : World), g = (World.heap w2).size → w3 = World.alloc w2 (.cells #[.int .i64 0, .int .i64 0, .slice none 0 0, .int .i64 0, .slice none 0 0, .int .i64 0] 55) →
  storeN ⟨g, 0, none⟩ [(.int .i64 n : Value), .int .i64 n_2, .slice q qn qc, .int .i64 n_3, .slice q_2 q_2n q_2c, .int .i64 n_4] 0 w3 fun w4 => ∀ w5 : World, w5 = w4 →
  Calls Try.prog 15 #[] w5 fun e_ w6 => ∃ (b : Bool), e_ = .returned (.bool b) ∧
  ((!b) = false →
  V9_k1 script scriptn scriptc p ⟨g, 0, none⟩ (Option.isNone p) w6 R) ∧
  ((!b) = !false →
  V9_k1 script scriptn scriptc p ⟨g, 0, none⟩ true w6 R)
theorem b9 : Try.f9.body = some (bodyOf Try.f9) := by kernel_rfl
theorem ok9 : okF Try.prog an9 Try.f9 (bodyOf Try.f9) 2 = true := by kernel_rfl
theorem e9 (seed : Int) (script : Option Addr) (scriptn scriptc : Nat) (w : World) (R : Ending → World → Prop) : vcF Try.prog an9 Try.f9 (bodyOf Try.f9) [.int .i64 seed, .slice script scriptn scriptc] w R = V9 seed script scriptn scriptc w R := by kernel_rfl
theorem v9 (seed : Int) (script : Option Addr) (scriptn scriptc : Nat) (w : World) (R : Ending → World → Prop) (hV : V9 seed script scriptn scriptc w R) : Calls Try.prog 9 #[.int .i64 seed, .slice script scriptn scriptc] w R := calls_vc mixed Try.func9 b9 rfl ok9 (e9 seed script scriptn scriptc w R) hV

end Go.Proofs.Ytcljmlgbmjjldaa.F
