/- The verification conditions of Go functions, printed by wip/gen/gen.py; the kernel checks that each is the one reckoned from the code. -/
import Derived.Test.YtcljmlgbmjjldaaProg
import Derived.Test.YtcljmlgbmjjldaaVC
import Derived.Test.YtcljmlgbmjjldaaF0
set_option linter.unusedVariables false
namespace Go.Proofs.Ytcljmlgbmjjldaa.F
open Go Go.VC Go.Proofs
/-- cistern/cisternlaw08.has -/
def an27 : Ann := { loops := [(2, [(5, .int .i64)])], draws := [], tys := [] }
set_option maxRecDepth 100000 in
def V27 (l : Option Addr) (ln lc : Nat) (s : ByteArray) (w : World) (R : Ending → World → Prop) : Prop :=
  ∃ (I : Int → World → Prop) (M : Int → World → Nat), I 0 w ∧
  ∀ (i : Int) (w1 : World), I i w1 →
  ((decide ((i : Int) < ((ln : Nat) : Int))) = true →
  ptrC l fun a => (0 : Int) ≤ i ∧ i < ((ln : Nat) : Int) ∧
  ∃ (s_2 : ByteArray), World.cell? w1 (Addr.add a ((Int.toNat i) * 1)) = some (.string s_2) ∧
  ((strEq s_2 s) = true →
  R (.returned (.bool true)) w1) ∧
  ((strEq s_2 s) = false →
  (I (IntKind.wrap .i64 (i + 1)) w1 ∧ M (IntKind.wrap .i64 (i + 1)) w1 < M i w1))) ∧
  ((decide ((i : Int) < ((ln : Nat) : Int))) = false →
  R (.returned (.bool false)) w1)
theorem b27 : Try.f27.body = some (bodyOf Try.f27) := by kernel_rfl
theorem ok27 : okF Try.prog an27 Try.f27 (bodyOf Try.f27) 2 = true := by kernel_rfl
theorem e27 (l : Option Addr) (ln lc : Nat) (s : ByteArray) (w : World) (R : Ending → World → Prop) : vcF Try.prog an27 Try.f27 (bodyOf Try.f27) [.slice l ln lc, .string s] w R = V27 l ln lc s w R := by kernel_rfl
theorem v27 (l : Option Addr) (ln lc : Nat) (s : ByteArray) (w : World) (R : Ending → World → Prop) (hV : V27 l ln lc s w R) : Calls Try.prog 27 #[.slice l ln lc, .string s] w R := calls_vc mixed Try.func27 b27 rfl ok27 (e27 l ln lc s w R) hV

/-- cistern/cisternlaw08.sameTexts -/
def an34 : Ann := { loops := [(4, [(5, .int .i64)])], draws := [(6, false, Tr.seq [0, 1, 2, 4, 5, 6, 3, 7, 8] .nil, [], [], [])], tys := [] }
set_option maxRecDepth 100000 in
def V34 (a : Option Addr) (an ac : Nat) (b : Option Addr) (bn bc : Nat) (w : World) (R : Ending → World → Prop) : Prop :=
  (((((an : Nat) : Int) : Int) != ((bn : Nat) : Int)) = true →
  R (.returned (.bool false)) w) ∧
  (((((an : Nat) : Int) : Int) != ((bn : Nat) : Int)) = false →
  ∃ (I : Int → World → Prop) (M : Int → World → Nat), I 0 w ∧
  ∀ (i : Int) (w1 : World), I i w1 →
  ((decide ((i : Int) < ((an : Nat) : Int))) = true →
  ∀ w2 : World, Drawn w1 w2 →
  ptrC a fun a_2 => (0 : Int) ≤ i ∧ i < ((an : Nat) : Int) ∧
  ptrC b fun a_3 => (0 : Int) ≤ i ∧ i < ((bn : Nat) : Int) ∧
  ∃ (s : ByteArray), World.cell? w2 (Addr.add a_2 ((Int.toNat i) * 1)) = some (.string s) ∧
  ∃ (s_2 : ByteArray), World.cell? w2 (Addr.add a_3 ((Int.toNat i) * 1)) = some (.string s_2) ∧
  ∀ w3 : World, Drawn w2 w3 →
  ((!strEq s s_2) = true →
  R (.returned (.bool false)) w3) ∧
  ((!strEq s s_2) = false →
  (I (IntKind.wrap .i64 (i + 1)) w3 ∧ M (IntKind.wrap .i64 (i + 1)) w3 < M i w1))) ∧
  ((decide ((i : Int) < ((an : Nat) : Int))) = false →
  R (.returned (.bool true)) w1))
theorem b34 : Try.f34.body = some (bodyOf Try.f34) := by kernel_rfl
theorem ok34 : okF Try.prog an34 Try.f34 (bodyOf Try.f34) 2 = true := by kernel_rfl
theorem e34 (a : Option Addr) (an ac : Nat) (b : Option Addr) (bn bc : Nat) (w : World) (R : Ending → World → Prop) : vcF Try.prog an34 Try.f34 (bodyOf Try.f34) [.slice a an ac, .slice b bn bc] w R = V34 a an ac b bn bc w R := by kernel_rfl
theorem v34 (a : Option Addr) (an ac : Nat) (b : Option Addr) (bn bc : Nat) (w : World) (R : Ending → World → Prop) (hV : V34 a an ac b bn bc w R) : Calls Try.prog 34 #[.slice a an ac, .slice b bn bc] w R := calls_vc mixed Try.func34 b34 rfl ok34 (e34 a an ac b bn bc w R) hV

/-- cistern/cisternlaw08.DictMeasure -/
def an8 : Ann := { loops := [(5, [(6, .int .i64)]), (16, [(14, .int .i64)])], draws := [], tys := [] }
set_option maxRecDepth 100000 in
def V8_k2 (I : Int → World → Prop) (M : Int → World → Nat) (i : Int) (w4 : World) (script_3 : Option Addr) (script_3n script_3c : Nat) (d_2 : Option Addr) (i_2 : Int) (b_3 : Bool) (w8 : World) (R : Ending → World → Prop) : Prop :=
  (b_3 = true →
  R (.returned (.bool false)) w8) ∧
  (b_3 = false →
  (I (IntKind.wrap .i64 (i_2 + 1)) w8 ∧ M (IntKind.wrap .i64 (i_2 + 1)) w8 < M i w4))
set_option maxRecDepth 100000 in
def V8_k3 (I : Int → World → Prop) (M : Int → World → Nat) (i : Int) (w4 : World) (script_4 : Option Addr) (script_4n script_4c : Nat) (d_3 : Option Addr) (i_3 : Int) (w9 : World) (R : Ending → World → Prop) : Prop :=
  (false = true →
  R (.returned (.bool false)) w9) ∧
  (false = false →
  (I (IntKind.wrap .i64 (i_3 + 1)) w9 ∧ M (IntKind.wrap .i64 (i_3 + 1)) w9 < M i w4))
set_option maxRecDepth 100000 in
def V8_k1 (script_2 : Option Addr) (script_2n script_2c : Nat) (d : Option Addr) (b_2 : Bool) (w3 : World) (R : Ending → World → Prop) : Prop :=
  (b_2 = true →
  R (.returned (.bool false)) w3) ∧
  (b_2 = false →
  ∃ (I : Int → World → Prop) (M : Int → World → Nat), I 0 w3 ∧
  ∀ (i : Int) (w4 : World), I i w4 →
  ((decide ((i : Int) < ((script_2n : Nat) : Int))) = true →
  ptrC script_2 fun a => (0 : Int) ≤ i ∧ i < ((script_2n : Nat) : Int) ∧
  ∃ (n : Int), World.cell? w4 (Addr.add a ((Int.toNat i) * 3)) = some (.int .i64 n) ∧
  ∃ (s : ByteArray), World.cell? w4 ((Addr.add a ((Int.toNat i) * 3)).add 1) = some (.string s) ∧
  ∃ (n_2 : Int), World.cell? w4 ((Addr.add a ((Int.toNat i) * 3)).add 2) = some (.int .i64 n_2) ∧
  Calls Try.prog 24 #[.pointer d, .slice none 0 0, .agg #[.int .i64 n, .string s, .int .i64 n_2]] w4 fun e_ w5 => e_ = .returned (.tuple #[]) ∧
  Calls Try.prog 26 #[.pointer d] w5 fun e_ w6 => ∃ (n_3 : Int), ∃ (n_4 : Int), ∃ (n_5 : Int), e_ = .returned (.tuple #[.int .i64 n_3, .int .i64 n_4, .int .i64 n_5]) ∧
  ((decide ((n_5 : Int) < 0)) = true →
  Calls Try.prog 22 #[.pointer d] w6 fun e_ w7 => ∃ (n_6 : Int), e_ = .returned (.int .i64 n_6) ∧
  V8_k2 I M i w4 script_2 script_2n script_2c d i (decide ((n_6 : Int) > (IntKind.wrap .i64 (2 * n_3)))) w7 R) ∧
  ((decide ((n_5 : Int) < 0)) = !true →
  V8_k3 I M i w4 script_2 script_2n script_2c d i w6 R)) ∧
  ((decide ((i : Int) < ((script_2n : Nat) : Int))) = false →
  Calls Try.prog 26 #[.pointer d] w4 fun e_ w10 => ∃ (n_7 : Int), ∃ (n_8 : Int), ∃ (n_9 : Int), e_ = .returned (.tuple #[.int .i64 n_7, .int .i64 n_8, .int .i64 n_9]) ∧
  ((decide ((n_9 : Int) < 0)) = true →
  R (.returned (.bool true)) w10) ∧
  ((decide ((n_9 : Int) < 0)) = false →
  Calls Try.prog 21 #[.pointer d] w10 fun e_ w11 => ∃ (q : Option Addr) (qn qc : Nat), e_ = .returned (.slice q qn qc) ∧
  ∃ (I_2 : Int → World → Prop) (M_2 : Int → World → Nat), I_2 0 w11 ∧
  ∀ (i_4 : Int) (w12 : World), I_2 i_4 w12 →
  ((decide ((i_4 : Int) < n_7)) = true →
  ((decide ((((qn : Nat) : Int) : Int) > 0)) = true →
  ptrC q fun a_2 => (0 : Int) ≤ 0 ∧ 0 < ((qn : Nat) : Int) ∧
  ∃ (s_2 : ByteArray), World.cell? w12 (Addr.add a_2 ((Int.toNat 0) * 1)) = some (.string s_2) ∧
  Calls Try.prog 19 #[.pointer d, .string s_2, .int .i64 i_4] w12 fun e_ w13 => ∃ (b_4 : Bool), e_ = .returned (.bool b_4) ∧
  (I_2 (IntKind.wrap .i64 (i_4 + 1)) w13 ∧ M_2 (IntKind.wrap .i64 (i_4 + 1)) w13 < M_2 i_4 w12)) ∧
  ((decide ((((qn : Nat) : Int) : Int) > 0)) = false →
  Calls Try.prog 26 #[.pointer d] w12 fun e_ w14 => ∃ (n_10 : Int), ∃ (n_11 : Int), ∃ (n_12 : Int), e_ = .returned (.tuple #[.int .i64 n_10, .int .i64 n_11, .int .i64 n_12]) ∧
  (((n_10 : Int) == n_8) = true →
  (((n_11 : Int) == 0) = true →
  R (.returned (.bool ((n_12 : Int) == (-1)))) w14) ∧
  (((n_11 : Int) == 0) = !true →
  R (.returned (.bool false)) w14)) ∧
  (((n_10 : Int) == n_8) = !true →
  R (.returned (.bool false)) w14))) ∧
  ((decide ((i_4 : Int) < n_7)) = !true →
  (false = true →
  ptrC q fun a_3 => (0 : Int) ≤ 0 ∧ 0 < ((qn : Nat) : Int) ∧
  ∃ (s_3 : ByteArray), World.cell? w12 (Addr.add a_3 ((Int.toNat 0) * 1)) = some (.string s_3) ∧
  Calls Try.prog 19 #[.pointer d, .string s_3, .int .i64 i_4] w12 fun e_ w15 => ∃ (b_5 : Bool), e_ = .returned (.bool b_5) ∧
  (I_2 (IntKind.wrap .i64 (i_4 + 1)) w15 ∧ M_2 (IntKind.wrap .i64 (i_4 + 1)) w15 < M_2 i_4 w12)) ∧
  (false = false →
  Calls Try.prog 26 #[.pointer d] w12 fun e_ w16 => ∃ (n_13 : Int), ∃ (n_14 : Int), ∃ (n_15 : Int), e_ = .returned (.tuple #[.int .i64 n_13, .int .i64 n_14, .int .i64 n_15]) ∧
  (((n_13 : Int) == n_8) = true →
  (((n_14 : Int) == 0) = true →
  R (.returned (.bool ((n_15 : Int) == (-1)))) w16) ∧
  (((n_14 : Int) == 0) = !true →
  R (.returned (.bool false)) w16)) ∧
  (((n_13 : Int) == n_8) = !true →
  R (.returned (.bool false)) w16))))))
set_option maxRecDepth 100000 in
def V8_k5 (I_3 : Int → World → Prop) (M_3 : Int → World → Nat) (i_5 : Int) (w18 : World) (script_6 : Option Addr) (script_6n script_6c : Nat) (d_5 : Option Addr) (i_6 : Int) (b_6 : Bool) (w22 : World) (R : Ending → World → Prop) : Prop :=
  (b_6 = true →
  R (.returned (.bool false)) w22) ∧
  (b_6 = false →
  (I_3 (IntKind.wrap .i64 (i_6 + 1)) w22 ∧ M_3 (IntKind.wrap .i64 (i_6 + 1)) w22 < M_3 i_5 w18))
set_option maxRecDepth 100000 in
def V8_k6 (I_3 : Int → World → Prop) (M_3 : Int → World → Nat) (i_5 : Int) (w18 : World) (script_7 : Option Addr) (script_7n script_7c : Nat) (d_6 : Option Addr) (i_7 : Int) (w23 : World) (R : Ending → World → Prop) : Prop :=
  (false = true →
  R (.returned (.bool false)) w23) ∧
  (false = false →
  (I_3 (IntKind.wrap .i64 (i_7 + 1)) w23 ∧ M_3 (IntKind.wrap .i64 (i_7 + 1)) w23 < M_3 i_5 w18))
set_option maxRecDepth 100000 in
def V8_k4 (script_5 : Option Addr) (script_5n script_5c : Nat) (d_4 : Option Addr) (w17 : World) (R : Ending → World → Prop) : Prop :=
  (true = true →
  R (.returned (.bool false)) w17) ∧
  (true = false →
  ∃ (I_3 : Int → World → Prop) (M_3 : Int → World → Nat), I_3 0 w17 ∧
  ∀ (i_5 : Int) (w18 : World), I_3 i_5 w18 →
  ((decide ((i_5 : Int) < ((script_5n : Nat) : Int))) = true →
  ptrC script_5 fun a_4 => (0 : Int) ≤ i_5 ∧ i_5 < ((script_5n : Nat) : Int) ∧
  ∃ (n_16 : Int), World.cell? w18 (Addr.add a_4 ((Int.toNat i_5) * 3)) = some (.int .i64 n_16) ∧
  ∃ (s_4 : ByteArray), World.cell? w18 ((Addr.add a_4 ((Int.toNat i_5) * 3)).add 1) = some (.string s_4) ∧
  ∃ (n_17 : Int), World.cell? w18 ((Addr.add a_4 ((Int.toNat i_5) * 3)).add 2) = some (.int .i64 n_17) ∧
  Calls Try.prog 24 #[.pointer d_4, .slice none 0 0, .agg #[.int .i64 n_16, .string s_4, .int .i64 n_17]] w18 fun e_ w19 => e_ = .returned (.tuple #[]) ∧
  Calls Try.prog 26 #[.pointer d_4] w19 fun e_ w20 => ∃ (n_18 : Int), ∃ (n_19 : Int), ∃ (n_20 : Int), e_ = .returned (.tuple #[.int .i64 n_18, .int .i64 n_19, .int .i64 n_20]) ∧
  ((decide ((n_20 : Int) < 0)) = true →
  Calls Try.prog 22 #[.pointer d_4] w20 fun e_ w21 => ∃ (n_21 : Int), e_ = .returned (.int .i64 n_21) ∧
  V8_k5 I_3 M_3 i_5 w18 script_5 script_5n script_5c d_4 i_5 (decide ((n_21 : Int) > (IntKind.wrap .i64 (2 * n_18)))) w21 R) ∧
  ((decide ((n_20 : Int) < 0)) = !true →
  V8_k6 I_3 M_3 i_5 w18 script_5 script_5n script_5c d_4 i_5 w20 R)) ∧
  ((decide ((i_5 : Int) < ((script_5n : Nat) : Int))) = false →
  Calls Try.prog 26 #[.pointer d_4] w18 fun e_ w24 => ∃ (n_22 : Int), ∃ (n_23 : Int), ∃ (n_24 : Int), e_ = .returned (.tuple #[.int .i64 n_22, .int .i64 n_23, .int .i64 n_24]) ∧
  ((decide ((n_24 : Int) < 0)) = true →
  R (.returned (.bool true)) w24) ∧
  ((decide ((n_24 : Int) < 0)) = false →
  Calls Try.prog 21 #[.pointer d_4] w24 fun e_ w25 => ∃ (q_2 : Option Addr) (q_2n q_2c : Nat), e_ = .returned (.slice q_2 q_2n q_2c) ∧
  ∃ (I_4 : Int → World → Prop) (M_4 : Int → World → Nat), I_4 0 w25 ∧
  ∀ (i_8 : Int) (w26 : World), I_4 i_8 w26 →
  ((decide ((i_8 : Int) < n_22)) = true →
  ((decide ((((q_2n : Nat) : Int) : Int) > 0)) = true →
  ptrC q_2 fun a_5 => (0 : Int) ≤ 0 ∧ 0 < ((q_2n : Nat) : Int) ∧
  ∃ (s_5 : ByteArray), World.cell? w26 (Addr.add a_5 ((Int.toNat 0) * 1)) = some (.string s_5) ∧
  Calls Try.prog 19 #[.pointer d_4, .string s_5, .int .i64 i_8] w26 fun e_ w27 => ∃ (b_7 : Bool), e_ = .returned (.bool b_7) ∧
  (I_4 (IntKind.wrap .i64 (i_8 + 1)) w27 ∧ M_4 (IntKind.wrap .i64 (i_8 + 1)) w27 < M_4 i_8 w26)) ∧
  ((decide ((((q_2n : Nat) : Int) : Int) > 0)) = false →
  Calls Try.prog 26 #[.pointer d_4] w26 fun e_ w28 => ∃ (n_25 : Int), ∃ (n_26 : Int), ∃ (n_27 : Int), e_ = .returned (.tuple #[.int .i64 n_25, .int .i64 n_26, .int .i64 n_27]) ∧
  (((n_25 : Int) == n_23) = true →
  (((n_26 : Int) == 0) = true →
  R (.returned (.bool ((n_27 : Int) == (-1)))) w28) ∧
  (((n_26 : Int) == 0) = !true →
  R (.returned (.bool false)) w28)) ∧
  (((n_25 : Int) == n_23) = !true →
  R (.returned (.bool false)) w28))) ∧
  ((decide ((i_8 : Int) < n_22)) = !true →
  (false = true →
  ptrC q_2 fun a_6 => (0 : Int) ≤ 0 ∧ 0 < ((q_2n : Nat) : Int) ∧
  ∃ (s_6 : ByteArray), World.cell? w26 (Addr.add a_6 ((Int.toNat 0) * 1)) = some (.string s_6) ∧
  Calls Try.prog 19 #[.pointer d_4, .string s_6, .int .i64 i_8] w26 fun e_ w29 => ∃ (b_8 : Bool), e_ = .returned (.bool b_8) ∧
  (I_4 (IntKind.wrap .i64 (i_8 + 1)) w29 ∧ M_4 (IntKind.wrap .i64 (i_8 + 1)) w29 < M_4 i_8 w26)) ∧
  (false = false →
  Calls Try.prog 26 #[.pointer d_4] w26 fun e_ w30 => ∃ (n_28 : Int), ∃ (n_29 : Int), ∃ (n_30 : Int), e_ = .returned (.tuple #[.int .i64 n_28, .int .i64 n_29, .int .i64 n_30]) ∧
  (((n_28 : Int) == n_23) = true →
  (((n_29 : Int) == 0) = true →
  R (.returned (.bool ((n_30 : Int) == (-1)))) w30) ∧
  (((n_29 : Int) == 0) = !true →
  R (.returned (.bool false)) w30)) ∧
  (((n_28 : Int) == n_23) = !true →
  R (.returned (.bool false)) w30))))))
set_option maxRecDepth 100000 in
def V8 (seed : Int) (script : Option Addr) (scriptn scriptc : Nat) (w : World) (R : Ending → World → Prop) : Prop :=
  Calls Try.prog 18 #[.int .i64 seed] w fun e_ w1 => ∃ (p : Option Addr), e_ = .returned (.pointer p) ∧
  Calls Try.prog 15 #[] w1 fun e_ w2 => ∃ (b : Bool), e_ = .returned (.bool b) ∧
  ((!b) = false →
  V8_k1 script scriptn scriptc p (Option.isNone p) w2 R) ∧
  ((!b) = !false →
  V8_k4 script scriptn scriptc p w2 R)
theorem b8 : Try.f8.body = some (bodyOf Try.f8) := by kernel_rfl
theorem ok8 : okF Try.prog an8 Try.f8 (bodyOf Try.f8) 2 = true := by kernel_rfl
theorem e8 (seed : Int) (script : Option Addr) (scriptn scriptc : Nat) (w : World) (R : Ending → World → Prop) : vcF Try.prog an8 Try.f8 (bodyOf Try.f8) [.int .i64 seed, .slice script scriptn scriptc] w R = V8 seed script scriptn scriptc w R := by kernel_rfl
theorem v8 (seed : Int) (script : Option Addr) (scriptn scriptc : Nat) (w : World) (R : Ending → World → Prop) (hV : V8 seed script scriptn scriptc w R) : Calls Try.prog 8 #[.int .i64 seed, .slice script scriptn scriptc] w R := calls_vc mixed Try.func8 b8 rfl ok8 (e8 seed script scriptn scriptc w R) hV

/-- cistern/cisternlaw08.DictEnds -/
def an7 : Ann := { loops := [(5, [(8, .int .i64)]), (12, [(12, .slice), (13, .int .i64), (14, .int .i64)]), (20, [(18, .int .i64)])], draws := [], tys := [] }
set_option maxRecDepth 100000 in
def V7_k3 (d_3 : Option Addr) (at__2 : Int) (met_3 : Option Addr) (met_3n met_3c : Nat) (c_3 : Int) (w11 : World) (R : Ending → World → Prop) : Prop :=
  Calls Try.prog 21 #[.pointer d_3] w11 fun e_ w12 => ∃ (q_3 : Option Addr) (q_3n q_3c : Nat), e_ = .returned (.slice q_3 q_3n q_3c) ∧
  ∃ (I_3 : Int → World → Prop) (M_3 : Int → World → Nat), I_3 0 w12 ∧
  ∀ (i_3 : Int) (w13 : World), I_3 i_3 w13 →
  ((decide ((i_3 : Int) < ((q_3n : Nat) : Int))) = true →
  ptrC q_3 fun a_2 => (0 : Int) ≤ i_3 ∧ i_3 < ((q_3n : Nat) : Int) ∧
  ∃ (s_2 : ByteArray), World.cell? w13 (Addr.add a_2 ((Int.toNat i_3) * 1)) = some (.string s_2) ∧
  Calls Try.prog 27 #[.slice met_3 met_3n met_3c, .string s_2] w13 fun e_ w14 => ∃ (b_3 : Bool), e_ = .returned (.bool b_3) ∧
  ((!b_3) = true →
  R (.returned (.bool false)) w14) ∧
  ((!b_3) = false →
  (I_3 (IntKind.wrap .i64 (i_3 + 1)) w14 ∧ M_3 (IntKind.wrap .i64 (i_3 + 1)) w14 < M_3 i_3 w13))) ∧
  ((decide ((i_3 : Int) < ((q_3n : Nat) : Int))) = false →
  (((c_3 : Int) == 0) = true →
  ((decide ((at__2 : Int) ≥ 0)) = false →
  R (.returned (.bool ((((met_3n : Nat) : Int) : Int) == ((q_3n : Nat) : Int)))) w13) ∧
  ((decide ((at__2 : Int) ≥ 0)) = !false →
  R (.returned (.bool true)) w13)) ∧
  (((c_3 : Int) == 0) = !true →
  R (.returned (.bool false)) w13))
set_option maxRecDepth 100000 in
def V7_k2 (d_2 : Option Addr) (at_ : Int) (met_2 : Option Addr) (met_2n met_2c : Nat) (c_2 : Int) (w10 : World) (R : Ending → World → Prop) : Prop :=
  V7_k3 d_2 at_ met_2 met_2n met_2c c_2 w10 R
set_option maxRecDepth 100000 in
def V7_k1 (script_2 : Option Addr) (script_2n script_2c : Nat) (n_2 : Int) (d : Option Addr) (b_2 : Bool) (w3 : World) (R : Ending → World → Prop) : Prop :=
  (b_2 = true →
  R (.returned (.bool false)) w3) ∧
  (b_2 = false →
  ∃ (I : Int → World → Prop) (M : Int → World → Nat), I 0 w3 ∧
  ∀ (i : Int) (w4 : World), I i w4 →
  ((decide ((i : Int) < ((script_2n : Nat) : Int))) = true →
  ptrC script_2 fun a => (0 : Int) ≤ i ∧ i < ((script_2n : Nat) : Int) ∧
  ∃ (n_3 : Int), World.cell? w4 (Addr.add a ((Int.toNat i) * 3)) = some (.int .i64 n_3) ∧
  ∃ (s : ByteArray), World.cell? w4 ((Addr.add a ((Int.toNat i) * 3)).add 1) = some (.string s) ∧
  ∃ (n_4 : Int), World.cell? w4 ((Addr.add a ((Int.toNat i) * 3)).add 2) = some (.int .i64 n_4) ∧
  Calls Try.prog 24 #[.pointer d, .slice none 0 0, .agg #[.int .i64 n_3, .string s, .int .i64 n_4]] w4 fun e_ w5 => e_ = .returned (.tuple #[]) ∧
  (I (IntKind.wrap .i64 (i + 1)) w5 ∧ M (IntKind.wrap .i64 (i + 1)) w5 < M i w4)) ∧
  ((decide ((i : Int) < ((script_2n : Nat) : Int))) = false →
  Calls Try.prog 26 #[.pointer d] w4 fun e_ w6 => ∃ (n_5 : Int), ∃ (n_6 : Int), ∃ (n_7 : Int), e_ = .returned (.tuple #[.int .i64 n_5, .int .i64 n_6, .int .i64 n_7]) ∧
  ∃ (I_2 : Option Addr → Nat → Nat → Int → Int → World → Prop) (M_2 : Option Addr → Nat → Nat → Int → Int → World → Nat), I_2 none 0 0 0 0 w6 ∧
  ∀ (met : Option Addr) (metn metc : Nat) (c : Int) (i_2 : Int) (w7 : World), I_2 met metn metc c i_2 w7 →
  ((decide ((i_2 : Int) < (if n_6 > (if n_5 > 1 then n_5 else 1) then n_6 else (if n_5 > 1 then n_5 else 1)))) = true →
  Calls Try.prog 25 #[.pointer d, .int .i64 c, .int .i64 n_2] w7 fun e_ w8 => ∃ (q : Option Addr) (qn qc : Nat), ∃ (n_8 : Int), e_ = .returned (.tuple #[.slice q qn qc, .int .i64 n_8]) ∧
  ∃ (q_2 : Option Addr) (q_2n q_2c : Nat), ∃ w9 : World, Sem.run Try.prog (builtin .append #[30, 30] 30 #[false, false] #[.slice met metn metc, .slice q qn qc]) w8 = .ok (.value (.slice q_2 q_2n q_2c)) w9 ∧
  (((n_8 : Int) == 0) = true →
  V7_k2 d n_7 q_2 q_2n q_2c n_8 w9 R) ∧
  (((n_8 : Int) == 0) = false →
  (I_2 q_2 q_2n q_2c n_8 (IntKind.wrap .i64 (i_2 + 1)) w9 ∧ M_2 q_2 q_2n q_2c n_8 (IntKind.wrap .i64 (i_2 + 1)) w9 < M_2 met metn metc c i_2 w7))) ∧
  ((decide ((i_2 : Int) < (if n_6 > (if n_5 > 1 then n_5 else 1) then n_6 else (if n_5 > 1 then n_5 else 1)))) = false →
  V7_k2 d n_7 met metn metc c w7 R)))
set_option maxRecDepth 100000 in
def V7_k6 (d_6 : Option Addr) (at__4 : Int) (met_6 : Option Addr) (met_6n met_6c : Nat) (c_6 : Int) (w23 : World) (R : Ending → World → Prop) : Prop :=
  Calls Try.prog 21 #[.pointer d_6] w23 fun e_ w24 => ∃ (q_6 : Option Addr) (q_6n q_6c : Nat), e_ = .returned (.slice q_6 q_6n q_6c) ∧
  ∃ (I_6 : Int → World → Prop) (M_6 : Int → World → Nat), I_6 0 w24 ∧
  ∀ (i_6 : Int) (w25 : World), I_6 i_6 w25 →
  ((decide ((i_6 : Int) < ((q_6n : Nat) : Int))) = true →
  ptrC q_6 fun a_4 => (0 : Int) ≤ i_6 ∧ i_6 < ((q_6n : Nat) : Int) ∧
  ∃ (s_4 : ByteArray), World.cell? w25 (Addr.add a_4 ((Int.toNat i_6) * 1)) = some (.string s_4) ∧
  Calls Try.prog 27 #[.slice met_6 met_6n met_6c, .string s_4] w25 fun e_ w26 => ∃ (b_4 : Bool), e_ = .returned (.bool b_4) ∧
  ((!b_4) = true →
  R (.returned (.bool false)) w26) ∧
  ((!b_4) = false →
  (I_6 (IntKind.wrap .i64 (i_6 + 1)) w26 ∧ M_6 (IntKind.wrap .i64 (i_6 + 1)) w26 < M_6 i_6 w25))) ∧
  ((decide ((i_6 : Int) < ((q_6n : Nat) : Int))) = false →
  (((c_6 : Int) == 0) = true →
  ((decide ((at__4 : Int) ≥ 0)) = false →
  R (.returned (.bool ((((met_6n : Nat) : Int) : Int) == ((q_6n : Nat) : Int)))) w25) ∧
  ((decide ((at__4 : Int) ≥ 0)) = !false →
  R (.returned (.bool true)) w25)) ∧
  (((c_6 : Int) == 0) = !true →
  R (.returned (.bool false)) w25))
set_option maxRecDepth 100000 in
def V7_k5 (d_5 : Option Addr) (at__3 : Int) (met_5 : Option Addr) (met_5n met_5c : Nat) (c_5 : Int) (w22 : World) (R : Ending → World → Prop) : Prop :=
  V7_k6 d_5 at__3 met_5 met_5n met_5c c_5 w22 R
set_option maxRecDepth 100000 in
def V7_k4 (script_3 : Option Addr) (script_3n script_3c : Nat) (n_9 : Int) (d_4 : Option Addr) (w15 : World) (R : Ending → World → Prop) : Prop :=
  (true = true →
  R (.returned (.bool false)) w15) ∧
  (true = false →
  ∃ (I_4 : Int → World → Prop) (M_4 : Int → World → Nat), I_4 0 w15 ∧
  ∀ (i_4 : Int) (w16 : World), I_4 i_4 w16 →
  ((decide ((i_4 : Int) < ((script_3n : Nat) : Int))) = true →
  ptrC script_3 fun a_3 => (0 : Int) ≤ i_4 ∧ i_4 < ((script_3n : Nat) : Int) ∧
  ∃ (n_10 : Int), World.cell? w16 (Addr.add a_3 ((Int.toNat i_4) * 3)) = some (.int .i64 n_10) ∧
  ∃ (s_3 : ByteArray), World.cell? w16 ((Addr.add a_3 ((Int.toNat i_4) * 3)).add 1) = some (.string s_3) ∧
  ∃ (n_11 : Int), World.cell? w16 ((Addr.add a_3 ((Int.toNat i_4) * 3)).add 2) = some (.int .i64 n_11) ∧
  Calls Try.prog 24 #[.pointer d_4, .slice none 0 0, .agg #[.int .i64 n_10, .string s_3, .int .i64 n_11]] w16 fun e_ w17 => e_ = .returned (.tuple #[]) ∧
  (I_4 (IntKind.wrap .i64 (i_4 + 1)) w17 ∧ M_4 (IntKind.wrap .i64 (i_4 + 1)) w17 < M_4 i_4 w16)) ∧
  ((decide ((i_4 : Int) < ((script_3n : Nat) : Int))) = false →
  Calls Try.prog 26 #[.pointer d_4] w16 fun e_ w18 => ∃ (n_12 : Int), ∃ (n_13 : Int), ∃ (n_14 : Int), e_ = .returned (.tuple #[.int .i64 n_12, .int .i64 n_13, .int .i64 n_14]) ∧
  ∃ (I_5 : Option Addr → Nat → Nat → Int → Int → World → Prop) (M_5 : Option Addr → Nat → Nat → Int → Int → World → Nat), I_5 none 0 0 0 0 w18 ∧
  ∀ (met_4 : Option Addr) (met_4n met_4c : Nat) (c_4 : Int) (i_5 : Int) (w19 : World), I_5 met_4 met_4n met_4c c_4 i_5 w19 →
  ((decide ((i_5 : Int) < (if n_13 > (if n_12 > 1 then n_12 else 1) then n_13 else (if n_12 > 1 then n_12 else 1)))) = true →
  Calls Try.prog 25 #[.pointer d_4, .int .i64 c_4, .int .i64 n_9] w19 fun e_ w20 => ∃ (q_4 : Option Addr) (q_4n q_4c : Nat), ∃ (n_15 : Int), e_ = .returned (.tuple #[.slice q_4 q_4n q_4c, .int .i64 n_15]) ∧
  ∃ (q_5 : Option Addr) (q_5n q_5c : Nat), ∃ w21 : World, Sem.run Try.prog (builtin .append #[30, 30] 30 #[false, false] #[.slice met_4 met_4n met_4c, .slice q_4 q_4n q_4c]) w20 = .ok (.value (.slice q_5 q_5n q_5c)) w21 ∧
  (((n_15 : Int) == 0) = true →
  V7_k5 d_4 n_14 q_5 q_5n q_5c n_15 w21 R) ∧
  (((n_15 : Int) == 0) = false →
  (I_5 q_5 q_5n q_5c n_15 (IntKind.wrap .i64 (i_5 + 1)) w21 ∧ M_5 q_5 q_5n q_5c n_15 (IntKind.wrap .i64 (i_5 + 1)) w21 < M_5 met_4 met_4n met_4c c_4 i_5 w19))) ∧
  ((decide ((i_5 : Int) < (if n_13 > (if n_12 > 1 then n_12 else 1) then n_13 else (if n_12 > 1 then n_12 else 1)))) = false →
  V7_k5 d_4 n_14 met_4 met_4n met_4c c_4 w19 R)))
set_option maxRecDepth 100000 in
def V7 (seed : Int) (script : Option Addr) (scriptn scriptc : Nat) (n : Int) (w : World) (R : Ending → World → Prop) : Prop :=
  Calls Try.prog 18 #[.int .i64 seed] w fun e_ w1 => ∃ (p : Option Addr), e_ = .returned (.pointer p) ∧
  Calls Try.prog 15 #[] w1 fun e_ w2 => ∃ (b : Bool), e_ = .returned (.bool b) ∧
  ((!b) = false →
  V7_k1 script scriptn scriptc n p (Option.isNone p) w2 R) ∧
  ((!b) = !false →
  V7_k4 script scriptn scriptc n p w2 R)
theorem b7 : Try.f7.body = some (bodyOf Try.f7) := by kernel_rfl
theorem ok7 : okF Try.prog an7 Try.f7 (bodyOf Try.f7) 3 = true := by kernel_rfl
theorem e7 (seed : Int) (script : Option Addr) (scriptn scriptc : Nat) (n : Int) (w : World) (R : Ending → World → Prop) : vcF Try.prog an7 Try.f7 (bodyOf Try.f7) [.int .i64 seed, .slice script scriptn scriptc, .int .i64 n] w R = V7 seed script scriptn scriptc n w R := by kernel_rfl
theorem v7 (seed : Int) (script : Option Addr) (scriptn scriptc : Nat) (n : Int) (w : World) (R : Ending → World → Prop) (hV : V7 seed script scriptn scriptc n w R) : Calls Try.prog 7 #[.int .i64 seed, .slice script scriptn scriptc, .int .i64 n] w R := calls_vc mixed Try.func7 b7 rfl ok7 (e7 seed script scriptn scriptc n w R) hV

end Go.Proofs.Ytcljmlgbmjjldaa.F
