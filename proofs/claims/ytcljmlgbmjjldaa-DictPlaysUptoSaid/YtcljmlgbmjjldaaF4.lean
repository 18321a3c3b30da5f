/- The verification conditions of Go functions, printed by wip/gen/gen.py; the kernel checks that each is the one reckoned from the code. -/
import Derived.Test.YtcljmlgbmjjldaaProg
import Derived.Test.YtcljmlgbmjjldaaVC
import Derived.Test.YtcljmlgbmjjldaaF0
set_option linter.unusedVariables false
namespace Go.Proofs.Ytcljmlgbmjjldaa.F
open Go Go.VC Go.Proofs
/-- cistern/cisternlaw08.DictScans -/
def an6 : Ann := { loops := [(6, [(7, .int .i64)]), (15, [(9, .slice), (10, .slice), (11, .int .i64), (12, .int .i64)]), (20, [(9, .slice), (15, .int .i64)]), (29, [(19, .int .i64)]), (34, [(20, .int .i64)])], draws := [(2, false, Tr.seq [0, 2, 4, 1, 6, 3, 7, 5, 8] .nil, [], [], [])], tys := [] }
set_option maxRecDepth 100000 in
def V6_k3 (I_5 : Option Addr → Nat → Nat → Int → World → Prop) (M_5 : Option Addr → Nat → Nat → Int → World → Nat) (ever_2 : Option Addr) (ever_2n : Nat) (ever_2c : Nat) (k : Int) (w18 : World) (d_3 : Option Addr) (between_3 : Option Addr) (between_3n between_3c : Nat) (n_11 : Int) (stay_2 : Option Addr) (stay_2n stay_2c : Nat) (ever_4 : Option Addr) (ever_4n ever_4c : Nat) (met_3 : Option Addr) (met_3n met_3c : Nat) (c_3 : Int) (i_6 : Int) (k_3 : Int) (w23 : World) (R : Ending → World → Prop) : Prop :=
  (I_5 ever_4 ever_4n ever_4c (IntKind.wrap .i64 (k_3 + 1)) w23 ∧ M_5 ever_4 ever_4n ever_4c (IntKind.wrap .i64 (k_3 + 1)) w23 < M_5 ever_2 ever_2n ever_2c k w18)
set_option maxRecDepth 100000 in
def V6_k2 (I_5 : Option Addr → Nat → Nat → Int → World → Prop) (M_5 : Option Addr → Nat → Nat → Int → World → Nat) (ever_2 : Option Addr) (ever_2n : Nat) (ever_2c : Nat) (k : Int) (w18 : World) (d_2 : Option Addr) (between_2 : Option Addr) (between_2n between_2c : Nat) (n_10 : Int) (stay : Option Addr) (stayn stayc : Nat) (ever_3 : Option Addr) (ever_3n ever_3c : Nat) (met_2 : Option Addr) (met_2n met_2c : Nat) (c_2 : Int) (i_5 : Int) (k_2 : Int) (w22 : World) (R : Ending → World → Prop) : Prop :=
  V6_k3 I_5 M_5 ever_2 ever_2n ever_2c k w18 d_2 between_2 between_2n between_2c n_10 stay stayn stayc ever_3 ever_3n ever_3c met_2 met_2n met_2c c_2 i_5 k_2 w22 R
set_option maxRecDepth 100000 in
def V6_k5 (I_5 : Option Addr → Nat → Nat → Int → World → Prop) (M_5 : Option Addr → Nat → Nat → Int → World → Nat) (ever_2 : Option Addr) (ever_2n : Nat) (ever_2c : Nat) (k : Int) (w18 : World) (d_5 : Option Addr) (between_5 : Option Addr) (between_5n between_5c : Nat) (n_19 : Int) (stay_4 : Option Addr) (stay_4n stay_4c : Nat) (ever_6 : Option Addr) (ever_6n ever_6c : Nat) (met_5 : Option Addr) (met_5n met_5c : Nat) (c_5 : Int) (i_8 : Int) (k_5 : Int) (w29 : World) (R : Ending → World → Prop) : Prop :=
  (I_5 ever_6 ever_6n ever_6c (IntKind.wrap .i64 (k_5 + 1)) w29 ∧ M_5 ever_6 ever_6n ever_6c (IntKind.wrap .i64 (k_5 + 1)) w29 < M_5 ever_2 ever_2n ever_2c k w18)
set_option maxRecDepth 100000 in
def V6_k4 (I_5 : Option Addr → Nat → Nat → Int → World → Prop) (M_5 : Option Addr → Nat → Nat → Int → World → Nat) (ever_2 : Option Addr) (ever_2n : Nat) (ever_2c : Nat) (k : Int) (w18 : World) (d_4 : Option Addr) (between_4 : Option Addr) (between_4n between_4c : Nat) (n_18 : Int) (stay_3 : Option Addr) (stay_3n stay_3c : Nat) (ever_5 : Option Addr) (ever_5n ever_5c : Nat) (met_4 : Option Addr) (met_4n met_4c : Nat) (c_4 : Int) (i_7 : Int) (k_4 : Int) (w28 : World) (R : Ending → World → Prop) : Prop :=
  V6_k5 I_5 M_5 ever_2 ever_2n ever_2c k w18 d_4 between_4 between_4n between_4c n_18 stay_3 stay_3n stay_3c ever_5 ever_5n ever_5c met_4 met_4n met_4c c_4 i_7 k_4 w28 R
set_option maxRecDepth 100000 in
def V6_k1 (d : Option Addr) (ahead : Option Addr) (aheadn aheadc : Nat) (between : Option Addr) (betweenn betweenc : Nat) (n_3 : Int) (b_2 : Bool) (w6 : World) (R : Ending → World → Prop) : Prop :=
  (b_2 = true →
  R (.returned (.bool false)) w6) ∧
  (b_2 = false →
  ∃ (I : Int → World → Prop) (M : Int → World → Nat), I 0 w6 ∧
  ∀ (i : Int) (w7 : World), I i w7 →
  ((decide ((i : Int) < ((aheadn : Nat) : Int))) = true →
  ptrC ahead fun a => (0 : Int) ≤ i ∧ i < ((aheadn : Nat) : Int) ∧
  ∃ (n_4 : Int), World.cell? w7 (Addr.add a ((Int.toNat i) * 3)) = some (.int .i64 n_4) ∧
  ∃ (s : ByteArray), World.cell? w7 ((Addr.add a ((Int.toNat i) * 3)).add 1) = some (.string s) ∧
  ∃ (n_5 : Int), World.cell? w7 ((Addr.add a ((Int.toNat i) * 3)).add 2) = some (.int .i64 n_5) ∧
  Calls Try.prog 24 #[.pointer d, .slice none 0 0, .agg #[.int .i64 n_4, .string s, .int .i64 n_5]] w7 fun e_ w8 => e_ = .returned (.tuple #[]) ∧
  (I (IntKind.wrap .i64 (i + 1)) w8 ∧ M (IntKind.wrap .i64 (i + 1)) w8 < M i w7)) ∧
  ((decide ((i : Int) < ((aheadn : Nat) : Int))) = false →
  Calls Try.prog 21 #[.pointer d] w7 fun e_ w9 => ∃ (q_3 : Option Addr) (q_3n q_3c : Nat), e_ = .returned (.slice q_3 q_3n q_3c) ∧
  Calls Try.prog 21 #[.pointer d] w9 fun e_ w10 => ∃ (q_4 : Option Addr) (q_4n q_4c : Nat), e_ = .returned (.slice q_4 q_4n q_4c) ∧
  ∃ (I_2 : Option Addr → Nat → Nat → Option Addr → Nat → Nat → Int → Int → World → Prop) (M_2 : Option Addr → Nat → Nat → Option Addr → Nat → Nat → Int → Int → World → Nat), I_2 q_4 q_4n q_4c none 0 0 0 0 w10 ∧
  ∀ (ever : Option Addr) (evern everc : Nat) (met : Option Addr) (metn metc : Nat) (c : Int) (i_2 : Int) (w11 : World), I_2 ever evern everc met metn metc c i_2 w11 →
  Calls Try.prog 25 #[.pointer d, .int .i64 c, .int .i64 n_3] w11 fun e_ w12 => ∃ (q_5 : Option Addr) (q_5n q_5c : Nat), ∃ (n_6 : Int), e_ = .returned (.tuple #[.slice q_5 q_5n q_5c, .int .i64 n_6]) ∧
  ∃ (q_6 : Option Addr) (q_6n q_6c : Nat), ∃ w13 : World, Sem.run Try.prog (builtin .append #[30, 30] 30 #[false, false] #[.slice met metn metc, .slice q_5 q_5n q_5c]) w12 = .ok (.value (.slice q_6 q_6n q_6c)) w13 ∧
  (((n_6 : Int) == 0) = true →
  ∃ (I_3 : Int → World → Prop) (M_3 : Int → World → Nat), I_3 0 w13 ∧
  ∀ (i_3 : Int) (w14 : World), I_3 i_3 w14 →
  ((decide ((i_3 : Int) < ((q_3n : Nat) : Int))) = true →
  ptrC q_3 fun a_2 => (0 : Int) ≤ i_3 ∧ i_3 < ((q_3n : Nat) : Int) ∧
  ∃ (s_2 : ByteArray), World.cell? w14 (Addr.add a_2 ((Int.toNat i_3) * 1)) = some (.string s_2) ∧
  Calls Try.prog 27 #[.slice q_6 q_6n q_6c, .string s_2] w14 fun e_ w15 => ∃ (b_3 : Bool), e_ = .returned (.bool b_3) ∧
  ((!b_3) = true →
  R (.returned (.bool false)) w15) ∧
  ((!b_3) = false →
  (I_3 (IntKind.wrap .i64 (i_3 + 1)) w15 ∧ M_3 (IntKind.wrap .i64 (i_3 + 1)) w15 < M_3 i_3 w14))) ∧
  ((decide ((i_3 : Int) < ((q_3n : Nat) : Int))) = false →
  ∃ (I_4 : Int → World → Prop) (M_4 : Int → World → Nat), I_4 0 w14 ∧
  ∀ (i_4 : Int) (w16 : World), I_4 i_4 w16 →
  ((decide ((i_4 : Int) < ((q_6n : Nat) : Int))) = true →
  ptrC q_6 fun a_3 => (0 : Int) ≤ i_4 ∧ i_4 < ((q_6n : Nat) : Int) ∧
  ∃ (s_3 : ByteArray), World.cell? w16 (Addr.add a_3 ((Int.toNat i_4) * 1)) = some (.string s_3) ∧
  Calls Try.prog 27 #[.slice ever evern everc, .string s_3] w16 fun e_ w17 => ∃ (b_4 : Bool), e_ = .returned (.bool b_4) ∧
  ((!b_4) = true →
  R (.returned (.bool false)) w17) ∧
  ((!b_4) = false →
  (I_4 (IntKind.wrap .i64 (i_4 + 1)) w17 ∧ M_4 (IntKind.wrap .i64 (i_4 + 1)) w17 < M_4 i_4 w16))) ∧
  ((decide ((i_4 : Int) < ((q_6n : Nat) : Int))) = false →
  R (.returned (.bool true)) w16))) ∧
  (((n_6 : Int) == 0) = false →
  ∃ (I_5 : Option Addr → Nat → Nat → Int → World → Prop) (M_5 : Option Addr → Nat → Nat → Int → World → Nat), I_5 ever evern everc (IntKind.wrap .i64 (3 * i_2)) w13 ∧
  ∀ (ever_2 : Option Addr) (ever_2n ever_2c : Nat) (k : Int) (w18 : World), I_5 ever_2 ever_2n ever_2c k w18 →
  ((decide ((k : Int) < (IntKind.wrap .i64 ((IntKind.wrap .i64 (3 * i_2)) + 3)))) = true →
  ((decide ((k : Int) < ((betweenn : Nat) : Int))) = true →
  ptrC between fun a_4 => (0 : Int) ≤ k ∧ k < ((betweenn : Nat) : Int) ∧
  ∃ (n_7 : Int), World.cell? w18 (Addr.add a_4 ((Int.toNat k) * 3)) = some (.int .i64 n_7) ∧
  ∃ (s_4 : ByteArray), World.cell? w18 ((Addr.add a_4 ((Int.toNat k) * 3)).add 1) = some (.string s_4) ∧
  ∃ (n_8 : Int), World.cell? w18 ((Addr.add a_4 ((Int.toNat k) * 3)).add 2) = some (.int .i64 n_8) ∧
  Calls Try.prog 24 #[.pointer d, .slice q_3 q_3n q_3c, .agg #[.int .i64 n_7, .string s_4, .int .i64 n_8]] w18 fun e_ w19 => e_ = .returned (.tuple #[]) ∧
  ptrC between fun a_5 => (0 : Int) ≤ k ∧ k < ((betweenn : Nat) : Int) ∧
  ∃ (n_9 : Int), World.cell? w19 (Addr.add a_5 ((Int.toNat k) * 3)) = some (.int .i64 n_9) ∧
  (((n_9 : Int) == 0) = true →
  ptrC between fun a_6 => (0 : Int) ≤ k ∧ k < ((betweenn : Nat) : Int) ∧
  ∃ (s_5 : ByteArray), World.cell? w19 ((Addr.add a_6 ((Int.toNat k) * 3)).add 1) = some (.string s_5) ∧
  ∀ (g_2 : Nat) (w20 : World), g_2 = (World.heap w19).size → w20 = World.alloc w19 (.cells #[.string s_5] 9) →
  ∃ (q_7 : Option Addr) (q_7n q_7c : Nat), ∃ w21 : World, Sem.run Try.prog (builtin .append #[30, 30] 30 #[false, false] #[.slice ever_2 ever_2n ever_2c, .slice (some ⟨g_2, 0, none⟩) 1 1]) w20 = .ok (.value (.slice q_7 q_7n q_7c)) w21 ∧
  V6_k2 I_5 M_5 ever_2 ever_2n ever_2c k w18 d between betweenn betweenc n_3 q_3 q_3n q_3c q_7 q_7n q_7c q_6 q_6n q_6c n_6 i_2 k w21 R) ∧
  (((n_9 : Int) == 0) = false →
  V6_k2 I_5 M_5 ever_2 ever_2n ever_2c k w18 d between betweenn betweenc n_3 q_3 q_3n q_3c ever_2 ever_2n ever_2c q_6 q_6n q_6c n_6 i_2 k w19 R)) ∧
  ((decide ((k : Int) < ((betweenn : Nat) : Int))) = false →
  Calls Try.prog 26 #[.pointer d] w18 fun e_ w24 => ∃ (n_12 : Int), ∃ (n_13 : Int), ∃ (n_14 : Int), e_ = .returned (.tuple #[.int .i64 n_12, .int .i64 n_13, .int .i64 n_14]) ∧
  ((decide ((i_2 : Int) > (IntKind.wrap .i64 ((IntKind.wrap .i64 ((IntKind.wrap .i64 (((betweenn : Nat) : Int) + n_12)) + n_13)) + 8)))) = true →
  R (.returned (.bool false)) w24) ∧
  ((decide ((i_2 : Int) > (IntKind.wrap .i64 ((IntKind.wrap .i64 ((IntKind.wrap .i64 (((betweenn : Nat) : Int) + n_12)) + n_13)) + 8)))) = false →
  (I_2 ever_2 ever_2n ever_2c q_6 q_6n q_6c n_6 (IntKind.wrap .i64 (i_2 + 1)) w24 ∧ M_2 ever_2 ever_2n ever_2c q_6 q_6n q_6c n_6 (IntKind.wrap .i64 (i_2 + 1)) w24 < M_2 ever evern everc met metn metc c i_2 w11)))) ∧
  ((decide ((k : Int) < (IntKind.wrap .i64 ((IntKind.wrap .i64 (3 * i_2)) + 3)))) = !true →
  (false = true →
  ptrC between fun a_7 => (0 : Int) ≤ k ∧ k < ((betweenn : Nat) : Int) ∧
  ∃ (n_15 : Int), World.cell? w18 (Addr.add a_7 ((Int.toNat k) * 3)) = some (.int .i64 n_15) ∧
  ∃ (s_6 : ByteArray), World.cell? w18 ((Addr.add a_7 ((Int.toNat k) * 3)).add 1) = some (.string s_6) ∧
  ∃ (n_16 : Int), World.cell? w18 ((Addr.add a_7 ((Int.toNat k) * 3)).add 2) = some (.int .i64 n_16) ∧
  Calls Try.prog 24 #[.pointer d, .slice q_3 q_3n q_3c, .agg #[.int .i64 n_15, .string s_6, .int .i64 n_16]] w18 fun e_ w25 => e_ = .returned (.tuple #[]) ∧
  ptrC between fun a_8 => (0 : Int) ≤ k ∧ k < ((betweenn : Nat) : Int) ∧
  ∃ (n_17 : Int), World.cell? w25 (Addr.add a_8 ((Int.toNat k) * 3)) = some (.int .i64 n_17) ∧
  (((n_17 : Int) == 0) = true →
  ptrC between fun a_9 => (0 : Int) ≤ k ∧ k < ((betweenn : Nat) : Int) ∧
  ∃ (s_7 : ByteArray), World.cell? w25 ((Addr.add a_9 ((Int.toNat k) * 3)).add 1) = some (.string s_7) ∧
  ∀ (g_3 : Nat) (w26 : World), g_3 = (World.heap w25).size → w26 = World.alloc w25 (.cells #[.string s_7] 9) →
  ∃ (q_8 : Option Addr) (q_8n q_8c : Nat), ∃ w27 : World, Sem.run Try.prog (builtin .append #[30, 30] 30 #[false, false] #[.slice ever_2 ever_2n ever_2c, .slice (some ⟨g_3, 0, none⟩) 1 1]) w26 = .ok (.value (.slice q_8 q_8n q_8c)) w27 ∧
  V6_k4 I_5 M_5 ever_2 ever_2n ever_2c k w18 d between betweenn betweenc n_3 q_3 q_3n q_3c q_8 q_8n q_8c q_6 q_6n q_6c n_6 i_2 k w27 R) ∧
  (((n_17 : Int) == 0) = false →
  V6_k4 I_5 M_5 ever_2 ever_2n ever_2c k w18 d between betweenn betweenc n_3 q_3 q_3n q_3c ever_2 ever_2n ever_2c q_6 q_6n q_6c n_6 i_2 k w25 R)) ∧
  (false = false →
  Calls Try.prog 26 #[.pointer d] w18 fun e_ w30 => ∃ (n_20 : Int), ∃ (n_21 : Int), ∃ (n_22 : Int), e_ = .returned (.tuple #[.int .i64 n_20, .int .i64 n_21, .int .i64 n_22]) ∧
  ((decide ((i_2 : Int) > (IntKind.wrap .i64 ((IntKind.wrap .i64 ((IntKind.wrap .i64 (((betweenn : Nat) : Int) + n_20)) + n_21)) + 8)))) = true →
  R (.returned (.bool false)) w30) ∧
  ((decide ((i_2 : Int) > (IntKind.wrap .i64 ((IntKind.wrap .i64 ((IntKind.wrap .i64 (((betweenn : Nat) : Int) + n_20)) + n_21)) + 8)))) = false →
  (I_2 ever_2 ever_2n ever_2c q_6 q_6n q_6c n_6 (IntKind.wrap .i64 (i_2 + 1)) w30 ∧ M_2 ever_2 ever_2n ever_2c q_6 q_6n q_6c n_6 (IntKind.wrap .i64 (i_2 + 1)) w30 < M_2 ever evern everc met metn metc c i_2 w11)))))))
set_option maxRecDepth 100000 in
def V6_k8 (I_10 : Option Addr → Nat → Nat → Int → World → Prop) (M_10 : Option Addr → Nat → Nat → Int → World → Nat) (ever_8 : Option Addr) (ever_8n : Nat) (ever_8c : Nat) (k_6 : Int) (w43 : World) (d_8 : Option Addr) (between_8 : Option Addr) (between_8n between_8c : Nat) (n_31 : Int) (stay_6 : Option Addr) (stay_6n stay_6c : Nat) (ever_10 : Option Addr) (ever_10n ever_10c : Nat) (met_8 : Option Addr) (met_8n met_8c : Nat) (c_8 : Int) (i_14 : Int) (k_8 : Int) (w48 : World) (R : Ending → World → Prop) : Prop :=
  (I_10 ever_10 ever_10n ever_10c (IntKind.wrap .i64 (k_8 + 1)) w48 ∧ M_10 ever_10 ever_10n ever_10c (IntKind.wrap .i64 (k_8 + 1)) w48 < M_10 ever_8 ever_8n ever_8c k_6 w43)
set_option maxRecDepth 100000 in
def V6_k7 (I_10 : Option Addr → Nat → Nat → Int → World → Prop) (M_10 : Option Addr → Nat → Nat → Int → World → Nat) (ever_8 : Option Addr) (ever_8n : Nat) (ever_8c : Nat) (k_6 : Int) (w43 : World) (d_7 : Option Addr) (between_7 : Option Addr) (between_7n between_7c : Nat) (n_30 : Int) (stay_5 : Option Addr) (stay_5n stay_5c : Nat) (ever_9 : Option Addr) (ever_9n ever_9c : Nat) (met_7 : Option Addr) (met_7n met_7c : Nat) (c_7 : Int) (i_13 : Int) (k_7 : Int) (w47 : World) (R : Ending → World → Prop) : Prop :=
  V6_k8 I_10 M_10 ever_8 ever_8n ever_8c k_6 w43 d_7 between_7 between_7n between_7c n_30 stay_5 stay_5n stay_5c ever_9 ever_9n ever_9c met_7 met_7n met_7c c_7 i_13 k_7 w47 R
set_option maxRecDepth 100000 in
def V6_k10 (I_10 : Option Addr → Nat → Nat → Int → World → Prop) (M_10 : Option Addr → Nat → Nat → Int → World → Nat) (ever_8 : Option Addr) (ever_8n : Nat) (ever_8c : Nat) (k_6 : Int) (w43 : World) (d_10 : Option Addr) (between_10 : Option Addr) (between_10n between_10c : Nat) (n_39 : Int) (stay_8 : Option Addr) (stay_8n stay_8c : Nat) (ever_12 : Option Addr) (ever_12n ever_12c : Nat) (met_10 : Option Addr) (met_10n met_10c : Nat) (c_10 : Int) (i_16 : Int) (k_10 : Int) (w54 : World) (R : Ending → World → Prop) : Prop :=
  (I_10 ever_12 ever_12n ever_12c (IntKind.wrap .i64 (k_10 + 1)) w54 ∧ M_10 ever_12 ever_12n ever_12c (IntKind.wrap .i64 (k_10 + 1)) w54 < M_10 ever_8 ever_8n ever_8c k_6 w43)
set_option maxRecDepth 100000 in
def V6_k9 (I_10 : Option Addr → Nat → Nat → Int → World → Prop) (M_10 : Option Addr → Nat → Nat → Int → World → Nat) (ever_8 : Option Addr) (ever_8n : Nat) (ever_8c : Nat) (k_6 : Int) (w43 : World) (d_9 : Option Addr) (between_9 : Option Addr) (between_9n between_9c : Nat) (n_38 : Int) (stay_7 : Option Addr) (stay_7n stay_7c : Nat) (ever_11 : Option Addr) (ever_11n ever_11c : Nat) (met_9 : Option Addr) (met_9n met_9c : Nat) (c_9 : Int) (i_15 : Int) (k_9 : Int) (w53 : World) (R : Ending → World → Prop) : Prop :=
  V6_k10 I_10 M_10 ever_8 ever_8n ever_8c k_6 w43 d_9 between_9 between_9n between_9c n_38 stay_7 stay_7n stay_7c ever_11 ever_11n ever_11c met_9 met_9n met_9c c_9 i_15 k_9 w53 R
set_option maxRecDepth 100000 in
def V6_k6 (d_6 : Option Addr) (ahead_2 : Option Addr) (ahead_2n ahead_2c : Nat) (between_6 : Option Addr) (between_6n between_6c : Nat) (n_23 : Int) (w31 : World) (R : Ending → World → Prop) : Prop :=
  (true = true →
  R (.returned (.bool false)) w31) ∧
  (true = false →
  ∃ (I_6 : Int → World → Prop) (M_6 : Int → World → Nat), I_6 0 w31 ∧
  ∀ (i_9 : Int) (w32 : World), I_6 i_9 w32 →
  ((decide ((i_9 : Int) < ((ahead_2n : Nat) : Int))) = true →
  ptrC ahead_2 fun a_10 => (0 : Int) ≤ i_9 ∧ i_9 < ((ahead_2n : Nat) : Int) ∧
  ∃ (n_24 : Int), World.cell? w32 (Addr.add a_10 ((Int.toNat i_9) * 3)) = some (.int .i64 n_24) ∧
  ∃ (s_8 : ByteArray), World.cell? w32 ((Addr.add a_10 ((Int.toNat i_9) * 3)).add 1) = some (.string s_8) ∧
  ∃ (n_25 : Int), World.cell? w32 ((Addr.add a_10 ((Int.toNat i_9) * 3)).add 2) = some (.int .i64 n_25) ∧
  Calls Try.prog 24 #[.pointer d_6, .slice none 0 0, .agg #[.int .i64 n_24, .string s_8, .int .i64 n_25]] w32 fun e_ w33 => e_ = .returned (.tuple #[]) ∧
  (I_6 (IntKind.wrap .i64 (i_9 + 1)) w33 ∧ M_6 (IntKind.wrap .i64 (i_9 + 1)) w33 < M_6 i_9 w32)) ∧
  ((decide ((i_9 : Int) < ((ahead_2n : Nat) : Int))) = false →
  Calls Try.prog 21 #[.pointer d_6] w32 fun e_ w34 => ∃ (q_9 : Option Addr) (q_9n q_9c : Nat), e_ = .returned (.slice q_9 q_9n q_9c) ∧
  Calls Try.prog 21 #[.pointer d_6] w34 fun e_ w35 => ∃ (q_10 : Option Addr) (q_10n q_10c : Nat), e_ = .returned (.slice q_10 q_10n q_10c) ∧
  ∃ (I_7 : Option Addr → Nat → Nat → Option Addr → Nat → Nat → Int → Int → World → Prop) (M_7 : Option Addr → Nat → Nat → Option Addr → Nat → Nat → Int → Int → World → Nat), I_7 q_10 q_10n q_10c none 0 0 0 0 w35 ∧
  ∀ (ever_7 : Option Addr) (ever_7n ever_7c : Nat) (met_6 : Option Addr) (met_6n met_6c : Nat) (c_6 : Int) (i_10 : Int) (w36 : World), I_7 ever_7 ever_7n ever_7c met_6 met_6n met_6c c_6 i_10 w36 →
  Calls Try.prog 25 #[.pointer d_6, .int .i64 c_6, .int .i64 n_23] w36 fun e_ w37 => ∃ (q_11 : Option Addr) (q_11n q_11c : Nat), ∃ (n_26 : Int), e_ = .returned (.tuple #[.slice q_11 q_11n q_11c, .int .i64 n_26]) ∧
  ∃ (q_12 : Option Addr) (q_12n q_12c : Nat), ∃ w38 : World, Sem.run Try.prog (builtin .append #[30, 30] 30 #[false, false] #[.slice met_6 met_6n met_6c, .slice q_11 q_11n q_11c]) w37 = .ok (.value (.slice q_12 q_12n q_12c)) w38 ∧
  (((n_26 : Int) == 0) = true →
  ∃ (I_8 : Int → World → Prop) (M_8 : Int → World → Nat), I_8 0 w38 ∧
  ∀ (i_11 : Int) (w39 : World), I_8 i_11 w39 →
  ((decide ((i_11 : Int) < ((q_9n : Nat) : Int))) = true →
  ptrC q_9 fun a_11 => (0 : Int) ≤ i_11 ∧ i_11 < ((q_9n : Nat) : Int) ∧
  ∃ (s_9 : ByteArray), World.cell? w39 (Addr.add a_11 ((Int.toNat i_11) * 1)) = some (.string s_9) ∧
  Calls Try.prog 27 #[.slice q_12 q_12n q_12c, .string s_9] w39 fun e_ w40 => ∃ (b_5 : Bool), e_ = .returned (.bool b_5) ∧
  ((!b_5) = true →
  R (.returned (.bool false)) w40) ∧
  ((!b_5) = false →
  (I_8 (IntKind.wrap .i64 (i_11 + 1)) w40 ∧ M_8 (IntKind.wrap .i64 (i_11 + 1)) w40 < M_8 i_11 w39))) ∧
  ((decide ((i_11 : Int) < ((q_9n : Nat) : Int))) = false →
  ∃ (I_9 : Int → World → Prop) (M_9 : Int → World → Nat), I_9 0 w39 ∧
  ∀ (i_12 : Int) (w41 : World), I_9 i_12 w41 →
  ((decide ((i_12 : Int) < ((q_12n : Nat) : Int))) = true →
  ptrC q_12 fun a_12 => (0 : Int) ≤ i_12 ∧ i_12 < ((q_12n : Nat) : Int) ∧
  ∃ (s_10 : ByteArray), World.cell? w41 (Addr.add a_12 ((Int.toNat i_12) * 1)) = some (.string s_10) ∧
  Calls Try.prog 27 #[.slice ever_7 ever_7n ever_7c, .string s_10] w41 fun e_ w42 => ∃ (b_6 : Bool), e_ = .returned (.bool b_6) ∧
  ((!b_6) = true →
  R (.returned (.bool false)) w42) ∧
  ((!b_6) = false →
  (I_9 (IntKind.wrap .i64 (i_12 + 1)) w42 ∧ M_9 (IntKind.wrap .i64 (i_12 + 1)) w42 < M_9 i_12 w41))) ∧
  ((decide ((i_12 : Int) < ((q_12n : Nat) : Int))) = false →
  R (.returned (.bool true)) w41))) ∧
  (((n_26 : Int) == 0) = false →
  ∃ (I_10 : Option Addr → Nat → Nat → Int → World → Prop) (M_10 : Option Addr → Nat → Nat → Int → World → Nat), I_10 ever_7 ever_7n ever_7c (IntKind.wrap .i64 (3 * i_10)) w38 ∧
  ∀ (ever_8 : Option Addr) (ever_8n ever_8c : Nat) (k_6 : Int) (w43 : World), I_10 ever_8 ever_8n ever_8c k_6 w43 →
  ((decide ((k_6 : Int) < (IntKind.wrap .i64 ((IntKind.wrap .i64 (3 * i_10)) + 3)))) = true →
  ((decide ((k_6 : Int) < ((between_6n : Nat) : Int))) = true →
  ptrC between_6 fun a_13 => (0 : Int) ≤ k_6 ∧ k_6 < ((between_6n : Nat) : Int) ∧
  ∃ (n_27 : Int), World.cell? w43 (Addr.add a_13 ((Int.toNat k_6) * 3)) = some (.int .i64 n_27) ∧
  ∃ (s_11 : ByteArray), World.cell? w43 ((Addr.add a_13 ((Int.toNat k_6) * 3)).add 1) = some (.string s_11) ∧
  ∃ (n_28 : Int), World.cell? w43 ((Addr.add a_13 ((Int.toNat k_6) * 3)).add 2) = some (.int .i64 n_28) ∧
  Calls Try.prog 24 #[.pointer d_6, .slice q_9 q_9n q_9c, .agg #[.int .i64 n_27, .string s_11, .int .i64 n_28]] w43 fun e_ w44 => e_ = .returned (.tuple #[]) ∧
  ptrC between_6 fun a_14 => (0 : Int) ≤ k_6 ∧ k_6 < ((between_6n : Nat) : Int) ∧
  ∃ (n_29 : Int), World.cell? w44 (Addr.add a_14 ((Int.toNat k_6) * 3)) = some (.int .i64 n_29) ∧
  (((n_29 : Int) == 0) = true →
  ptrC between_6 fun a_15 => (0 : Int) ≤ k_6 ∧ k_6 < ((between_6n : Nat) : Int) ∧
  ∃ (s_12 : ByteArray), World.cell? w44 ((Addr.add a_15 ((Int.toNat k_6) * 3)).add 1) = some (.string s_12) ∧
  ∀ (g_4 : Nat) (w45 : World), g_4 = (World.heap w44).size → w45 = World.alloc w44 (.cells #[.string s_12] 9) →
  ∃ (q_13 : Option Addr) (q_13n q_13c : Nat), ∃ w46 : World, Sem.run Try.prog (builtin .append #[30, 30] 30 #[false, false] #[.slice ever_8 ever_8n ever_8c, .slice (some ⟨g_4, 0, none⟩) 1 1]) w45 = .ok (.value (.slice q_13 q_13n q_13c)) w46 ∧
  V6_k7 I_10 M_10 ever_8 ever_8n ever_8c k_6 w43 d_6 between_6 between_6n between_6c n_23 q_9 q_9n q_9c q_13 q_13n q_13c q_12 q_12n q_12c n_26 i_10 k_6 w46 R) ∧
  (((n_29 : Int) == 0) = false →
  V6_k7 I_10 M_10 ever_8 ever_8n ever_8c k_6 w43 d_6 between_6 between_6n between_6c n_23 q_9 q_9n q_9c ever_8 ever_8n ever_8c q_12 q_12n q_12c n_26 i_10 k_6 w44 R)) ∧
  ((decide ((k_6 : Int) < ((between_6n : Nat) : Int))) = false →
  Calls Try.prog 26 #[.pointer d_6] w43 fun e_ w49 => ∃ (n_32 : Int), ∃ (n_33 : Int), ∃ (n_34 : Int), e_ = .returned (.tuple #[.int .i64 n_32, .int .i64 n_33, .int .i64 n_34]) ∧
  ((decide ((i_10 : Int) > (IntKind.wrap .i64 ((IntKind.wrap .i64 ((IntKind.wrap .i64 (((between_6n : Nat) : Int) + n_32)) + n_33)) + 8)))) = true →
  R (.returned (.bool false)) w49) ∧
  ((decide ((i_10 : Int) > (IntKind.wrap .i64 ((IntKind.wrap .i64 ((IntKind.wrap .i64 (((between_6n : Nat) : Int) + n_32)) + n_33)) + 8)))) = false →
  (I_7 ever_8 ever_8n ever_8c q_12 q_12n q_12c n_26 (IntKind.wrap .i64 (i_10 + 1)) w49 ∧ M_7 ever_8 ever_8n ever_8c q_12 q_12n q_12c n_26 (IntKind.wrap .i64 (i_10 + 1)) w49 < M_7 ever_7 ever_7n ever_7c met_6 met_6n met_6c c_6 i_10 w36)))) ∧
  ((decide ((k_6 : Int) < (IntKind.wrap .i64 ((IntKind.wrap .i64 (3 * i_10)) + 3)))) = !true →
  (false = true →
  ptrC between_6 fun a_16 => (0 : Int) ≤ k_6 ∧ k_6 < ((between_6n : Nat) : Int) ∧
  ∃ (n_35 : Int), World.cell? w43 (Addr.add a_16 ((Int.toNat k_6) * 3)) = some (.int .i64 n_35) ∧
  ∃ (s_13 : ByteArray), World.cell? w43 ((Addr.add a_16 ((Int.toNat k_6) * 3)).add 1) = some (.string s_13) ∧
  ∃ (n_36 : Int), World.cell? w43 ((Addr.add a_16 ((Int.toNat k_6) * 3)).add 2) = some (.int .i64 n_36) ∧
  Calls Try.prog 24 #[.pointer d_6, .slice q_9 q_9n q_9c, .agg #[.int .i64 n_35, .string s_13, .int .i64 n_36]] w43 fun e_ w50 => e_ = .returned (.tuple #[]) ∧
  ptrC between_6 fun a_17 => (0 : Int) ≤ k_6 ∧ k_6 < ((between_6n : Nat) : Int) ∧
  ∃ (n_37 : Int), World.cell? w50 (Addr.add a_17 ((Int.toNat k_6) * 3)) = some (.int .i64 n_37) ∧
  (((n_37 : Int) == 0) = true →
  ptrC between_6 fun a_18 => (0 : Int) ≤ k_6 ∧ k_6 < ((between_6n : Nat) : Int) ∧
  ∃ (s_14 : ByteArray), World.cell? w50 ((Addr.add a_18 ((Int.toNat k_6) * 3)).add 1) = some (.string s_14) ∧
  ∀ (g_5 : Nat) (w51 : World), g_5 = (World.heap w50).size → w51 = World.alloc w50 (.cells #[.string s_14] 9) →
  ∃ (q_14 : Option Addr) (q_14n q_14c : Nat), ∃ w52 : World, Sem.run Try.prog (builtin .append #[30, 30] 30 #[false, false] #[.slice ever_8 ever_8n ever_8c, .slice (some ⟨g_5, 0, none⟩) 1 1]) w51 = .ok (.value (.slice q_14 q_14n q_14c)) w52 ∧
  V6_k9 I_10 M_10 ever_8 ever_8n ever_8c k_6 w43 d_6 between_6 between_6n between_6c n_23 q_9 q_9n q_9c q_14 q_14n q_14c q_12 q_12n q_12c n_26 i_10 k_6 w52 R) ∧
  (((n_37 : Int) == 0) = false →
  V6_k9 I_10 M_10 ever_8 ever_8n ever_8c k_6 w43 d_6 between_6 between_6n between_6c n_23 q_9 q_9n q_9c ever_8 ever_8n ever_8c q_12 q_12n q_12c n_26 i_10 k_6 w50 R)) ∧
  (false = false →
  Calls Try.prog 26 #[.pointer d_6] w43 fun e_ w55 => ∃ (n_40 : Int), ∃ (n_41 : Int), ∃ (n_42 : Int), e_ = .returned (.tuple #[.int .i64 n_40, .int .i64 n_41, .int .i64 n_42]) ∧
  ((decide ((i_10 : Int) > (IntKind.wrap .i64 ((IntKind.wrap .i64 ((IntKind.wrap .i64 (((between_6n : Nat) : Int) + n_40)) + n_41)) + 8)))) = true →
  R (.returned (.bool false)) w55) ∧
  ((decide ((i_10 : Int) > (IntKind.wrap .i64 ((IntKind.wrap .i64 ((IntKind.wrap .i64 (((between_6n : Nat) : Int) + n_40)) + n_41)) + 8)))) = false →
  (I_7 ever_8 ever_8n ever_8c q_12 q_12n q_12c n_26 (IntKind.wrap .i64 (i_10 + 1)) w55 ∧ M_7 ever_8 ever_8n ever_8c q_12 q_12n q_12c n_26 (IntKind.wrap .i64 (i_10 + 1)) w55 < M_7 ever_7 ever_7n ever_7c met_6 met_6n met_6c c_6 i_10 w36)))))))
set_option maxRecDepth 100000 in
def V6 (w_ : Int) (w__2 : Option Addr) (w__2n w__2c : Nat) (w__3 : Option Addr) (w__3n w__3c : Nat) (w__4 : Int) (w : World) (R : Ending → World → Prop) : Prop :=
  ∀ (g : Nat) (w1 : World), g = (World.heap w).size → w1 = World.alloc w (.cells #[.int .i64 w_, .slice w__2 w__2n w__2c, .slice w__3 w__3n w__3c, .int .i64 w__4] 42) →
  ∃ (n : Int), World.cell? w1 ⟨g, 0, none⟩ = some (.int .i64 n) ∧
  Calls Try.prog 18 #[.int .i64 n] w1 fun e_ w2 => ∃ (p : Option Addr), e_ = .returned (.pointer p) ∧
  ∀ w3 : World, Drawn w2 w3 →
  ∃ (q : Option Addr) (qn qc : Nat), World.cell? w3 ⟨g, 1, none⟩ = some (.slice q qn qc) ∧
  ∃ (q_2 : Option Addr) (q_2n q_2c : Nat), World.cell? w3 ⟨g, 2, none⟩ = some (.slice q_2 q_2n q_2c) ∧
  ∃ (n_2 : Int), World.cell? w3 ⟨g, 3, none⟩ = some (.int .i64 n_2) ∧
  ∀ w4 : World, Drawn w3 w4 →
  Calls Try.prog 15 #[] w4 fun e_ w5 => ∃ (b : Bool), e_ = .returned (.bool b) ∧
  ((!b) = false →
  V6_k1 p q qn qc q_2 q_2n q_2c n_2 (Option.isNone p) w5 R) ∧
  ((!b) = !false →
  V6_k6 p q qn qc q_2 q_2n q_2c n_2 w5 R)
theorem b6 : Try.f6.body = some (bodyOf Try.f6) := by kernel_rfl
theorem ok6 : okF Try.prog an6 Try.f6 (bodyOf Try.f6) 1 = true := by kernel_rfl
theorem e6 (w_ : Int) (w__2 : Option Addr) (w__2n w__2c : Nat) (w__3 : Option Addr) (w__3n w__3c : Nat) (w__4 : Int) (w : World) (R : Ending → World → Prop) : vcF Try.prog an6 Try.f6 (bodyOf Try.f6) [.agg #[.int .i64 w_, .slice w__2 w__2n w__2c, .slice w__3 w__3n w__3c, .int .i64 w__4]] w R = V6 w_ w__2 w__2n w__2c w__3 w__3n w__3c w__4 w R := by kernel_rfl
theorem v6 (w_ : Int) (w__2 : Option Addr) (w__2n w__2c : Nat) (w__3 : Option Addr) (w__3n w__3c : Nat) (w__4 : Int) (w : World) (R : Ending → World → Prop) (hV : V6 w_ w__2 w__2n w__2c w__3 w__3n w__3c w__4 w R) : Calls Try.prog 6 #[.agg #[.int .i64 w_, .slice w__2 w__2n w__2c, .slice w__3 w__3n w__3c, .int .i64 w__4]] w R := calls_vc mixed Try.func6 b6 rfl ok6 (e6 w_ w__2 w__2n w__2c w__3 w__3n w__3c w__4 w R) hV

/-- maps.Clone[map[string]int,string,int] -/
def an74 : Ann := { loops := [], draws := [], tys := [] }
set_option maxRecDepth 100000 in
def V74 (m : Option Nat) (w : World) (R : Ending → World → Prop) : Prop :=
  ((Option.isNone m) = true →
  R (.returned (.map none)) w) ∧
  ((Option.isNone m) = false →
  ∃ (v : Value), ∃ w1 : World, Sem.run Try.prog (callFunc 122 #[.iface 100 (.map m)]) w = .ok (.value (v)) w1 ∧
  ∃ (m_2 : Option Nat), ∃ w2 : World, Sem.run Try.prog (Instr.typeAssert (v) 20 100 false) w1 = .ok (.map m_2) w2 ∧
  R (.returned (.map m_2)) w2)
theorem b74 : Try.f74.body = some (bodyOf Try.f74) := by kernel_rfl
theorem ok74 : okF Try.prog an74 Try.f74 (bodyOf Try.f74) 1 = true := by kernel_rfl
theorem e74 (m : Option Nat) (w : World) (R : Ending → World → Prop) : vcF Try.prog an74 Try.f74 (bodyOf Try.f74) [.map m] w R = V74 m w R := by kernel_rfl
theorem v74 (m : Option Nat) (w : World) (R : Ending → World → Prop) (hV : V74 m w R) : Calls Try.prog 74 #[.map m] w R := calls_vc mixed Try.func74 b74 rfl ok74 (e74 m w R) hV

end Go.Proofs.Ytcljmlgbmjjldaa.F
