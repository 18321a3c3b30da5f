/- The verification conditions of Go functions, printed by wip/gen/gen.py; the kernel checks that each is the one reckoned from the code. -/
import Derived.Test.YtcljmlgbmjjldaaProg
import Derived.Test.YtcljmlgbmjjldaaVC
import Derived.Test.YtcljmlgbmjjldaaF0
set_option linter.unusedVariables false
namespace Go.Proofs.Ytcljmlgbmjjldaa.F
open Go Go.VC Go.Proofs
/-- slices.Clone[[]int,int] -/
def an86 : Ann := { loops := [], draws := [], tys := [] }
set_option maxRecDepth 100000 in
def V86 (s : Option Addr) (sn sc : Nat) (w : World) (R : Ending → World → Prop) : Prop :=
  ((Option.isNone s) = true →
  R (.returned (.slice none 0 0)) w) ∧
  ((Option.isNone s) = false →
  ∀ (g : Nat) (w1 : World), g = (World.heap w).size → w1 = World.alloc w (.cells #[] 3) →
  ∃ (q : Option Addr) (qn qc : Nat), ∃ w2 : World, Sem.run Try.prog (builtin .append #[31, 31] 31 #[false, false] #[.slice (some ⟨g, 0, none⟩) 0 0, .slice s sn sc]) w1 = .ok (.value (.slice q qn qc)) w2 ∧
  R (.returned (.slice q qn qc)) w2)
theorem b86 : Try.f86.body = some (bodyOf Try.f86) := by kernel_rfl
theorem ok86 : okF Try.prog an86 Try.f86 (bodyOf Try.f86) 1 = true := by kernel_rfl
theorem e86 (s : Option Addr) (sn sc : Nat) (w : World) (R : Ending → World → Prop) : vcF Try.prog an86 Try.f86 (bodyOf Try.f86) [.slice s sn sc] w R = V86 s sn sc w R := by kernel_rfl
theorem v86 (s : Option Addr) (sn sc : Nat) (w : World) (R : Ending → World → Prop) (hV : V86 s sn sc w R) : Calls Try.prog 86 #[.slice s sn sc] w R := calls_vc mixed Try.func86 b86 rfl ok86 (e86 s sn sc w R) hV

/-- cistern/cisternlaw20.works -/
def an39 : Ann := { loops := [], draws := [], tys := [] }
set_option maxRecDepth 100000 in
def V39_k2 (f_2 : Option Addr) (b_3 : Bool) (w14 : World) (R : Ending → World → Prop) : Prop :=
  (b_3 = true →
  R (.returned (.bool false)) w14) ∧
  (b_3 = false →
  Calls Try.prog 80 #[.pointer f_2, .string (ByteArray.mk #[97])] w14 fun e_ w15 => ∃ (s_2 : ByteArray), ∃ (n_11 : Int), e_ = .returned (.tuple #[.string s_2, .int .i64 n_11]) ∧
  ((strEq s_2 (ByteArray.mk #[120, 121])) = true →
  (((n_11 : Int) == 0) = true →
  Calls Try.prog 78 #[.pointer f_2, .string (ByteArray.mk #[97, 47, 98])] w15 fun e_ w16 => ∃ (n_12 : Int), e_ = .returned (.int .i64 n_12) ∧
  R (.returned (.bool ((n_12 : Int) == 202))) w16) ∧
  (((n_11 : Int) == 0) = !true →
  R (.returned (.bool false)) w15)) ∧
  ((strEq s_2 (ByteArray.mk #[120, 121])) = !true →
  R (.returned (.bool false)) w15))
set_option maxRecDepth 100000 in
def V39_k1 (f : Option Addr) (b : Bool) (w7 : World) (R : Ending → World → Prop) : Prop :=
  (b = true →
  R (.returned (.bool false)) w7) ∧
  (b = false →
  Calls Try.prog 80 #[.pointer f, .string (ByteArray.mk #[97])] w7 fun e_ w8 => ∃ (s : ByteArray), ∃ (n_6 : Int), e_ = .returned (.tuple #[.string s, .int .i64 n_6]) ∧
  ((!strEq s (ByteArray.mk #[120, 121, 122])) = false →
  (((n_6 : Int) != 0) = false →
  Calls Try.prog 81 #[.pointer f] w8 fun e_ w9 => ∃ (n_7 : Int), e_ = .returned (.int .i64 n_7) ∧
  (((n_7 : Int) != 5) = false →
  Calls Try.prog 43 #[.pointer f, .int .i64 0, .slice none 0 0] w9 fun e_ w10 => ∃ (n_8 : Int), e_ = .returned (.int .i64 n_8) ∧
  (((n_8 : Int) != 0) = false →
  Calls Try.prog 45 #[.pointer f] w10 fun e_ w11 => ∃ (b_2 : Bool), e_ = .returned (.bool b_2) ∧
  (b_2 = false →
  Calls Try.prog 78 #[.pointer f, .string (ByteArray.mk #[98])] w11 fun e_ w12 => ∃ (n_9 : Int), e_ = .returned (.int .i64 n_9) ∧
  (((n_9 : Int) != 203) = false →
  Calls Try.prog 46 #[.pointer f] w12 fun e_ w13 => ∃ (n_10 : Int), e_ = .returned (.int .i64 n_10) ∧
  V39_k2 f ((n_10 : Int) != 0) w13 R) ∧
  (((n_9 : Int) != 203) = !false →
  V39_k2 f true w12 R)) ∧
  (b_2 = !false →
  V39_k2 f true w11 R)) ∧
  (((n_8 : Int) != 0) = !false →
  V39_k2 f true w10 R)) ∧
  (((n_7 : Int) != 5) = !false →
  V39_k2 f true w9 R)) ∧
  (((n_6 : Int) != 0) = !false →
  V39_k2 f true w8 R)) ∧
  ((!strEq s (ByteArray.mk #[120, 121, 122])) = !false →
  V39_k2 f true w8 R))
set_option maxRecDepth 100000 in
def V39  (w : World) (R : Ending → World → Prop) : Prop :=
  Calls Try.prog 38 #[] w fun e_ w1 => ∃ (p : Option Addr), e_ = .returned (.pointer p) ∧
  ((Option.isNone p) = false →
  Calls Try.prog 78 #[.pointer p, .string (ByteArray.mk #[97])] w1 fun e_ w2 => ∃ (n : Int), e_ = .returned (.int .i64 n) ∧
  (((n : Int) != 0) = false →
  Calls Try.prog 79 #[.pointer p, .string (ByteArray.mk #[97]), .string (ByteArray.mk #[120, 121])] w2 fun e_ w3 => ∃ (n_2 : Int), e_ = .returned (.int .i64 n_2) ∧
  (((n_2 : Int) != 0) = false →
  Calls Try.prog 50 #[.pointer p, .string (ByteArray.mk #[97])] w3 fun e_ w4 => ∃ (n_3 : Int), e_ = .returned (.int .i64 n_3) ∧
  (((n_3 : Int) != 0) = false →
  Calls Try.prog 51 #[.pointer p] w4 fun e_ w5 => ∃ (n_4 : Int), e_ = .returned (.int .i64 n_4) ∧
  (((n_4 : Int) != 0) = false →
  Calls Try.prog 79 #[.pointer p, .string (ByteArray.mk #[97]), .string (ByteArray.mk #[122])] w5 fun e_ w6 => ∃ (n_5 : Int), e_ = .returned (.int .i64 n_5) ∧
  V39_k1 p ((n_5 : Int) != 0) w6 R) ∧
  (((n_4 : Int) != 0) = !false →
  V39_k1 p true w5 R)) ∧
  (((n_3 : Int) != 0) = !false →
  V39_k1 p true w4 R)) ∧
  (((n_2 : Int) != 0) = !false →
  V39_k1 p true w3 R)) ∧
  (((n : Int) != 0) = !false →
  V39_k1 p true w2 R)) ∧
  ((Option.isNone p) = !false →
  V39_k1 p true w1 R)
theorem b39 : Try.f39.body = some (bodyOf Try.f39) := by kernel_rfl
theorem ok39 : okF Try.prog an39 Try.f39 (bodyOf Try.f39) 0 = true := by kernel_rfl
theorem e39  (w : World) (R : Ending → World → Prop) : vcF Try.prog an39 Try.f39 (bodyOf Try.f39) [] w R = V39  w R := by kernel_rfl
theorem v39  (w : World) (R : Ending → World → Prop) (hV : V39  w R) : Calls Try.prog 39 #[] w R := calls_vc mixed Try.func39 b39 rfl ok39 (e39  w R) hV

/-- cistern/cisternlaw20.done -/
def an40 : Ann := { loops := [], draws := [], tys := [] }
set_option maxRecDepth 100000 in
def V40 (f : Addr) (o : Int) (o_2 : ByteArray) (o_3 : ByteArray) (o_4 : ByteArray) (o_5 : Int) (o_6 : Int) (o_7 : Option Addr) (o_7n o_7c : Nat) (w : World) (R : Ending → World → Prop) : Prop :=
  ∀ (g : Nat) (w1 : World), g = (World.heap w).size → w1 = World.alloc w (.cells #[.int .i64 o, .string o_2, .string o_3, .string o_4, .int .i64 o_5, .int .i64 o_6, .slice o_7 o_7n o_7c] 73) →
  ∃ (n : Int), World.cell? w1 ⟨g, 0, none⟩ = some (.int .i64 n) ∧
  (((n : Int) == 0) = true →
  ∃ (s : ByteArray), World.cell? w1 ⟨g, 1, none⟩ = some (.string s) ∧
  Calls Try.prog 78 #[.pointer (some f), .string s] w1 fun e_ w2 => ∃ (n_2 : Int), e_ = .returned (.int .i64 n_2) ∧
  R (.returned (.int .i64 n_2)) w2) ∧
  (((n : Int) == 0) = false →
  (((n : Int) == 1) = true →
  ∃ (s_2 : ByteArray), World.cell? w1 ⟨g, 1, none⟩ = some (.string s_2) ∧
  ∃ (s_3 : ByteArray), World.cell? w1 ⟨g, 3, none⟩ = some (.string s_3) ∧
  Calls Try.prog 79 #[.pointer (some f), .string s_2, .string s_3] w1 fun e_ w3 => ∃ (n_3 : Int), e_ = .returned (.int .i64 n_3) ∧
  R (.returned (.int .i64 n_3)) w3) ∧
  (((n : Int) == 1) = false →
  (((n : Int) == 2) = true →
  ∃ (s_4 : ByteArray), World.cell? w1 ⟨g, 1, none⟩ = some (.string s_4) ∧
  Calls Try.prog 50 #[.pointer (some f), .string s_4] w1 fun e_ w4 => ∃ (n_4 : Int), e_ = .returned (.int .i64 n_4) ∧
  R (.returned (.int .i64 n_4)) w4) ∧
  (((n : Int) == 2) = false →
  (((n : Int) == 3) = true →
  ∃ (s_5 : ByteArray), World.cell? w1 ⟨g, 1, none⟩ = some (.string s_5) ∧
  ∃ (s_6 : ByteArray), World.cell? w1 ⟨g, 2, none⟩ = some (.string s_6) ∧
  Calls Try.prog 82 #[.pointer (some f), .string s_5, .string s_6] w1 fun e_ w5 => ∃ (n_5 : Int), e_ = .returned (.int .i64 n_5) ∧
  R (.returned (.int .i64 n_5)) w5) ∧
  (((n : Int) == 3) = false →
  (((n : Int) == 4) = true →
  Calls Try.prog 51 #[.pointer (some f)] w1 fun e_ w6 => ∃ (n_6 : Int), e_ = .returned (.int .i64 n_6) ∧
  R (.returned (.int .i64 n_6)) w6) ∧
  (((n : Int) == 4) = false →
  (((n : Int) == 5) = true →
  ∃ (s_7 : ByteArray), World.cell? w1 ⟨g, 1, none⟩ = some (.string s_7) ∧
  Calls Try.prog 83 #[.pointer (some f), .string s_7] w1 fun e_ w7 => ∃ (n_7 : Int), e_ = .returned (.int .i64 n_7) ∧
  R (.returned (.int .i64 n_7)) w7) ∧
  (((n : Int) == 5) = false →
  (((n : Int) == 6) = true →
  ∃ (n_8 : Int), World.cell? w1 ⟨g, 4, none⟩ = some (.int .i64 n_8) ∧
  ∃ (n_9 : Int), World.cell? w1 ⟨g, 5, none⟩ = some (.int .i64 n_9) ∧
  Calls Try.prog 84 #[.pointer (some f), .int .i64 n_8, .int .i64 n_9] w1 fun e_ w8 => ∃ (n_10 : Int), e_ = .returned (.int .i64 n_10) ∧
  R (.returned (.int .i64 n_10)) w8) ∧
  (((n : Int) == 6) = false →
  (((n : Int) == 7) = true →
  ∃ (n_11 : Int), World.cell? w1 ⟨g, 4, none⟩ = some (.int .i64 n_11) ∧
  ∃ (q : Option Addr) (qn qc : Nat), World.cell? w1 ⟨g, 6, none⟩ = some (.slice q qn qc) ∧
  Calls Try.prog 43 #[.pointer (some f), .int .i64 n_11, .slice q qn qc] w1 fun e_ w9 => ∃ (n_12 : Int), e_ = .returned (.int .i64 n_12) ∧
  R (.returned (.int .i64 n_12)) w9) ∧
  (((n : Int) == 7) = false →
  (((n : Int) == 8) = true →
  Calls Try.prog 46 #[.pointer (some f)] w1 fun e_ w10 => ∃ (n_13 : Int), e_ = .returned (.int .i64 n_13) ∧
  R (.returned (.int .i64 n_13)) w10) ∧
  (((n : Int) == 8) = false →
  R (.returned (.int .i64 0)) w1)))))))))
theorem b40 : Try.f40.body = some (bodyOf Try.f40) := by kernel_rfl
theorem ok40 : okF Try.prog an40 Try.f40 (bodyOf Try.f40) 2 = true := by kernel_rfl
theorem e40 (f : Addr) (o : Int) (o_2 : ByteArray) (o_3 : ByteArray) (o_4 : ByteArray) (o_5 : Int) (o_6 : Int) (o_7 : Option Addr) (o_7n o_7c : Nat) (w : World) (R : Ending → World → Prop) : vcF Try.prog an40 Try.f40 (bodyOf Try.f40) [.pointer (some f), .agg #[.int .i64 o, .string o_2, .string o_3, .string o_4, .int .i64 o_5, .int .i64 o_6, .slice o_7 o_7n o_7c]] w R = V40 f o o_2 o_3 o_4 o_5 o_6 o_7 o_7n o_7c w R := by kernel_rfl
theorem v40 (f : Addr) (o : Int) (o_2 : ByteArray) (o_3 : ByteArray) (o_4 : ByteArray) (o_5 : Int) (o_6 : Int) (o_7 : Option Addr) (o_7n o_7c : Nat) (w : World) (R : Ending → World → Prop) (hV : V40 f o o_2 o_3 o_4 o_5 o_6 o_7 o_7n o_7c w R) : Calls Try.prog 40 #[.pointer (some f), .agg #[.int .i64 o, .string o_2, .string o_3, .string o_4, .int .i64 o_5, .int .i64 o_6, .slice o_7 o_7n o_7c]] w R := calls_vc mixed Try.func40 b40 rfl ok40 (e40 f o o_2 o_3 o_4 o_5 o_6 o_7 o_7n o_7c w R) hV

/-- cistern/cisternlaw20.find -/
def an44 : Ann := { loops := [(2, [(6, .int .i64)])], draws := [], tys := [] }
set_option maxRecDepth 100000 in
def V44 (l : Option Addr) (ln lc : Nat) (name : ByteArray) (w : World) (R : Ending → World → Prop) : Prop :=
  ∃ (I : Int → World → Prop) (M : Int → World → Nat), I 0 w ∧
  ∀ (i : Int) (w1 : World), I i w1 →
  ((decide ((i : Int) < ((ln : Nat) : Int))) = true →
  ptrC l fun a => (0 : Int) ≤ i ∧ i < ((ln : Nat) : Int) ∧
  ∃ (s : ByteArray), World.cell? w1 (Addr.add a ((Int.toNat i) * 2)) = some (.string s) ∧
  ((strEq s name) = true →
  ptrC l fun a_2 => (0 : Int) ≤ i ∧ i < ((ln : Nat) : Int) ∧
  ∃ (s_2 : ByteArray), World.cell? w1 ((Addr.add a_2 ((Int.toNat i) * 2)).add 1) = some (.string s_2) ∧
  R (.returned (.tuple #[.string s_2, .bool true])) w1) ∧
  ((strEq s name) = false →
  (I (IntKind.wrap .i64 (i + 1)) w1 ∧ M (IntKind.wrap .i64 (i + 1)) w1 < M i w1))) ∧
  ((decide ((i : Int) < ((ln : Nat) : Int))) = false →
  R (.returned (.tuple #[.string (ByteArray.mk #[]), .bool false])) w1)
theorem b44 : Try.f44.body = some (bodyOf Try.f44) := by kernel_rfl
theorem ok44 : okF Try.prog an44 Try.f44 (bodyOf Try.f44) 2 = true := by kernel_rfl
theorem e44 (l : Option Addr) (ln lc : Nat) (name : ByteArray) (w : World) (R : Ending → World → Prop) : vcF Try.prog an44 Try.f44 (bodyOf Try.f44) [.slice l ln lc, .string name] w R = V44 l ln lc name w R := by kernel_rfl
theorem v44 (l : Option Addr) (ln lc : Nat) (name : ByteArray) (w : World) (R : Ending → World → Prop) (hV : V44 l ln lc name w R) : Calls Try.prog 44 #[.slice l ln lc, .string name] w R := calls_vc mixed Try.func44 b44 rfl ok44 (e44 l ln lc name w R) hV

/-- cistern/cisternlaw20.samePairs -/
def an48 : Ann := { loops := [(4, [(5, .int .i64)])], draws := [(6, false, Tr.seq [0, 1, 2, 4, 5, 6, 3, 7, 8] .nil, [], [], [])], tys := [] }
set_option maxRecDepth 100000 in
def V48 (a : Option Addr) (an ac : Nat) (b : Option Addr) (bn bc : Nat) (w : World) (R : Ending → World → Prop) : Prop :=
  (((((an : Nat) : Int) : Int) != ((bn : Nat) : Int)) = true →
  R (.returned (.bool false)) w) ∧
  (((((an : Nat) : Int) : Int) != ((bn : Nat) : Int)) = false →
  ∃ (I : Int → World → Prop) (M : Int → World → Nat), I 0 w ∧
  ∀ (i : Int) (w1 : World), I i w1 →
  ((decide ((i : Int) < ((an : Nat) : Int))) = true →
  ∀ w2 : World, Drawn w1 w2 →
  ptrC a fun a_2 => (0 : Int) ≤ i ∧ i < ((an : Nat) : Int) ∧
  ptrC b fun a_3 => (0 : Int) ≤ i ∧ i < ((bn : Nat) : Int) ∧
  ∃ (s : ByteArray), World.cell? w2 (Addr.add a_2 ((Int.toNat i) * 2)) = some (.string s) ∧
  ∃ (s_2 : ByteArray), World.cell? w2 ((Addr.add a_2 ((Int.toNat i) * 2)).add 1) = some (.string s_2) ∧
  ∃ (s_3 : ByteArray), World.cell? w2 (Addr.add a_3 ((Int.toNat i) * 2)) = some (.string s_3) ∧
  ∃ (s_4 : ByteArray), World.cell? w2 ((Addr.add a_3 ((Int.toNat i) * 2)).add 1) = some (.string s_4) ∧
  ∃ b_2 : Bool, (∀ w0 : World, Sem.run Try.prog (do eqGuard .neq 77 (.tmp 20) (.tmp 24) (.agg #[.string s, .string s_2]) (.agg #[.string s_3, .string s_4]); binOp .neq 77 (.agg #[.string s, .string s_2]) (.agg #[.string s_3, .string s_4]) : Sem Value) w0 = .ok (.bool b_2) w0) ∧
  ∀ w3 : World, Drawn w2 w3 →
  (b_2 = true →
  R (.returned (.bool false)) w3) ∧
  (b_2 = false →
  (I (IntKind.wrap .i64 (i + 1)) w3 ∧ M (IntKind.wrap .i64 (i + 1)) w3 < M i w1))) ∧
  ((decide ((i : Int) < ((an : Nat) : Int))) = false →
  R (.returned (.bool true)) w1))
theorem b48 : Try.f48.body = some (bodyOf Try.f48) := by kernel_rfl
theorem ok48 : okF Try.prog an48 Try.f48 (bodyOf Try.f48) 2 = true := by kernel_rfl
theorem e48 (a : Option Addr) (an ac : Nat) (b : Option Addr) (bn bc : Nat) (w : World) (R : Ending → World → Prop) : vcF Try.prog an48 Try.f48 (bodyOf Try.f48) [.slice a an ac, .slice b bn bc] w R = V48 a an ac b bn bc w R := by kernel_rfl
theorem v48 (a : Option Addr) (an ac : Nat) (b : Option Addr) (bn bc : Nat) (w : World) (R : Ending → World → Prop) (hV : V48 a an ac b bn bc w R) : Calls Try.prog 48 #[.slice a an ac, .slice b bn bc] w R := calls_vc mixed Try.func48 b48 rfl ok48 (e48 a an ac b bn bc w R) hV

/-- cistern/cisternlaw20.SimfsSurvives -/
def an11 : Ann := { loops := [(6, [(6, .slice), (7, .int .i64)]), (17, [(6, .slice), (11, .int .i64)]), (24, [(13, .int .i64)]), (28, [(14, .bool), (15, .bool), (16, .int .i64)]), (36, [(10, .bool), (18, .int .i64)]), (42, [(19, .int .i64)])], draws := [(31, false, Tr.seq [0, 1, 2, 3, 4, 5, 7, 8, 9, 10, 6, 11, 12, 13, 14] .nil, [], [], []), (45, false, Tr.seq [0, 1, 2, 3, 5, 6, 7, 8, 4, 9, 10, 11, 12, 13, 14, 15, 16, 17, 18, 22, 23, 24, 25, 19, 20, 21, 26, 27, 28] .nil, [], [], [])], tys := [] }
set_option maxRecDepth 100000 in
def V11_k4 (I : Option Addr → Nat → Nat → Int → World → Prop) (M : Option Addr → Nat → Nat → Int → World → Nat) (ever : Option Addr) (evern : Nat) (everc : Nat) (i : Int) (w4 : World) (script_5 : Option Addr) (script_5n script_5c : Nat) (picks_5 : Option Addr) (picks_5n picks_5c : Nat) (f_4 : Option Addr) (ever_4 : Option Addr) (ever_4n ever_4c : Nat) (i_4 : Int) (w10 : World) (R : Ending → World → Prop) : Prop :=
  (I ever_4 ever_4n ever_4c (IntKind.wrap .i64 (i_4 + 1)) w10 ∧ M ever_4 ever_4n ever_4c (IntKind.wrap .i64 (i_4 + 1)) w10 < M ever evern everc i w4)
set_option maxRecDepth 100000 in
def V11_k3 (I : Option Addr → Nat → Nat → Int → World → Prop) (M : Option Addr → Nat → Nat → Int → World → Nat) (ever : Option Addr) (evern : Nat) (everc : Nat) (i : Int) (w4 : World) (script_4 : Option Addr) (script_4n script_4c : Nat) (picks_4 : Option Addr) (picks_4n picks_4c : Nat) (f_3 : Option Addr) (ever_3 : Option Addr) (ever_3n ever_3c : Nat) (i_3 : Int) (w9 : World) (R : Ending → World → Prop) : Prop :=
  V11_k4 I M ever evern everc i w4 script_4 script_4n script_4c picks_4 picks_4n picks_4c f_3 ever_3 ever_3n ever_3c i_3 w9 R
set_option maxRecDepth 100000 in
def V11_k5 (I : Option Addr → Nat → Nat → Int → World → Prop) (M : Option Addr → Nat → Nat → Int → World → Nat) (ever : Option Addr) (evern : Nat) (everc : Nat) (i : Int) (w4 : World) (script_6 : Option Addr) (script_6n script_6c : Nat) (picks_6 : Option Addr) (picks_6n picks_6c : Nat) (f_5 : Option Addr) (ever_5 : Option Addr) (ever_5n ever_5c : Nat) (i_5 : Int) (w12 : World) (R : Ending → World → Prop) : Prop :=
  Calls Try.prog 41 #[.pointer f_5] w12 fun e_ w13 => ∃ (q_3 : Option Addr) (q_3n q_3c : Nat), e_ = .returned (.slice q_3 q_3n q_3c) ∧
  ∃ (q_4 : Option Addr) (q_4n q_4c : Nat), ∃ w14 : World, Sem.run Try.prog (builtin .append #[71, 71] 71 #[false, false] #[.slice ever_5 ever_5n ever_5c, .slice q_3 q_3n q_3c]) w13 = .ok (.value (.slice q_4 q_4n q_4c)) w14 ∧
  V11_k3 I M ever evern everc i w4 script_6 script_6n script_6c picks_6 picks_6n picks_6c f_5 q_4 q_4n q_4c i_5 w14 R
set_option maxRecDepth 100000 in
def V11_k2 (I : Option Addr → Nat → Nat → Int → World → Prop) (M : Option Addr → Nat → Nat → Int → World → Nat) (ever : Option Addr) (evern : Nat) (everc : Nat) (i : Int) (w4 : World) (script_3 : Option Addr) (script_3n script_3c : Nat) (picks_3 : Option Addr) (picks_3n picks_3c : Nat) (f_2 : Option Addr) (ever_2 : Option Addr) (ever_2n ever_2c : Nat) (i_2 : Int) (o : Addr) (b_3 : Bool) (w8 : World) (R : Ending → World → Prop) : Prop :=
  (b_3 = true →
  V11_k3 I M ever evern everc i w4 script_3 script_3n script_3c picks_3 picks_3n picks_3c f_2 ever_2 ever_2n ever_2c i_2 w8 R) ∧
  (b_3 = false →
  ∃ (n_6 : Int), World.cell? w8 o = some (.int .i64 n_6) ∧
  ∃ (s_4 : ByteArray), World.cell? w8 (o.add 1) = some (.string s_4) ∧
  ∃ (s_5 : ByteArray), World.cell? w8 (o.add 2) = some (.string s_5) ∧
  ∃ (s_6 : ByteArray), World.cell? w8 (o.add 3) = some (.string s_6) ∧
  ∃ (n_7 : Int), World.cell? w8 (o.add 4) = some (.int .i64 n_7) ∧
  ∃ (n_8 : Int), World.cell? w8 (o.add 5) = some (.int .i64 n_8) ∧
  ∃ (q_2 : Option Addr) (q_2n q_2c : Nat), World.cell? w8 (o.add 6) = some (.slice q_2 q_2n q_2c) ∧
  Calls Try.prog 40 #[.pointer f_2, .agg #[.int .i64 n_6, .string s_4, .string s_5, .string s_6, .int .i64 n_7, .int .i64 n_8, .slice q_2 q_2n q_2c]] w8 fun e_ w11 => ∃ (n_9 : Int), e_ = .returned (.int .i64 n_9) ∧
  ∃ (n_10 : Int), World.cell? w11 o = some (.int .i64 n_10) ∧
  (((n_10 : Int) == 4) = true →
  V11_k5 I M ever evern everc i w4 script_3 script_3n script_3c picks_3 picks_3n picks_3c f_2 none 0 0 i_2 w11 R) ∧
  (((n_10 : Int) == 4) = false →
  V11_k5 I M ever evern everc i w4 script_3 script_3n script_3c picks_3 picks_3n picks_3c f_2 ever_2 ever_2n ever_2c i_2 w11 R))
set_option maxRecDepth 100000 in
def V11_k8 (I_4 : Bool → Bool → Int → World → Prop) (M_4 : Bool → Bool → Int → World → Nat) (named : Bool) (was : Bool) (k : Int) (w22 : World) (picks_9 : Option Addr) (picks_9n picks_9c : Nat) (ever_9 : Option Addr) (ever_9n ever_9c : Nat) (safe_3 : Option Addr) (safe_3n safe_3c : Nat) (changed_3 : Bool) (now_3 : Option Addr) (now_3n now_3c : Nat) (i_10 : Int) (named_4 : Bool) (was_4 : Bool) (k_4 : Int) (w27 : World) (R : Ending → World → Prop) : Prop :=
  (I_4 named_4 was_4 (IntKind.wrap .i64 (k_4 + 1)) w27 ∧ M_4 named_4 was_4 (IntKind.wrap .i64 (k_4 + 1)) w27 < M_4 named was k w22)
set_option maxRecDepth 100000 in
def V11_k7 (I_4 : Bool → Bool → Int → World → Prop) (M_4 : Bool → Bool → Int → World → Nat) (named : Bool) (was : Bool) (k : Int) (w22 : World) (picks_8 : Option Addr) (picks_8n picks_8c : Nat) (ever_8 : Option Addr) (ever_8n ever_8c : Nat) (safe_2 : Option Addr) (safe_2n safe_2c : Nat) (changed_2 : Bool) (now_2 : Option Addr) (now_2n now_2c : Nat) (i_9 : Int) (named_3 : Bool) (was_3 : Bool) (k_3 : Int) (w26 : World) (R : Ending → World → Prop) : Prop :=
  V11_k8 I_4 M_4 named was k w22 picks_8 picks_8n picks_8c ever_8 ever_8n ever_8c safe_2 safe_2n safe_2c changed_2 now_2 now_2n now_2c i_9 named_3 was_3 k_3 w26 R
set_option maxRecDepth 100000 in
def V11_k6 (I_4 : Bool → Bool → Int → World → Prop) (M_4 : Bool → Bool → Int → World → Nat) (named : Bool) (was : Bool) (k : Int) (w22 : World) (picks_7 : Option Addr) (picks_7n picks_7c : Nat) (ever_7 : Option Addr) (ever_7n ever_7c : Nat) (safe : Option Addr) (safen safec : Nat) (changed : Bool) (now : Option Addr) (nown nowc : Nat) (i_8 : Int) (named_2 : Bool) (was_2 : Bool) (k_2 : Int) (v : ByteArray) (w25 : World) (R : Ending → World → Prop) : Prop :=
  (was_2 = false →
  ptrC ever_7 fun a_6 => (0 : Int) ≤ k_2 ∧ k_2 < ((ever_7n : Nat) : Int) ∧
  ∃ (s_12 : ByteArray), World.cell? w25 ((Addr.add a_6 ((Int.toNat k_2) * 2)).add 1) = some (.string s_12) ∧
  ((decide ((((ByteArray.size s_12 : Nat) : Int) : Int) ≥ ((ByteArray.size v : Nat) : Int))) = true →
  ptrC ever_7 fun a_7 => (0 : Int) ≤ k_2 ∧ k_2 < ((ever_7n : Nat) : Int) ∧
  ∃ (s_13 : ByteArray), World.cell? w25 ((Addr.add a_7 ((Int.toNat k_2) * 2)).add 1) = some (.string s_13) ∧
  (0 : Int) ≤ ((ByteArray.size v : Nat) : Int) ∧ (((ByteArray.size v : Nat) : Int) : Int) ≤ (((ByteArray.size s_13) : Nat) : Int) ∧
  V11_k7 I_4 M_4 named was k w22 picks_7 picks_7n picks_7c ever_7 ever_7n ever_7c safe safen safec changed now nown nowc i_8 named_2 (strEq (ByteArray.extract s_13 0 (Int.toNat ((ByteArray.size v : Nat) : Int))) v) k_2 w25 R) ∧
  ((decide ((((ByteArray.size s_12 : Nat) : Int) : Int) ≥ ((ByteArray.size v : Nat) : Int))) = !true →
  V11_k7 I_4 M_4 named was k w22 picks_7 picks_7n picks_7c ever_7 ever_7n ever_7c safe safen safec changed now nown nowc i_8 named_2 false k_2 w25 R)) ∧
  (was_2 = !false →
  V11_k7 I_4 M_4 named was k w22 picks_7 picks_7n picks_7c ever_7 ever_7n ever_7c safe safen safec changed now nown nowc i_8 named_2 true k_2 w25 R)
set_option maxRecDepth 100000 in
def V11_k9 (I_3 : Int → World → Prop) (M_3 : Int → World → Nat) (i_7 : Int) (w21 : World) (picks_10 : Option Addr) (picks_10n picks_10c : Nat) (ever_10 : Option Addr) (ever_10n ever_10c : Nat) (safe_4 : Option Addr) (safe_4n safe_4c : Nat) (changed_4 : Bool) (now_4 : Option Addr) (now_4n now_4c : Nat) (i_11 : Int) (b_4 : Bool) (w29 : World) (R : Ending → World → Prop) : Prop :=
  (b_4 = true →
  R (.returned (.bool false)) w29) ∧
  (b_4 = false →
  (I_3 (IntKind.wrap .i64 (i_11 + 1)) w29 ∧ M_3 (IntKind.wrap .i64 (i_11 + 1)) w29 < M_3 i_7 w21))
set_option maxRecDepth 100000 in
def V11_k11 (I_5 : Bool → Int → World → Prop) (M_5 : Bool → Int → World → Nat) (changed_5 : Bool) (i_12 : Int) (w30 : World) (picks_12 : Option Addr) (picks_12n picks_12c : Nat) (safe_6 : Option Addr) (safe_6n safe_6c : Nat) (changed_7 : Bool) (now_6 : Option Addr) (now_6n now_6c : Nat) (i_14 : Int) (w32 : World) (R : Ending → World → Prop) : Prop :=
  (I_5 changed_7 (IntKind.wrap .i64 (i_14 + 1)) w32 ∧ M_5 changed_7 (IntKind.wrap .i64 (i_14 + 1)) w32 < M_5 changed_5 i_12 w30)
set_option maxRecDepth 100000 in
def V11_k10 (I_5 : Bool → Int → World → Prop) (M_5 : Bool → Int → World → Nat) (changed_5 : Bool) (i_12 : Int) (w30 : World) (picks_11 : Option Addr) (picks_11n picks_11c : Nat) (safe_5 : Option Addr) (safe_5n safe_5c : Nat) (changed_6 : Bool) (now_5 : Option Addr) (now_5n now_5c : Nat) (i_13 : Int) (w31 : World) (R : Ending → World → Prop) : Prop :=
  V11_k11 I_5 M_5 changed_5 i_12 w30 picks_11 picks_11n picks_11c safe_5 safe_5n safe_5c changed_6 now_5 now_5n now_5c i_13 w31 R
set_option maxRecDepth 100000 in
def V11_k12 (I_6 : Int → World → Prop) (M_6 : Int → World → Nat) (i_15 : Int) (w33 : World) (safe_7 : Option Addr) (safe_7n safe_7c : Nat) (now_7 : Option Addr) (now_7n now_7c : Nat) (i_16 : Int) (b_6 : Bool) (w37 : World) (R : Ending → World → Prop) : Prop :=
  (b_6 = true →
  R (.returned (.bool false)) w37) ∧
  (b_6 = false →
  (I_6 (IntKind.wrap .i64 (i_16 + 1)) w37 ∧ M_6 (IntKind.wrap .i64 (i_16 + 1)) w37 < M_6 i_15 w33))
set_option maxRecDepth 100000 in
def V11_k1 (script_2 : Option Addr) (script_2n script_2c : Nat) (picks_2 : Option Addr) (picks_2n picks_2c : Nat) (f : Option Addr) (b_2 : Bool) (w3 : World) (R : Ending → World → Prop) : Prop :=
  (b_2 = true →
  R (.returned (.bool false)) w3) ∧
  (b_2 = false →
  ∃ (I : Option Addr → Nat → Nat → Int → World → Prop) (M : Option Addr → Nat → Nat → Int → World → Nat), I none 0 0 0 w3 ∧
  ∀ (ever : Option Addr) (evern everc : Nat) (i : Int) (w4 : World), I ever evern everc i w4 →
  ((decide ((i : Int) < ((script_2n : Nat) : Int))) = true →
  ptrC script_2 fun a => (0 : Int) ≤ i ∧ i < ((script_2n : Nat) : Int) ∧
  ∃ (n : Int), World.cell? w4 (Addr.add a ((Int.toNat i) * 7)) = some (.int .i64 n) ∧
  ∃ (s : ByteArray), World.cell? w4 ((Addr.add a ((Int.toNat i) * 7)).add 1) = some (.string s) ∧
  ∃ (s_2 : ByteArray), World.cell? w4 ((Addr.add a ((Int.toNat i) * 7)).add 2) = some (.string s_2) ∧
  ∃ (s_3 : ByteArray), World.cell? w4 ((Addr.add a ((Int.toNat i) * 7)).add 3) = some (.string s_3) ∧
  ∃ (n_2 : Int), World.cell? w4 ((Addr.add a ((Int.toNat i) * 7)).add 4) = some (.int .i64 n_2) ∧
  ∃ (n_3 : Int), World.cell? w4 ((Addr.add a ((Int.toNat i) * 7)).add 5) = some (.int .i64 n_3) ∧
  ∃ (q : Option Addr) (qn qc : Nat), World.cell? w4 ((Addr.add a ((Int.toNat i) * 7)).add 6) = some (.slice q qn qc) ∧
  ∀ (g : Nat) (w5 : World), g = (World.heap w4).size → w5 = World.alloc w4 (.cells #[.int .i64 0, .string (ByteArray.mk #[]), .string (ByteArray.mk #[]), .string (ByteArray.mk #[]), .int .i64 0, .int .i64 0, .slice none 0 0] 73) →
  storeN ⟨g, 0, none⟩ [(.int .i64 n : Value), .string s, .string s_2, .string s_3, .int .i64 n_2, .int .i64 n_3, .slice q qn qc] 0 w5 fun w6 => ∀ w7 : World, w7 = w6 →
  ∃ (n_4 : Int), World.cell? w7 ⟨g, 0, none⟩ = some (.int .i64 n_4) ∧
  (((n_4 : Int) == 7) = false →
  ∃ (n_5 : Int), World.cell? w7 ⟨g, 0, none⟩ = some (.int .i64 n_5) ∧
  V11_k2 I M ever evern everc i w4 script_2 script_2n script_2c picks_2 picks_2n picks_2c f ever evern everc i ⟨g, 0, none⟩ ((n_5 : Int) == 6) w7 R) ∧
  (((n_4 : Int) == 7) = !false →
  V11_k2 I M ever evern everc i w4 script_2 script_2n script_2c picks_2 picks_2n picks_2c f ever evern everc i ⟨g, 0, none⟩ true w7 R)) ∧
  ((decide ((i : Int) < ((script_2n : Nat) : Int))) = false →
  Calls Try.prog 42 #[.pointer f] w4 fun e_ w15 => ∃ (q_5 : Option Addr) (q_5n q_5c : Nat), e_ = .returned (.slice q_5 q_5n q_5c) ∧
  ∃ (I_2 : Option Addr → Nat → Nat → Int → World → Prop) (M_2 : Option Addr → Nat → Nat → Int → World → Nat), I_2 ever evern everc 0 w15 ∧
  ∀ (ever_6 : Option Addr) (ever_6n ever_6c : Nat) (i_6 : Int) (w16 : World), I_2 ever_6 ever_6n ever_6c i_6 w16 →
  ((decide ((i_6 : Int) < ((q_5n : Nat) : Int))) = true →
  ptrC q_5 fun a_2 => (0 : Int) ≤ i_6 ∧ i_6 < ((q_5n : Nat) : Int) ∧
  ∃ (s_7 : ByteArray), World.cell? w16 (Addr.add a_2 ((Int.toNat i_6) * 2)) = some (.string s_7) ∧
  ∃ (s_8 : ByteArray), World.cell? w16 ((Addr.add a_2 ((Int.toNat i_6) * 2)).add 1) = some (.string s_8) ∧
  ∀ (g_2 : Nat) (w17 : World), g_2 = (World.heap w16).size → w17 = World.alloc w16 (.cells #[.string s_7, .string s_8] 77) →
  ∃ (q_6 : Option Addr) (q_6n q_6c : Nat), ∃ w18 : World, Sem.run Try.prog (builtin .append #[71, 71] 71 #[false, false] #[.slice ever_6 ever_6n ever_6c, .slice (some ⟨g_2, 0, none⟩) 1 1]) w17 = .ok (.value (.slice q_6 q_6n q_6c)) w18 ∧
  (I_2 q_6 q_6n q_6c (IntKind.wrap .i64 (i_6 + 1)) w18 ∧ M_2 q_6 q_6n q_6c (IntKind.wrap .i64 (i_6 + 1)) w18 < M_2 ever_6 ever_6n ever_6c i_6 w16)) ∧
  ((decide ((i_6 : Int) < ((q_5n : Nat) : Int))) = false →
  Calls Try.prog 43 #[.pointer f, .int .i64 0, .slice picks_2 picks_2n picks_2c] w16 fun e_ w19 => ∃ (n_11 : Int), e_ = .returned (.int .i64 n_11) ∧
  (((n_11 : Int) != 0) = true →
  R (.returned (.bool false)) w19) ∧
  (((n_11 : Int) != 0) = false →
  Calls Try.prog 41 #[.pointer f] w19 fun e_ w20 => ∃ (q_7 : Option Addr) (q_7n q_7c : Nat), e_ = .returned (.slice q_7 q_7n q_7c) ∧
  ∃ (I_3 : Int → World → Prop) (M_3 : Int → World → Nat), I_3 0 w20 ∧
  ∀ (i_7 : Int) (w21 : World), I_3 i_7 w21 →
  ((decide ((i_7 : Int) < ((q_7n : Nat) : Int))) = true →
  ∃ (I_4 : Bool → Bool → Int → World → Prop) (M_4 : Bool → Bool → Int → World → Nat), I_4 false false 0 w21 ∧
  ∀ (named : Bool) (was : Bool) (k : Int) (w22 : World), I_4 named was k w22 →
  ((decide ((k : Int) < ((ever_6n : Nat) : Int))) = true →
  ptrC q_7 fun a_3 => (0 : Int) ≤ i_7 ∧ i_7 < ((q_7n : Nat) : Int) ∧
  ∃ (s_9 : ByteArray), World.cell? w22 ((Addr.add a_3 ((Int.toNat i_7) * 2)).add 1) = some (.string s_9) ∧
  ∀ w23 : World, Drawn w22 w23 →
  (named = false →
  ptrC ever_6 fun a_4 => (0 : Int) ≤ k ∧ k < ((ever_6n : Nat) : Int) ∧
  ptrC q_7 fun a_5 => (0 : Int) ≤ i_7 ∧ i_7 < ((q_7n : Nat) : Int) ∧
  ∃ (s_10 : ByteArray), World.cell? w23 (Addr.add a_4 ((Int.toNat k) * 2)) = some (.string s_10) ∧
  ∃ (s_11 : ByteArray), World.cell? w23 (Addr.add a_5 ((Int.toNat i_7) * 2)) = some (.string s_11) ∧
  ∀ w24 : World, Drawn w23 w24 →
  V11_k6 I_4 M_4 named was k w22 picks_2 picks_2n picks_2c ever_6 ever_6n ever_6c q_5 q_5n q_5c false q_7 q_7n q_7c i_7 (strEq s_10 s_11) was k s_9 w24 R) ∧
  (named = !false →
  ∀ w28 : World, Drawn w23 w28 →
  V11_k6 I_4 M_4 named was k w22 picks_2 picks_2n picks_2c ever_6 ever_6n ever_6c q_5 q_5n q_5c false q_7 q_7n q_7c i_7 true was k s_9 w28 R)) ∧
  ((decide ((k : Int) < ((ever_6n : Nat) : Int))) = false →
  ((!named) = false →
  V11_k9 I_3 M_3 i_7 w21 picks_2 picks_2n picks_2c ever_6 ever_6n ever_6c q_5 q_5n q_5c false q_7 q_7n q_7c i_7 (!was) w22 R) ∧
  ((!named) = !false →
  V11_k9 I_3 M_3 i_7 w21 picks_2 picks_2n picks_2c ever_6 ever_6n ever_6c q_5 q_5n q_5c false q_7 q_7n q_7c i_7 true w22 R))) ∧
  ((decide ((i_7 : Int) < ((q_7n : Nat) : Int))) = false →
  ∃ (I_5 : Bool → Int → World → Prop) (M_5 : Bool → Int → World → Nat), I_5 false 0 w21 ∧
  ∀ (changed_5 : Bool) (i_12 : Int) (w30 : World), I_5 changed_5 i_12 w30 →
  ((decide ((i_12 : Int) < ((picks_2n : Nat) : Int))) = true →
  (changed_5 = false →
  (((i_12 : Int) == 0) = true →
  ptrC picks_2 fun a_8 => (0 : Int) ≤ i_12 ∧ i_12 < ((picks_2n : Nat) : Int) ∧
  ∃ (n_12 : Int), World.cell? w30 (Addr.add a_8 ((Int.toNat i_12) * 1)) = some (.int .i64 n_12) ∧
  V11_k10 I_5 M_5 changed_5 i_12 w30 picks_2 picks_2n picks_2c q_5 q_5n q_5c (decide ((n_12 : Int) > 0)) q_7 q_7n q_7c i_12 w30 R) ∧
  (((i_12 : Int) == 0) = !true →
  V11_k10 I_5 M_5 changed_5 i_12 w30 picks_2 picks_2n picks_2c q_5 q_5n q_5c false q_7 q_7n q_7c i_12 w30 R)) ∧
  (changed_5 = !false →
  V11_k10 I_5 M_5 changed_5 i_12 w30 picks_2 picks_2n picks_2c q_5 q_5n q_5c true q_7 q_7n q_7c i_12 w30 R)) ∧
  ((decide ((i_12 : Int) < ((picks_2n : Nat) : Int))) = false →
  (changed_5 = true →
  R (.returned (.bool true)) w30) ∧
  (changed_5 = false →
  ∃ (I_6 : Int → World → Prop) (M_6 : Int → World → Nat), I_6 0 w30 ∧
  ∀ (i_15 : Int) (w33 : World), I_6 i_15 w33 →
  ((decide ((i_15 : Int) < ((q_5n : Nat) : Int))) = true →
  ptrC q_5 fun a_9 => (0 : Int) ≤ i_15 ∧ i_15 < ((q_5n : Nat) : Int) ∧
  ∃ (s_14 : ByteArray), World.cell? w33 (Addr.add a_9 ((Int.toNat i_15) * 2)) = some (.string s_14) ∧
  Calls Try.prog 44 #[.slice q_7 q_7n q_7c, .string s_14] w33 fun e_ w34 => ∃ (s_15 : ByteArray), ∃ (b_5 : Bool), e_ = .returned (.tuple #[.string s_15, .bool b_5]) ∧
  ∀ w35 : World, Drawn w34 w35 →
  ((!b_5) = false →
  ptrC q_5 fun a_10 => (0 : Int) ≤ i_15 ∧ i_15 < ((q_5n : Nat) : Int) ∧
  ∃ (s_16 : ByteArray), World.cell? w35 ((Addr.add a_10 ((Int.toNat i_15) * 2)).add 1) = some (.string s_16) ∧
  ((decide ((((ByteArray.size s_15 : Nat) : Int) : Int) < ((ByteArray.size s_16 : Nat) : Int))) = false →
  ptrC q_5 fun a_11 => (0 : Int) ≤ i_15 ∧ i_15 < ((q_5n : Nat) : Int) ∧
  ptrC q_5 fun a_12 => (0 : Int) ≤ i_15 ∧ i_15 < ((q_5n : Nat) : Int) ∧
  ∃ (s_17 : ByteArray), World.cell? w35 ((Addr.add a_11 ((Int.toNat i_15) * 2)).add 1) = some (.string s_17) ∧
  (0 : Int) ≤ ((ByteArray.size s_17 : Nat) : Int) ∧ (((ByteArray.size s_17 : Nat) : Int) : Int) ≤ (((ByteArray.size s_15) : Nat) : Int) ∧
  ∃ (s_18 : ByteArray), World.cell? w35 ((Addr.add a_12 ((Int.toNat i_15) * 2)).add 1) = some (.string s_18) ∧
  ∀ w36 : World, Drawn w35 w36 →
  V11_k12 I_6 M_6 i_15 w33 q_5 q_5n q_5c q_7 q_7n q_7c i_15 (!strEq (ByteArray.extract s_15 0 (Int.toNat ((ByteArray.size s_17 : Nat) : Int))) s_18) w36 R) ∧
  ((decide ((((ByteArray.size s_15 : Nat) : Int) : Int) < ((ByteArray.size s_16 : Nat) : Int))) = !false →
  ∀ w38 : World, Drawn w35 w38 →
  V11_k12 I_6 M_6 i_15 w33 q_5 q_5n q_5c q_7 q_7n q_7c i_15 true w38 R)) ∧
  ((!b_5) = !false →
  ∀ w39 : World, Drawn w35 w39 →
  V11_k12 I_6 M_6 i_15 w33 q_5 q_5n q_5c q_7 q_7n q_7c i_15 true w39 R)) ∧
  ((decide ((i_15 : Int) < ((q_5n : Nat) : Int))) = false →
  R (.returned (.bool ((((q_7n : Nat) : Int) : Int) == ((q_5n : Nat) : Int)))) w33))))))))
set_option maxRecDepth 100000 in
def V11 (script : Option Addr) (scriptn scriptc : Nat) (picks : Option Addr) (picksn picksc : Nat) (w : World) (R : Ending → World → Prop) : Prop :=
  Calls Try.prog 38 #[] w fun e_ w1 => ∃ (p : Option Addr), e_ = .returned (.pointer p) ∧
  Calls Try.prog 39 #[] w1 fun e_ w2 => ∃ (b : Bool), e_ = .returned (.bool b) ∧
  ((!b) = false →
  V11_k1 script scriptn scriptc picks picksn picksc p (Option.isNone p) w2 R) ∧
  ((!b) = !false →
  V11_k1 script scriptn scriptc picks picksn picksc p true w2 R)
theorem b11 : Try.f11.body = some (bodyOf Try.f11) := by kernel_rfl
theorem ok11 : okF Try.prog an11 Try.f11 (bodyOf Try.f11) 2 = true := by kernel_rfl
theorem e11 (script : Option Addr) (scriptn scriptc : Nat) (picks : Option Addr) (picksn picksc : Nat) (w : World) (R : Ending → World → Prop) : vcF Try.prog an11 Try.f11 (bodyOf Try.f11) [.slice script scriptn scriptc, .slice picks picksn picksc] w R = V11 script scriptn scriptc picks picksn picksc w R := by kernel_rfl
theorem v11 (script : Option Addr) (scriptn scriptc : Nat) (picks : Option Addr) (picksn picksc : Nat) (w : World) (R : Ending → World → Prop) (hV : V11 script scriptn scriptc picks picksn picksc w R) : Calls Try.prog 11 #[.slice script scriptn scriptc, .slice picks picksn picksc] w R := calls_vc mixed Try.func11 b11 rfl ok11 (e11 script scriptn scriptc picks picksn picksc w R) hV

end Go.Proofs.Ytcljmlgbmjjldaa.F
