/- The verification conditions of Go functions, printed by wip/gen/gen.py; the kernel checks that each is the one reckoned from the code. -/
import Derived.Test.YtcljmlgbmjjldaaProg
import Derived.Test.YtcljmlgbmjjldaaVC
import Derived.Test.YtcljmlgbmjjldaaF0
set_option linter.unusedVariables false
namespace Go.Proofs.Ytcljmlgbmjjldaa.F
open Go Go.VC Go.Proofs
/-- cistern/simfs.New -/
def an38 : Ann := { loops := [], draws := [], tys := [] }
set_option maxRecDepth 100000 in
def V38  (w : World) (R : Ending → World → Prop) : Prop :=
  ∀ (g : Nat) (w1 : World), g = (World.heap w).size → w1 = World.alloc w (.map #[] 0) →
  ∀ (g_2 : Nat) (w2 : World), g_2 = (World.heap w1).size → w2 = World.alloc w1 (.map #[] 0) →
  ∀ (g_3 : Nat) (w3 : World), g_3 = (World.heap w2).size → w3 = World.alloc w2 (.map #[] 0) →
  ∀ (g_4 : Nat) (w4 : World), g_4 = (World.heap w3).size → w4 = World.alloc w3 (.cells #[.slice none 0 0, .map (some g), .map (some g_2), .slice none 0 0, .bool false, .int .i64 0, .map (some g_3), .int .i64 0, .slice none 0 0] 131) →
  R (.returned (.pointer (some ⟨g_4, 0, none⟩))) w4
theorem b38 : Try.f38.body = some (bodyOf Try.f38) := by kernel_rfl
theorem ok38 : okF Try.prog an38 Try.f38 (bodyOf Try.f38) 0 = true := by kernel_rfl
theorem e38  (w : World) (R : Ending → World → Prop) : vcF Try.prog an38 Try.f38 (bodyOf Try.f38) [] w R = V38  w R := by kernel_rfl
theorem v38  (w : World) (R : Ending → World → Prop) (hV : V38  w R) : Calls Try.prog 38 #[] w R := calls_vc mixed Try.func38 b38 rfl ok38 (e38  w R) hV

/-- (*cistern/simfs.FS).Now -/
def an41 : Ann := { loops := [(3, [(3, .slice), (13, .int .i64)])], draws := [], tys := [] }
set_option maxRecDepth 100000 in
def V41 (f : Addr) (w : World) (R : Ending → World → Prop) : Prop :=
  ∃ (m : Option Nat), World.cell? w (f.add 1) = some (.map m) ∧
  Calls Try.prog 85 #[.map m] w fun e_ w1 => ∃ (v : Value), e_ = .returned (v) ∧
  Calls Try.prog 62 #[v] w1 fun e_ w2 => ∃ (q : Option Addr) (qn qc : Nat), e_ = .returned (.slice q qn qc) ∧
  ∃ (I : Option Addr → Nat → Nat → Int → World → Prop) (M : Option Addr → Nat → Nat → Int → World → Nat), I none 0 0 0 w2 ∧
  ∀ (out : Option Addr) (outn outc : Nat) (n : Int) (w3 : World), I out outn outc n w3 →
  ((decide ((n : Int) < ((qn : Nat) : Int))) = true →
  ptrC q fun a => (0 : Int) ≤ n ∧ n < ((qn : Nat) : Int) ∧
  ∃ (s : ByteArray), World.cell? w3 (Addr.add a ((Int.toNat n) * 1)) = some (.string s) ∧
  ∃ (m_2 : Option Nat), World.cell? w3 (f.add 1) = some (.map m_2) ∧
  ∃ (p : Option Addr), ∃ w4 : World, Sem.run Try.prog (Instr.lookup 126 (.map m_2) (.string s) false) w3 = .ok (.pointer p) w4 ∧
  ptrC p fun a_2 => ∃ (q_2 : Option Addr) (q_2n q_2c : Nat), World.cell? w4 a_2 = some (.slice q_2 q_2n q_2c) ∧
  ∃ (s_2 : ByteArray), ∃ w5 : World, Sem.run Try.prog (convert 138 9 (.slice q_2 q_2n q_2c)) w4 = .ok (.string s_2) w5 ∧
  ∀ (g : Nat) (w6 : World), g = (World.heap w5).size → w6 = World.alloc w5 (.cells #[.string s, .string s_2] 77) →
  ∃ (q_3 : Option Addr) (q_3n q_3c : Nat), ∃ w7 : World, Sem.run Try.prog (builtin .append #[71, 71] 71 #[false, false] #[.slice out outn outc, .slice (some ⟨g, 0, none⟩) 1 1]) w6 = .ok (.value (.slice q_3 q_3n q_3c)) w7 ∧
  (I q_3 q_3n q_3c (IntKind.wrap .i64 (n + 1)) w7 ∧ M q_3 q_3n q_3c (IntKind.wrap .i64 (n + 1)) w7 < M out outn outc n w3)) ∧
  ((decide ((n : Int) < ((qn : Nat) : Int))) = false →
  R (.returned (.slice out outn outc)) w3)
theorem b41 : Try.f41.body = some (bodyOf Try.f41) := by kernel_rfl
theorem ok41 : okF Try.prog an41 Try.f41 (bodyOf Try.f41) 1 = true := by kernel_rfl
theorem e41 (f : Addr) (w : World) (R : Ending → World → Prop) : vcF Try.prog an41 Try.f41 (bodyOf Try.f41) [.pointer (some f)] w R = V41 f w R := by kernel_rfl
theorem v41 (f : Addr) (w : World) (R : Ending → World → Prop) (hV : V41 f w R) : Calls Try.prog 41 #[.pointer (some f)] w R := calls_vc mixed Try.func41 b41 rfl ok41 (e41 f w R) hV

/-- (*cistern/simfs.FS).Safe -/
def an42 : Ann := { loops := [(3, [(3, .slice), (14, .int .i64)])], draws := [(6, false, Tr.seq [0, 1, 2, 3, 4, 6, 7, 8, 5, 9, 10, 11, 12, 13, 14, 15] .nil, [11, 13, 14], [11, 13], [])], tys := [] }
set_option maxRecDepth 100000 in
def V42 (f : Addr) (w : World) (R : Ending → World → Prop) : Prop :=
  ∃ (m : Option Nat), World.cell? w (f.add 2) = some (.map m) ∧
  Calls Try.prog 85 #[.map m] w fun e_ w1 => ∃ (v : Value), e_ = .returned (v) ∧
  Calls Try.prog 62 #[v] w1 fun e_ w2 => ∃ (q : Option Addr) (qn qc : Nat), e_ = .returned (.slice q qn qc) ∧
  ∃ (I : Option Addr → Nat → Nat → Int → World → Prop) (M : Option Addr → Nat → Nat → Int → World → Nat), I none 0 0 0 w2 ∧
  ∀ (out : Option Addr) (outn outc : Nat) (n : Int) (w3 : World), I out outn outc n w3 →
  ((decide ((n : Int) < ((qn : Nat) : Int))) = true →
  ptrC q fun a => (0 : Int) ≤ n ∧ n < ((qn : Nat) : Int) ∧
  ∃ (s : ByteArray), World.cell? w3 (Addr.add a ((Int.toNat n) * 1)) = some (.string s) ∧
  ∃ (m_2 : Option Nat), World.cell? w3 (f.add 2) = some (.map m_2) ∧
  ∃ (p : Option Addr), ∃ w4 : World, Sem.run Try.prog (Instr.lookup 126 (.map m_2) (.string s) false) w3 = .ok (.pointer p) w4 ∧
  ∀ w5 : World, Drawn w4 w5 →
  ptrC p fun a_2 => ptrC p fun a_3 => ∃ (q_2 : Option Addr) (q_2n q_2c : Nat), World.cell? w5 a_2 = some (.slice q_2 q_2n q_2c) ∧
  ∃ (n_2 : Int), World.cell? w5 (a_3.add 1) = some (.int .i64 n_2) ∧
  (0 : Int) ≤ n_2 ∧ (n_2 : Int) ≤ ((q_2c : Nat) : Int) ∧
  ∀ w6 : World, Drawn w5 w6 →
  ∃ (s_2 : ByteArray), ∃ w7 : World, Sem.run Try.prog (convert 138 9 (.slice (cutA q_2 0 q_2c 1) ((Int.toNat n_2) - 0) (q_2c - 0))) w6 = .ok (.string s_2) w7 ∧
  Ext w6 w7 ∧
  ∀ w8 : World, Drawn w7 w8 →
  ∀ (g : Nat) (w9 : World), g = (World.heap w8).size → w9 = World.alloc w8 (.cells #[.string s, .string s_2] 77) →
  Ext w8 w9 ∧
  ∀ w10 : World, Drawn w9 w10 →
  ∃ (q_3 : Option Addr) (q_3n q_3c : Nat), ∃ w11 : World, Sem.run Try.prog (builtin .append #[71, 71] 71 #[false, false] #[.slice out outn outc, .slice (some ⟨g, 0, none⟩) 1 1]) w10 = .ok (.value (.slice q_3 q_3n q_3c)) w11 ∧
  ∀ w12 : World, Drawn w11 w12 →
  (I q_3 q_3n q_3c (IntKind.wrap .i64 (n + 1)) w12 ∧ M q_3 q_3n q_3c (IntKind.wrap .i64 (n + 1)) w12 < M out outn outc n w3)) ∧
  ((decide ((n : Int) < ((qn : Nat) : Int))) = false →
  R (.returned (.slice out outn outc)) w3)
theorem b42 : Try.f42.body = some (bodyOf Try.f42) := by kernel_rfl
theorem ok42 : okF Try.prog an42 Try.f42 (bodyOf Try.f42) 1 = true := by kernel_rfl
theorem e42 (f : Addr) (w : World) (R : Ending → World → Prop) : vcF Try.prog an42 Try.f42 (bodyOf Try.f42) [.pointer (some f)] w R = V42 f w R := by kernel_rfl
theorem v42 (f : Addr) (w : World) (R : Ending → World → Prop) (hV : V42 f w R) : Calls Try.prog 42 #[.pointer (some f)] w R := calls_vc mixed Try.func42 b42 rfl ok42 (e42 f w R) hV

/-- (*cistern/simfs.FS).Crash -/
def an43 : Ann := { loops := [], draws := [], tys := [] }
set_option maxRecDepth 100000 in
def V43_k2  (w6 : World) (R : Ending → World → Prop) : Prop :=
  R (.returned (.int .i64 0)) w6
set_option maxRecDepth 100000 in
def V43_k1 (f_2 : Addr) (n_2 : Int) (picks_2 : Option Addr) (picks_2n picks_2c : Nat) (b_2 : Bool) (w1 : World) (R : Ending → World → Prop) : Prop :=
  (b_2 = true →
  R (.returned (.int .i64 1)) w1) ∧
  (b_2 = false →
  Calls Try.prog 86 #[.slice picks_2 picks_2n picks_2c] w1 fun e_ w2 => ∃ (q : Option Addr) (qn qc : Nat), e_ = .returned (.slice q qn qc) ∧
  (∃ v0 : Value, World.cell? w2 (f_2.add 8) = some v0) ∧ World.frozen? w2 (f_2.add 8) = false ∧
  ∀ w3 : World, w3 = (World.setCell w2 (f_2.add 8) (.slice q qn qc)) →
  ∃ (n_3 : Int), World.cell? w3 (f_2.add 5) = some (.int .i64 n_3) ∧
  (∃ v0 : Value, World.cell? w3 (f_2.add 7) = some v0) ∧ World.frozen? w3 (f_2.add 7) = false ∧
  ∀ w4 : World, w4 = (World.setCell w3 (f_2.add 7) (.int .i64 (IntKind.wrap .i64 (n_3 + n_2)))) →
  (((n_2 : Int) == 0) = true →
  Calls Try.prog 87 #[.pointer (some f_2)] w4 fun e_ w5 => e_ = .returned (.tuple #[]) ∧
  V43_k2  w5 R) ∧
  (((n_2 : Int) == 0) = false →
  V43_k2  w4 R))
set_option maxRecDepth 100000 in
def V43 (f : Addr) (n : Int) (picks : Option Addr) (picksn picksc : Nat) (w : World) (R : Ending → World → Prop) : Prop :=
  ∃ (b : Bool), World.cell? w (f.add 4) = some (.bool b) ∧
  (b = true →
  R (.returned (.int .i64 203)) w) ∧
  (b = false →
  ((decide ((n : Int) < 0)) = false →
  V43_k1 f n picks picksn picksc (decide ((n : Int) > 1099511627776)) w R) ∧
  ((decide ((n : Int) < 0)) = !false →
  V43_k1 f n picks picksn picksc true w R))
theorem b43 : Try.f43.body = some (bodyOf Try.f43) := by kernel_rfl
theorem ok43 : okF Try.prog an43 Try.f43 (bodyOf Try.f43) 3 = true := by kernel_rfl
theorem e43 (f : Addr) (n : Int) (picks : Option Addr) (picksn picksc : Nat) (w : World) (R : Ending → World → Prop) : vcF Try.prog an43 Try.f43 (bodyOf Try.f43) [.pointer (some f), .int .i64 n, .slice picks picksn picksc] w R = V43 f n picks picksn picksc w R := by kernel_rfl
theorem v43 (f : Addr) (n : Int) (picks : Option Addr) (picksn picksc : Nat) (w : World) (R : Ending → World → Prop) (hV : V43 f n picks picksn picksc w R) : Calls Try.prog 43 #[.pointer (some f), .int .i64 n, .slice picks picksn picksc] w R := calls_vc mixed Try.func43 b43 rfl ok43 (e43 f n picks picksn picksc w R) hV

/-- (*cistern/simfs.FS).Up -/
def an45 : Ann := { loops := [], draws := [], tys := [] }
set_option maxRecDepth 100000 in
def V45 (f : Addr) (w : World) (R : Ending → World → Prop) : Prop :=
  ∃ (b : Bool), World.cell? w (f.add 4) = some (.bool b) ∧
  R (.returned (.bool (!b))) w
theorem b45 : Try.f45.body = some (bodyOf Try.f45) := by kernel_rfl
theorem ok45 : okF Try.prog an45 Try.f45 (bodyOf Try.f45) 1 = true := by kernel_rfl
theorem e45 (f : Addr) (w : World) (R : Ending → World → Prop) : vcF Try.prog an45 Try.f45 (bodyOf Try.f45) [.pointer (some f)] w R = V45 f w R := by kernel_rfl
theorem v45 (f : Addr) (w : World) (R : Ending → World → Prop) (hV : V45 f w R) : Calls Try.prog 45 #[.pointer (some f)] w R := calls_vc mixed Try.func45 b45 rfl ok45 (e45 f w R) hV

/-- (*cistern/simfs.FS).Start -/
def an46 : Ann := { loops := [], draws := [], tys := [] }
set_option maxRecDepth 100000 in
def V46 (f : Addr) (w : World) (R : Ending → World → Prop) : Prop :=
  ∃ (b : Bool), World.cell? w (f.add 4) = some (.bool b) ∧
  ((!b) = true →
  R (.returned (.int .i64 1)) w) ∧
  ((!b) = false →
  (∃ v0 : Value, World.cell? w (f.add 4) = some v0) ∧ World.frozen? w (f.add 4) = false ∧
  ∀ w1 : World, w1 = (World.setCell w (f.add 4) (.bool false)) →
  R (.returned (.int .i64 0)) w1)
theorem b46 : Try.f46.body = some (bodyOf Try.f46) := by kernel_rfl
theorem ok46 : okF Try.prog an46 Try.f46 (bodyOf Try.f46) 1 = true := by kernel_rfl
theorem e46 (f : Addr) (w : World) (R : Ending → World → Prop) : vcF Try.prog an46 Try.f46 (bodyOf Try.f46) [.pointer (some f)] w R = V46 f w R := by kernel_rfl
theorem v46 (f : Addr) (w : World) (R : Ending → World → Prop) (hV : V46 f w R) : Calls Try.prog 46 #[.pointer (some f)] w R := calls_vc mixed Try.func46 b46 rfl ok46 (e46 f w R) hV

/-- (*cistern/simfs.FS).List -/
def an49 : Ann := { loops := [], draws := [], tys := [] }
set_option maxRecDepth 100000 in
def V49 (f : Addr) (w : World) (R : Ending → World → Prop) : Prop :=
  ∃ (b : Bool), World.cell? w (f.add 4) = some (.bool b) ∧
  (b = true →
  R (.returned (.tuple #[.slice none 0 0, .int .i64 203])) w) ∧
  (b = false →
  ∃ (m : Option Nat), World.cell? w (f.add 1) = some (.map m) ∧
  Calls Try.prog 85 #[.map m] w fun e_ w1 => ∃ (v : Value), e_ = .returned (v) ∧
  Calls Try.prog 62 #[v] w1 fun e_ w2 => ∃ (q : Option Addr) (qn qc : Nat), e_ = .returned (.slice q qn qc) ∧
  R (.returned (.tuple #[.slice q qn qc, .int .i64 0])) w2)
theorem b49 : Try.f49.body = some (bodyOf Try.f49) := by kernel_rfl
theorem ok49 : okF Try.prog an49 Try.f49 (bodyOf Try.f49) 1 = true := by kernel_rfl
theorem e49 (f : Addr) (w : World) (R : Ending → World → Prop) : vcF Try.prog an49 Try.f49 (bodyOf Try.f49) [.pointer (some f)] w R = V49 f w R := by kernel_rfl
theorem v49 (f : Addr) (w : World) (R : Ending → World → Prop) (hV : V49 f w R) : Calls Try.prog 49 #[.pointer (some f)] w R := calls_vc mixed Try.func49 b49 rfl ok49 (e49 f w R) hV

/-- (*cistern/simfs.FS).Sync -/
def an50 : Ann := { loops := [], draws := [], tys := [] }
set_option maxRecDepth 100000 in
def V50 (f : Addr) (name : ByteArray) (w : World) (R : Ending → World → Prop) : Prop :=
  ∀ (g : Nat) (w1 : World), g = (World.heap w).size → w1 = World.alloc w (.cells #[.string name] 9) →
  Calls Try.prog 93 #[.pointer (some f), .bool true, .slice (some ⟨g, 0, none⟩) 1 1] w1 fun e_ w2 => ∃ (n : Int), e_ = .returned (.int .i64 n) ∧
  (((n : Int) != 0) = true →
  R (.returned (.int .i64 n)) w2) ∧
  (((n : Int) != 0) = false →
  ∃ (m : Option Nat), World.cell? w2 (f.add 1) = some (.map m) ∧
  ∃ (p : Option Addr), ∃ w3 : World, Sem.run Try.prog (Instr.lookup 126 (.map m) (.string name) false) w2 = .ok (.pointer p) w3 ∧
  Calls Try.prog 94 #[.pointer (some f)] w3 fun e_ w4 => ∃ (n_2 : Int), ∃ (n_3 : Int), e_ = .returned (.tuple #[.int .i64 n_2, .int .i64 n_3]) ∧
  (((n_2 : Int) != 0) = true →
  R (.returned (.int .i64 n_2)) w4) ∧
  (((n_2 : Int) != 0) = false →
  ptrC p fun a => ∃ (q : Option Addr) (qn qc : Nat), World.cell? w4 a = some (.slice q qn qc) ∧
  ptrC p fun a_2 => (∃ v0 : Value, World.cell? w4 (a_2.add 1) = some v0) ∧ World.frozen? w4 (a_2.add 1) = false ∧
  ∀ w5 : World, w5 = (World.setCell w4 (a_2.add 1) (.int .i64 ((qn : Nat) : Int))) →
  R (.returned (.int .i64 0)) w5))
theorem b50 : Try.f50.body = some (bodyOf Try.f50) := by kernel_rfl
theorem ok50 : okF Try.prog an50 Try.f50 (bodyOf Try.f50) 2 = true := by kernel_rfl
theorem e50 (f : Addr) (name : ByteArray) (w : World) (R : Ending → World → Prop) : vcF Try.prog an50 Try.f50 (bodyOf Try.f50) [.pointer (some f), .string name] w R = V50 f name w R := by kernel_rfl
theorem v50 (f : Addr) (name : ByteArray) (w : World) (R : Ending → World → Prop) (hV : V50 f name w R) : Calls Try.prog 50 #[.pointer (some f), .string name] w R := calls_vc mixed Try.func50 b50 rfl ok50 (e50 f name w R) hV

/-- (*cistern/simfs.FS).SyncDir -/
def an51 : Ann := { loops := [], draws := [], tys := [] }
set_option maxRecDepth 100000 in
def V51 (f : Addr) (w : World) (R : Ending → World → Prop) : Prop :=
  ∃ (b : Bool), World.cell? w (f.add 4) = some (.bool b) ∧
  (b = true →
  R (.returned (.int .i64 203)) w) ∧
  (b = false →
  Calls Try.prog 94 #[.pointer (some f)] w fun e_ w1 => ∃ (n : Int), ∃ (n_2 : Int), e_ = .returned (.tuple #[.int .i64 n, .int .i64 n_2]) ∧
  (((n : Int) != 0) = true →
  R (.returned (.int .i64 n)) w1) ∧
  (((n : Int) != 0) = false →
  ∃ (m : Option Nat), World.cell? w1 (f.add 1) = some (.map m) ∧
  Calls Try.prog 95 #[.map m] w1 fun e_ w2 => ∃ (m_2 : Option Nat), e_ = .returned (.map m_2) ∧
  (∃ v0 : Value, World.cell? w2 (f.add 2) = some v0) ∧ World.frozen? w2 (f.add 2) = false ∧
  ∀ w3 : World, w3 = (World.setCell w2 (f.add 2) (.map m_2)) →
  (∃ v0 : Value, World.cell? w3 (f.add 3) = some v0) ∧ World.frozen? w3 (f.add 3) = false ∧
  ∀ w4 : World, w4 = (World.setCell w3 (f.add 3) (.slice none 0 0)) →
  R (.returned (.int .i64 0)) w4))
theorem b51 : Try.f51.body = some (bodyOf Try.f51) := by kernel_rfl
theorem ok51 : okF Try.prog an51 Try.f51 (bodyOf Try.f51) 1 = true := by kernel_rfl
theorem e51 (f : Addr) (w : World) (R : Ending → World → Prop) : vcF Try.prog an51 Try.f51 (bodyOf Try.f51) [.pointer (some f)] w R = V51 f w R := by kernel_rfl
theorem v51 (f : Addr) (w : World) (R : Ending → World → Prop) (hV : V51 f w R) : Calls Try.prog 51 #[.pointer (some f)] w R := calls_vc mixed Try.func51 b51 rfl ok51 (e51 f w R) hV

/-- (*cistern/simfs.FS).Create -/
def an78 : Ann := { loops := [], draws := [(4, false, Tr.seq [0, 1, 2, 3, 4, 5, 6, 7, 8, 9, 10, 11, 12, 13, 14] .nil, [], [], []), (10, false, Tr.seq [0, 1, 2, 3, 4, 5, 6, 7, 8, 9, 10] .nil, [6, 7, 10], [6], [])], tys := [] }
set_option maxRecDepth 100000 in
def V78_k1 (f_2 : Addr) (name_2 : Addr) (b : Bool) (w6 : World) (R : Ending → World → Prop) : Prop :=
  (b = true →
  R (.returned (.int .i64 3)) w6) ∧
  (b = false →
  Calls Try.prog 94 #[.pointer (some f_2)] w6 fun e_ w7 => ∃ (n_2 : Int), ∃ (n_3 : Int), e_ = .returned (.tuple #[.int .i64 n_2, .int .i64 n_3]) ∧
  (((n_2 : Int) != 0) = true →
  R (.returned (.int .i64 n_2)) w7) ∧
  (((n_2 : Int) != 0) = false →
  ∀ (g_3 : Nat) (w8 : World), g_3 = (World.heap w7).size → w8 = World.alloc w7 (.cells #[.slice none 0 0, .int .i64 0] 140) →
  ∀ (g_4 : Nat) (w9 : World), g_4 = (World.heap w8).size → w9 = World.alloc w8 (.cells #[.pointer none] 137) →
  (∃ v0 : Value, World.cell? w9 ⟨g_4, 0, none⟩ = some v0) ∧ World.frozen? w9 ⟨g_4, 0, none⟩ = false ∧
  ∀ w10 : World, w10 = (World.setCell w9 ⟨g_4, 0, none⟩ (.pointer (some ⟨g_3, 0, none⟩))) →
  ∀ w11 : World, Drawn w10 w11 →
  ∃ (q : Option Addr) (qn qc : Nat), World.cell? w11 f_2 = some (.slice q qn qc) ∧
  ∃ (p_2 : Option Addr), World.cell? w11 ⟨g_4, 0, none⟩ = some (.pointer p_2) ∧
  ∀ w12 : World, Drawn w11 w12 →
  ∀ (g_5 : Nat) (w13 : World), g_5 = (World.heap w12).size → w13 = World.alloc w12 (.cells #[.pointer p_2] 137) →
  Ext w12 w13 ∧
  ∀ w14 : World, Drawn w13 w14 →
  ∃ (q_2 : Option Addr) (q_2n q_2c : Nat), ∃ w15 : World, Sem.run Try.prog (builtin .append #[128, 128] 128 #[false, false] #[.slice q qn qc, .slice (some ⟨g_5, 0, none⟩) 1 1]) w14 = .ok (.value (.slice q_2 q_2n q_2c)) w15 ∧
  ∀ w16 : World, Drawn w15 w16 →
  (∃ v0 : Value, World.cell? w16 f_2 = some v0) ∧ World.frozen? w16 f_2 = false ∧
  ∀ w17 : World, w17 = (World.setCell w16 f_2 (.slice q_2 q_2n q_2c)) →
  ∀ w18 : World, Drawn w17 w18 →
  Calls Try.prog 124 #[.pointer (some f_2), .func (.func 125) #[] #[.pointer (some ⟨g_4, 0, none⟩), .pointer (some name_2)]] w18 fun e_ w19 => e_ = .returned (.tuple #[]) ∧
  R (.returned (.int .i64 0)) w19))
set_option maxRecDepth 100000 in
def V78 (f : Addr) (name : ByteArray) (w : World) (R : Ending → World → Prop) : Prop :=
  ∀ (g : Nat) (w1 : World), g = (World.heap w).size → w1 = World.alloc w (.cells #[.string name] 9) →
  ∃ (s : ByteArray), World.cell? w1 ⟨g, 0, none⟩ = some (.string s) ∧
  ∀ (g_2 : Nat) (w2 : World), g_2 = (World.heap w1).size → w2 = World.alloc w1 (.cells #[.string s] 9) →
  Calls Try.prog 93 #[.pointer (some f), .bool false, .slice (some ⟨g_2, 0, none⟩) 1 1] w2 fun e_ w3 => ∃ (n : Int), e_ = .returned (.int .i64 n) ∧
  (((n : Int) != 0) = true →
  R (.returned (.int .i64 n)) w3) ∧
  (((n : Int) != 0) = false →
  ∀ w4 : World, Drawn w3 w4 →
  ∃ (m : Option Nat), World.cell? w4 (f.add 1) = some (.map m) ∧
  ∃ (s_2 : ByteArray), World.cell? w4 ⟨g, 0, none⟩ = some (.string s_2) ∧
  ∃ (p : Option Addr), (∀ w0 : World, Ext w4 w0 → Sem.run Try.prog (Instr.lookup 126 (.map m) (.string s_2) false) w0 = .ok (.pointer p) w0) ∧
  ((Option.isNone p) = true →
  ∃ (m_2 : Option Nat), World.cell? w4 (f.add 1) = some (.map m_2) ∧
  ∃ l : Nat, (∀ w0 : World, Ext w4 w0 → mapLen w0 m_2 = some l) ∧
  ∀ w5 : World, Drawn w4 w5 →
  V78_k1 f ⟨g, 0, none⟩ (decide ((((l : Nat) : Int) : Int) ≥ 64)) w5 R) ∧
  ((Option.isNone p) = !true →
  ∀ w20 : World, Drawn w4 w20 →
  V78_k1 f ⟨g, 0, none⟩ false w20 R))
theorem b78 : Try.f78.body = some (bodyOf Try.f78) := by kernel_rfl
theorem ok78 : okF Try.prog an78 Try.f78 (bodyOf Try.f78) 2 = true := by kernel_rfl
theorem e78 (f : Addr) (name : ByteArray) (w : World) (R : Ending → World → Prop) : vcF Try.prog an78 Try.f78 (bodyOf Try.f78) [.pointer (some f), .string name] w R = V78 f name w R := by kernel_rfl
theorem v78 (f : Addr) (name : ByteArray) (w : World) (R : Ending → World → Prop) (hV : V78 f name w R) : Calls Try.prog 78 #[.pointer (some f), .string name] w R := calls_vc mixed Try.func78 b78 rfl ok78 (e78 f name w R) hV

/-- (*cistern/simfs.FS).Append -/
def an79 : Ann := { loops := [], draws := [], tys := [] }
set_option maxRecDepth 100000 in
def V79_k2 (data_3 : ByteArray) (x_2 : Option Addr) (e_2 : Int) (w6 : World) (R : Ending → World → Prop) : Prop :=
  ptrC x_2 fun a_2 => ∃ (q_2 : Option Addr) (q_2n q_2c : Nat), World.cell? w6 a_2 = some (.slice q_2 q_2n q_2c) ∧
  ∃ (q_3 : Option Addr) (q_3n q_3c : Nat), ∃ w7 : World, Sem.run Try.prog (builtin .append #[138, 9] 138 #[false, false] #[.slice q_2 q_2n q_2c, .string data_3]) w6 = .ok (.value (.slice q_3 q_3n q_3c)) w7 ∧
  ptrC x_2 fun a_3 => (∃ v0 : Value, World.cell? w7 a_3 = some v0) ∧ World.frozen? w7 a_3 = false ∧
  ∀ w8 : World, w8 = (World.setCell w7 a_3 (.slice q_3 q_3n q_3c)) →
  R (.returned (.int .i64 e_2)) w8
set_option maxRecDepth 100000 in
def V79_k1 (data_2 : ByteArray) (x : Option Addr) (e : Int) (w5 : World) (R : Ending → World → Prop) : Prop :=
  V79_k2 data_2 x e w5 R
set_option maxRecDepth 100000 in
def V79 (f : Addr) (name : ByteArray) (data : ByteArray) (w : World) (R : Ending → World → Prop) : Prop :=
  ∀ (g : Nat) (w1 : World), g = (World.heap w).size → w1 = World.alloc w (.cells #[.string name] 9) →
  Calls Try.prog 93 #[.pointer (some f), .bool true, .slice (some ⟨g, 0, none⟩) 1 1] w1 fun e_ w2 => ∃ (n : Int), e_ = .returned (.int .i64 n) ∧
  (((n : Int) != 0) = true →
  R (.returned (.int .i64 n)) w2) ∧
  (((n : Int) != 0) = false →
  ∃ (m : Option Nat), World.cell? w2 (f.add 1) = some (.map m) ∧
  ∃ (p : Option Addr), ∃ w3 : World, Sem.run Try.prog (Instr.lookup 126 (.map m) (.string name) false) w2 = .ok (.pointer p) w3 ∧
  ptrC p fun a => ∃ (q : Option Addr) (qn qc : Nat), World.cell? w3 a = some (.slice q qn qc) ∧
  ((decide ((((ByteArray.size data : Nat) : Int) : Int) > (IntKind.wrap .i64 (1073741824 - ((qn : Nat) : Int))))) = true →
  R (.returned (.int .i64 2)) w3) ∧
  ((decide ((((ByteArray.size data : Nat) : Int) : Int) > (IntKind.wrap .i64 (1073741824 - ((qn : Nat) : Int))))) = false →
  Calls Try.prog 94 #[.pointer (some f)] w3 fun e_ w4 => ∃ (n_2 : Int), ∃ (n_3 : Int), e_ = .returned (.tuple #[.int .i64 n_2, .int .i64 n_3]) ∧
  (((n_2 : Int) == 203) = true →
  R (.returned (.int .i64 n_2)) w4) ∧
  (((n_2 : Int) == 203) = false →
  (((n_2 : Int) == 200) = true →
  (0 : Int) ≤ (if ((ByteArray.size data : Nat) : Int) < n_3 then ((ByteArray.size data : Nat) : Int) else n_3) ∧ ((if ((ByteArray.size data : Nat) : Int) < n_3 then ((ByteArray.size data : Nat) : Int) else n_3) : Int) ≤ (((ByteArray.size data) : Nat) : Int) ∧
  V79_k1 (ByteArray.extract data 0 (Int.toNat (if ((ByteArray.size data : Nat) : Int) < n_3 then ((ByteArray.size data : Nat) : Int) else n_3))) p n_2 w4 R) ∧
  (((n_2 : Int) == 200) = false →
  V79_k1 data p n_2 w4 R))))
theorem b79 : Try.f79.body = some (bodyOf Try.f79) := by kernel_rfl
theorem ok79 : okF Try.prog an79 Try.f79 (bodyOf Try.f79) 3 = true := by kernel_rfl
theorem e79 (f : Addr) (name : ByteArray) (data : ByteArray) (w : World) (R : Ending → World → Prop) : vcF Try.prog an79 Try.f79 (bodyOf Try.f79) [.pointer (some f), .string name, .string data] w R = V79 f name data w R := by kernel_rfl
theorem v79 (f : Addr) (name : ByteArray) (data : ByteArray) (w : World) (R : Ending → World → Prop) (hV : V79 f name data w R) : Calls Try.prog 79 #[.pointer (some f), .string name, .string data] w R := calls_vc mixed Try.func79 b79 rfl ok79 (e79 f name data w R) hV

/-- (*cistern/simfs.FS).Read -/
def an80 : Ann := { loops := [], draws := [], tys := [] }
set_option maxRecDepth 100000 in
def V80 (f : Addr) (name : ByteArray) (w : World) (R : Ending → World → Prop) : Prop :=
  ∀ (g : Nat) (w1 : World), g = (World.heap w).size → w1 = World.alloc w (.cells #[.string name] 9) →
  Calls Try.prog 93 #[.pointer (some f), .bool true, .slice (some ⟨g, 0, none⟩) 1 1] w1 fun e_ w2 => ∃ (n : Int), e_ = .returned (.int .i64 n) ∧
  (((n : Int) != 0) = true →
  R (.returned (.tuple #[.string (ByteArray.mk #[]), .int .i64 n])) w2) ∧
  (((n : Int) != 0) = false →
  ∃ (m : Option Nat), World.cell? w2 (f.add 1) = some (.map m) ∧
  ∃ (p : Option Addr), ∃ w3 : World, Sem.run Try.prog (Instr.lookup 126 (.map m) (.string name) false) w2 = .ok (.pointer p) w3 ∧
  ptrC p fun a => ∃ (q : Option Addr) (qn qc : Nat), World.cell? w3 a = some (.slice q qn qc) ∧
  ∃ (s : ByteArray), ∃ w4 : World, Sem.run Try.prog (convert 138 9 (.slice q qn qc)) w3 = .ok (.string s) w4 ∧
  R (.returned (.tuple #[.string s, .int .i64 0])) w4)
theorem b80 : Try.f80.body = some (bodyOf Try.f80) := by kernel_rfl
theorem ok80 : okF Try.prog an80 Try.f80 (bodyOf Try.f80) 2 = true := by kernel_rfl
theorem e80 (f : Addr) (name : ByteArray) (w : World) (R : Ending → World → Prop) : vcF Try.prog an80 Try.f80 (bodyOf Try.f80) [.pointer (some f), .string name] w R = V80 f name w R := by kernel_rfl
theorem v80 (f : Addr) (name : ByteArray) (w : World) (R : Ending → World → Prop) (hV : V80 f name w R) : Calls Try.prog 80 #[.pointer (some f), .string name] w R := calls_vc mixed Try.func80 b80 rfl ok80 (e80 f name w R) hV

/-- (*cistern/simfs.FS).Steps -/
def an81 : Ann := { loops := [], draws := [], tys := [] }
set_option maxRecDepth 100000 in
def V81 (f : Addr) (w : World) (R : Ending → World → Prop) : Prop :=
  ∃ (n : Int), World.cell? w (f.add 5) = some (.int .i64 n) ∧
  R (.returned (.int .i64 n)) w
theorem b81 : Try.f81.body = some (bodyOf Try.f81) := by kernel_rfl
theorem ok81 : okF Try.prog an81 Try.f81 (bodyOf Try.f81) 1 = true := by kernel_rfl
theorem e81 (f : Addr) (w : World) (R : Ending → World → Prop) : vcF Try.prog an81 Try.f81 (bodyOf Try.f81) [.pointer (some f)] w R = V81 f w R := by kernel_rfl
theorem v81 (f : Addr) (w : World) (R : Ending → World → Prop) (hV : V81 f w R) : Calls Try.prog 81 #[.pointer (some f)] w R := calls_vc mixed Try.func81 b81 rfl ok81 (e81 f w R) hV

/-- (*cistern/simfs.FS).Rename -/
def an82 : Ann := { loops := [], draws := [], tys := [] }
set_option maxRecDepth 100000 in
def V82 (f : Addr) (name : ByteArray) (to : ByteArray) (w : World) (R : Ending → World → Prop) : Prop :=
  ∀ (g : Nat) (w1 : World), g = (World.heap w).size → w1 = World.alloc w (.cells #[.string name] 9) →
  ∀ (g_2 : Nat) (w2 : World), g_2 = (World.heap w1).size → w2 = World.alloc w1 (.cells #[.string to] 9) →
  ∃ (s : ByteArray), World.cell? w2 ⟨g, 0, none⟩ = some (.string s) ∧
  ∃ (s_2 : ByteArray), World.cell? w2 ⟨g_2, 0, none⟩ = some (.string s_2) ∧
  ∀ (g_3 : Nat) (w3 : World), g_3 = (World.heap w2).size → w3 = World.alloc w2 (.cells #[.string s, .string s_2] 9) →
  Calls Try.prog 93 #[.pointer (some f), .bool true, .slice (some ⟨g_3, 0, none⟩) 2 2] w3 fun e_ w4 => ∃ (n : Int), e_ = .returned (.int .i64 n) ∧
  (((n : Int) != 0) = true →
  R (.returned (.int .i64 n)) w4) ∧
  (((n : Int) != 0) = false →
  Calls Try.prog 94 #[.pointer (some f)] w4 fun e_ w5 => ∃ (n_2 : Int), ∃ (n_3 : Int), e_ = .returned (.tuple #[.int .i64 n_2, .int .i64 n_3]) ∧
  (((n_2 : Int) != 0) = true →
  R (.returned (.int .i64 n_2)) w5) ∧
  (((n_2 : Int) != 0) = false →
  Calls Try.prog 124 #[.pointer (some f), .func (.func 126) #[] #[.pointer (some ⟨g, 0, none⟩), .pointer (some ⟨g_2, 0, none⟩)]] w5 fun e_ w6 => e_ = .returned (.tuple #[]) ∧
  R (.returned (.int .i64 0)) w6))
theorem b82 : Try.f82.body = some (bodyOf Try.f82) := by kernel_rfl
theorem ok82 : okF Try.prog an82 Try.f82 (bodyOf Try.f82) 3 = true := by kernel_rfl
theorem e82 (f : Addr) (name : ByteArray) (to : ByteArray) (w : World) (R : Ending → World → Prop) : vcF Try.prog an82 Try.f82 (bodyOf Try.f82) [.pointer (some f), .string name, .string to] w R = V82 f name to w R := by kernel_rfl
theorem v82 (f : Addr) (name : ByteArray) (to : ByteArray) (w : World) (R : Ending → World → Prop) (hV : V82 f name to w R) : Calls Try.prog 82 #[.pointer (some f), .string name, .string to] w R := calls_vc mixed Try.func82 b82 rfl ok82 (e82 f name to w R) hV

/-- (*cistern/simfs.FS).Remove -/
def an83 : Ann := { loops := [], draws := [], tys := [] }
set_option maxRecDepth 100000 in
def V83 (f : Addr) (name : ByteArray) (w : World) (R : Ending → World → Prop) : Prop :=
  ∀ (g : Nat) (w1 : World), g = (World.heap w).size → w1 = World.alloc w (.cells #[.string name] 9) →
  ∃ (s : ByteArray), World.cell? w1 ⟨g, 0, none⟩ = some (.string s) ∧
  ∀ (g_2 : Nat) (w2 : World), g_2 = (World.heap w1).size → w2 = World.alloc w1 (.cells #[.string s] 9) →
  Calls Try.prog 93 #[.pointer (some f), .bool true, .slice (some ⟨g_2, 0, none⟩) 1 1] w2 fun e_ w3 => ∃ (n : Int), e_ = .returned (.int .i64 n) ∧
  (((n : Int) != 0) = true →
  R (.returned (.int .i64 n)) w3) ∧
  (((n : Int) != 0) = false →
  Calls Try.prog 94 #[.pointer (some f)] w3 fun e_ w4 => ∃ (n_2 : Int), ∃ (n_3 : Int), e_ = .returned (.tuple #[.int .i64 n_2, .int .i64 n_3]) ∧
  (((n_2 : Int) != 0) = true →
  R (.returned (.int .i64 n_2)) w4) ∧
  (((n_2 : Int) != 0) = false →
  Calls Try.prog 124 #[.pointer (some f), .func (.func 127) #[] #[.pointer (some ⟨g, 0, none⟩)]] w4 fun e_ w5 => e_ = .returned (.tuple #[]) ∧
  R (.returned (.int .i64 0)) w5))
theorem b83 : Try.f83.body = some (bodyOf Try.f83) := by kernel_rfl
theorem ok83 : okF Try.prog an83 Try.f83 (bodyOf Try.f83) 2 = true := by kernel_rfl
theorem e83 (f : Addr) (name : ByteArray) (w : World) (R : Ending → World → Prop) : vcF Try.prog an83 Try.f83 (bodyOf Try.f83) [.pointer (some f), .string name] w R = V83 f name w R := by kernel_rfl
theorem v83 (f : Addr) (name : ByteArray) (w : World) (R : Ending → World → Prop) (hV : V83 f name w R) : Calls Try.prog 83 #[.pointer (some f), .string name] w R := calls_vc mixed Try.func83 b83 rfl ok83 (e83 f name w R) hV

/-- (*cistern/simfs.FS).Fail -/
def an84 : Ann := { loops := [], draws := [(5, false, Tr.seq [0, 1, 2, 4, 5, 6, 8, 10, 11, 3, 7, 9, 12] .nil, [12], [], [])], tys := [] }
set_option maxRecDepth 100000 in
def V84_k1 (f_2 : Addr) (n_2 : Int) (part_2 : Int) (b_2 : Bool) (w1 : World) (R : Ending → World → Prop) : Prop :=
  (b_2 = true →
  R (.returned (.int .i64 1)) w1) ∧
  (b_2 = false →
  ∀ w2 : World, Drawn w1 w2 →
  ∃ (m : Option Nat), World.cell? w2 (f_2.add 6) = some (.map m) ∧
  ∃ (n_3 : Int), World.cell? w2 (f_2.add 5) = some (.int .i64 n_3) ∧
  ∀ w3 : World, Drawn w2 w3 →
  ∃ w4 : World, Sem.run Try.prog (Instr.mapUpdate 127 (.map m) (.int .i64 (IntKind.wrap .i64 (n_3 + n_2))) (.agg #[.int .i64 part_2])) w3 = .ok () w4 ∧
  ∀ w5 : World, Drawn w4 w5 →
  R (.returned (.int .i64 0)) w5)
set_option maxRecDepth 100000 in
def V84 (f : Addr) (n : Int) (part : Int) (w : World) (R : Ending → World → Prop) : Prop :=
  ∃ (b : Bool), World.cell? w (f.add 4) = some (.bool b) ∧
  (b = true →
  R (.returned (.int .i64 203)) w) ∧
  (b = false →
  ((decide ((n : Int) < 1)) = false →
  V84_k1 f n part (decide ((n : Int) > 1099511627776)) w R) ∧
  ((decide ((n : Int) < 1)) = !false →
  V84_k1 f n part true w R))
theorem b84 : Try.f84.body = some (bodyOf Try.f84) := by kernel_rfl
theorem ok84 : okF Try.prog an84 Try.f84 (bodyOf Try.f84) 3 = true := by kernel_rfl
theorem e84 (f : Addr) (n : Int) (part : Int) (w : World) (R : Ending → World → Prop) : vcF Try.prog an84 Try.f84 (bodyOf Try.f84) [.pointer (some f), .int .i64 n, .int .i64 part] w R = V84 f n part w R := by kernel_rfl
theorem v84 (f : Addr) (n : Int) (part : Int) (w : World) (R : Ending → World → Prop) (hV : V84 f n part w R) : Calls Try.prog 84 #[.pointer (some f), .int .i64 n, .int .i64 part] w R := calls_vc mixed Try.func84 b84 rfl ok84 (e84 f n part w R) hV

/-- (*cistern/simfs.FS).fall -/
def an87 : Ann := { loops := [(4, [(23, .int .i64)]), (9, [(39, .int .i64)])], draws := [(3, true, Tr.seq [4, 13, 0, 1, 2, 3, 5, 6, 7, 8, 9, 10, 11, 12] .nil, [10], [10], [5, 8, 9, 12]), (11, false, Tr.seq [0, 1, 2, 3, 6, 7, 8, 4, 5, 9, 10, 11, 12] .nil, [11], [], []), (12, false, Tr.seq [0, 1, 2, 3, 5, 6, 7, 9, 4, 8, 10, 11, 12, 13, 14] .nil, [14], [], []), (15, true, Tr.seq [0, 1, 2, 3, 4, 5, 6, 7, 8] .nil, [5, 8], [5, 8], [1, 4]), (19, true, Tr.seq [0, 2, 3, 1, 4, 5, 6, 7] .nil, [4, 7], [4, 7], [0])], tys := [] }
set_option maxRecDepth 100000 in
def V87 (f : Addr) (w : World) (R : Ending → World → Prop) : Prop :=
  ∀ (g : Nat) (w1 : World), g = (World.heap w).size → w1 = World.alloc w (.cells #[.pointer (some f)] 69) →
  ∀ (g_2 : Nat) (w2 : World), g_2 = (World.heap w1).size → w2 = World.alloc w1 (.cells #[.int .i64 0] 3) →
  (∃ v0 : Value, World.cell? w2 ⟨g_2, 0, none⟩ = some v0) ∧ World.frozen? w2 ⟨g_2, 0, none⟩ = false ∧
  ∀ w3 : World, w3 = (World.setCell w2 ⟨g_2, 0, none⟩ (.int .i64 0)) →
  ∀ w4 : World, Drawn w3 w4 →
  ∃ B : Nat → Prop,
  ¬ B (Addr.block ⟨g, 0, none⟩) ∧
  ∃ (p : Option Addr), World.cell? w4 ⟨g, 0, none⟩ = some (.pointer p) ∧
  ptrC p fun a => ¬ B (Addr.block (a.add 3)) ∧
  ∃ (q : Option Addr) (qn qc : Nat), World.cell? w4 (a.add 3) = some (.slice q qn qc) ∧
  ∃ (p_2 : Option Addr), World.cell? w4 ⟨g, 0, none⟩ = some (.pointer p_2) ∧
  ptrC p_2 fun a_2 => ∃ (q_2 : Option Addr) (q_2n q_2c : Nat), World.cell? w4 (a_2.add 3) = some (.slice q_2 q_2n q_2c) ∧
  ∀ w5 : World, Drawn w4 w5 →
  Calls Try.prog 129 #[.int .i64 ((q_2n : Nat) : Int), .pointer (some ⟨g_2, 0, none⟩), .pointer (some ⟨g, 0, none⟩)] w5 fun e_ w6 => ∃ (n : Int), e_ = .returned (.int .i64 n) ∧
  ExtB B w5 w6 ∧
  (0 : Int) ≤ n ∧ (n : Int) ≤ ((qc : Nat) : Int) ∧
  ∀ w7 : World, Drawn w6 w7 →
  ∃ (I : Int → World → Prop) (M : Int → World → Nat), I 0 w7 ∧
  ∀ (n_2 : Int) (w8 : World), I n_2 w8 →
  ((decide ((n_2 : Int) < ((((Int.toNat n) - 0) : Nat) : Int))) = true →
  ptrC (cutA q 0 qc 1) fun a_3 => (0 : Int) ≤ n_2 ∧ n_2 < ((((Int.toNat n) - 0) : Nat) : Int) ∧
  ∃ (v : Value), World.cell? w8 (Addr.add a_3 ((Int.toNat n_2) * 1)) = some (v) ∧
  ∃ (p_3 : Option Addr), World.cell? w8 ⟨g, 0, none⟩ = some (.pointer p_3) ∧
  ptrC p_3 fun a_4 => ∃ (m : Option Nat), World.cell? w8 (a_4.add 2) = some (.map m) ∧
  funcC v fun f_2 fi ca => cond (entersB Try.prog f_2) (Calls Try.prog f_2 (fi ++ #[.map m] ++ ca) w8 fun e_ w9 => e_ = .returned (.tuple #[]) ∧
  (I (IntKind.wrap .i64 (n_2 + 1)) w9 ∧ M (IntKind.wrap .i64 (n_2 + 1)) w9 < M n_2 w8)) (∃ w10 : World, Sem.run Try.prog (callFunc f_2 (fi ++ #[.map m] ++ ca)) w8 = .ok (.value (.tuple #[])) w10 ∧
  (I (IntKind.wrap .i64 (n_2 + 1)) w10 ∧ M (IntKind.wrap .i64 (n_2 + 1)) w10 < M n_2 w8))) ∧
  ((decide ((n_2 : Int) < ((((Int.toNat n) - 0) : Nat) : Int))) = false →
  ∃ (p_4 : Option Addr), World.cell? w8 ⟨g, 0, none⟩ = some (.pointer p_4) ∧
  ptrC p_4 fun a_5 => ∃ (q_3 : Option Addr) (q_3n q_3c : Nat), World.cell? w8 a_5 = some (.slice q_3 q_3n q_3c) ∧
  ∃ (I_2 : Int → World → Prop) (M_2 : Int → World → Nat), I_2 0 w8 ∧
  ∀ (n_3 : Int) (w11 : World), I_2 n_3 w11 →
  ((decide ((n_3 : Int) < ((q_3n : Nat) : Int))) = true →
  ptrC q_3 fun a_6 => (0 : Int) ≤ n_3 ∧ n_3 < ((q_3n : Nat) : Int) ∧
  ∃ (p_5 : Option Addr), World.cell? w11 (Addr.add a_6 ((Int.toNat n_3) * 1)) = some (.pointer p_5) ∧
  ∀ w12 : World, Drawn w11 w12 →
  ptrC p_5 fun a_7 => ptrC p_5 fun a_8 => ∃ (q_4 : Option Addr) (q_4n q_4c : Nat), World.cell? w12 a_7 = some (.slice q_4 q_4n q_4c) ∧
  ∃ (n_4 : Int), World.cell? w12 (a_8.add 1) = some (.int .i64 n_4) ∧
  ∀ w13 : World, Drawn w12 w13 →
  Calls Try.prog 129 #[.int .i64 (IntKind.wrap .i64 (((q_4n : Nat) : Int) - n_4)), .pointer (some ⟨g_2, 0, none⟩), .pointer (some ⟨g, 0, none⟩)] w13 fun e_ w14 => ∃ (n_5 : Int), e_ = .returned (.int .i64 n_5) ∧
  ∀ w15 : World, Drawn w14 w15 →
  ∀ w16 : World, Drawn w15 w16 →
  ptrC p_5 fun a_9 => ptrC p_5 fun a_10 => ∃ (q_5 : Option Addr) (q_5n q_5c : Nat), World.cell? w16 a_9 = some (.slice q_5 q_5n q_5c) ∧
  ∃ (n_6 : Int), World.cell? w16 (a_10.add 1) = some (.int .i64 n_6) ∧
  (0 : Int) ≤ (IntKind.wrap .i64 (n_6 + n_5)) ∧ ((IntKind.wrap .i64 (n_6 + n_5)) : Int) ≤ ((q_5c : Nat) : Int) ∧
  ptrC p_5 fun a_11 => ∀ w17 : World, Drawn w16 w17 →
  (∃ v0 : Value, World.cell? w17 a_11 = some v0) ∧ World.frozen? w17 a_11 = false ∧
  ∀ w18 : World, w18 = (World.setCell w17 a_11 (.slice (cutA q_5 0 q_5c 1) ((Int.toNat (IntKind.wrap .i64 (n_6 + n_5))) - 0) (q_5c - 0))) →
  ∀ w19 : World, Drawn w18 w19 →
  ptrC p_5 fun a_12 => ∃ (q_6 : Option Addr) (q_6n q_6c : Nat), World.cell? w19 a_12 = some (.slice q_6 q_6n q_6c) ∧
  ptrC p_5 fun a_13 => (∃ v0 : Value, World.cell? w19 (a_13.add 1) = some v0) ∧ World.frozen? w19 (a_13.add 1) = false ∧
  ∀ w20 : World, w20 = (World.setCell w19 (a_13.add 1) (.int .i64 ((q_6n : Nat) : Int))) →
  (I_2 (IntKind.wrap .i64 (n_3 + 1)) w20 ∧ M_2 (IntKind.wrap .i64 (n_3 + 1)) w20 < M_2 n_3 w11)) ∧
  ((decide ((n_3 : Int) < ((q_3n : Nat) : Int))) = false →
  ∀ w21 : World, Drawn w11 w21 →
  ∃ B_2 : Nat → Prop,
  ¬ B_2 (Addr.block ⟨g, 0, none⟩) ∧
  ∃ (p_6 : Option Addr), World.cell? w21 ⟨g, 0, none⟩ = some (.pointer p_6) ∧
  ∃ (p_7 : Option Addr), World.cell? w21 ⟨g, 0, none⟩ = some (.pointer p_7) ∧
  ptrC p_7 fun a_14 => ∃ (m_2 : Option Nat), World.cell? w21 (a_14.add 2) = some (.map m_2) ∧
  ∀ w22 : World, Drawn w21 w22 →
  Calls Try.prog 95 #[.map m_2] w22 fun e_ w23 => ∃ (m_3 : Option Nat), e_ = .returned (.map m_3) ∧
  ExtB B_2 w22 w23 ∧
  ptrC p_6 fun a_15 => ∀ w24 : World, Drawn w23 w24 →
  (∃ v0 : Value, World.cell? w24 (a_15.add 1) = some v0) ∧ World.frozen? w24 (a_15.add 1) = false ∧
  ∀ w25 : World, w25 = (World.setCell w24 (a_15.add 1) (.map m_3)) →
  ExtB B_2 w24 w25 ∧
  ∀ w26 : World, Drawn w25 w26 →
  ∃ (p_8 : Option Addr), World.cell? w26 ⟨g, 0, none⟩ = some (.pointer p_8) ∧
  ptrC p_8 fun a_16 => (∃ v0 : Value, World.cell? w26 (a_16.add 3) = some v0) ∧ World.frozen? w26 (a_16.add 3) = false ∧
  ∀ w27 : World, w27 = (World.setCell w26 (a_16.add 3) (.slice none 0 0)) →
  ∃ (p_9 : Option Addr), World.cell? w27 ⟨g, 0, none⟩ = some (.pointer p_9) ∧
  ptrC p_9 fun a_17 => (∃ v0 : Value, World.cell? w27 (a_17.add 4) = some v0) ∧ World.frozen? w27 (a_17.add 4) = false ∧
  ∀ w28 : World, w28 = (World.setCell w27 (a_17.add 4) (.bool true)) →
  ∃ (p_10 : Option Addr), World.cell? w28 ⟨g, 0, none⟩ = some (.pointer p_10) ∧
  ∀ (g_3 : Nat) (w29 : World), g_3 = (World.heap w28).size → w29 = World.alloc w28 (.map #[] 0) →
  ptrC p_10 fun a_18 => (∃ v0 : Value, World.cell? w29 (a_18.add 6) = some v0) ∧ World.frozen? w29 (a_18.add 6) = false ∧
  ∀ w30 : World, w30 = (World.setCell w29 (a_18.add 6) (.map (some g_3))) →
  ∀ w31 : World, Drawn w30 w31 →
  ∃ B_3 : Nat → Prop,
  ∃ (p_11 : Option Addr), World.cell? w31 ⟨g, 0, none⟩ = some (.pointer p_11) ∧
  ptrC p_11 fun a_19 => ¬ B_3 (Addr.block ⟨g, 0, none⟩) ∧
  ∃ (p_12 : Option Addr), World.cell? w31 ⟨g, 0, none⟩ = some (.pointer p_12) ∧
  ∀ w32 : World, Drawn w31 w32 →
  (∃ v0 : Value, World.cell? w32 (a_19.add 7) = some v0) ∧ World.frozen? w32 (a_19.add 7) = false ∧
  ∀ w33 : World, w33 = (World.setCell w32 (a_19.add 7) (.int .i64 0)) →
  ExtB B_3 w32 w33 ∧
  ptrC p_12 fun a_20 => ∀ w34 : World, Drawn w33 w34 →
  (∃ v0 : Value, World.cell? w34 (a_20.add 8) = some v0) ∧ World.frozen? w34 (a_20.add 8) = false ∧
  ∀ w35 : World, w35 = (World.setCell w34 (a_20.add 8) (.slice none 0 0)) →
  ExtB B_3 w34 w35 ∧
  ∀ w36 : World, Drawn w35 w36 →
  R (.returned (.tuple #[])) w36))
theorem b87 : Try.f87.body = some (bodyOf Try.f87) := by kernel_rfl
theorem ok87 : okF Try.prog an87 Try.f87 (bodyOf Try.f87) 1 = true := by kernel_rfl
theorem e87 (f : Addr) (w : World) (R : Ending → World → Prop) : vcF Try.prog an87 Try.f87 (bodyOf Try.f87) [.pointer (some f)] w R = V87 f w R := by kernel_rfl
theorem v87 (f : Addr) (w : World) (R : Ending → World → Prop) (hV : V87 f w R) : Calls Try.prog 87 #[.pointer (some f)] w R := calls_vc mixed Try.func87 b87 rfl ok87 (e87 f w R) hV

/-- (*cistern/simfs.FS).fall$1 -/
def an129 : Ann := { loops := [], draws := [(2, false, Tr.seq [0, 1, 2, 3, 4, 5, 6] .nil, [], [], []), (3, false, Tr.seq [8, 9, 0, 1, 2, 3, 4, 5, 6, 7, 10, 11] .nil, [], [], [])], tys := [] }
set_option maxRecDepth 100000 in
def V129_k1 (a_4 : Addr) (n_4 : Int) (w5 : World) (R : Ending → World → Prop) : Prop :=
  ∃ (n_5 : Int), World.cell? w5 a_4 = some (.int .i64 n_5) ∧
  (∃ v0 : Value, World.cell? w5 a_4 = some v0) ∧ World.frozen? w5 a_4 = false ∧
  ∀ w6 : World, w6 = (World.setCell w5 a_4 (.int .i64 (IntKind.wrap .i64 (n_5 + 1)))) →
  R (.returned (.int .i64 n_4)) w6
set_option maxRecDepth 100000 in
def V129 (many : Int) (c : Addr) (c_2 : Addr) (w : World) (R : Ending → World → Prop) : Prop :=
  ∀ w1 : World, Drawn w w1 →
  ∃ (n : Int), World.cell? w1 c = some (.int .i64 n) ∧
  ∃ (p : Option Addr), World.cell? w1 c_2 = some (.pointer p) ∧
  ptrC p fun a => ∃ (q : Option Addr) (qn qc : Nat), World.cell? w1 (a.add 8) = some (.slice q qn qc) ∧
  ∀ w2 : World, Drawn w1 w2 →
  ((decide ((n : Int) < ((qn : Nat) : Int))) = true →
  ∀ w3 : World, Drawn w2 w3 →
  ∃ (p_2 : Option Addr), World.cell? w3 c_2 = some (.pointer p_2) ∧
  ptrC p_2 fun a_2 => ∃ (q_2 : Option Addr) (q_2n q_2c : Nat), World.cell? w3 (a_2.add 8) = some (.slice q_2 q_2n q_2c) ∧
  ∃ (n_2 : Int), World.cell? w3 c = some (.int .i64 n_2) ∧
  ptrC q_2 fun a_3 => (0 : Int) ≤ n_2 ∧ n_2 < ((q_2n : Nat) : Int) ∧
  ∃ (n_3 : Int), World.cell? w3 (Addr.add a_3 ((Int.toNat n_2) * 1)) = some (.int .i64 n_3) ∧
  ((IntKind.wrap .i64 (many + 1)) : Int) ≠ 0 ∧
  ∀ w4 : World, Drawn w3 w4 →
  V129_k1 c (Int.tmod (if n_3 > 0 then n_3 else 0) (IntKind.wrap .i64 (many + 1))) w4 R) ∧
  ((decide ((n : Int) < ((qn : Nat) : Int))) = false →
  V129_k1 c 0 w2 R)
theorem b129 : Try.f129.body = some (bodyOf Try.f129) := by kernel_rfl
theorem ok129 : okF Try.prog an129 Try.f129 (bodyOf Try.f129) 3 = true := by kernel_rfl
theorem e129 (many : Int) (c : Addr) (c_2 : Addr) (w : World) (R : Ending → World → Prop) : vcF Try.prog an129 Try.f129 (bodyOf Try.f129) [.int .i64 many, .pointer (some c), .pointer (some c_2)] w R = V129 many c c_2 w R := by kernel_rfl
theorem v129 (many : Int) (c : Addr) (c_2 : Addr) (w : World) (R : Ending → World → Prop) (hV : V129 many c c_2 w R) : Calls Try.prog 129 #[.int .i64 many, .pointer (some c), .pointer (some c_2)] w R := calls_vc mixed Try.func129 b129 rfl ok129 (e129 many c c_2 w R) hV

/-- (*cistern/simfs.FS).Create$1 -/
def an125 : Ann := { loops := [], draws := [], tys := [] }
set_option maxRecDepth 100000 in
def V125 (d : Option Nat) (c : Addr) (c_2 : Addr) (w : World) (R : Ending → World → Prop) : Prop :=
  ∃ (s : ByteArray), World.cell? w c_2 = some (.string s) ∧
  ∃ (p : Option Addr), World.cell? w c = some (.pointer p) ∧
  ∃ w1 : World, Sem.run Try.prog (Instr.mapUpdate 126 (.map d) (.string s) (.pointer p)) w = .ok () w1 ∧
  R (.returned (.tuple #[])) w1
theorem b125 : Try.f125.body = some (bodyOf Try.f125) := by kernel_rfl
theorem ok125 : okF Try.prog an125 Try.f125 (bodyOf Try.f125) 3 = true := by kernel_rfl
theorem e125 (d : Option Nat) (c : Addr) (c_2 : Addr) (w : World) (R : Ending → World → Prop) : vcF Try.prog an125 Try.f125 (bodyOf Try.f125) [.map d, .pointer (some c), .pointer (some c_2)] w R = V125 d c c_2 w R := by kernel_rfl
theorem v125 (d : Option Nat) (c : Addr) (c_2 : Addr) (w : World) (R : Ending → World → Prop) (hV : V125 d c c_2 w R) : Calls Try.prog 125 #[.map d, .pointer (some c), .pointer (some c_2)] w R := calls_vc mixed Try.func125 b125 rfl ok125 (e125 d c c_2 w R) hV

/-- (*cistern/simfs.FS).Rename$1 -/
def an126 : Ann := { loops := [], draws := [], tys := [] }
set_option maxRecDepth 100000 in
def V126 (d : Option Nat) (c : Addr) (c_2 : Addr) (w : World) (R : Ending → World → Prop) : Prop :=
  ∃ (s : ByteArray), World.cell? w c = some (.string s) ∧
  ∃ (p : Option Addr), ∃ w1 : World, Sem.run Try.prog (Instr.lookup 126 (.map d) (.string s) false) w = .ok (.pointer p) w1 ∧
  ∃ (s_2 : ByteArray), World.cell? w1 c = some (.string s_2) ∧
  ∃ w2 : World, Sem.run Try.prog (builtin .delete #[126, 9] 0 #[false, false] #[.map d, .string s_2]) w1 = .ok (.value (.tuple #[])) w2 ∧
  ∃ (s_3 : ByteArray), World.cell? w2 c_2 = some (.string s_3) ∧
  ∃ w3 : World, Sem.run Try.prog (Instr.mapUpdate 126 (.map d) (.string s_3) (.pointer p)) w2 = .ok () w3 ∧
  R (.returned (.tuple #[])) w3
theorem b126 : Try.f126.body = some (bodyOf Try.f126) := by kernel_rfl
theorem ok126 : okF Try.prog an126 Try.f126 (bodyOf Try.f126) 3 = true := by kernel_rfl
theorem e126 (d : Option Nat) (c : Addr) (c_2 : Addr) (w : World) (R : Ending → World → Prop) : vcF Try.prog an126 Try.f126 (bodyOf Try.f126) [.map d, .pointer (some c), .pointer (some c_2)] w R = V126 d c c_2 w R := by kernel_rfl
theorem v126 (d : Option Nat) (c : Addr) (c_2 : Addr) (w : World) (R : Ending → World → Prop) (hV : V126 d c c_2 w R) : Calls Try.prog 126 #[.map d, .pointer (some c), .pointer (some c_2)] w R := calls_vc mixed Try.func126 b126 rfl ok126 (e126 d c c_2 w R) hV

/-- (*cistern/simfs.FS).Remove$1 -/
def an127 : Ann := { loops := [], draws := [], tys := [] }
set_option maxRecDepth 100000 in
def V127 (d : Option Nat) (c : Addr) (w : World) (R : Ending → World → Prop) : Prop :=
  ∃ (s : ByteArray), World.cell? w c = some (.string s) ∧
  ∃ w1 : World, Sem.run Try.prog (builtin .delete #[126, 9] 0 #[false, false] #[.map d, .string s]) w = .ok (.value (.tuple #[])) w1 ∧
  R (.returned (.tuple #[])) w1
theorem b127 : Try.f127.body = some (bodyOf Try.f127) := by kernel_rfl
theorem ok127 : okF Try.prog an127 Try.f127 (bodyOf Try.f127) 2 = true := by kernel_rfl
theorem e127 (d : Option Nat) (c : Addr) (w : World) (R : Ending → World → Prop) : vcF Try.prog an127 Try.f127 (bodyOf Try.f127) [.map d, .pointer (some c)] w R = V127 d c w R := by kernel_rfl
theorem v127 (d : Option Nat) (c : Addr) (w : World) (R : Ending → World → Prop) (hV : V127 d c w R) : Calls Try.prog 127 #[.map d, .pointer (some c)] w R := calls_vc mixed Try.func127 b127 rfl ok127 (e127 d c w R) hV

/-- (*cistern/simfs.FS).changed -/
def an124 : Ann := { loops := [], draws := [], tys := [] }
set_option maxRecDepth 100000 in
def V124 (f : Addr) (c : Nat) (cfi cca : Array Value) (w : World) (R : Ending → World → Prop) : Prop :=
  ∃ (m : Option Nat), World.cell? w (f.add 1) = some (.map m) ∧
  funcC (.func (.func c) cfi cca) fun f_2 fi ca => cond (entersB Try.prog f_2) (Calls Try.prog f_2 (fi ++ #[.map m] ++ ca) w fun e_ w1 => e_ = .returned (.tuple #[]) ∧
  ∃ (q : Option Addr) (qn qc : Nat), World.cell? w1 (f.add 3) = some (.slice q qn qc) ∧
  ∀ (g : Nat) (w2 : World), g = (World.heap w1).size → w2 = World.alloc w1 (.cells #[(.func (.func c) cfi cca)] 149) →
  ∃ (q_2 : Option Addr) (q_2n q_2c : Nat), ∃ w3 : World, Sem.run Try.prog (builtin .append #[129, 129] 129 #[false, false] #[.slice q qn qc, .slice (some ⟨g, 0, none⟩) 1 1]) w2 = .ok (.value (.slice q_2 q_2n q_2c)) w3 ∧
  (∃ v0 : Value, World.cell? w3 (f.add 3) = some v0) ∧ World.frozen? w3 (f.add 3) = false ∧
  ∀ w4 : World, w4 = (World.setCell w3 (f.add 3) (.slice q_2 q_2n q_2c)) →
  R (.returned (.tuple #[])) w4) (∃ w5 : World, Sem.run Try.prog (callFunc f_2 (fi ++ #[.map m] ++ ca)) w = .ok (.value (.tuple #[])) w5 ∧
  ∃ (q_3 : Option Addr) (q_3n q_3c : Nat), World.cell? w5 (f.add 3) = some (.slice q_3 q_3n q_3c) ∧
  ∀ (g_2 : Nat) (w6 : World), g_2 = (World.heap w5).size → w6 = World.alloc w5 (.cells #[(.func (.func c) cfi cca)] 149) →
  ∃ (q_4 : Option Addr) (q_4n q_4c : Nat), ∃ w7 : World, Sem.run Try.prog (builtin .append #[129, 129] 129 #[false, false] #[.slice q_3 q_3n q_3c, .slice (some ⟨g_2, 0, none⟩) 1 1]) w6 = .ok (.value (.slice q_4 q_4n q_4c)) w7 ∧
  (∃ v0 : Value, World.cell? w7 (f.add 3) = some v0) ∧ World.frozen? w7 (f.add 3) = false ∧
  ∀ w8 : World, w8 = (World.setCell w7 (f.add 3) (.slice q_4 q_4n q_4c)) →
  R (.returned (.tuple #[])) w8)
theorem b124 : Try.f124.body = some (bodyOf Try.f124) := by kernel_rfl
theorem ok124 : okF Try.prog an124 Try.f124 (bodyOf Try.f124) 2 = true := by kernel_rfl
theorem e124 (f : Addr) (c : Nat) (cfi cca : Array Value) (w : World) (R : Ending → World → Prop) : vcF Try.prog an124 Try.f124 (bodyOf Try.f124) [.pointer (some f), (.func (.func c) cfi cca)] w R = V124 f c cfi cca w R := by kernel_rfl
theorem v124 (f : Addr) (c : Nat) (cfi cca : Array Value) (w : World) (R : Ending → World → Prop) (hV : V124 f c cfi cca w R) : Calls Try.prog 124 #[.pointer (some f), (.func (.func c) cfi cca)] w R := calls_vc mixed Try.func124 b124 rfl ok124 (e124 f c cfi cca w R) hV

/-- cistern/simfs.named -/
def an130 : Ann := { loops := [(4, [(22, .int .i64)])], draws := [], tys := [] }
set_option maxRecDepth 100000 in
def V130_k2 (I : Int → World → Prop) (M : Int → World → Nat) (n : Int) (w2 : World) (s_3 : ByteArray) (n_2 : Int) (n_3 : Int) (b_2 : Bool) (w3 : World) (R : Ending → World → Prop) : Prop :=
  (b_2 = true →
  R (.returned (.bool false)) w3) ∧
  (b_2 = false →
  (I (IntKind.wrap .i64 (n_3 + 1)) w3 ∧ M (IntKind.wrap .i64 (n_3 + 1)) w3 < M n w2))
set_option maxRecDepth 100000 in
def V130_k1 (s_2 : ByteArray) (b : Bool) (w1 : World) (R : Ending → World → Prop) : Prop :=
  (b = true →
  R (.returned (.bool false)) w1) ∧
  (b = false →
  ∃ (I : Int → World → Prop) (M : Int → World → Nat), I 0 w1 ∧
  ∀ (n : Int) (w2 : World), I n w2 →
  ((decide ((n : Int) < ((ByteArray.size s_2 : Nat) : Int))) = true →
  (0 : Int) ≤ n ∧ n < ((ByteArray.size s_2 : Nat) : Int) ∧
  ((((byteAt s_2 n) : Int) != 46) = true →
  ((((byteAt s_2 n) : Int) != 45) = true →
  ((((byteAt s_2 n) : Int) != 95) = true →
  ((decide (((byteAt s_2 n) : Int) < 48)) = false →
  ((decide (((byteAt s_2 n) : Int) > 57)) = true →
  ((decide (((byteAt s_2 n) : Int) < 65)) = false →
  ((decide (((byteAt s_2 n) : Int) > 90)) = true →
  ((decide (((byteAt s_2 n) : Int) < 97)) = false →
  V130_k2 I M n w2 s_2 ((ByteArray.size s_2 : Nat) : Int) n (decide (((byteAt s_2 n) : Int) > 122)) w2 R) ∧
  ((decide (((byteAt s_2 n) : Int) < 97)) = !false →
  V130_k2 I M n w2 s_2 ((ByteArray.size s_2 : Nat) : Int) n true w2 R)) ∧
  ((decide (((byteAt s_2 n) : Int) > 90)) = !true →
  V130_k2 I M n w2 s_2 ((ByteArray.size s_2 : Nat) : Int) n false w2 R)) ∧
  ((decide (((byteAt s_2 n) : Int) < 65)) = !false →
  ((decide (((byteAt s_2 n) : Int) < 97)) = false →
  V130_k2 I M n w2 s_2 ((ByteArray.size s_2 : Nat) : Int) n (decide (((byteAt s_2 n) : Int) > 122)) w2 R) ∧
  ((decide (((byteAt s_2 n) : Int) < 97)) = !false →
  V130_k2 I M n w2 s_2 ((ByteArray.size s_2 : Nat) : Int) n true w2 R))) ∧
  ((decide (((byteAt s_2 n) : Int) > 57)) = !true →
  V130_k2 I M n w2 s_2 ((ByteArray.size s_2 : Nat) : Int) n false w2 R)) ∧
  ((decide (((byteAt s_2 n) : Int) < 48)) = !false →
  ((decide (((byteAt s_2 n) : Int) < 65)) = false →
  ((decide (((byteAt s_2 n) : Int) > 90)) = true →
  ((decide (((byteAt s_2 n) : Int) < 97)) = false →
  V130_k2 I M n w2 s_2 ((ByteArray.size s_2 : Nat) : Int) n (decide (((byteAt s_2 n) : Int) > 122)) w2 R) ∧
  ((decide (((byteAt s_2 n) : Int) < 97)) = !false →
  V130_k2 I M n w2 s_2 ((ByteArray.size s_2 : Nat) : Int) n true w2 R)) ∧
  ((decide (((byteAt s_2 n) : Int) > 90)) = !true →
  V130_k2 I M n w2 s_2 ((ByteArray.size s_2 : Nat) : Int) n false w2 R)) ∧
  ((decide (((byteAt s_2 n) : Int) < 65)) = !false →
  ((decide (((byteAt s_2 n) : Int) < 97)) = false →
  V130_k2 I M n w2 s_2 ((ByteArray.size s_2 : Nat) : Int) n (decide (((byteAt s_2 n) : Int) > 122)) w2 R) ∧
  ((decide (((byteAt s_2 n) : Int) < 97)) = !false →
  V130_k2 I M n w2 s_2 ((ByteArray.size s_2 : Nat) : Int) n true w2 R)))) ∧
  ((((byteAt s_2 n) : Int) != 95) = !true →
  V130_k2 I M n w2 s_2 ((ByteArray.size s_2 : Nat) : Int) n false w2 R)) ∧
  ((((byteAt s_2 n) : Int) != 45) = !true →
  V130_k2 I M n w2 s_2 ((ByteArray.size s_2 : Nat) : Int) n false w2 R)) ∧
  ((((byteAt s_2 n) : Int) != 46) = !true →
  V130_k2 I M n w2 s_2 ((ByteArray.size s_2 : Nat) : Int) n false w2 R)) ∧
  ((decide ((n : Int) < ((ByteArray.size s_2 : Nat) : Int))) = false →
  R (.returned (.bool true)) w2))
set_option maxRecDepth 100000 in
def V130 (s : ByteArray) (w : World) (R : Ending → World → Prop) : Prop :=
  ((strEq s (ByteArray.mk #[])) = false →
  ((decide ((((ByteArray.size s : Nat) : Int) : Int) > 64)) = false →
  ((strEq s (ByteArray.mk #[46])) = false →
  V130_k1 s (strEq s (ByteArray.mk #[46, 46])) w R) ∧
  ((strEq s (ByteArray.mk #[46])) = !false →
  V130_k1 s true w R)) ∧
  ((decide ((((ByteArray.size s : Nat) : Int) : Int) > 64)) = !false →
  V130_k1 s true w R)) ∧
  ((strEq s (ByteArray.mk #[])) = !false →
  V130_k1 s true w R)
theorem b130 : Try.f130.body = some (bodyOf Try.f130) := by kernel_rfl
theorem ok130 : okF Try.prog an130 Try.f130 (bodyOf Try.f130) 1 = true := by kernel_rfl
theorem e130 (s : ByteArray) (w : World) (R : Ending → World → Prop) : vcF Try.prog an130 Try.f130 (bodyOf Try.f130) [.string s] w R = V130 s w R := by kernel_rfl
theorem v130 (s : ByteArray) (w : World) (R : Ending → World → Prop) (hV : V130 s w R) : Calls Try.prog 130 #[.string s] w R := calls_vc mixed Try.func130 b130 rfl ok130 (e130 s w R) hV

/-- (*cistern/simfs.FS).looks -/
def an93 : Ann := { loops := [(4, [(15, .int .i64)])], draws := [(9, false, Tr.seq [0, 1, 2, 3, 4, 6, 7, 5, 8, 9, 10, 11] .nil, [], [], [])], tys := [] }
set_option maxRecDepth 100000 in
def V93_k1 (b_3 : Bool) (w5 : World) (R : Ending → World → Prop) : Prop :=
  (b_3 = true →
  R (.returned (.int .i64 201)) w5) ∧
  (b_3 = false →
  R (.returned (.int .i64 0)) w5)
set_option maxRecDepth 100000 in
def V93 (f : Addr) (there : Bool) (names : Option Addr) (namesn namesc : Nat) (w : World) (R : Ending → World → Prop) : Prop :=
  ∃ (b : Bool), World.cell? w (f.add 4) = some (.bool b) ∧
  (b = true →
  R (.returned (.int .i64 203)) w) ∧
  (b = false →
  ∃ (I : Int → World → Prop) (M : Int → World → Nat), I 0 w ∧
  ∀ (n : Int) (w1 : World), I n w1 →
  ((decide ((n : Int) < ((namesn : Nat) : Int))) = true →
  ptrC names fun a => (0 : Int) ≤ n ∧ n < ((namesn : Nat) : Int) ∧
  ∃ (s : ByteArray), World.cell? w1 (Addr.add a ((Int.toNat n) * 1)) = some (.string s) ∧
  Calls Try.prog 130 #[.string s] w1 fun e_ w2 => ∃ (b_2 : Bool), e_ = .returned (.bool b_2) ∧
  ((!b_2) = true →
  R (.returned (.int .i64 202)) w2) ∧
  ((!b_2) = false →
  (I (IntKind.wrap .i64 (n + 1)) w2 ∧ M (IntKind.wrap .i64 (n + 1)) w2 < M n w1))) ∧
  ((decide ((n : Int) < ((namesn : Nat) : Int))) = false →
  ∀ w3 : World, Drawn w1 w3 →
  (there = true →
  ptrC names fun a_2 => (0 : Int) ≤ 0 ∧ 0 < ((namesn : Nat) : Int) ∧
  ∃ (m : Option Nat), World.cell? w3 (f.add 1) = some (.map m) ∧
  ∃ (s_2 : ByteArray), World.cell? w3 (Addr.add a_2 ((Int.toNat 0) * 1)) = some (.string s_2) ∧
  ∃ (p : Option Addr), (∀ w0 : World, Ext w3 w0 → Sem.run Try.prog (Instr.lookup 126 (.map m) (.string s_2) false) w0 = .ok (.pointer p) w0) ∧
  ∀ w4 : World, Drawn w3 w4 →
  V93_k1 (Option.isNone p) w4 R) ∧
  (there = !true →
  ∀ w6 : World, Drawn w3 w6 →
  V93_k1 false w6 R)))
theorem b93 : Try.f93.body = some (bodyOf Try.f93) := by kernel_rfl
theorem ok93 : okF Try.prog an93 Try.f93 (bodyOf Try.f93) 3 = true := by kernel_rfl
theorem e93 (f : Addr) (there : Bool) (names : Option Addr) (namesn namesc : Nat) (w : World) (R : Ending → World → Prop) : vcF Try.prog an93 Try.f93 (bodyOf Try.f93) [.pointer (some f), .bool there, .slice names namesn namesc] w R = V93 f there names namesn namesc w R := by kernel_rfl
theorem v93 (f : Addr) (there : Bool) (names : Option Addr) (namesn namesc : Nat) (w : World) (R : Ending → World → Prop) (hV : V93 f there names namesn namesc w R) : Calls Try.prog 93 #[.pointer (some f), .bool there, .slice names namesn namesc] w R := calls_vc mixed Try.func93 b93 rfl ok93 (e93 f there names namesn namesc w R) hV

/-- (*cistern/simfs.FS).step -/
def an94 : Ann := { loops := [], draws := [(2, false, Tr.seq [0, 1, 2, 4, 5, 6, 3, 7, 8] .nil, [], [], []), (5, false, Tr.seq [0, 1, 2, 4, 5, 6, 3, 7, 8, 9, 10, 11, 12, 13, 14] .nil, [12, 13], [12], []), (7, false, Tr.seq [0, 1, 2, 4, 5, 6, 3, 7, 8] .nil, [8], [], []), (8, false, Tr.seq [0, 3, 1, 2, 4] .nil, [], [], [])], tys := [] }
set_option maxRecDepth 100000 in
def V94 (f : Addr) (w : World) (R : Ending → World → Prop) : Prop :=
  ∃ (n : Int), World.cell? w (f.add 5) = some (.int .i64 n) ∧
  (∃ v0 : Value, World.cell? w (f.add 5) = some v0) ∧ World.frozen? w (f.add 5) = false ∧
  ∀ w1 : World, w1 = (World.setCell w (f.add 5) (.int .i64 (IntKind.wrap .i64 (n + 1)))) →
  ∀ w2 : World, Drawn w1 w2 →
  ∃ (n_2 : Int), World.cell? w2 (f.add 7) = some (.int .i64 n_2) ∧
  ∃ (n_3 : Int), World.cell? w2 (f.add 5) = some (.int .i64 n_3) ∧
  ∀ w3 : World, Drawn w2 w3 →
  (((n_2 : Int) == n_3) = true →
  Calls Try.prog 87 #[.pointer (some f)] w3 fun e_ w4 => e_ = .returned (.tuple #[]) ∧
  R (.returned (.tuple #[.int .i64 203, .int .i64 0])) w4) ∧
  (((n_2 : Int) == n_3) = false →
  ∀ w5 : World, Drawn w3 w5 →
  ∃ (m : Option Nat), World.cell? w5 (f.add 6) = some (.map m) ∧
  ∃ (n_4 : Int), World.cell? w5 (f.add 5) = some (.int .i64 n_4) ∧
  ∃ (n_5 : Int), ∃ (b : Bool), (∀ w0 : World, Ext w5 w0 → Sem.run Try.prog (Instr.lookup 127 (.map m) (.int .i64 n_4) true) w0 = .ok (.tuple #[.agg #[.int .i64 n_5], .bool b]) w0) ∧
  ∀ w6 : World, Drawn w5 w6 →
  ∀ (g : Nat) (w7 : World), g = (World.heap w6).size → w7 = World.alloc w6 (.cells #[.int .i64 0] 147) →
  Ext w6 w7 ∧
  ∀ w8 : World, Drawn w7 w8 →
  (∃ v0 : Value, World.cell? w8 ⟨g, 0, none⟩ = some v0) ∧ World.frozen? w8 ⟨g, 0, none⟩ = false ∧
  ∀ w9 : World, w9 = (World.setCell w8 ⟨g, 0, none⟩ (.int .i64 n_5)) →
  ∀ w10 : World, Drawn w9 w10 →
  (b = true →
  ∀ w11 : World, Drawn w10 w11 →
  ∃ (m_2 : Option Nat), World.cell? w11 (f.add 6) = some (.map m_2) ∧
  ∃ (n_6 : Int), World.cell? w11 (f.add 5) = some (.int .i64 n_6) ∧
  ∀ w12 : World, Drawn w11 w12 →
  ∃ w13 : World, Sem.run Try.prog (builtin .delete #[127, 3] 0 #[false, false] #[.map m_2, .int .i64 n_6]) w12 = .ok (.value (.tuple #[])) w13 ∧
  ∀ w14 : World, Drawn w13 w14 →
  ∀ w15 : World, Drawn w14 w15 →
  ∃ (n_7 : Int), World.cell? w15 ⟨g, 0, none⟩ = some (.int .i64 n_7) ∧
  ∀ w16 : World, Drawn w15 w16 →
  R (.returned (.tuple #[.int .i64 200, .int .i64 (if n_7 > 0 then n_7 else 0)])) w16) ∧
  (b = false →
  R (.returned (.tuple #[.int .i64 0, .int .i64 0])) w10))
theorem b94 : Try.f94.body = some (bodyOf Try.f94) := by kernel_rfl
theorem ok94 : okF Try.prog an94 Try.f94 (bodyOf Try.f94) 1 = true := by kernel_rfl
theorem e94 (f : Addr) (w : World) (R : Ending → World → Prop) : vcF Try.prog an94 Try.f94 (bodyOf Try.f94) [.pointer (some f)] w R = V94 f w R := by kernel_rfl
theorem v94 (f : Addr) (w : World) (R : Ending → World → Prop) (hV : V94 f w R) : Calls Try.prog 94 #[.pointer (some f)] w R := calls_vc mixed Try.func94 b94 rfl ok94 (e94 f w R) hV

/-- maps.Clone[cistern/simfs.dir,string,*cistern/simfs.file] -/
def an95 : Ann := { loops := [], draws := [], tys := [] }
set_option maxRecDepth 100000 in
def V95 (m : Option Nat) (w : World) (R : Ending → World → Prop) : Prop :=
  ((Option.isNone m) = true →
  R (.returned (.map none)) w) ∧
  ((Option.isNone m) = false →
  ∃ (v : Value), ∃ w1 : World, Sem.run Try.prog (callFunc 122 #[.iface 126 (.map m)]) w = .ok (.value (v)) w1 ∧
  ∃ (m_2 : Option Nat), ∃ w2 : World, Sem.run Try.prog (Instr.typeAssert (v) 20 126 false) w1 = .ok (.map m_2) w2 ∧
  R (.returned (.map m_2)) w2)
theorem b95 : Try.f95.body = some (bodyOf Try.f95) := by kernel_rfl
theorem ok95 : okF Try.prog an95 Try.f95 (bodyOf Try.f95) 1 = true := by kernel_rfl
theorem e95 (m : Option Nat) (w : World) (R : Ending → World → Prop) : vcF Try.prog an95 Try.f95 (bodyOf Try.f95) [.map m] w R = V95 m w R := by kernel_rfl
theorem v95 (m : Option Nat) (w : World) (R : Ending → World → Prop) (hV : V95 m w R) : Calls Try.prog 95 #[.map m] w R := calls_vc mixed Try.func95 b95 rfl ok95 (e95 m w R) hV

end Go.Proofs.Ytcljmlgbmjjldaa.F
