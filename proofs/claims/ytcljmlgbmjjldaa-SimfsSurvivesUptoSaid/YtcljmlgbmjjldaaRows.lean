/-
  No cell of these rows narrows 'for every input' (looked for: loops, veiled, ifaces, maps, wideKeys, modest, calm, conditions, laid).
  DERIVED. THE GIVEN ROWS OF THIS SEAT. 11 by the template 'for every input the law returns true; each argument reads behind the call as it read before'; 0 by the template 'total and deterministic' (their statements: YtcljmlgbmjjldaaTotals.lean).
  GIVEN WITH THE SEED: the statements are not yours to turn. If you find one false, say at which input.
  Laid BY PROGRAM, IN A SANDBOX (cutbox-rows.mjs): the forced cells as the released guide's own fill.sh prints them over the translation 72333c57b1622d22… (all of the seat's roots in one cut). By AI agents, Wed Nov 11 2026. No macro, syntax, notation, axiom, sorry.
-/
import Derived.Test.YtcljmlgbmjjldaaChecked
import GoSem.Claim
import GoSem.ClaimJoined
import GoSem.ClaimMapViews
import Derived.JoinedTies
import Derived.KernelRfl
namespace Go.Proofs.Ytcljmlgbmjjldaa
/- THE CELL 'sum', in the pinned program and in every row, IS THE sha256 OF THE DUMP (.gsa) THAT YtcljmlgbmjjldaaProg.lean LOADS. Nothing in Lean hashes anything: it is a label: what it is worth is what the hold of that sum in a sandbox is worth. -/
noncomputable def Try.pinned : Pinned := { name := "ytcljmlgbmjjldaa", sum := "72333c57b1622d228bba36f0acbc7db2ccd864e42b5b84b845a22c2dbf630cdf", checked := Try.checked }
namespace Rows
def none {H : Type} : Left H := { results := [], args := [] }

/-- 'cisternlaw25.SessionConsts': WHATEVER THE INPUT: true; the input reads as it did. -/
def sessionConstsSpec : ChangeSpec := { name := "sessionConsts", fn := fun _ => fun
  | [] => { results := [.lit (.bool true)], args := [] }
  | _ => none }
def sessionConstsRow : OpenClaim := { program := "ytcljmlgbmjjldaa", sum := "72333c57b1622d228bba36f0acbc7db2ccd864e42b5b84b845a22c2dbf630cdf", func := "cistern/cisternlaw25.SessionConsts", spec := "sessionConsts", apart := false }
def SessionConstsSaid : Prop := sessionConstsRow.holds Try.pinned (OpenSpec.ofChange sessionConstsSpec)

/-- ITS FALSE NEIGHBOUR: 'it returns false'. Refute it at one input. -/
def sessionConstsWrong : ChangeSpec := { name := "sessionConsts", fn := fun _ => fun
  | [] => { results := [.lit (.bool false)], args := [] }
  | _ => none }
def SessionConstsWrongFalsely : Prop := sessionConstsRow.holds Try.pinned (OpenSpec.ofChange sessionConstsWrong)

/-- 'cisternlaw08.DictHashes': WHATEVER THE INPUT: true; the input reads as it did. -/
def dictHashesSpec : ChangeSpec := { name := "dictHashes", fn := fun _ => fun
  | [d1, d2] => { results := [.lit (.bool true)], args := [d1, d2] }
  | _ => none }
def dictHashesRow : OpenClaim := { program := "ytcljmlgbmjjldaa", sum := "72333c57b1622d228bba36f0acbc7db2ccd864e42b5b84b845a22c2dbf630cdf", func := "cistern/cisternlaw08.DictHashes", spec := "dictHashes", recurses := true, apart := false }
def DictHashesSaid : Prop := dictHashesRow.holds Try.pinned (OpenSpec.ofChange dictHashesSpec)

/-- ITS FALSE NEIGHBOUR: 'it returns false'. Refute it at one input. -/
def dictHashesWrong : ChangeSpec := { name := "dictHashes", fn := fun _ => fun
  | [d1, d2] => { results := [.lit (.bool false)], args := [d1, d2] }
  | _ => none }
def DictHashesWrongFalsely : Prop := dictHashesRow.holds Try.pinned (OpenSpec.ofChange dictHashesWrong)

/-- 'cisternlaw08.DictMaps': WHATEVER THE INPUT: true; the input reads as it did. -/
def dictMapsSpec : ChangeSpec := { name := "dictMaps", fn := fun _ => fun
  | [d1, d2] => { results := [.lit (.bool true)], args := [d1, d2] }
  | _ => none }
def dictMapsRow : OpenClaim := { program := "ytcljmlgbmjjldaa", sum := "72333c57b1622d228bba36f0acbc7db2ccd864e42b5b84b845a22c2dbf630cdf", func := "cistern/cisternlaw08.DictMaps", spec := "dictMaps", unfollowed := true, recurses := true, apart := false }
def DictMapsSaid : Prop := dictMapsRow.holds Try.pinned (OpenSpec.ofChange dictMapsSpec)

/-- ITS FALSE NEIGHBOUR: 'it returns false'. Refute it at one input. -/
def dictMapsWrong : ChangeSpec := { name := "dictMaps", fn := fun _ => fun
  | [d1, d2] => { results := [.lit (.bool false)], args := [d1, d2] }
  | _ => none }
def DictMapsWrongFalsely : Prop := dictMapsRow.holds Try.pinned (OpenSpec.ofChange dictMapsWrong)

/-- 'cisternlaw08.DictScans': WHATEVER THE INPUT: true; the input reads as it did. -/
def dictScansSpec : ChangeSpec := { name := "dictScans", fn := fun _ => fun
  | [d] => { results := [.lit (.bool true)], args := [d] }
  | _ => none }
def dictScansRow : OpenClaim := { program := "ytcljmlgbmjjldaa", sum := "72333c57b1622d228bba36f0acbc7db2ccd864e42b5b84b845a22c2dbf630cdf", func := "cistern/cisternlaw08.DictScans", spec := "dictScans", unfollowed := true, recurses := true, apart := false }
def DictScansSaid : Prop := dictScansRow.holds Try.pinned (OpenSpec.ofChange dictScansSpec)

/-- ITS FALSE NEIGHBOUR: 'it returns false'. Refute it at one input. -/
def dictScansWrong : ChangeSpec := { name := "dictScans", fn := fun _ => fun
  | [d] => { results := [.lit (.bool false)], args := [d] }
  | _ => none }
def DictScansWrongFalsely : Prop := dictScansRow.holds Try.pinned (OpenSpec.ofChange dictScansWrong)

/-- 'cisternlaw08.DictEnds': WHATEVER THE INPUT: true; the input reads as it did. -/
def dictEndsSpec : ChangeSpec := { name := "dictEnds", fn := fun _ => fun
  | [d1, d2, d3] => { results := [.lit (.bool true)], args := [d1, d2, d3] }
  | _ => none }
def dictEndsRow : OpenClaim := { program := "ytcljmlgbmjjldaa", sum := "72333c57b1622d228bba36f0acbc7db2ccd864e42b5b84b845a22c2dbf630cdf", func := "cistern/cisternlaw08.DictEnds", spec := "dictEnds", unfollowed := true, recurses := true, apart := false }
def DictEndsSaid : Prop := dictEndsRow.holds Try.pinned (OpenSpec.ofChange dictEndsSpec)

/-- ITS FALSE NEIGHBOUR: 'it returns false'. Refute it at one input. -/
def dictEndsWrong : ChangeSpec := { name := "dictEnds", fn := fun _ => fun
  | [d1, d2, d3] => { results := [.lit (.bool false)], args := [d1, d2, d3] }
  | _ => none }
def DictEndsWrongFalsely : Prop := dictEndsRow.holds Try.pinned (OpenSpec.ofChange dictEndsWrong)

/-- 'cisternlaw08.DictMeasure': WHATEVER THE INPUT: true; the input reads as it did. -/
def dictMeasureSpec : ChangeSpec := { name := "dictMeasure", fn := fun _ => fun
  | [d1, d2] => { results := [.lit (.bool true)], args := [d1, d2] }
  | _ => none }
def dictMeasureRow : OpenClaim := { program := "ytcljmlgbmjjldaa", sum := "72333c57b1622d228bba36f0acbc7db2ccd864e42b5b84b845a22c2dbf630cdf", func := "cistern/cisternlaw08.DictMeasure", spec := "dictMeasure", unfollowed := true, recurses := true, apart := false }
def DictMeasureSaid : Prop := dictMeasureRow.holds Try.pinned (OpenSpec.ofChange dictMeasureSpec)

/-- ITS FALSE NEIGHBOUR: 'it returns false'. Refute it at one input. -/
def dictMeasureWrong : ChangeSpec := { name := "dictMeasure", fn := fun _ => fun
  | [d1, d2] => { results := [.lit (.bool false)], args := [d1, d2] }
  | _ => none }
def DictMeasureWrongFalsely : Prop := dictMeasureRow.holds Try.pinned (OpenSpec.ofChange dictMeasureWrong)

/-- 'cisternlaw08.DictPlays': WHATEVER THE INPUT: true; the input reads as it did. -/
def dictPlaysSpec : ChangeSpec := { name := "dictPlays", fn := fun _ => fun
  | [d1, d2] => { results := [.lit (.bool true)], args := [d1, d2] }
  | _ => none }
def dictPlaysRow : OpenClaim := { program := "ytcljmlgbmjjldaa", sum := "72333c57b1622d228bba36f0acbc7db2ccd864e42b5b84b845a22c2dbf630cdf", func := "cistern/cisternlaw08.DictPlays", spec := "dictPlays", inPlace := ["maps.clone"], unfollowed := true, recurses := true, apart := false }
def DictPlaysSaid : Prop := dictPlaysRow.holds Try.pinned (OpenSpec.ofChange dictPlaysSpec)

/-- ITS FALSE NEIGHBOUR: 'it returns false'. Refute it at one input. -/
def dictPlaysWrong : ChangeSpec := { name := "dictPlays", fn := fun _ => fun
  | [d1, d2] => { results := [.lit (.bool false)], args := [d1, d2] }
  | _ => none }
def DictPlaysWrongFalsely : Prop := dictPlaysRow.holds Try.pinned (OpenSpec.ofChange dictPlaysWrong)

/-- 'cisternlaw08.DictApart': WHATEVER THE INPUT: true; the input reads as it did. -/
def dictApartSpec : ChangeSpec := { name := "dictApart", fn := fun _ => fun
  | [d1, d2, d3] => { results := [.lit (.bool true)], args := [d1, d2, d3] }
  | _ => none }
def dictApartRow : OpenClaim := { program := "ytcljmlgbmjjldaa", sum := "72333c57b1622d228bba36f0acbc7db2ccd864e42b5b84b845a22c2dbf630cdf", func := "cistern/cisternlaw08.DictApart", spec := "dictApart", inPlace := ["maps.clone"], unfollowed := true, recurses := true, apart := false }
def DictApartSaid : Prop := dictApartRow.holds Try.pinned (OpenSpec.ofChange dictApartSpec)

/-- ITS FALSE NEIGHBOUR: 'it returns false'. Refute it at one input. -/
def dictApartWrong : ChangeSpec := { name := "dictApart", fn := fun _ => fun
  | [d1, d2, d3] => { results := [.lit (.bool false)], args := [d1, d2, d3] }
  | _ => none }
def DictApartWrongFalsely : Prop := dictApartRow.holds Try.pinned (OpenSpec.ofChange dictApartWrong)

/-- 'cisternlaw20.SimfsSurvives': WHATEVER THE INPUT: true; the input reads as it did. -/
def simfsSurvivesSpec : ChangeSpec := { name := "simfsSurvives", fn := fun _ => fun
  | [d1, d2] => { results := [.lit (.bool true)], args := [d1, d2] }
  | _ => none }
def simfsSurvivesRow : OpenClaim := { program := "ytcljmlgbmjjldaa", sum := "72333c57b1622d228bba36f0acbc7db2ccd864e42b5b84b845a22c2dbf630cdf", func := "cistern/cisternlaw20.SimfsSurvives", spec := "simfsSurvives", inPlace := ["maps.clone"], unfollowed := true, recurses := true, apart := false }
def SimfsSurvivesSaid : Prop := simfsSurvivesRow.holds Try.pinned (OpenSpec.ofChange simfsSurvivesSpec)

/-- ITS FALSE NEIGHBOUR: 'it returns false'. Refute it at one input. -/
def simfsSurvivesWrong : ChangeSpec := { name := "simfsSurvives", fn := fun _ => fun
  | [d1, d2] => { results := [.lit (.bool false)], args := [d1, d2] }
  | _ => none }
def SimfsSurvivesWrongFalsely : Prop := simfsSurvivesRow.holds Try.pinned (OpenSpec.ofChange simfsSurvivesWrong)

/-- 'cisternlaw20.SimfsLeast': WHATEVER THE INPUT: true; the input reads as it did. -/
def simfsLeastSpec : ChangeSpec := { name := "simfsLeast", fn := fun _ => fun
  | [d1, d2] => { results := [.lit (.bool true)], args := [d1, d2] }
  | _ => none }
def simfsLeastRow : OpenClaim := { program := "ytcljmlgbmjjldaa", sum := "72333c57b1622d228bba36f0acbc7db2ccd864e42b5b84b845a22c2dbf630cdf", func := "cistern/cisternlaw20.SimfsLeast", spec := "simfsLeast", inPlace := ["maps.clone"], unfollowed := true, recurses := true, apart := false }
def SimfsLeastSaid : Prop := simfsLeastRow.holds Try.pinned (OpenSpec.ofChange simfsLeastSpec)

/-- ITS FALSE NEIGHBOUR: 'it returns false'. Refute it at one input. -/
def simfsLeastWrong : ChangeSpec := { name := "simfsLeast", fn := fun _ => fun
  | [d1, d2] => { results := [.lit (.bool false)], args := [d1, d2] }
  | _ => none }
def SimfsLeastWrongFalsely : Prop := simfsLeastRow.holds Try.pinned (OpenSpec.ofChange simfsLeastWrong)

/-- 'cisternlaw20.SimfsApart': WHATEVER THE INPUT: true; the input reads as it did. -/
def simfsApartSpec : ChangeSpec := { name := "simfsApart", fn := fun _ => fun
  | [d1, d2] => { results := [.lit (.bool true)], args := [d1, d2] }
  | _ => none }
def simfsApartRow : OpenClaim := { program := "ytcljmlgbmjjldaa", sum := "72333c57b1622d228bba36f0acbc7db2ccd864e42b5b84b845a22c2dbf630cdf", func := "cistern/cisternlaw20.SimfsApart", spec := "simfsApart", inPlace := ["maps.clone"], unfollowed := true, recurses := true, apart := false }
def SimfsApartSaid : Prop := simfsApartRow.holds Try.pinned (OpenSpec.ofChange simfsApartSpec)

/-- ITS FALSE NEIGHBOUR: 'it returns false'. Refute it at one input. -/
def simfsApartWrong : ChangeSpec := { name := "simfsApart", fn := fun _ => fun
  | [d1, d2] => { results := [.lit (.bool false)], args := [d1, d2] }
  | _ => none }
def SimfsApartWrongFalsely : Prop := simfsApartRow.holds Try.pinned (OpenSpec.ofChange simfsApartWrong)

/- THE SECOND FORM. 'bulk': how many values and letters a reading holds, each counted each time it is reached (what is shared counts as often as it is met; a slice's spare places count too). A statement '..UptoSaid' is the law's where the arguments, and the package variables that the reading takes, are together of bulk at most 1048576: NARROWER than '..Said'. Prove '..Said' where nothing that the law and all that it calls make is longer than what came in: it says more and counts as full. Else prove '..UptoSaid'. A law counts once. -/
mutual
def uptoBulk {H : Type} : DataW H → Nat
  | .lit (.string bytes) => bytes.length + 1
  | .lit _ => 1
  | .nil => 1
  | .ptr d => uptoBulk d + 1
  | .slice elems spare => uptoBulkAll elems + uptoBulkAll spare + 1
  | .agg parts => uptoBulkAll parts + 1
  | .iface _ d => uptoBulk d + 1
  | .map entries => uptoBulkEntries entries + 1
  | .held _ => 1
def uptoBulkAll {H : Type} : List (DataW H) → Nat
  | [] => 0
  | d :: r => uptoBulk d + uptoBulkAll r
def uptoBulkEntries {H : Type} : List (Lit × DataW H) → Nat
  | [] => 0
  | x :: r => uptoBulkEntry x + uptoBulkEntries r
def uptoBulkEntry {H : Type} : Lit × DataW H → Nat
  | (.string bytes, d) => bytes.length + uptoBulk d + 1
  | (_, d) => uptoBulk d + 1
 end
def uptoSmall : (H : Type) → List (DataW H) → Bool := fun _ ds => decide (uptoBulkAll ds ≤ 1048576)
def OpenSpec.upto (s : _root_.Go.ChangeSpec) : _root_.Go.OpenSpec := { _root_.Go.OpenSpec.ofChange s with cond := some uptoSmall }

/-- 'cisternlaw25.SessionConsts', WHERE WHAT IT READS IS OF BULK AT MOST 1048576: true; the input reads as it did. -/
def sessionConstsUptoRow : OpenClaim := { program := "ytcljmlgbmjjldaa", sum := "72333c57b1622d228bba36f0acbc7db2ccd864e42b5b84b845a22c2dbf630cdf", func := "cistern/cisternlaw25.SessionConsts", spec := "sessionConsts", apart := false, narrowed := true }
def SessionConstsUptoSaid : Prop := sessionConstsUptoRow.holds Try.pinned (OpenSpec.upto sessionConstsSpec)

/-- 'cisternlaw08.DictHashes', WHERE WHAT IT READS IS OF BULK AT MOST 1048576: true; the input reads as it did. -/
def dictHashesUptoRow : OpenClaim := { program := "ytcljmlgbmjjldaa", sum := "72333c57b1622d228bba36f0acbc7db2ccd864e42b5b84b845a22c2dbf630cdf", func := "cistern/cisternlaw08.DictHashes", spec := "dictHashes", recurses := true, apart := false, narrowed := true }
def DictHashesUptoSaid : Prop := dictHashesUptoRow.holds Try.pinned (OpenSpec.upto dictHashesSpec)

/-- 'cisternlaw08.DictMaps', WHERE WHAT IT READS IS OF BULK AT MOST 1048576: true; the input reads as it did. -/
def dictMapsUptoRow : OpenClaim := { program := "ytcljmlgbmjjldaa", sum := "72333c57b1622d228bba36f0acbc7db2ccd864e42b5b84b845a22c2dbf630cdf", func := "cistern/cisternlaw08.DictMaps", spec := "dictMaps", unfollowed := true, recurses := true, apart := false, narrowed := true }
def DictMapsUptoSaid : Prop := dictMapsUptoRow.holds Try.pinned (OpenSpec.upto dictMapsSpec)

/-- 'cisternlaw08.DictScans', WHERE WHAT IT READS IS OF BULK AT MOST 1048576: true; the input reads as it did. -/
def dictScansUptoRow : OpenClaim := { program := "ytcljmlgbmjjldaa", sum := "72333c57b1622d228bba36f0acbc7db2ccd864e42b5b84b845a22c2dbf630cdf", func := "cistern/cisternlaw08.DictScans", spec := "dictScans", unfollowed := true, recurses := true, apart := false, narrowed := true }
def DictScansUptoSaid : Prop := dictScansUptoRow.holds Try.pinned (OpenSpec.upto dictScansSpec)

/-- 'cisternlaw08.DictEnds', WHERE WHAT IT READS IS OF BULK AT MOST 1048576: true; the input reads as it did. -/
def dictEndsUptoRow : OpenClaim := { program := "ytcljmlgbmjjldaa", sum := "72333c57b1622d228bba36f0acbc7db2ccd864e42b5b84b845a22c2dbf630cdf", func := "cistern/cisternlaw08.DictEnds", spec := "dictEnds", unfollowed := true, recurses := true, apart := false, narrowed := true }
def DictEndsUptoSaid : Prop := dictEndsUptoRow.holds Try.pinned (OpenSpec.upto dictEndsSpec)

/-- 'cisternlaw08.DictMeasure', WHERE WHAT IT READS IS OF BULK AT MOST 1048576: true; the input reads as it did. -/
def dictMeasureUptoRow : OpenClaim := { program := "ytcljmlgbmjjldaa", sum := "72333c57b1622d228bba36f0acbc7db2ccd864e42b5b84b845a22c2dbf630cdf", func := "cistern/cisternlaw08.DictMeasure", spec := "dictMeasure", unfollowed := true, recurses := true, apart := false, narrowed := true }
def DictMeasureUptoSaid : Prop := dictMeasureUptoRow.holds Try.pinned (OpenSpec.upto dictMeasureSpec)

/-- 'cisternlaw08.DictPlays', WHERE WHAT IT READS IS OF BULK AT MOST 1048576: true; the input reads as it did. -/
def dictPlaysUptoRow : OpenClaim := { program := "ytcljmlgbmjjldaa", sum := "72333c57b1622d228bba36f0acbc7db2ccd864e42b5b84b845a22c2dbf630cdf", func := "cistern/cisternlaw08.DictPlays", spec := "dictPlays", inPlace := ["maps.clone"], unfollowed := true, recurses := true, apart := false, narrowed := true }
def DictPlaysUptoSaid : Prop := dictPlaysUptoRow.holds Try.pinned (OpenSpec.upto dictPlaysSpec)

/-- 'cisternlaw08.DictApart', WHERE WHAT IT READS IS OF BULK AT MOST 1048576: true; the input reads as it did. -/
def dictApartUptoRow : OpenClaim := { program := "ytcljmlgbmjjldaa", sum := "72333c57b1622d228bba36f0acbc7db2ccd864e42b5b84b845a22c2dbf630cdf", func := "cistern/cisternlaw08.DictApart", spec := "dictApart", inPlace := ["maps.clone"], unfollowed := true, recurses := true, apart := false, narrowed := true }
def DictApartUptoSaid : Prop := dictApartUptoRow.holds Try.pinned (OpenSpec.upto dictApartSpec)

/-- 'cisternlaw20.SimfsSurvives', WHERE WHAT IT READS IS OF BULK AT MOST 1048576: true; the input reads as it did. -/
def simfsSurvivesUptoRow : OpenClaim := { program := "ytcljmlgbmjjldaa", sum := "72333c57b1622d228bba36f0acbc7db2ccd864e42b5b84b845a22c2dbf630cdf", func := "cistern/cisternlaw20.SimfsSurvives", spec := "simfsSurvives", inPlace := ["maps.clone"], unfollowed := true, recurses := true, apart := false, narrowed := true }
def SimfsSurvivesUptoSaid : Prop := simfsSurvivesUptoRow.holds Try.pinned (OpenSpec.upto simfsSurvivesSpec)

/-- 'cisternlaw20.SimfsLeast', WHERE WHAT IT READS IS OF BULK AT MOST 1048576: true; the input reads as it did. -/
def simfsLeastUptoRow : OpenClaim := { program := "ytcljmlgbmjjldaa", sum := "72333c57b1622d228bba36f0acbc7db2ccd864e42b5b84b845a22c2dbf630cdf", func := "cistern/cisternlaw20.SimfsLeast", spec := "simfsLeast", inPlace := ["maps.clone"], unfollowed := true, recurses := true, apart := false, narrowed := true }
def SimfsLeastUptoSaid : Prop := simfsLeastUptoRow.holds Try.pinned (OpenSpec.upto simfsLeastSpec)

/-- 'cisternlaw20.SimfsApart', WHERE WHAT IT READS IS OF BULK AT MOST 1048576: true; the input reads as it did. -/
def simfsApartUptoRow : OpenClaim := { program := "ytcljmlgbmjjldaa", sum := "72333c57b1622d228bba36f0acbc7db2ccd864e42b5b84b845a22c2dbf630cdf", func := "cistern/cisternlaw20.SimfsApart", spec := "simfsApart", inPlace := ["maps.clone"], unfollowed := true, recurses := true, apart := false, narrowed := true }
def SimfsApartUptoSaid : Prop := simfsApartUptoRow.holds Try.pinned (OpenSpec.upto simfsApartSpec)

end Rows
end Go.Proofs.Ytcljmlgbmjjldaa
