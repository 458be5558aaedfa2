/-
  No cell of these rows narrows 'for every input' (looked for: loops, veiled, ifaces, maps, wideKeys, modest, calm, conditions, laid).
  DERIVED. THE GIVEN ROWS OF THIS SEAT. 5 by the template 'for every input the law returns true; each argument reads behind the call as it read before'; 0 by the template 'total and deterministic' (their statements: YtbbakacfhajohaaGreatTotals.lean).
  GIVEN WITH THE SEED: the statements are not yours to turn. If you find one false, say at which input.
  Laid BY PROGRAM, IN A SANDBOX (cutbox-rows.mjs): the forced cells as the released guide's own fill.sh prints them over the translation cbab5e4579520aa8… (all of the seat's roots in one cut). By AI agents, Wed Nov 11 2026. No macro, syntax, notation, axiom, sorry.
-/
import Derived.Test.YtbbakacfhajohaaGreatChecked
import GoSem.Claim
import GoSem.ClaimJoined
import GoSem.ClaimMapViews
import Derived.JoinedTies
import Derived.KernelRfl
namespace Go.Proofs.YtbbakacfhajohaaGreat
/- THE CELL 'sum', in the pinned program and in every row, IS THE sha256 OF THE DUMP (.gsa) THAT YtbbakacfhajohaaGreatProg.lean LOADS. Nothing in Lean hashes anything: it is a label: what it is worth is what the hold of that sum in a sandbox is worth. -/
noncomputable def Tryz.pinned : Pinned := { name := "ytbbakacfhajohaagreat", sum := "cbab5e4579520aa83fa93e7ad9e94b5d26ec6697f003fc419691cfb25e68ce40", checked := Tryz.checked }
namespace Rows
def none {H : Type} : Left H := { results := [], args := [] }

/-- 'cavillaw12.KonstStays': WHATEVER THE INPUT: true; the input reads as it did. -/
def konstStaysSpec : ChangeSpec := { name := "konstStays", fn := fun _ => fun
  | [d1, d2, d3] => { results := [.lit (.bool true)], args := [d1, d2, d3] }
  | _ => none }
def konstStaysRow : OpenClaim := { program := "ytbbakacfhajohaagreat", sum := "cbab5e4579520aa83fa93e7ad9e94b5d26ec6697f003fc419691cfb25e68ce40", func := "cavil/cavillaw12.KonstStays", spec := "konstStays", inPlace := ["math/bits.Sub64", "math/bits.Add64", "internal/reflectlite.TypeOf"], unfollowed := true, recurses := true, named := ["math/bits.divideError", "math/bits.overflowError"], apart := false }
def KonstStaysSaid : Prop := konstStaysRow.holds Tryz.pinned (OpenSpec.ofChange konstStaysSpec)

/-- ITS FALSE NEIGHBOUR: 'it returns false'. Refute it at one input. -/
def konstStaysWrong : ChangeSpec := { name := "konstStays", fn := fun _ => fun
  | [d1, d2, d3] => { results := [.lit (.bool false)], args := [d1, d2, d3] }
  | _ => none }
def KonstStaysWrongFalsely : Prop := konstStaysRow.holds Tryz.pinned (OpenSpec.ofChange konstStaysWrong)

/-- 'cavillaw12.KonstShifts': WHATEVER THE INPUT: true; the input reads as it did. -/
def konstShiftsSpec : ChangeSpec := { name := "konstShifts", fn := fun _ => fun
  | [d1, d2, d3] => { results := [.lit (.bool true)], args := [d1, d2, d3] }
  | _ => none }
def konstShiftsRow : OpenClaim := { program := "ytbbakacfhajohaagreat", sum := "cbab5e4579520aa83fa93e7ad9e94b5d26ec6697f003fc419691cfb25e68ce40", func := "cavil/cavillaw12.KonstShifts", spec := "konstShifts", inPlace := ["math/bits.Sub64", "math/bits.Add64", "internal/reflectlite.TypeOf", "internal/bytealg.abigen_runtime_cmpstring"], unfollowed := true, recurses := true, named := ["math/bits.divideError", "math/bits.overflowError"], apart := false }
def KonstShiftsSaid : Prop := konstShiftsRow.holds Tryz.pinned (OpenSpec.ofChange konstShiftsSpec)

/-- ITS FALSE NEIGHBOUR: 'it returns false'. Refute it at one input. -/
def konstShiftsWrong : ChangeSpec := { name := "konstShifts", fn := fun _ => fun
  | [d1, d2, d3] => { results := [.lit (.bool false)], args := [d1, d2, d3] }
  | _ => none }
def KonstShiftsWrongFalsely : Prop := konstShiftsRow.holds Tryz.pinned (OpenSpec.ofChange konstShiftsWrong)

/-- 'cavillaw12.KonstTwos': WHATEVER THE INPUT: true; the input reads as it did. -/
def konstTwosSpec : ChangeSpec := { name := "konstTwos", fn := fun _ => fun
  | [d1, d2, d3] => { results := [.lit (.bool true)], args := [d1, d2, d3] }
  | _ => none }
def konstTwosRow : OpenClaim := { program := "ytbbakacfhajohaagreat", sum := "cbab5e4579520aa83fa93e7ad9e94b5d26ec6697f003fc419691cfb25e68ce40", func := "cavil/cavillaw12.KonstTwos", spec := "konstTwos", inPlace := ["math/bits.Sub64", "math/bits.Add64", "internal/reflectlite.TypeOf"], unfollowed := true, recurses := true, named := ["math/bits.divideError", "math/bits.overflowError"], apart := false }
def KonstTwosSaid : Prop := konstTwosRow.holds Tryz.pinned (OpenSpec.ofChange konstTwosSpec)

/-- ITS FALSE NEIGHBOUR: 'it returns false'. Refute it at one input. -/
def konstTwosWrong : ChangeSpec := { name := "konstTwos", fn := fun _ => fun
  | [d1, d2, d3] => { results := [.lit (.bool false)], args := [d1, d2, d3] }
  | _ => none }
def KonstTwosWrongFalsely : Prop := konstTwosRow.holds Tryz.pinned (OpenSpec.ofChange konstTwosWrong)

/-- 'cavillaw12.KonstOnes': WHATEVER THE INPUT: true; the input reads as it did. -/
def konstOnesSpec : ChangeSpec := { name := "konstOnes", fn := fun _ => fun
  | [d1, d2] => { results := [.lit (.bool true)], args := [d1, d2] }
  | _ => none }
def konstOnesRow : OpenClaim := { program := "ytbbakacfhajohaagreat", sum := "cbab5e4579520aa83fa93e7ad9e94b5d26ec6697f003fc419691cfb25e68ce40", func := "cavil/cavillaw12.KonstOnes", spec := "konstOnes", inPlace := ["math/bits.Sub64", "math/bits.Add64", "internal/reflectlite.TypeOf"], unfollowed := true, recurses := true, named := ["math/bits.divideError", "math/bits.overflowError"], apart := false }
def KonstOnesSaid : Prop := konstOnesRow.holds Tryz.pinned (OpenSpec.ofChange konstOnesSpec)

/-- ITS FALSE NEIGHBOUR: 'it returns false'. Refute it at one input. -/
def konstOnesWrong : ChangeSpec := { name := "konstOnes", fn := fun _ => fun
  | [d1, d2] => { results := [.lit (.bool false)], args := [d1, d2] }
  | _ => none }
def KonstOnesWrongFalsely : Prop := konstOnesRow.holds Tryz.pinned (OpenSpec.ofChange konstOnesWrong)

/-- 'cavillaw12.KonstFits': WHATEVER THE INPUT: true; the input reads as it did. -/
def konstFitsSpec : ChangeSpec := { name := "konstFits", fn := fun _ => fun
  | [d1, d2] => { results := [.lit (.bool true)], args := [d1, d2] }
  | _ => none }
def konstFitsRow : OpenClaim := { program := "ytbbakacfhajohaagreat", sum := "cbab5e4579520aa83fa93e7ad9e94b5d26ec6697f003fc419691cfb25e68ce40", func := "cavil/cavillaw12.KonstFits", spec := "konstFits", inPlace := ["math/bits.Sub64", "math/bits.Add64", "internal/reflectlite.TypeOf"], unfollowed := true, recurses := true, named := ["math/bits.divideError", "math/bits.overflowError"], apart := false }
def KonstFitsSaid : Prop := konstFitsRow.holds Tryz.pinned (OpenSpec.ofChange konstFitsSpec)

/-- ITS FALSE NEIGHBOUR: 'it returns false'. Refute it at one input. -/
def konstFitsWrong : ChangeSpec := { name := "konstFits", fn := fun _ => fun
  | [d1, d2] => { results := [.lit (.bool false)], args := [d1, d2] }
  | _ => none }
def KonstFitsWrongFalsely : Prop := konstFitsRow.holds Tryz.pinned (OpenSpec.ofChange konstFitsWrong)

/- THE SECOND FORM. 'bulk': how many values and letters a reading holds, each counted each time it is reached (what is shared counts as often as it is met; a slice's spare places count too). A statement '..UptoSaid' is the law's where the arguments, and the package variables that the reading takes, are together of bulk at most 1048576: NARROWER than '..Said'. Prove '..Said' where nothing that the law and all that it calls make is longer than what came in: it says more and counts as full. Else prove '..UptoSaid'. A law counts once. -/
mutual
def uptoBulk {H : Type} : DataW H → Nat
  | .lit (.string bytes) => bytes.length + 1
  | .lit _ => 1
  | .nil => 1
  | .ptr d => uptoBulk d + 1
  | .slice elems spare => uptoBulkAll elems + uptoBulkAll spare + 1
  | .agg parts => uptoBulkAll parts + 1
  | .iface _ d => uptoBulk d + 1
  | .map entries => uptoBulkEntries entries + 1
  | .held _ => 1
def uptoBulkAll {H : Type} : List (DataW H) → Nat
  | [] => 0
  | d :: r => uptoBulk d + uptoBulkAll r
def uptoBulkEntries {H : Type} : List (Lit × DataW H) → Nat
  | [] => 0
  | x :: r => uptoBulkEntry x + uptoBulkEntries r
def uptoBulkEntry {H : Type} : Lit × DataW H → Nat
  | (.string bytes, d) => bytes.length + uptoBulk d + 1
  | (_, d) => uptoBulk d + 1
 end
def uptoSmall : (H : Type) → List (DataW H) → Bool := fun _ ds => decide (uptoBulkAll ds ≤ 1048576)
def OpenSpec.upto (s : _root_.Go.ChangeSpec) : _root_.Go.OpenSpec := { _root_.Go.OpenSpec.ofChange s with cond := some uptoSmall }

/-- 'cavillaw12.KonstStays', WHERE WHAT IT READS IS OF BULK AT MOST 1048576: true; the input reads as it did. -/
def konstStaysUptoRow : OpenClaim := { program := "ytbbakacfhajohaagreat", sum := "cbab5e4579520aa83fa93e7ad9e94b5d26ec6697f003fc419691cfb25e68ce40", func := "cavil/cavillaw12.KonstStays", spec := "konstStays", inPlace := ["math/bits.Sub64", "math/bits.Add64", "internal/reflectlite.TypeOf"], unfollowed := true, recurses := true, named := ["math/bits.divideError", "math/bits.overflowError"], apart := false, narrowed := true }
def KonstStaysUptoSaid : Prop := konstStaysUptoRow.holds Tryz.pinned (OpenSpec.upto konstStaysSpec)

/-- 'cavillaw12.KonstShifts', WHERE WHAT IT READS IS OF BULK AT MOST 1048576: true; the input reads as it did. -/
def konstShiftsUptoRow : OpenClaim := { program := "ytbbakacfhajohaagreat", sum := "cbab5e4579520aa83fa93e7ad9e94b5d26ec6697f003fc419691cfb25e68ce40", func := "cavil/cavillaw12.KonstShifts", spec := "konstShifts", inPlace := ["math/bits.Sub64", "math/bits.Add64", "internal/reflectlite.TypeOf", "internal/bytealg.abigen_runtime_cmpstring"], unfollowed := true, recurses := true, named := ["math/bits.divideError", "math/bits.overflowError"], apart := false, narrowed := true }
def KonstShiftsUptoSaid : Prop := konstShiftsUptoRow.holds Tryz.pinned (OpenSpec.upto konstShiftsSpec)

/-- 'cavillaw12.KonstTwos', WHERE WHAT IT READS IS OF BULK AT MOST 1048576: true; the input reads as it did. -/
def konstTwosUptoRow : OpenClaim := { program := "ytbbakacfhajohaagreat", sum := "cbab5e4579520aa83fa93e7ad9e94b5d26ec6697f003fc419691cfb25e68ce40", func := "cavil/cavillaw12.KonstTwos", spec := "konstTwos", inPlace := ["math/bits.Sub64", "math/bits.Add64", "internal/reflectlite.TypeOf"], unfollowed := true, recurses := true, named := ["math/bits.divideError", "math/bits.overflowError"], apart := false, narrowed := true }
def KonstTwosUptoSaid : Prop := konstTwosUptoRow.holds Tryz.pinned (OpenSpec.upto konstTwosSpec)

/-- 'cavillaw12.KonstOnes', WHERE WHAT IT READS IS OF BULK AT MOST 1048576: true; the input reads as it did. -/
def konstOnesUptoRow : OpenClaim := { program := "ytbbakacfhajohaagreat", sum := "cbab5e4579520aa83fa93e7ad9e94b5d26ec6697f003fc419691cfb25e68ce40", func := "cavil/cavillaw12.KonstOnes", spec := "konstOnes", inPlace := ["math/bits.Sub64", "math/bits.Add64", "internal/reflectlite.TypeOf"], unfollowed := true, recurses := true, named := ["math/bits.divideError", "math/bits.overflowError"], apart := false, narrowed := true }
def KonstOnesUptoSaid : Prop := konstOnesUptoRow.holds Tryz.pinned (OpenSpec.upto konstOnesSpec)

/-- 'cavillaw12.KonstFits', WHERE WHAT IT READS IS OF BULK AT MOST 1048576: true; the input reads as it did. -/
def konstFitsUptoRow : OpenClaim := { program := "ytbbakacfhajohaagreat", sum := "cbab5e4579520aa83fa93e7ad9e94b5d26ec6697f003fc419691cfb25e68ce40", func := "cavil/cavillaw12.KonstFits", spec := "konstFits", inPlace := ["math/bits.Sub64", "math/bits.Add64", "internal/reflectlite.TypeOf"], unfollowed := true, recurses := true, named := ["math/bits.divideError", "math/bits.overflowError"], apart := false, narrowed := true }
def KonstFitsUptoSaid : Prop := konstFitsUptoRow.holds Tryz.pinned (OpenSpec.upto konstFitsSpec)

end Rows
end Go.Proofs.YtbbakacfhajohaaGreat
