/-
  No cell of these rows narrows 'for every input' (looked for: loops, veiled, ifaces, maps, wideKeys, modest, calm, conditions, laid).
  DERIVED. THE GIVEN ROWS OF THIS SEAT. 14 by the template 'for every input the law returns true; each argument reads behind the call as it read before'; 0 by the template 'total and deterministic' (their statements: YtbbakacfhajohaaTotals.lean).
  GIVEN WITH THE SEED: the statements are not yours to turn. If you find one false, say at which input.
  Laid BY PROGRAM, IN A SANDBOX (cutbox-rows.mjs): the forced cells as the released guide's own fill.sh prints them over the translation ac24224b5f81c40f… (all of the seat's roots in one cut). By AI agents, Wed Nov 11 2026. No macro, syntax, notation, axiom, sorry.
-/
import Derived.Test.YtbbakacfhajohaaChecked
import GoSem.Claim
import GoSem.ClaimJoined
import GoSem.ClaimMapViews
import Derived.JoinedTies
import Derived.KernelRfl
namespace Go.Proofs.Ytbbakacfhajohaa
/- THE CELL 'sum', in the pinned program and in every row, IS THE sha256 OF THE DUMP (.gsa) THAT YtbbakacfhajohaaProg.lean LOADS. Nothing in Lean hashes anything: it is a label: what it is worth is what the hold of that sum in a sandbox is worth. -/
noncomputable def Try.pinned : Pinned := { name := "ytbbakacfhajohaa", sum := "ac24224b5f81c40f65026a203066ca7751e13060afbf14199f3dac95360c3e5a", checked := Try.checked }
namespace Rows
def none {H : Type} : Left H := { results := [], args := [] }

/-- 'cavillaw07.LimbLaws': WHATEVER THE INPUT: true; the input reads as it did. -/
def limbLawsSpec : ChangeSpec := { name := "limbLaws", fn := fun _ => fun
  | [d1, d2, d3] => { results := [.lit (.bool true)], args := [d1, d2, d3] }
  | _ => none }
def limbLawsRow : OpenClaim := { program := "ytbbakacfhajohaa", sum := "ac24224b5f81c40f65026a203066ca7751e13060afbf14199f3dac95360c3e5a", func := "cavil/cavillaw07.LimbLaws", spec := "limbLaws", inPlace := ["math/bits.Sub64", "math/bits.Add64"], unfollowed := true, recurses := true, named := ["math/bits.divideError", "math/bits.overflowError"], apart := false }
def LimbLawsSaid : Prop := limbLawsRow.holds Try.pinned (OpenSpec.ofChange limbLawsSpec)

/-- ITS FALSE NEIGHBOUR: 'it returns false'. Refute it at one input. -/
def limbLawsWrong : ChangeSpec := { name := "limbLaws", fn := fun _ => fun
  | [d1, d2, d3] => { results := [.lit (.bool false)], args := [d1, d2, d3] }
  | _ => none }
def LimbLawsWrongFalsely : Prop := limbLawsRow.holds Try.pinned (OpenSpec.ofChange limbLawsWrong)

/-- 'cavillaw07.LimbParts': WHATEVER THE INPUT: true; the input reads as it did. -/
def limbPartsSpec : ChangeSpec := { name := "limbParts", fn := fun _ => fun
  | [d1, d2] => { results := [.lit (.bool true)], args := [d1, d2] }
  | _ => none }
def limbPartsRow : OpenClaim := { program := "ytbbakacfhajohaa", sum := "ac24224b5f81c40f65026a203066ca7751e13060afbf14199f3dac95360c3e5a", func := "cavil/cavillaw07.LimbParts", spec := "limbParts", inPlace := ["math/bits.Sub64", "internal/reflectlite.TypeOf", "math/bits.Add64"], unfollowed := true, recurses := true, named := ["math/bits.divideError", "math/bits.overflowError"], apart := false }
def LimbPartsSaid : Prop := limbPartsRow.holds Try.pinned (OpenSpec.ofChange limbPartsSpec)

/-- ITS FALSE NEIGHBOUR: 'it returns false'. Refute it at one input. -/
def limbPartsWrong : ChangeSpec := { name := "limbParts", fn := fun _ => fun
  | [d1, d2] => { results := [.lit (.bool false)], args := [d1, d2] }
  | _ => none }
def LimbPartsWrongFalsely : Prop := limbPartsRow.holds Try.pinned (OpenSpec.ofChange limbPartsWrong)

/-- 'cavillaw07.LimbBits': WHATEVER THE INPUT: true; the input reads as it did. -/
def limbBitsSpec : ChangeSpec := { name := "limbBits", fn := fun _ => fun
  | [d1, d2] => { results := [.lit (.bool true)], args := [d1, d2] }
  | _ => none }
def limbBitsRow : OpenClaim := { program := "ytbbakacfhajohaa", sum := "ac24224b5f81c40f65026a203066ca7751e13060afbf14199f3dac95360c3e5a", func := "cavil/cavillaw07.LimbBits", spec := "limbBits", inPlace := ["math/bits.Add64", "internal/reflectlite.TypeOf", "math/bits.Sub64"], unfollowed := true, recurses := true, named := ["math/bits.divideError", "math/bits.overflowError"], apart := false }
def LimbBitsSaid : Prop := limbBitsRow.holds Try.pinned (OpenSpec.ofChange limbBitsSpec)

/-- ITS FALSE NEIGHBOUR: 'it returns false'. Refute it at one input. -/
def limbBitsWrong : ChangeSpec := { name := "limbBits", fn := fun _ => fun
  | [d1, d2] => { results := [.lit (.bool false)], args := [d1, d2] }
  | _ => none }
def LimbBitsWrongFalsely : Prop := limbBitsRow.holds Try.pinned (OpenSpec.ofChange limbBitsWrong)

/-- 'cavillaw07.LimbShifts': WHATEVER THE INPUT: true; the input reads as it did. -/
def limbShiftsSpec : ChangeSpec := { name := "limbShifts", fn := fun _ => fun
  | [d1, d2] => { results := [.lit (.bool true)], args := [d1, d2] }
  | _ => none }
def limbShiftsRow : OpenClaim := { program := "ytbbakacfhajohaa", sum := "ac24224b5f81c40f65026a203066ca7751e13060afbf14199f3dac95360c3e5a", func := "cavil/cavillaw07.LimbShifts", spec := "limbShifts", inPlace := ["math/bits.Add64", "internal/reflectlite.TypeOf", "math/bits.Sub64"], unfollowed := true, recurses := true, named := ["math/bits.divideError", "math/bits.overflowError"], apart := false }
def LimbShiftsSaid : Prop := limbShiftsRow.holds Try.pinned (OpenSpec.ofChange limbShiftsSpec)

/-- ITS FALSE NEIGHBOUR: 'it returns false'. Refute it at one input. -/
def limbShiftsWrong : ChangeSpec := { name := "limbShifts", fn := fun _ => fun
  | [d1, d2] => { results := [.lit (.bool false)], args := [d1, d2] }
  | _ => none }
def LimbShiftsWrongFalsely : Prop := limbShiftsRow.holds Try.pinned (OpenSpec.ofChange limbShiftsWrong)

/-- 'cavillaw07.LimbTells': WHATEVER THE INPUT: true; the input reads as it did. -/
def limbTellsSpec : ChangeSpec := { name := "limbTells", fn := fun _ => fun
  | [d1, d2] => { results := [.lit (.bool true)], args := [d1, d2] }
  | _ => none }
def limbTellsRow : OpenClaim := { program := "ytbbakacfhajohaa", sum := "ac24224b5f81c40f65026a203066ca7751e13060afbf14199f3dac95360c3e5a", func := "cavil/cavillaw07.LimbTells", spec := "limbTells", inPlace := ["internal/reflectlite.TypeOf", "math/bits.Sub64", "math/bits.Add64"], unfollowed := true, recurses := true, named := ["math/bits.divideError", "math/bits.overflowError"], apart := false }
def LimbTellsSaid : Prop := limbTellsRow.holds Try.pinned (OpenSpec.ofChange limbTellsSpec)

/-- ITS FALSE NEIGHBOUR: 'it returns false'. Refute it at one input. -/
def limbTellsWrong : ChangeSpec := { name := "limbTells", fn := fun _ => fun
  | [d1, d2] => { results := [.lit (.bool false)], args := [d1, d2] }
  | _ => none }
def LimbTellsWrongFalsely : Prop := limbTellsRow.holds Try.pinned (OpenSpec.ofChange limbTellsWrong)

/-- 'cavillaw07.LimbReads': WHATEVER THE INPUT: true; the input reads as it did. -/
def limbReadsSpec : ChangeSpec := { name := "limbReads", fn := fun _ => fun
  | [d] => { results := [.lit (.bool true)], args := [d] }
  | _ => none }
def limbReadsRow : OpenClaim := { program := "ytbbakacfhajohaa", sum := "ac24224b5f81c40f65026a203066ca7751e13060afbf14199f3dac95360c3e5a", func := "cavil/cavillaw07.LimbReads", spec := "limbReads", inPlace := ["math/bits.Add64", "math/bits.Sub64"], unfollowed := true, recurses := true, named := ["math/bits.divideError", "math/bits.overflowError"], apart := false }
def LimbReadsSaid : Prop := limbReadsRow.holds Try.pinned (OpenSpec.ofChange limbReadsSpec)

/-- ITS FALSE NEIGHBOUR: 'it returns false'. Refute it at one input. -/
def limbReadsWrong : ChangeSpec := { name := "limbReads", fn := fun _ => fun
  | [d] => { results := [.lit (.bool false)], args := [d] }
  | _ => none }
def LimbReadsWrongFalsely : Prop := limbReadsRow.holds Try.pinned (OpenSpec.ofChange limbReadsWrong)

/-- 'cavillaw07.LimbSums': WHATEVER THE INPUT: true; the input reads as it did. -/
def limbSumsSpec : ChangeSpec := { name := "limbSums", fn := fun _ => fun
  | [d1, d2] => { results := [.lit (.bool true)], args := [d1, d2] }
  | _ => none }
def limbSumsRow : OpenClaim := { program := "ytbbakacfhajohaa", sum := "ac24224b5f81c40f65026a203066ca7751e13060afbf14199f3dac95360c3e5a", func := "cavil/cavillaw07.LimbSums", spec := "limbSums", inPlace := ["math/bits.Add64", "math/bits.Sub64", "internal/reflectlite.TypeOf"], unfollowed := true, recurses := true, named := ["math/bits.divideError", "math/bits.overflowError"], apart := false }
def LimbSumsSaid : Prop := limbSumsRow.holds Try.pinned (OpenSpec.ofChange limbSumsSpec)

/-- ITS FALSE NEIGHBOUR: 'it returns false'. Refute it at one input. -/
def limbSumsWrong : ChangeSpec := { name := "limbSums", fn := fun _ => fun
  | [d1, d2] => { results := [.lit (.bool false)], args := [d1, d2] }
  | _ => none }
def LimbSumsWrongFalsely : Prop := limbSumsRow.holds Try.pinned (OpenSpec.ofChange limbSumsWrong)

/-- 'cavillaw08.RatioMakes': WHATEVER THE INPUT: true; the input reads as it did. -/
def ratioMakesSpec : ChangeSpec := { name := "ratioMakes", fn := fun _ => fun
  | [d1, d2, d3] => { results := [.lit (.bool true)], args := [d1, d2, d3] }
  | _ => none }
def ratioMakesRow : OpenClaim := { program := "ytbbakacfhajohaa", sum := "ac24224b5f81c40f65026a203066ca7751e13060afbf14199f3dac95360c3e5a", func := "cavil/cavillaw08.RatioMakes", spec := "ratioMakes", inPlace := ["math/bits.Sub64", "internal/reflectlite.TypeOf", "math/bits.Add64"], unfollowed := true, recurses := true, named := ["math/bits.divideError", "math/bits.overflowError"], apart := false }
def RatioMakesSaid : Prop := ratioMakesRow.holds Try.pinned (OpenSpec.ofChange ratioMakesSpec)

/-- ITS FALSE NEIGHBOUR: 'it returns false'. Refute it at one input. -/
def ratioMakesWrong : ChangeSpec := { name := "ratioMakes", fn := fun _ => fun
  | [d1, d2, d3] => { results := [.lit (.bool false)], args := [d1, d2, d3] }
  | _ => none }
def RatioMakesWrongFalsely : Prop := ratioMakesRow.holds Try.pinned (OpenSpec.ofChange ratioMakesWrong)

/-- 'cavillaw07.LimbParses': WHATEVER THE INPUT: true; the input reads as it did. -/
def limbParsesSpec : ChangeSpec := { name := "limbParses", fn := fun _ => fun
  | [d1, d2] => { results := [.lit (.bool true)], args := [d1, d2] }
  | _ => none }
def limbParsesRow : OpenClaim := { program := "ytbbakacfhajohaa", sum := "ac24224b5f81c40f65026a203066ca7751e13060afbf14199f3dac95360c3e5a", func := "cavil/cavillaw07.LimbParses", spec := "limbParses", inPlace := ["math/bits.Add64", "math/bits.Sub64", "internal/reflectlite.TypeOf"], unfollowed := true, recurses := true, named := ["math/bits.divideError", "math/bits.overflowError"], apart := false }
def LimbParsesSaid : Prop := limbParsesRow.holds Try.pinned (OpenSpec.ofChange limbParsesSpec)

/-- ITS FALSE NEIGHBOUR: 'it returns false'. Refute it at one input. -/
def limbParsesWrong : ChangeSpec := { name := "limbParses", fn := fun _ => fun
  | [d1, d2] => { results := [.lit (.bool false)], args := [d1, d2] }
  | _ => none }
def LimbParsesWrongFalsely : Prop := limbParsesRow.holds Try.pinned (OpenSpec.ofChange limbParsesWrong)

/-- 'cavillaw08.RatioOrders': WHATEVER THE INPUT: true; the input reads as it did. -/
def ratioOrdersSpec : ChangeSpec := { name := "ratioOrders", fn := fun _ => fun
  | [d1, d2] => { results := [.lit (.bool true)], args := [d1, d2] }
  | _ => none }
def ratioOrdersRow : OpenClaim := { program := "ytbbakacfhajohaa", sum := "ac24224b5f81c40f65026a203066ca7751e13060afbf14199f3dac95360c3e5a", func := "cavil/cavillaw08.RatioOrders", spec := "ratioOrders", inPlace := ["math/bits.Sub64", "math/bits.Add64", "internal/reflectlite.TypeOf"], unfollowed := true, recurses := true, named := ["math/bits.divideError", "math/bits.overflowError"], apart := false }
def RatioOrdersSaid : Prop := ratioOrdersRow.holds Try.pinned (OpenSpec.ofChange ratioOrdersSpec)

/-- ITS FALSE NEIGHBOUR: 'it returns false'. Refute it at one input. -/
def ratioOrdersWrong : ChangeSpec := { name := "ratioOrders", fn := fun _ => fun
  | [d1, d2] => { results := [.lit (.bool false)], args := [d1, d2] }
  | _ => none }
def RatioOrdersWrongFalsely : Prop := ratioOrdersRow.holds Try.pinned (OpenSpec.ofChange ratioOrdersWrong)

/-- 'cavillaw08.RatioStays': WHATEVER THE INPUT: true; the input reads as it did. -/
def ratioStaysSpec : ChangeSpec := { name := "ratioStays", fn := fun _ => fun
  | [d1, d2] => { results := [.lit (.bool true)], args := [d1, d2] }
  | _ => none }
def ratioStaysRow : OpenClaim := { program := "ytbbakacfhajohaa", sum := "ac24224b5f81c40f65026a203066ca7751e13060afbf14199f3dac95360c3e5a", func := "cavil/cavillaw08.RatioStays", spec := "ratioStays", inPlace := ["math/bits.Sub64", "math/bits.Add64", "internal/reflectlite.TypeOf"], unfollowed := true, recurses := true, named := ["math/bits.divideError", "math/bits.overflowError"], apart := false }
def RatioStaysSaid : Prop := ratioStaysRow.holds Try.pinned (OpenSpec.ofChange ratioStaysSpec)

/-- ITS FALSE NEIGHBOUR: 'it returns false'. Refute it at one input. -/
def ratioStaysWrong : ChangeSpec := { name := "ratioStays", fn := fun _ => fun
  | [d1, d2] => { results := [.lit (.bool false)], args := [d1, d2] }
  | _ => none }
def RatioStaysWrongFalsely : Prop := ratioStaysRow.holds Try.pinned (OpenSpec.ofChange ratioStaysWrong)

/-- 'cavillaw08.RatioSums': WHATEVER THE INPUT: true; the input reads as it did. -/
def ratioSumsSpec : ChangeSpec := { name := "ratioSums", fn := fun _ => fun
  | [d1, d2] => { results := [.lit (.bool true)], args := [d1, d2] }
  | _ => none }
def ratioSumsRow : OpenClaim := { program := "ytbbakacfhajohaa", sum := "ac24224b5f81c40f65026a203066ca7751e13060afbf14199f3dac95360c3e5a", func := "cavil/cavillaw08.RatioSums", spec := "ratioSums", inPlace := ["math/bits.Sub64", "math/bits.Add64", "internal/reflectlite.TypeOf"], unfollowed := true, recurses := true, named := ["math/bits.divideError", "math/bits.overflowError"], apart := false }
def RatioSumsSaid : Prop := ratioSumsRow.holds Try.pinned (OpenSpec.ofChange ratioSumsSpec)

/-- ITS FALSE NEIGHBOUR: 'it returns false'. Refute it at one input. -/
def ratioSumsWrong : ChangeSpec := { name := "ratioSums", fn := fun _ => fun
  | [d1, d2] => { results := [.lit (.bool false)], args := [d1, d2] }
  | _ => none }
def RatioSumsWrongFalsely : Prop := ratioSumsRow.holds Try.pinned (OpenSpec.ofChange ratioSumsWrong)

/-- 'cavillaw08.RatioScales': WHATEVER THE INPUT: true; the input reads as it did. -/
def ratioScalesSpec : ChangeSpec := { name := "ratioScales", fn := fun _ => fun
  | [d1, d2, d3] => { results := [.lit (.bool true)], args := [d1, d2, d3] }
  | _ => none }
def ratioScalesRow : OpenClaim := { program := "ytbbakacfhajohaa", sum := "ac24224b5f81c40f65026a203066ca7751e13060afbf14199f3dac95360c3e5a", func := "cavil/cavillaw08.RatioScales", spec := "ratioScales", inPlace := ["math/bits.Sub64", "math/bits.Add64", "internal/reflectlite.TypeOf"], unfollowed := true, recurses := true, named := ["math/bits.divideError", "math/bits.overflowError"], apart := false }
def RatioScalesSaid : Prop := ratioScalesRow.holds Try.pinned (OpenSpec.ofChange ratioScalesSpec)

/-- ITS FALSE NEIGHBOUR: 'it returns false'. Refute it at one input. -/
def ratioScalesWrong : ChangeSpec := { name := "ratioScales", fn := fun _ => fun
  | [d1, d2, d3] => { results := [.lit (.bool false)], args := [d1, d2, d3] }
  | _ => none }
def RatioScalesWrongFalsely : Prop := ratioScalesRow.holds Try.pinned (OpenSpec.ofChange ratioScalesWrong)

/-- 'cavillaw12.KonstTurns': WHATEVER THE INPUT: true; the input reads as it did. -/
def konstTurnsSpec : ChangeSpec := { name := "konstTurns", fn := fun _ => fun
  | [d1, d2, d3] => { results := [.lit (.bool true)], args := [d1, d2, d3] }
  | _ => none }
def konstTurnsRow : OpenClaim := { program := "ytbbakacfhajohaa", sum := "ac24224b5f81c40f65026a203066ca7751e13060afbf14199f3dac95360c3e5a", func := "cavil/cavillaw12.KonstTurns", spec := "konstTurns", inPlace := ["math/bits.Sub64", "math/bits.Add64", "internal/reflectlite.TypeOf", "internal/bytealg.abigen_runtime_cmpstring"], unfollowed := true, recurses := true, named := ["math/bits.divideError", "math/bits.overflowError"], apart := false }
def KonstTurnsSaid : Prop := konstTurnsRow.holds Try.pinned (OpenSpec.ofChange konstTurnsSpec)

/-- ITS FALSE NEIGHBOUR: 'it returns false'. Refute it at one input. -/
def konstTurnsWrong : ChangeSpec := { name := "konstTurns", fn := fun _ => fun
  | [d1, d2, d3] => { results := [.lit (.bool false)], args := [d1, d2, d3] }
  | _ => none }
def KonstTurnsWrongFalsely : Prop := konstTurnsRow.holds Try.pinned (OpenSpec.ofChange konstTurnsWrong)

/- THE SECOND FORM. 'bulk': how many values and letters a reading holds, each counted each time it is reached (what is shared counts as often as it is met; a slice's spare places count too). A statement '..UptoSaid' is the law's where the arguments, and the package variables that the reading takes, are together of bulk at most 1048576: NARROWER than '..Said'. Prove '..Said' where nothing that the law and all that it calls make is longer than what came in: it says more and counts as full. Else prove '..UptoSaid'. A law counts once. -/
mutual
def uptoBulk {H : Type} : DataW H → Nat
  | .lit (.string bytes) => bytes.length + 1
  | .lit _ => 1
  | .nil => 1
  | .ptr d => uptoBulk d + 1
  | .slice elems spare => uptoBulkAll elems + uptoBulkAll spare + 1
  | .agg parts => uptoBulkAll parts + 1
  | .iface _ d => uptoBulk d + 1
  | .map entries => uptoBulkEntries entries + 1
  | .held _ => 1
def uptoBulkAll {H : Type} : List (DataW H) → Nat
  | [] => 0
  | d :: r => uptoBulk d + uptoBulkAll r
def uptoBulkEntries {H : Type} : List (Lit × DataW H) → Nat
  | [] => 0
  | x :: r => uptoBulkEntry x + uptoBulkEntries r
def uptoBulkEntry {H : Type} : Lit × DataW H → Nat
  | (.string bytes, d) => bytes.length + uptoBulk d + 1
  | (_, d) => uptoBulk d + 1
 end
def uptoSmall : (H : Type) → List (DataW H) → Bool := fun _ ds => decide (uptoBulkAll ds ≤ 1048576)
def OpenSpec.upto (s : _root_.Go.ChangeSpec) : _root_.Go.OpenSpec := { _root_.Go.OpenSpec.ofChange s with cond := some uptoSmall }

/-- 'cavillaw07.LimbLaws', WHERE WHAT IT READS IS OF BULK AT MOST 1048576: true; the input reads as it did. -/
def limbLawsUptoRow : OpenClaim := { program := "ytbbakacfhajohaa", sum := "ac24224b5f81c40f65026a203066ca7751e13060afbf14199f3dac95360c3e5a", func := "cavil/cavillaw07.LimbLaws", spec := "limbLaws", inPlace := ["math/bits.Sub64", "math/bits.Add64"], unfollowed := true, recurses := true, named := ["math/bits.divideError", "math/bits.overflowError"], apart := false, narrowed := true }
def LimbLawsUptoSaid : Prop := limbLawsUptoRow.holds Try.pinned (OpenSpec.upto limbLawsSpec)

/-- 'cavillaw07.LimbParts', WHERE WHAT IT READS IS OF BULK AT MOST 1048576: true; the input reads as it did. -/
def limbPartsUptoRow : OpenClaim := { program := "ytbbakacfhajohaa", sum := "ac24224b5f81c40f65026a203066ca7751e13060afbf14199f3dac95360c3e5a", func := "cavil/cavillaw07.LimbParts", spec := "limbParts", inPlace := ["math/bits.Sub64", "internal/reflectlite.TypeOf", "math/bits.Add64"], unfollowed := true, recurses := true, named := ["math/bits.divideError", "math/bits.overflowError"], apart := false, narrowed := true }
def LimbPartsUptoSaid : Prop := limbPartsUptoRow.holds Try.pinned (OpenSpec.upto limbPartsSpec)

/-- 'cavillaw07.LimbBits', WHERE WHAT IT READS IS OF BULK AT MOST 1048576: true; the input reads as it did. -/
def limbBitsUptoRow : OpenClaim := { program := "ytbbakacfhajohaa", sum := "ac24224b5f81c40f65026a203066ca7751e13060afbf14199f3dac95360c3e5a", func := "cavil/cavillaw07.LimbBits", spec := "limbBits", inPlace := ["math/bits.Add64", "internal/reflectlite.TypeOf", "math/bits.Sub64"], unfollowed := true, recurses := true, named := ["math/bits.divideError", "math/bits.overflowError"], apart := false, narrowed := true }
def LimbBitsUptoSaid : Prop := limbBitsUptoRow.holds Try.pinned (OpenSpec.upto limbBitsSpec)

/-- 'cavillaw07.LimbShifts', WHERE WHAT IT READS IS OF BULK AT MOST 1048576: true; the input reads as it did. -/
def limbShiftsUptoRow : OpenClaim := { program := "ytbbakacfhajohaa", sum := "ac24224b5f81c40f65026a203066ca7751e13060afbf14199f3dac95360c3e5a", func := "cavil/cavillaw07.LimbShifts", spec := "limbShifts", inPlace := ["math/bits.Add64", "internal/reflectlite.TypeOf", "math/bits.Sub64"], unfollowed := true, recurses := true, named := ["math/bits.divideError", "math/bits.overflowError"], apart := false, narrowed := true }
def LimbShiftsUptoSaid : Prop := limbShiftsUptoRow.holds Try.pinned (OpenSpec.upto limbShiftsSpec)

/-- 'cavillaw07.LimbTells', WHERE WHAT IT READS IS OF BULK AT MOST 1048576: true; the input reads as it did. -/
def limbTellsUptoRow : OpenClaim := { program := "ytbbakacfhajohaa", sum := "ac24224b5f81c40f65026a203066ca7751e13060afbf14199f3dac95360c3e5a", func := "cavil/cavillaw07.LimbTells", spec := "limbTells", inPlace := ["internal/reflectlite.TypeOf", "math/bits.Sub64", "math/bits.Add64"], unfollowed := true, recurses := true, named := ["math/bits.divideError", "math/bits.overflowError"], apart := false, narrowed := true }
def LimbTellsUptoSaid : Prop := limbTellsUptoRow.holds Try.pinned (OpenSpec.upto limbTellsSpec)

/-- 'cavillaw07.LimbReads', WHERE WHAT IT READS IS OF BULK AT MOST 1048576: true; the input reads as it did. -/
def limbReadsUptoRow : OpenClaim := { program := "ytbbakacfhajohaa", sum := "ac24224b5f81c40f65026a203066ca7751e13060afbf14199f3dac95360c3e5a", func := "cavil/cavillaw07.LimbReads", spec := "limbReads", inPlace := ["math/bits.Add64", "math/bits.Sub64"], unfollowed := true, recurses := true, named := ["math/bits.divideError", "math/bits.overflowError"], apart := false, narrowed := true }
def LimbReadsUptoSaid : Prop := limbReadsUptoRow.holds Try.pinned (OpenSpec.upto limbReadsSpec)

/-- 'cavillaw07.LimbSums', WHERE WHAT IT READS IS OF BULK AT MOST 1048576: true; the input reads as it did. -/
def limbSumsUptoRow : OpenClaim := { program := "ytbbakacfhajohaa", sum := "ac24224b5f81c40f65026a203066ca7751e13060afbf14199f3dac95360c3e5a", func := "cavil/cavillaw07.LimbSums", spec := "limbSums", inPlace := ["math/bits.Add64", "math/bits.Sub64", "internal/reflectlite.TypeOf"], unfollowed := true, recurses := true, named := ["math/bits.divideError", "math/bits.overflowError"], apart := false, narrowed := true }
def LimbSumsUptoSaid : Prop := limbSumsUptoRow.holds Try.pinned (OpenSpec.upto limbSumsSpec)

/-- 'cavillaw08.RatioMakes', WHERE WHAT IT READS IS OF BULK AT MOST 1048576: true; the input reads as it did. -/
def ratioMakesUptoRow : OpenClaim := { program := "ytbbakacfhajohaa", sum := "ac24224b5f81c40f65026a203066ca7751e13060afbf14199f3dac95360c3e5a", func := "cavil/cavillaw08.RatioMakes", spec := "ratioMakes", inPlace := ["math/bits.Sub64", "internal/reflectlite.TypeOf", "math/bits.Add64"], unfollowed := true, recurses := true, named := ["math/bits.divideError", "math/bits.overflowError"], apart := false, narrowed := true }
def RatioMakesUptoSaid : Prop := ratioMakesUptoRow.holds Try.pinned (OpenSpec.upto ratioMakesSpec)

/-- 'cavillaw07.LimbParses', WHERE WHAT IT READS IS OF BULK AT MOST 1048576: true; the input reads as it did. -/
def limbParsesUptoRow : OpenClaim := { program := "ytbbakacfhajohaa", sum := "ac24224b5f81c40f65026a203066ca7751e13060afbf14199f3dac95360c3e5a", func := "cavil/cavillaw07.LimbParses", spec := "limbParses", inPlace := ["math/bits.Add64", "math/bits.Sub64", "internal/reflectlite.TypeOf"], unfollowed := true, recurses := true, named := ["math/bits.divideError", "math/bits.overflowError"], apart := false, narrowed := true }
def LimbParsesUptoSaid : Prop := limbParsesUptoRow.holds Try.pinned (OpenSpec.upto limbParsesSpec)

/-- 'cavillaw08.RatioOrders', WHERE WHAT IT READS IS OF BULK AT MOST 1048576: true; the input reads as it did. -/
def ratioOrdersUptoRow : OpenClaim := { program := "ytbbakacfhajohaa", sum := "ac24224b5f81c40f65026a203066ca7751e13060afbf14199f3dac95360c3e5a", func := "cavil/cavillaw08.RatioOrders", spec := "ratioOrders", inPlace := ["math/bits.Sub64", "math/bits.Add64", "internal/reflectlite.TypeOf"], unfollowed := true, recurses := true, named := ["math/bits.divideError", "math/bits.overflowError"], apart := false, narrowed := true }
def RatioOrdersUptoSaid : Prop := ratioOrdersUptoRow.holds Try.pinned (OpenSpec.upto ratioOrdersSpec)

/-- 'cavillaw08.RatioStays', WHERE WHAT IT READS IS OF BULK AT MOST 1048576: true; the input reads as it did. -/
def ratioStaysUptoRow : OpenClaim := { program := "ytbbakacfhajohaa", sum := "ac24224b5f81c40f65026a203066ca7751e13060afbf14199f3dac95360c3e5a", func := "cavil/cavillaw08.RatioStays", spec := "ratioStays", inPlace := ["math/bits.Sub64", "math/bits.Add64", "internal/reflectlite.TypeOf"], unfollowed := true, recurses := true, named := ["math/bits.divideError", "math/bits.overflowError"], apart := false, narrowed := true }
def RatioStaysUptoSaid : Prop := ratioStaysUptoRow.holds Try.pinned (OpenSpec.upto ratioStaysSpec)

/-- 'cavillaw08.RatioSums', WHERE WHAT IT READS IS OF BULK AT MOST 1048576: true; the input reads as it did. -/
def ratioSumsUptoRow : OpenClaim := { program := "ytbbakacfhajohaa", sum := "ac24224b5f81c40f65026a203066ca7751e13060afbf14199f3dac95360c3e5a", func := "cavil/cavillaw08.RatioSums", spec := "ratioSums", inPlace := ["math/bits.Sub64", "math/bits.Add64", "internal/reflectlite.TypeOf"], unfollowed := true, recurses := true, named := ["math/bits.divideError", "math/bits.overflowError"], apart := false, narrowed := true }
def RatioSumsUptoSaid : Prop := ratioSumsUptoRow.holds Try.pinned (OpenSpec.upto ratioSumsSpec)

/-- 'cavillaw08.RatioScales', WHERE WHAT IT READS IS OF BULK AT MOST 1048576: true; the input reads as it did. -/
def ratioScalesUptoRow : OpenClaim := { program := "ytbbakacfhajohaa", sum := "ac24224b5f81c40f65026a203066ca7751e13060afbf14199f3dac95360c3e5a", func := "cavil/cavillaw08.RatioScales", spec := "ratioScales", inPlace := ["math/bits.Sub64", "math/bits.Add64", "internal/reflectlite.TypeOf"], unfollowed := true, recurses := true, named := ["math/bits.divideError", "math/bits.overflowError"], apart := false, narrowed := true }
def RatioScalesUptoSaid : Prop := ratioScalesUptoRow.holds Try.pinned (OpenSpec.upto ratioScalesSpec)

/-- 'cavillaw12.KonstTurns', WHERE WHAT IT READS IS OF BULK AT MOST 1048576: true; the input reads as it did. -/
def konstTurnsUptoRow : OpenClaim := { program := "ytbbakacfhajohaa", sum := "ac24224b5f81c40f65026a203066ca7751e13060afbf14199f3dac95360c3e5a", func := "cavil/cavillaw12.KonstTurns", spec := "konstTurns", inPlace := ["math/bits.Sub64", "math/bits.Add64", "internal/reflectlite.TypeOf", "internal/bytealg.abigen_runtime_cmpstring"], unfollowed := true, recurses := true, named := ["math/bits.divideError", "math/bits.overflowError"], apart := false, narrowed := true }
def KonstTurnsUptoSaid : Prop := konstTurnsUptoRow.holds Try.pinned (OpenSpec.upto konstTurnsSpec)

end Rows
end Go.Proofs.Ytbbakacfhajohaa
