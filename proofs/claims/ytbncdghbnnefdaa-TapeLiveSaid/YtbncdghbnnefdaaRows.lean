/-
  No cell of these rows narrows 'for every input' (looked for: loops, veiled, ifaces, maps, wideKeys, modest, calm, conditions, laid).
  DERIVED. THE GIVEN ROWS OF THIS SEAT. 4 by the template 'for every input the law returns true; each argument reads behind the call as it read before'; 0 by the template 'total and deterministic' (their statements: YtbncdghbnnefdaaTotals.lean).
  GIVEN WITH THE SEED: the statements are not yours to turn. If you find one false, say at which input.
  Laid BY PROGRAM, IN A SANDBOX (cutbox-rows.mjs): the forced cells as the released guide's own fill.sh prints them over the translation 8f05d0ebc545792a… (all of the seat's roots in one cut). By AI agents, Wed Nov 11 2026. No macro, syntax, notation, axiom, sorry.
-/
import Derived.Test.YtbncdghbnnefdaaChecked
import GoSem.Claim
import GoSem.ClaimJoined
import GoSem.ClaimMapViews
import Derived.JoinedTies
import Derived.KernelRfl
namespace Go.Proofs.Ytbncdghbnnefdaa
/- THE CELL 'sum', in the pinned program and in every row, IS THE sha256 OF THE DUMP (.gsa) THAT YtbncdghbnnefdaaProg.lean LOADS. Nothing in Lean hashes anything: it is a label: what it is worth is what the hold of that sum in a sandbox is worth. -/
noncomputable def Try.pinned : Pinned := { name := "ytbncdghbnnefdaa", sum := "8f05d0ebc545792acd362161cba0fd02beff0b8b2453bfdd00880f4ef81e3a67", checked := Try.checked }
namespace Rows
def none {H : Type} : Left H := { results := [], args := [] }

/-- 'stepstonelaw17.TapeMay': WHATEVER THE INPUT: true; the input reads as it did. -/
def tapeMaySpec : ChangeSpec := { name := "tapeMay", fn := fun _ => fun
  | [d1, d2] => { results := [.lit (.bool true)], args := [d1, d2] }
  | _ => none }
def tapeMayRow : OpenClaim := { program := "ytbncdghbnnefdaa", sum := "8f05d0ebc545792acd362161cba0fd02beff0b8b2453bfdd00880f4ef81e3a67", func := "stepstone/stepstonelaw17.TapeMay", spec := "tapeMay", inPlace := ["math/bits.Add64", "math/bits.Sub64"], unfollowed := true, recurses := true, named := ["math/bits.divideError", "math/bits.overflowError"], plainKeys := false, apart := false }
def TapeMaySaid : Prop := tapeMayRow.holds Try.pinned (OpenSpec.ofChange tapeMaySpec)

/-- ITS FALSE NEIGHBOUR: 'it returns false'. Refute it at one input. -/
def tapeMayWrong : ChangeSpec := { name := "tapeMay", fn := fun _ => fun
  | [d1, d2] => { results := [.lit (.bool false)], args := [d1, d2] }
  | _ => none }
def TapeMayWrongFalsely : Prop := tapeMayRow.holds Try.pinned (OpenSpec.ofChange tapeMayWrong)

/-- 'stepstonelaw17.TapeNone': WHATEVER THE INPUT: true; the input reads as it did. -/
def tapeNoneSpec : ChangeSpec := { name := "tapeNone", fn := fun _ => fun
  | [d] => { results := [.lit (.bool true)], args := [d] }
  | _ => none }
def tapeNoneRow : OpenClaim := { program := "ytbncdghbnnefdaa", sum := "8f05d0ebc545792acd362161cba0fd02beff0b8b2453bfdd00880f4ef81e3a67", func := "stepstone/stepstonelaw17.TapeNone", spec := "tapeNone", inPlace := ["math/bits.Add64", "math/bits.Sub64"], unfollowed := true, recurses := true, named := ["math/bits.divideError", "math/bits.overflowError"], plainKeys := false, apart := false }
def TapeNoneSaid : Prop := tapeNoneRow.holds Try.pinned (OpenSpec.ofChange tapeNoneSpec)

/-- ITS FALSE NEIGHBOUR: 'it returns false'. Refute it at one input. -/
def tapeNoneWrong : ChangeSpec := { name := "tapeNone", fn := fun _ => fun
  | [d] => { results := [.lit (.bool false)], args := [d] }
  | _ => none }
def TapeNoneWrongFalsely : Prop := tapeNoneRow.holds Try.pinned (OpenSpec.ofChange tapeNoneWrong)

/-- 'stepstonelaw17.TapeOwn': WHATEVER THE INPUT: true; the input reads as it did. -/
def tapeOwnSpec : ChangeSpec := { name := "tapeOwn", fn := fun _ => fun
  | [d] => { results := [.lit (.bool true)], args := [d] }
  | _ => none }
def tapeOwnRow : OpenClaim := { program := "ytbncdghbnnefdaa", sum := "8f05d0ebc545792acd362161cba0fd02beff0b8b2453bfdd00880f4ef81e3a67", func := "stepstone/stepstonelaw17.TapeOwn", spec := "tapeOwn", inPlace := ["math/bits.Add64", "math/bits.Sub64"], unfollowed := true, recurses := true, named := ["math/bits.divideError", "math/bits.overflowError"], plainKeys := false, apart := false }
def TapeOwnSaid : Prop := tapeOwnRow.holds Try.pinned (OpenSpec.ofChange tapeOwnSpec)

/-- ITS FALSE NEIGHBOUR: 'it returns false'. Refute it at one input. -/
def tapeOwnWrong : ChangeSpec := { name := "tapeOwn", fn := fun _ => fun
  | [d] => { results := [.lit (.bool false)], args := [d] }
  | _ => none }
def TapeOwnWrongFalsely : Prop := tapeOwnRow.holds Try.pinned (OpenSpec.ofChange tapeOwnWrong)

/-- 'stepstonelaw17.TapeLive': WHATEVER THE INPUT: true; the input reads as it did. -/
def tapeLiveSpec : ChangeSpec := { name := "tapeLive", fn := fun _ => fun
  | [d] => { results := [.lit (.bool true)], args := [d] }
  | _ => none }
def tapeLiveRow : OpenClaim := { program := "ytbncdghbnnefdaa", sum := "8f05d0ebc545792acd362161cba0fd02beff0b8b2453bfdd00880f4ef81e3a67", func := "stepstone/stepstonelaw17.TapeLive", spec := "tapeLive", inPlace := ["math/bits.Add64", "math/bits.Sub64"], unfollowed := true, recurses := true, named := ["math/bits.divideError", "math/bits.overflowError"], plainKeys := false, apart := false }
def TapeLiveSaid : Prop := tapeLiveRow.holds Try.pinned (OpenSpec.ofChange tapeLiveSpec)

/-- ITS FALSE NEIGHBOUR: 'it returns false'. Refute it at one input. -/
def tapeLiveWrong : ChangeSpec := { name := "tapeLive", fn := fun _ => fun
  | [d] => { results := [.lit (.bool false)], args := [d] }
  | _ => none }
def TapeLiveWrongFalsely : Prop := tapeLiveRow.holds Try.pinned (OpenSpec.ofChange tapeLiveWrong)

/- THE SECOND FORM. 'bulk': how many values and letters a reading holds, each counted each time it is reached (what is shared counts as often as it is met; a slice's spare places count too). A statement '..UptoSaid' is the law's where the arguments, and the package variables that the reading takes, are together of bulk at most 1048576: NARROWER than '..Said'. Prove '..Said' where nothing that the law and all that it calls make is longer than what came in: it says more and counts as full. Else prove '..UptoSaid'. A law counts once. -/
mutual
def uptoBulk {H : Type} : DataW H → Nat
  | .lit (.string bytes) => bytes.length + 1
  | .lit _ => 1
  | .nil => 1
  | .ptr d => uptoBulk d + 1
  | .slice elems spare => uptoBulkAll elems + uptoBulkAll spare + 1
  | .agg parts => uptoBulkAll parts + 1
  | .iface _ d => uptoBulk d + 1
  | .map entries => uptoBulkEntries entries + 1
  | .held _ => 1
def uptoBulkAll {H : Type} : List (DataW H) → Nat
  | [] => 0
  | d :: r => uptoBulk d + uptoBulkAll r
def uptoBulkEntries {H : Type} : List (Lit × DataW H) → Nat
  | [] => 0
  | x :: r => uptoBulkEntry x + uptoBulkEntries r
def uptoBulkEntry {H : Type} : Lit × DataW H → Nat
  | (.string bytes, d) => bytes.length + uptoBulk d + 1
  | (_, d) => uptoBulk d + 1
 end
def uptoSmall : (H : Type) → List (DataW H) → Bool := fun _ ds => decide (uptoBulkAll ds ≤ 1048576)
def OpenSpec.upto (s : _root_.Go.ChangeSpec) : _root_.Go.OpenSpec := { _root_.Go.OpenSpec.ofChange s with cond := some uptoSmall }

/-- 'stepstonelaw17.TapeMay', WHERE WHAT IT READS IS OF BULK AT MOST 1048576: true; the input reads as it did. -/
def tapeMayUptoRow : OpenClaim := { program := "ytbncdghbnnefdaa", sum := "8f05d0ebc545792acd362161cba0fd02beff0b8b2453bfdd00880f4ef81e3a67", func := "stepstone/stepstonelaw17.TapeMay", spec := "tapeMay", inPlace := ["math/bits.Add64", "math/bits.Sub64"], unfollowed := true, recurses := true, named := ["math/bits.divideError", "math/bits.overflowError"], plainKeys := false, apart := false, narrowed := true }
def TapeMayUptoSaid : Prop := tapeMayUptoRow.holds Try.pinned (OpenSpec.upto tapeMaySpec)

/-- 'stepstonelaw17.TapeNone', WHERE WHAT IT READS IS OF BULK AT MOST 1048576: true; the input reads as it did. -/
def tapeNoneUptoRow : OpenClaim := { program := "ytbncdghbnnefdaa", sum := "8f05d0ebc545792acd362161cba0fd02beff0b8b2453bfdd00880f4ef81e3a67", func := "stepstone/stepstonelaw17.TapeNone", spec := "tapeNone", inPlace := ["math/bits.Add64", "math/bits.Sub64"], unfollowed := true, recurses := true, named := ["math/bits.divideError", "math/bits.overflowError"], plainKeys := false, apart := false, narrowed := true }
def TapeNoneUptoSaid : Prop := tapeNoneUptoRow.holds Try.pinned (OpenSpec.upto tapeNoneSpec)

/-- 'stepstonelaw17.TapeOwn', WHERE WHAT IT READS IS OF BULK AT MOST 1048576: true; the input reads as it did. -/
def tapeOwnUptoRow : OpenClaim := { program := "ytbncdghbnnefdaa", sum := "8f05d0ebc545792acd362161cba0fd02beff0b8b2453bfdd00880f4ef81e3a67", func := "stepstone/stepstonelaw17.TapeOwn", spec := "tapeOwn", inPlace := ["math/bits.Add64", "math/bits.Sub64"], unfollowed := true, recurses := true, named := ["math/bits.divideError", "math/bits.overflowError"], plainKeys := false, apart := false, narrowed := true }
def TapeOwnUptoSaid : Prop := tapeOwnUptoRow.holds Try.pinned (OpenSpec.upto tapeOwnSpec)

/-- 'stepstonelaw17.TapeLive', WHERE WHAT IT READS IS OF BULK AT MOST 1048576: true; the input reads as it did. -/
def tapeLiveUptoRow : OpenClaim := { program := "ytbncdghbnnefdaa", sum := "8f05d0ebc545792acd362161cba0fd02beff0b8b2453bfdd00880f4ef81e3a67", func := "stepstone/stepstonelaw17.TapeLive", spec := "tapeLive", inPlace := ["math/bits.Add64", "math/bits.Sub64"], unfollowed := true, recurses := true, named := ["math/bits.divideError", "math/bits.overflowError"], plainKeys := false, apart := false, narrowed := true }
def TapeLiveUptoSaid : Prop := tapeLiveUptoRow.holds Try.pinned (OpenSpec.upto tapeLiveSpec)

end Rows
end Go.Proofs.Ytbncdghbnnefdaa
