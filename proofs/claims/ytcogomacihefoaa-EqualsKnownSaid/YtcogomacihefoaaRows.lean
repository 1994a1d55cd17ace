/-
  No cell of these rows narrows 'for every input' (looked for: loops, veiled, ifaces, maps, wideKeys, modest, calm, conditions, laid).
  DERIVED. THE GIVEN ROWS OF THIS SEAT. 3 by the template 'for every input the law returns true; each argument reads behind the call as it read before'; 0 by the template 'total and deterministic' (their statements: YtcogomacihefoaaTotals.lean).
  GIVEN WITH THE SEED: the statements are not yours to turn. If you find one false, say at which input.
  Laid BY PROGRAM, IN A SANDBOX (cutbox-rows.mjs): the forced cells as the released guide's own fill.sh prints them over the translation 1ca8b20696163875… (all of the seat's roots in one cut). By AI agents, Wed Nov 11 2026. No macro, syntax, notation, axiom, sorry.
-/
import Derived.Test.YtcogomacihefoaaChecked
import GoSem.Claim
import GoSem.ClaimJoined
import GoSem.ClaimMapViews
import Derived.JoinedTies
import Derived.KernelRfl
namespace Go.Proofs.Ytcogomacihefoaa
/- THE CELL 'sum', in the pinned program and in every row, IS THE sha256 OF THE DUMP (.gsa) THAT YtcogomacihefoaaProg.lean LOADS. Nothing in Lean hashes anything: it is a label: what it is worth is what the hold of that sum in a sandbox is worth. -/
noncomputable def Try.pinned : Pinned := { name := "ytcogomacihefoaa", sum := "1ca8b20696163875113f3dc68c21ca72d550a82dfebf2b7c37c60da583b6f65f", checked := Try.checked }
namespace Rows
def none {H : Type} : Left H := { results := [], args := [] }

/-- 'gauntletlaw18.GapsGap': WHATEVER THE INPUT: true; the input reads as it did. -/
def gapsGapSpec : ChangeSpec := { name := "gapsGap", fn := fun _ => fun
  | [d1, d2, d3] => { results := [.lit (.bool true)], args := [d1, d2, d3] }
  | _ => none }
def gapsGapRow : OpenClaim := { program := "ytcogomacihefoaa", sum := "1ca8b20696163875113f3dc68c21ca72d550a82dfebf2b7c37c60da583b6f65f", func := "gauntlet/gauntletlaw18.GapsGap", spec := "gapsGap", unfollowed := true, recurses := true, plainKeys := false, apart := false }
def GapsGapSaid : Prop := gapsGapRow.holds Try.pinned (OpenSpec.ofChange gapsGapSpec)

/-- ITS FALSE NEIGHBOUR: 'it returns false'. Refute it at one input. -/
def gapsGapWrong : ChangeSpec := { name := "gapsGap", fn := fun _ => fun
  | [d1, d2, d3] => { results := [.lit (.bool false)], args := [d1, d2, d3] }
  | _ => none }
def GapsGapWrongFalsely : Prop := gapsGapRow.holds Try.pinned (OpenSpec.ofChange gapsGapWrong)

/-- 'gauntletlaw10.EqualsEqual': WHATEVER THE INPUT: true; the input reads as it did. -/
def equalsEqualSpec : ChangeSpec := { name := "equalsEqual", fn := fun _ => fun
  | [d1, d2] => { results := [.lit (.bool true)], args := [d1, d2] }
  | _ => none }
def equalsEqualRow : OpenClaim := { program := "ytcogomacihefoaa", sum := "1ca8b20696163875113f3dc68c21ca72d550a82dfebf2b7c37c60da583b6f65f", func := "gauntlet/gauntletlaw10.EqualsEqual", spec := "equalsEqual", unfollowed := true, recurses := true, plainKeys := false, apart := false }
def EqualsEqualSaid : Prop := equalsEqualRow.holds Try.pinned (OpenSpec.ofChange equalsEqualSpec)

/-- ITS FALSE NEIGHBOUR: 'it returns false'. Refute it at one input. -/
def equalsEqualWrong : ChangeSpec := { name := "equalsEqual", fn := fun _ => fun
  | [d1, d2] => { results := [.lit (.bool false)], args := [d1, d2] }
  | _ => none }
def EqualsEqualWrongFalsely : Prop := equalsEqualRow.holds Try.pinned (OpenSpec.ofChange equalsEqualWrong)

/-- 'gauntletlaw10.EqualsKnown': WHATEVER THE INPUT: true; the input reads as it did. -/
def equalsKnownSpec : ChangeSpec := { name := "equalsKnown", fn := fun _ => fun
  | [] => { results := [.lit (.bool true)], args := [] }
  | _ => none }
def equalsKnownRow : OpenClaim := { program := "ytcogomacihefoaa", sum := "1ca8b20696163875113f3dc68c21ca72d550a82dfebf2b7c37c60da583b6f65f", func := "gauntlet/gauntletlaw10.EqualsKnown", spec := "equalsKnown", unfollowed := true, recurses := true, plainKeys := false, apart := false }
def EqualsKnownSaid : Prop := equalsKnownRow.holds Try.pinned (OpenSpec.ofChange equalsKnownSpec)

/-- ITS FALSE NEIGHBOUR: 'it returns false'. Refute it at one input. -/
def equalsKnownWrong : ChangeSpec := { name := "equalsKnown", fn := fun _ => fun
  | [] => { results := [.lit (.bool false)], args := [] }
  | _ => none }
def EqualsKnownWrongFalsely : Prop := equalsKnownRow.holds Try.pinned (OpenSpec.ofChange equalsKnownWrong)

/- THE SECOND FORM. 'bulk': how many values and letters a reading holds, each counted each time it is reached (what is shared counts as often as it is met; a slice's spare places count too). A statement '..UptoSaid' is the law's where the arguments, and the package variables that the reading takes, are together of bulk at most 1048576: NARROWER than '..Said'. Prove '..Said' where nothing that the law and all that it calls make is longer than what came in: it says more and counts as full. Else prove '..UptoSaid'. A law counts once. -/
mutual
def uptoBulk {H : Type} : DataW H → Nat
  | .lit (.string bytes) => bytes.length + 1
  | .lit _ => 1
  | .nil => 1
  | .ptr d => uptoBulk d + 1
  | .slice elems spare => uptoBulkAll elems + uptoBulkAll spare + 1
  | .agg parts => uptoBulkAll parts + 1
  | .iface _ d => uptoBulk d + 1
  | .map entries => uptoBulkEntries entries + 1
  | .held _ => 1
def uptoBulkAll {H : Type} : List (DataW H) → Nat
  | [] => 0
  | d :: r => uptoBulk d + uptoBulkAll r
def uptoBulkEntries {H : Type} : List (Lit × DataW H) → Nat
  | [] => 0
  | x :: r => uptoBulkEntry x + uptoBulkEntries r
def uptoBulkEntry {H : Type} : Lit × DataW H → Nat
  | (.string bytes, d) => bytes.length + uptoBulk d + 1
  | (_, d) => uptoBulk d + 1
 end
def uptoSmall : (H : Type) → List (DataW H) → Bool := fun _ ds => decide (uptoBulkAll ds ≤ 1048576)
def OpenSpec.upto (s : _root_.Go.ChangeSpec) : _root_.Go.OpenSpec := { _root_.Go.OpenSpec.ofChange s with cond := some uptoSmall }

/-- 'gauntletlaw18.GapsGap', WHERE WHAT IT READS IS OF BULK AT MOST 1048576: true; the input reads as it did. -/
def gapsGapUptoRow : OpenClaim := { program := "ytcogomacihefoaa", sum := "1ca8b20696163875113f3dc68c21ca72d550a82dfebf2b7c37c60da583b6f65f", func := "gauntlet/gauntletlaw18.GapsGap", spec := "gapsGap", unfollowed := true, recurses := true, plainKeys := false, apart := false, narrowed := true }
def GapsGapUptoSaid : Prop := gapsGapUptoRow.holds Try.pinned (OpenSpec.upto gapsGapSpec)

/-- 'gauntletlaw10.EqualsEqual', WHERE WHAT IT READS IS OF BULK AT MOST 1048576: true; the input reads as it did. -/
def equalsEqualUptoRow : OpenClaim := { program := "ytcogomacihefoaa", sum := "1ca8b20696163875113f3dc68c21ca72d550a82dfebf2b7c37c60da583b6f65f", func := "gauntlet/gauntletlaw10.EqualsEqual", spec := "equalsEqual", unfollowed := true, recurses := true, plainKeys := false, apart := false, narrowed := true }
def EqualsEqualUptoSaid : Prop := equalsEqualUptoRow.holds Try.pinned (OpenSpec.upto equalsEqualSpec)

/-- 'gauntletlaw10.EqualsKnown', WHERE WHAT IT READS IS OF BULK AT MOST 1048576: true; the input reads as it did. -/
def equalsKnownUptoRow : OpenClaim := { program := "ytcogomacihefoaa", sum := "1ca8b20696163875113f3dc68c21ca72d550a82dfebf2b7c37c60da583b6f65f", func := "gauntlet/gauntletlaw10.EqualsKnown", spec := "equalsKnown", unfollowed := true, recurses := true, plainKeys := false, apart := false, narrowed := true }
def EqualsKnownUptoSaid : Prop := equalsKnownUptoRow.holds Try.pinned (OpenSpec.upto equalsKnownSpec)

end Rows
end Go.Proofs.Ytcogomacihefoaa
