/-
  No cell of these rows narrows 'for every input' (looked for: loops, veiled, ifaces, maps, wideKeys, modest, calm, conditions, laid).
  DERIVED. THE GIVEN ROWS OF THIS SEAT. 4 by the template 'for every input the law returns true; each argument reads behind the call as it read before'; 0 by the template 'total and deterministic' (their statements: YtemoagpahhdoeaaTotals.lean).
  GIVEN WITH THE SEED: the statements are not yours to turn. If you find one false, say at which input.
  Laid BY PROGRAM, IN A SANDBOX (cutbox-rows.mjs): the forced cells as the released guide's own fill.sh prints them over the translation fdab981a58505d24… (all of the seat's roots in one cut). By AI agents, Wed Nov 11 2026. No macro, syntax, notation, axiom, sorry.
-/
import Derived.Test.YtemoagpahhdoeaaChecked
import GoSem.Claim
import GoSem.ClaimJoined
import GoSem.ClaimMapViews
import Derived.JoinedTies
import Derived.KernelRfl
namespace Go.Proofs.Ytemoagpahhdoeaa
/- THE CELL 'sum', in the pinned program and in every row, IS THE sha256 OF THE DUMP (.gsa) THAT YtemoagpahhdoeaaProg.lean LOADS. Nothing in Lean hashes anything: it is a label: what it is worth is what the hold of that sum in a sandbox is worth. -/
noncomputable def Try.pinned : Pinned := { name := "ytemoagpahhdoeaa", sum := "fdab981a58505d2475b55edf82bb55d48d5aadbd5b3464222cd2657a0cac2300", checked := Try.checked }
namespace Rows
def none {H : Type} : Left H := { results := [], args := [] }

/-- 'gazetteerlaw09.KeyFair': WHATEVER THE INPUT: true; the input reads as it did. -/
def keyFairSpec : ChangeSpec := { name := "keyFair", fn := fun _ => fun
  | [d] => { results := [.lit (.bool true)], args := [d] }
  | _ => none }
def keyFairRow : OpenClaim := { program := "ytemoagpahhdoeaa", sum := "fdab981a58505d2475b55edf82bb55d48d5aadbd5b3464222cd2657a0cac2300", func := "gazetteer/gazetteerlaw09.KeyFair", spec := "keyFair", unfollowed := true, recurses := true, apart := false }
def KeyFairSaid : Prop := keyFairRow.holds Try.pinned (OpenSpec.ofChange keyFairSpec)

/-- ITS FALSE NEIGHBOUR: 'it returns false'. Refute it at one input. -/
def keyFairWrong : ChangeSpec := { name := "keyFair", fn := fun _ => fun
  | [d] => { results := [.lit (.bool false)], args := [d] }
  | _ => none }
def KeyFairWrongFalsely : Prop := keyFairRow.holds Try.pinned (OpenSpec.ofChange keyFairWrong)

/-- 'gazetteerlaw09.KeyMeets': WHATEVER THE INPUT: true; the input reads as it did. -/
def keyMeetsSpec : ChangeSpec := { name := "keyMeets", fn := fun _ => fun
  | [d1, d2, d3] => { results := [.lit (.bool true)], args := [d1, d2, d3] }
  | _ => none }
def keyMeetsRow : OpenClaim := { program := "ytemoagpahhdoeaa", sum := "fdab981a58505d2475b55edf82bb55d48d5aadbd5b3464222cd2657a0cac2300", func := "gazetteer/gazetteerlaw09.KeyMeets", spec := "keyMeets", unfollowed := true, recurses := true, apart := false }
def KeyMeetsSaid : Prop := keyMeetsRow.holds Try.pinned (OpenSpec.ofChange keyMeetsSpec)

/-- ITS FALSE NEIGHBOUR: 'it returns false'. Refute it at one input. -/
def keyMeetsWrong : ChangeSpec := { name := "keyMeets", fn := fun _ => fun
  | [d1, d2, d3] => { results := [.lit (.bool false)], args := [d1, d2, d3] }
  | _ => none }
def KeyMeetsWrongFalsely : Prop := keyMeetsRow.holds Try.pinned (OpenSpec.ofChange keyMeetsWrong)

/-- 'gazetteerlaw09.KeyGrows': WHATEVER THE INPUT: true; the input reads as it did. -/
def keyGrowsSpec : ChangeSpec := { name := "keyGrows", fn := fun _ => fun
  | [d1, d2, d3] => { results := [.lit (.bool true)], args := [d1, d2, d3] }
  | _ => none }
def keyGrowsRow : OpenClaim := { program := "ytemoagpahhdoeaa", sum := "fdab981a58505d2475b55edf82bb55d48d5aadbd5b3464222cd2657a0cac2300", func := "gazetteer/gazetteerlaw09.KeyGrows", spec := "keyGrows", unfollowed := true, recurses := true, apart := false }
def KeyGrowsSaid : Prop := keyGrowsRow.holds Try.pinned (OpenSpec.ofChange keyGrowsSpec)

/-- ITS FALSE NEIGHBOUR: 'it returns false'. Refute it at one input. -/
def keyGrowsWrong : ChangeSpec := { name := "keyGrows", fn := fun _ => fun
  | [d1, d2, d3] => { results := [.lit (.bool false)], args := [d1, d2, d3] }
  | _ => none }
def KeyGrowsWrongFalsely : Prop := keyGrowsRow.holds Try.pinned (OpenSpec.ofChange keyGrowsWrong)

/-- 'gazetteerlaw09.KeyUnion': WHATEVER THE INPUT: true; the input reads as it did. -/
def keyUnionSpec : ChangeSpec := { name := "keyUnion", fn := fun _ => fun
  | [d1, d2, d3] => { results := [.lit (.bool true)], args := [d1, d2, d3] }
  | _ => none }
def keyUnionRow : OpenClaim := { program := "ytemoagpahhdoeaa", sum := "fdab981a58505d2475b55edf82bb55d48d5aadbd5b3464222cd2657a0cac2300", func := "gazetteer/gazetteerlaw09.KeyUnion", spec := "keyUnion", unfollowed := true, recurses := true, apart := false }
def KeyUnionSaid : Prop := keyUnionRow.holds Try.pinned (OpenSpec.ofChange keyUnionSpec)

/-- ITS FALSE NEIGHBOUR: 'it returns false'. Refute it at one input. -/
def keyUnionWrong : ChangeSpec := { name := "keyUnion", fn := fun _ => fun
  | [d1, d2, d3] => { results := [.lit (.bool false)], args := [d1, d2, d3] }
  | _ => none }
def KeyUnionWrongFalsely : Prop := keyUnionRow.holds Try.pinned (OpenSpec.ofChange keyUnionWrong)

/- THE SECOND FORM. 'bulk': how many values and letters a reading holds, each counted each time it is reached (what is shared counts as often as it is met; a slice's spare places count too). A statement '..UptoSaid' is the law's where the arguments, and the package variables that the reading takes, are together of bulk at most 1048576: NARROWER than '..Said'. Prove '..Said' where nothing that the law and all that it calls make is longer than what came in: it says more and counts as full. Else prove '..UptoSaid'. A law counts once. -/
mutual
def uptoBulk {H : Type} : DataW H → Nat
  | .lit (.string bytes) => bytes.length + 1
  | .lit _ => 1
  | .nil => 1
  | .ptr d => uptoBulk d + 1
  | .slice elems spare => uptoBulkAll elems + uptoBulkAll spare + 1
  | .agg parts => uptoBulkAll parts + 1
  | .iface _ d => uptoBulk d + 1
  | .map entries => uptoBulkEntries entries + 1
  | .held _ => 1
def uptoBulkAll {H : Type} : List (DataW H) → Nat
  | [] => 0
  | d :: r => uptoBulk d + uptoBulkAll r
def uptoBulkEntries {H : Type} : List (Lit × DataW H) → Nat
  | [] => 0
  | x :: r => uptoBulkEntry x + uptoBulkEntries r
def uptoBulkEntry {H : Type} : Lit × DataW H → Nat
  | (.string bytes, d) => bytes.length + uptoBulk d + 1
  | (_, d) => uptoBulk d + 1
 end
def uptoSmall : (H : Type) → List (DataW H) → Bool := fun _ ds => decide (uptoBulkAll ds ≤ 1048576)
def OpenSpec.upto (s : _root_.Go.ChangeSpec) : _root_.Go.OpenSpec := { _root_.Go.OpenSpec.ofChange s with cond := some uptoSmall }

/-- 'gazetteerlaw09.KeyFair', WHERE WHAT IT READS IS OF BULK AT MOST 1048576: true; the input reads as it did. -/
def keyFairUptoRow : OpenClaim := { program := "ytemoagpahhdoeaa", sum := "fdab981a58505d2475b55edf82bb55d48d5aadbd5b3464222cd2657a0cac2300", func := "gazetteer/gazetteerlaw09.KeyFair", spec := "keyFair", unfollowed := true, recurses := true, apart := false, narrowed := true }
def KeyFairUptoSaid : Prop := keyFairUptoRow.holds Try.pinned (OpenSpec.upto keyFairSpec)

/-- 'gazetteerlaw09.KeyMeets', WHERE WHAT IT READS IS OF BULK AT MOST 1048576: true; the input reads as it did. -/
def keyMeetsUptoRow : OpenClaim := { program := "ytemoagpahhdoeaa", sum := "fdab981a58505d2475b55edf82bb55d48d5aadbd5b3464222cd2657a0cac2300", func := "gazetteer/gazetteerlaw09.KeyMeets", spec := "keyMeets", unfollowed := true, recurses := true, apart := false, narrowed := true }
def KeyMeetsUptoSaid : Prop := keyMeetsUptoRow.holds Try.pinned (OpenSpec.upto keyMeetsSpec)

/-- 'gazetteerlaw09.KeyGrows', WHERE WHAT IT READS IS OF BULK AT MOST 1048576: true; the input reads as it did. -/
def keyGrowsUptoRow : OpenClaim := { program := "ytemoagpahhdoeaa", sum := "fdab981a58505d2475b55edf82bb55d48d5aadbd5b3464222cd2657a0cac2300", func := "gazetteer/gazetteerlaw09.KeyGrows", spec := "keyGrows", unfollowed := true, recurses := true, apart := false, narrowed := true }
def KeyGrowsUptoSaid : Prop := keyGrowsUptoRow.holds Try.pinned (OpenSpec.upto keyGrowsSpec)

/-- 'gazetteerlaw09.KeyUnion', WHERE WHAT IT READS IS OF BULK AT MOST 1048576: true; the input reads as it did. -/
def keyUnionUptoRow : OpenClaim := { program := "ytemoagpahhdoeaa", sum := "fdab981a58505d2475b55edf82bb55d48d5aadbd5b3464222cd2657a0cac2300", func := "gazetteer/gazetteerlaw09.KeyUnion", spec := "keyUnion", unfollowed := true, recurses := true, apart := false, narrowed := true }
def KeyUnionUptoSaid : Prop := keyUnionUptoRow.holds Try.pinned (OpenSpec.upto keyUnionSpec)

end Rows
end Go.Proofs.Ytemoagpahhdoeaa
