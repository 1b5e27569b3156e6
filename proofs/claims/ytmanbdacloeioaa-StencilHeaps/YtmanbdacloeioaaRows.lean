/-
  No cell of these rows narrows 'for every input' (looked for: loops, veiled, ifaces, maps, wideKeys, modest, calm, conditions, laid).
  DERIVED. THE GIVEN ROWS OF THIS SEAT. 10 by the template 'for every input the law returns true; each argument reads behind the call as it read before'; 0 by the template 'total and deterministic' (their statements: YtmanbdacloeioaaTotals.lean).
  GIVEN WITH THE SEED: the statements are not yours to turn. If you find one false, say at which input.
  Laid BY PROGRAM, IN A SANDBOX (cutbox-rows.mjs): the forced cells as the released guide's own fill.sh prints them over the translation 0d59df2330f21a23… (all of the seat's roots in one cut). By AI agents, Wed Nov 11 2026. No macro, syntax, notation, axiom, sorry.
-/
import Derived.Test.YtmanbdacloeioaaChecked
import GoSem.Claim
import GoSem.ClaimJoined
import GoSem.ClaimMapViews
import Derived.JoinedTies
import Derived.KernelRfl
namespace Go.Proofs.Ytmanbdacloeioaa
/- THE CELL 'sum', in the pinned program and in every row, IS THE sha256 OF THE DUMP (.gsa) THAT YtmanbdacloeioaaProg.lean LOADS. Nothing in Lean hashes anything: it is a label: what it is worth is what the hold of that sum in a sandbox is worth. -/
noncomputable def Try.pinned : Pinned := { name := "ytmanbdacloeioaa", sum := "0d59df2330f21a23b0e49c537323ca6f157d2905cd5a381b19374a07cf74ed8c", checked := Try.checked }
namespace Rows
def none {H : Type} : Left H := { results := [], args := [] }

/-- 'smaltolaw07.StencilMeans': WHATEVER THE INPUT: true; the input reads as it did. -/
def stencilMeansSpec : ChangeSpec := { name := "stencilMeans", fn := fun _ => fun
  | [d1, d2, d3] => { results := [.lit (.bool true)], args := [d1, d2, d3] }
  | _ => none }
def stencilMeansRow : OpenClaim := { program := "ytmanbdacloeioaa", sum := "0d59df2330f21a23b0e49c537323ca6f157d2905cd5a381b19374a07cf74ed8c", func := "smalto/smaltolaw07.StencilMeans", spec := "stencilMeans", unfollowed := true, recurses := true, plainKeys := false, apart := false }
def StencilMeansSaid : Prop := stencilMeansRow.holds Try.pinned (OpenSpec.ofChange stencilMeansSpec)

/-- ITS FALSE NEIGHBOUR: 'it returns false'. Refute it at one input. -/
def stencilMeansWrong : ChangeSpec := { name := "stencilMeans", fn := fun _ => fun
  | [d1, d2, d3] => { results := [.lit (.bool false)], args := [d1, d2, d3] }
  | _ => none }
def StencilMeansWrongFalsely : Prop := stencilMeansRow.holds Try.pinned (OpenSpec.ofChange stencilMeansWrong)

/-- 'smaltolaw07.StencilLays': WHATEVER THE INPUT: true; the input reads as it did. -/
def stencilLaysSpec : ChangeSpec := { name := "stencilLays", fn := fun _ => fun
  | [d1, d2, d3] => { results := [.lit (.bool true)], args := [d1, d2, d3] }
  | _ => none }
def stencilLaysRow : OpenClaim := { program := "ytmanbdacloeioaa", sum := "0d59df2330f21a23b0e49c537323ca6f157d2905cd5a381b19374a07cf74ed8c", func := "smalto/smaltolaw07.StencilLays", spec := "stencilLays", unfollowed := true, recurses := true, plainKeys := false, apart := false }
def StencilLaysSaid : Prop := stencilLaysRow.holds Try.pinned (OpenSpec.ofChange stencilLaysSpec)

/-- ITS FALSE NEIGHBOUR: 'it returns false'. Refute it at one input. -/
def stencilLaysWrong : ChangeSpec := { name := "stencilLays", fn := fun _ => fun
  | [d1, d2, d3] => { results := [.lit (.bool false)], args := [d1, d2, d3] }
  | _ => none }
def StencilLaysWrongFalsely : Prop := stencilLaysRow.holds Try.pinned (OpenSpec.ofChange stencilLaysWrong)

/-- 'smaltolaw07.StencilCuts': WHATEVER THE INPUT: true; the input reads as it did. -/
def stencilCutsSpec : ChangeSpec := { name := "stencilCuts", fn := fun _ => fun
  | [d1, d2, d3] => { results := [.lit (.bool true)], args := [d1, d2, d3] }
  | _ => none }
def stencilCutsRow : OpenClaim := { program := "ytmanbdacloeioaa", sum := "0d59df2330f21a23b0e49c537323ca6f157d2905cd5a381b19374a07cf74ed8c", func := "smalto/smaltolaw07.StencilCuts", spec := "stencilCuts", unfollowed := true, recurses := true, plainKeys := false, apart := false }
def StencilCutsSaid : Prop := stencilCutsRow.holds Try.pinned (OpenSpec.ofChange stencilCutsSpec)

/-- ITS FALSE NEIGHBOUR: 'it returns false'. Refute it at one input. -/
def stencilCutsWrong : ChangeSpec := { name := "stencilCuts", fn := fun _ => fun
  | [d1, d2, d3] => { results := [.lit (.bool false)], args := [d1, d2, d3] }
  | _ => none }
def StencilCutsWrongFalsely : Prop := stencilCutsRow.holds Try.pinned (OpenSpec.ofChange stencilCutsWrong)

/-- 'smaltolaw07.StencilHeaps': WHATEVER THE INPUT: true; the input reads as it did. -/
def stencilHeapsSpec : ChangeSpec := { name := "stencilHeaps", fn := fun _ => fun
  | [d1, d2, d3] => { results := [.lit (.bool true)], args := [d1, d2, d3] }
  | _ => none }
def stencilHeapsRow : OpenClaim := { program := "ytmanbdacloeioaa", sum := "0d59df2330f21a23b0e49c537323ca6f157d2905cd5a381b19374a07cf74ed8c", func := "smalto/smaltolaw07.StencilHeaps", spec := "stencilHeaps", unfollowed := true, recurses := true, plainKeys := false, apart := false }
def StencilHeapsSaid : Prop := stencilHeapsRow.holds Try.pinned (OpenSpec.ofChange stencilHeapsSpec)

/-- ITS FALSE NEIGHBOUR: 'it returns false'. Refute it at one input. -/
def stencilHeapsWrong : ChangeSpec := { name := "stencilHeaps", fn := fun _ => fun
  | [d1, d2, d3] => { results := [.lit (.bool false)], args := [d1, d2, d3] }
  | _ => none }
def StencilHeapsWrongFalsely : Prop := stencilHeapsRow.holds Try.pinned (OpenSpec.ofChange stencilHeapsWrong)

/-- 'smaltolaw07.StencilSigns': WHATEVER THE INPUT: true; the input reads as it did. -/
def stencilSignsSpec : ChangeSpec := { name := "stencilSigns", fn := fun _ => fun
  | [d1, d2, d3] => { results := [.lit (.bool true)], args := [d1, d2, d3] }
  | _ => none }
def stencilSignsRow : OpenClaim := { program := "ytmanbdacloeioaa", sum := "0d59df2330f21a23b0e49c537323ca6f157d2905cd5a381b19374a07cf74ed8c", func := "smalto/smaltolaw07.StencilSigns", spec := "stencilSigns", unfollowed := true, recurses := true, plainKeys := false, apart := false }
def StencilSignsSaid : Prop := stencilSignsRow.holds Try.pinned (OpenSpec.ofChange stencilSignsSpec)

/-- ITS FALSE NEIGHBOUR: 'it returns false'. Refute it at one input. -/
def stencilSignsWrong : ChangeSpec := { name := "stencilSigns", fn := fun _ => fun
  | [d1, d2, d3] => { results := [.lit (.bool false)], args := [d1, d2, d3] }
  | _ => none }
def StencilSignsWrongFalsely : Prop := stencilSignsRow.holds Try.pinned (OpenSpec.ofChange stencilSignsWrong)

/-- 'smaltolaw07.StencilAsked': WHATEVER THE INPUT: true; the input reads as it did. -/
def stencilAskedSpec : ChangeSpec := { name := "stencilAsked", fn := fun _ => fun
  | [d1, d2, d3] => { results := [.lit (.bool true)], args := [d1, d2, d3] }
  | _ => none }
def stencilAskedRow : OpenClaim := { program := "ytmanbdacloeioaa", sum := "0d59df2330f21a23b0e49c537323ca6f157d2905cd5a381b19374a07cf74ed8c", func := "smalto/smaltolaw07.StencilAsked", spec := "stencilAsked", unfollowed := true, recurses := true, plainKeys := false, apart := false }
def StencilAskedSaid : Prop := stencilAskedRow.holds Try.pinned (OpenSpec.ofChange stencilAskedSpec)

/-- ITS FALSE NEIGHBOUR: 'it returns false'. Refute it at one input. -/
def stencilAskedWrong : ChangeSpec := { name := "stencilAsked", fn := fun _ => fun
  | [d1, d2, d3] => { results := [.lit (.bool false)], args := [d1, d2, d3] }
  | _ => none }
def StencilAskedWrongFalsely : Prop := stencilAskedRow.holds Try.pinned (OpenSpec.ofChange stencilAskedWrong)

/-- 'smaltolaw07.StencilCase': WHATEVER THE INPUT: true; the input reads as it did. -/
def stencilCaseSpec : ChangeSpec := { name := "stencilCase", fn := fun _ => fun
  | [d1, d2, d3] => { results := [.lit (.bool true)], args := [d1, d2, d3] }
  | _ => none }
def stencilCaseRow : OpenClaim := { program := "ytmanbdacloeioaa", sum := "0d59df2330f21a23b0e49c537323ca6f157d2905cd5a381b19374a07cf74ed8c", func := "smalto/smaltolaw07.StencilCase", spec := "stencilCase", unfollowed := true, recurses := true, plainKeys := false, apart := false }
def StencilCaseSaid : Prop := stencilCaseRow.holds Try.pinned (OpenSpec.ofChange stencilCaseSpec)

/-- ITS FALSE NEIGHBOUR: 'it returns false'. Refute it at one input. -/
def stencilCaseWrong : ChangeSpec := { name := "stencilCase", fn := fun _ => fun
  | [d1, d2, d3] => { results := [.lit (.bool false)], args := [d1, d2, d3] }
  | _ => none }
def StencilCaseWrongFalsely : Prop := stencilCaseRow.holds Try.pinned (OpenSpec.ofChange stencilCaseWrong)

/-- 'smaltolaw07.StencilNew': WHATEVER THE INPUT: true; the input reads as it did. -/
def stencilNewSpec : ChangeSpec := { name := "stencilNew", fn := fun _ => fun
  | [d1, d2, d3] => { results := [.lit (.bool true)], args := [d1, d2, d3] }
  | _ => none }
def stencilNewRow : OpenClaim := { program := "ytmanbdacloeioaa", sum := "0d59df2330f21a23b0e49c537323ca6f157d2905cd5a381b19374a07cf74ed8c", func := "smalto/smaltolaw07.StencilNew", spec := "stencilNew", unfollowed := true, recurses := true, plainKeys := false, apart := false }
def StencilNewSaid : Prop := stencilNewRow.holds Try.pinned (OpenSpec.ofChange stencilNewSpec)

/-- ITS FALSE NEIGHBOUR: 'it returns false'. Refute it at one input. -/
def stencilNewWrong : ChangeSpec := { name := "stencilNew", fn := fun _ => fun
  | [d1, d2, d3] => { results := [.lit (.bool false)], args := [d1, d2, d3] }
  | _ => none }
def StencilNewWrongFalsely : Prop := stencilNewRow.holds Try.pinned (OpenSpec.ofChange stencilNewWrong)

/-- 'smaltolaw07.StencilOwners': WHATEVER THE INPUT: true; the input reads as it did. -/
def stencilOwnersSpec : ChangeSpec := { name := "stencilOwners", fn := fun _ => fun
  | [d1, d2, d3] => { results := [.lit (.bool true)], args := [d1, d2, d3] }
  | _ => none }
def stencilOwnersRow : OpenClaim := { program := "ytmanbdacloeioaa", sum := "0d59df2330f21a23b0e49c537323ca6f157d2905cd5a381b19374a07cf74ed8c", func := "smalto/smaltolaw07.StencilOwners", spec := "stencilOwners", unfollowed := true, recurses := true, plainKeys := false, apart := false }
def StencilOwnersSaid : Prop := stencilOwnersRow.holds Try.pinned (OpenSpec.ofChange stencilOwnersSpec)

/-- ITS FALSE NEIGHBOUR: 'it returns false'. Refute it at one input. -/
def stencilOwnersWrong : ChangeSpec := { name := "stencilOwners", fn := fun _ => fun
  | [d1, d2, d3] => { results := [.lit (.bool false)], args := [d1, d2, d3] }
  | _ => none }
def StencilOwnersWrongFalsely : Prop := stencilOwnersRow.holds Try.pinned (OpenSpec.ofChange stencilOwnersWrong)

/-- 'smaltolaw07.StencilReads': WHATEVER THE INPUT: true; the input reads as it did. -/
def stencilReadsSpec : ChangeSpec := { name := "stencilReads", fn := fun _ => fun
  | [d1, d2, d3] => { results := [.lit (.bool true)], args := [d1, d2, d3] }
  | _ => none }
def stencilReadsRow : OpenClaim := { program := "ytmanbdacloeioaa", sum := "0d59df2330f21a23b0e49c537323ca6f157d2905cd5a381b19374a07cf74ed8c", func := "smalto/smaltolaw07.StencilReads", spec := "stencilReads", unfollowed := true, recurses := true, plainKeys := false, apart := false }
def StencilReadsSaid : Prop := stencilReadsRow.holds Try.pinned (OpenSpec.ofChange stencilReadsSpec)

/-- ITS FALSE NEIGHBOUR: 'it returns false'. Refute it at one input. -/
def stencilReadsWrong : ChangeSpec := { name := "stencilReads", fn := fun _ => fun
  | [d1, d2, d3] => { results := [.lit (.bool false)], args := [d1, d2, d3] }
  | _ => none }
def StencilReadsWrongFalsely : Prop := stencilReadsRow.holds Try.pinned (OpenSpec.ofChange stencilReadsWrong)

/- THE SECOND FORM. 'bulk': how many values and letters a reading holds, each counted each time it is reached (what is shared counts as often as it is met; a slice's spare places count too). A statement '..UptoSaid' is the law's where the arguments, and the package variables that the reading takes, are together of bulk at most 1048576: NARROWER than '..Said'. Prove '..Said' where nothing that the law and all that it calls make is longer than what came in: it says more and counts as full. Else prove '..UptoSaid'. A law counts once. -/
mutual
def uptoBulk {H : Type} : DataW H → Nat
  | .lit (.string bytes) => bytes.length + 1
  | .lit _ => 1
  | .nil => 1
  | .ptr d => uptoBulk d + 1
  | .slice elems spare => uptoBulkAll elems + uptoBulkAll spare + 1
  | .agg parts => uptoBulkAll parts + 1
  | .iface _ d => uptoBulk d + 1
  | .map entries => uptoBulkEntries entries + 1
  | .held _ => 1
def uptoBulkAll {H : Type} : List (DataW H) → Nat
  | [] => 0
  | d :: r => uptoBulk d + uptoBulkAll r
def uptoBulkEntries {H : Type} : List (Lit × DataW H) → Nat
  | [] => 0
  | x :: r => uptoBulkEntry x + uptoBulkEntries r
def uptoBulkEntry {H : Type} : Lit × DataW H → Nat
  | (.string bytes, d) => bytes.length + uptoBulk d + 1
  | (_, d) => uptoBulk d + 1
 end
def uptoSmall : (H : Type) → List (DataW H) → Bool := fun _ ds => decide (uptoBulkAll ds ≤ 1048576)
def OpenSpec.upto (s : _root_.Go.ChangeSpec) : _root_.Go.OpenSpec := { _root_.Go.OpenSpec.ofChange s with cond := some uptoSmall }

/-- 'smaltolaw07.StencilMeans', WHERE WHAT IT READS IS OF BULK AT MOST 1048576: true; the input reads as it did. -/
def stencilMeansUptoRow : OpenClaim := { program := "ytmanbdacloeioaa", sum := "0d59df2330f21a23b0e49c537323ca6f157d2905cd5a381b19374a07cf74ed8c", func := "smalto/smaltolaw07.StencilMeans", spec := "stencilMeans", unfollowed := true, recurses := true, plainKeys := false, apart := false, narrowed := true }
def StencilMeansUptoSaid : Prop := stencilMeansUptoRow.holds Try.pinned (OpenSpec.upto stencilMeansSpec)

/-- 'smaltolaw07.StencilLays', WHERE WHAT IT READS IS OF BULK AT MOST 1048576: true; the input reads as it did. -/
def stencilLaysUptoRow : OpenClaim := { program := "ytmanbdacloeioaa", sum := "0d59df2330f21a23b0e49c537323ca6f157d2905cd5a381b19374a07cf74ed8c", func := "smalto/smaltolaw07.StencilLays", spec := "stencilLays", unfollowed := true, recurses := true, plainKeys := false, apart := false, narrowed := true }
def StencilLaysUptoSaid : Prop := stencilLaysUptoRow.holds Try.pinned (OpenSpec.upto stencilLaysSpec)

/-- 'smaltolaw07.StencilCuts', WHERE WHAT IT READS IS OF BULK AT MOST 1048576: true; the input reads as it did. -/
def stencilCutsUptoRow : OpenClaim := { program := "ytmanbdacloeioaa", sum := "0d59df2330f21a23b0e49c537323ca6f157d2905cd5a381b19374a07cf74ed8c", func := "smalto/smaltolaw07.StencilCuts", spec := "stencilCuts", unfollowed := true, recurses := true, plainKeys := false, apart := false, narrowed := true }
def StencilCutsUptoSaid : Prop := stencilCutsUptoRow.holds Try.pinned (OpenSpec.upto stencilCutsSpec)

/-- 'smaltolaw07.StencilHeaps', WHERE WHAT IT READS IS OF BULK AT MOST 1048576: true; the input reads as it did. -/
def stencilHeapsUptoRow : OpenClaim := { program := "ytmanbdacloeioaa", sum := "0d59df2330f21a23b0e49c537323ca6f157d2905cd5a381b19374a07cf74ed8c", func := "smalto/smaltolaw07.StencilHeaps", spec := "stencilHeaps", unfollowed := true, recurses := true, plainKeys := false, apart := false, narrowed := true }
def StencilHeapsUptoSaid : Prop := stencilHeapsUptoRow.holds Try.pinned (OpenSpec.upto stencilHeapsSpec)

/-- 'smaltolaw07.StencilSigns', WHERE WHAT IT READS IS OF BULK AT MOST 1048576: true; the input reads as it did. -/
def stencilSignsUptoRow : OpenClaim := { program := "ytmanbdacloeioaa", sum := "0d59df2330f21a23b0e49c537323ca6f157d2905cd5a381b19374a07cf74ed8c", func := "smalto/smaltolaw07.StencilSigns", spec := "stencilSigns", unfollowed := true, recurses := true, plainKeys := false, apart := false, narrowed := true }
def StencilSignsUptoSaid : Prop := stencilSignsUptoRow.holds Try.pinned (OpenSpec.upto stencilSignsSpec)

/-- 'smaltolaw07.StencilAsked', WHERE WHAT IT READS IS OF BULK AT MOST 1048576: true; the input reads as it did. -/
def stencilAskedUptoRow : OpenClaim := { program := "ytmanbdacloeioaa", sum := "0d59df2330f21a23b0e49c537323ca6f157d2905cd5a381b19374a07cf74ed8c", func := "smalto/smaltolaw07.StencilAsked", spec := "stencilAsked", unfollowed := true, recurses := true, plainKeys := false, apart := false, narrowed := true }
def StencilAskedUptoSaid : Prop := stencilAskedUptoRow.holds Try.pinned (OpenSpec.upto stencilAskedSpec)

/-- 'smaltolaw07.StencilCase', WHERE WHAT IT READS IS OF BULK AT MOST 1048576: true; the input reads as it did. -/
def stencilCaseUptoRow : OpenClaim := { program := "ytmanbdacloeioaa", sum := "0d59df2330f21a23b0e49c537323ca6f157d2905cd5a381b19374a07cf74ed8c", func := "smalto/smaltolaw07.StencilCase", spec := "stencilCase", unfollowed := true, recurses := true, plainKeys := false, apart := false, narrowed := true }
def StencilCaseUptoSaid : Prop := stencilCaseUptoRow.holds Try.pinned (OpenSpec.upto stencilCaseSpec)

/-- 'smaltolaw07.StencilNew', WHERE WHAT IT READS IS OF BULK AT MOST 1048576: true; the input reads as it did. -/
def stencilNewUptoRow : OpenClaim := { program := "ytmanbdacloeioaa", sum := "0d59df2330f21a23b0e49c537323ca6f157d2905cd5a381b19374a07cf74ed8c", func := "smalto/smaltolaw07.StencilNew", spec := "stencilNew", unfollowed := true, recurses := true, plainKeys := false, apart := false, narrowed := true }
def StencilNewUptoSaid : Prop := stencilNewUptoRow.holds Try.pinned (OpenSpec.upto stencilNewSpec)

/-- 'smaltolaw07.StencilOwners', WHERE WHAT IT READS IS OF BULK AT MOST 1048576: true; the input reads as it did. -/
def stencilOwnersUptoRow : OpenClaim := { program := "ytmanbdacloeioaa", sum := "0d59df2330f21a23b0e49c537323ca6f157d2905cd5a381b19374a07cf74ed8c", func := "smalto/smaltolaw07.StencilOwners", spec := "stencilOwners", unfollowed := true, recurses := true, plainKeys := false, apart := false, narrowed := true }
def StencilOwnersUptoSaid : Prop := stencilOwnersUptoRow.holds Try.pinned (OpenSpec.upto stencilOwnersSpec)

/-- 'smaltolaw07.StencilReads', WHERE WHAT IT READS IS OF BULK AT MOST 1048576: true; the input reads as it did. -/
def stencilReadsUptoRow : OpenClaim := { program := "ytmanbdacloeioaa", sum := "0d59df2330f21a23b0e49c537323ca6f157d2905cd5a381b19374a07cf74ed8c", func := "smalto/smaltolaw07.StencilReads", spec := "stencilReads", unfollowed := true, recurses := true, plainKeys := false, apart := false, narrowed := true }
def StencilReadsUptoSaid : Prop := stencilReadsUptoRow.holds Try.pinned (OpenSpec.upto stencilReadsSpec)

end Rows
end Go.Proofs.Ytmanbdacloeioaa
