/-
  No cell of these rows narrows 'for every input' (looked for: loops, veiled, ifaces, maps, wideKeys, modest, calm, conditions, laid).
  DERIVED. THE GIVEN ROWS OF THIS SEAT. 2 by the template 'for every input the law returns true; each argument reads behind the call as it read before'; 0 by the template 'total and deterministic' (their statements: YtjelfogbefnmaaaTotals.lean).
  GIVEN WITH THE SEED: the statements are not yours to turn. If you find one false, say at which input.
  Laid BY PROGRAM, IN A SANDBOX (cutbox-rows.mjs): the forced cells as the released guide's own fill.sh prints them over the translation 41ddbb5df7c0b671… (all of the seat's roots in one cut). By AI agents, Wed Nov 11 2026. No macro, syntax, notation, axiom, sorry.
-/
import Derived.Test.YtjelfogbefnmaaaChecked
import GoSem.Claim
import GoSem.ClaimJoined
import GoSem.ClaimMapViews
import Derived.JoinedTies
import Derived.KernelRfl
namespace Go.Proofs.Ytjelfogbefnmaaa
/- THE CELL 'sum', in the pinned program and in every row, IS THE sha256 OF THE DUMP (.gsa) THAT YtjelfogbefnmaaaProg.lean LOADS. Nothing in Lean hashes anything: it is a label: what it is worth is what the hold of that sum in a sandbox is worth. -/
noncomputable def Try.pinned : Pinned := { name := "ytjelfogbefnmaaa", sum := "41ddbb5df7c0b6713740acf88a0555391dd2e6eab5a360ad12aa95a022882c74", checked := Try.checked }
namespace Rows
def none {H : Type} : Left H := { results := [], args := [] }

/-- 'smaltotop.TopJobsMade': WHATEVER THE INPUT: true; the input reads as it did. -/
def topJobsMadeSpec : ChangeSpec := { name := "topJobsMade", fn := fun _ => fun
  | [d1, d2, d3] => { results := [.lit (.bool true)], args := [d1, d2, d3] }
  | _ => none }
def topJobsMadeRow : OpenClaim := { program := "ytjelfogbefnmaaa", sum := "41ddbb5df7c0b6713740acf88a0555391dd2e6eab5a360ad12aa95a022882c74", func := "smalto/smaltotop.TopJobsMade", spec := "topJobsMade", unfollowed := true, recurses := true, apart := false }
def TopJobsMadeSaid : Prop := topJobsMadeRow.holds Try.pinned (OpenSpec.ofChange topJobsMadeSpec)

/-- ITS FALSE NEIGHBOUR: 'it returns false'. Refute it at one input. -/
def topJobsMadeWrong : ChangeSpec := { name := "topJobsMade", fn := fun _ => fun
  | [d1, d2, d3] => { results := [.lit (.bool false)], args := [d1, d2, d3] }
  | _ => none }
def TopJobsMadeWrongFalsely : Prop := topJobsMadeRow.holds Try.pinned (OpenSpec.ofChange topJobsMadeWrong)

/-- 'smaltotop.TopToldTold': WHATEVER THE INPUT: true; the input reads as it did. -/
def topToldToldSpec : ChangeSpec := { name := "topToldTold", fn := fun _ => fun
  | [d1, d2, d3] => { results := [.lit (.bool true)], args := [d1, d2, d3] }
  | _ => none }
def topToldToldRow : OpenClaim := { program := "ytjelfogbefnmaaa", sum := "41ddbb5df7c0b6713740acf88a0555391dd2e6eab5a360ad12aa95a022882c74", func := "smalto/smaltotop.TopToldTold", spec := "topToldTold", unfollowed := true, recurses := true, apart := false }
def TopToldToldSaid : Prop := topToldToldRow.holds Try.pinned (OpenSpec.ofChange topToldToldSpec)

/-- ITS FALSE NEIGHBOUR: 'it returns false'. Refute it at one input. -/
def topToldToldWrong : ChangeSpec := { name := "topToldTold", fn := fun _ => fun
  | [d1, d2, d3] => { results := [.lit (.bool false)], args := [d1, d2, d3] }
  | _ => none }
def TopToldToldWrongFalsely : Prop := topToldToldRow.holds Try.pinned (OpenSpec.ofChange topToldToldWrong)

/- THE SECOND FORM. 'bulk': how many values and letters a reading holds, each counted each time it is reached (what is shared counts as often as it is met; a slice's spare places count too). A statement '..UptoSaid' is the law's where the arguments, and the package variables that the reading takes, are together of bulk at most 1048576: NARROWER than '..Said'. Prove '..Said' where nothing that the law and all that it calls make is longer than what came in: it says more and counts as full. Else prove '..UptoSaid'. A law counts once. -/
mutual
def uptoBulk {H : Type} : DataW H → Nat
  | .lit (.string bytes) => bytes.length + 1
  | .lit _ => 1
  | .nil => 1
  | .ptr d => uptoBulk d + 1
  | .slice elems spare => uptoBulkAll elems + uptoBulkAll spare + 1
  | .agg parts => uptoBulkAll parts + 1
  | .iface _ d => uptoBulk d + 1
  | .map entries => uptoBulkEntries entries + 1
  | .held _ => 1
def uptoBulkAll {H : Type} : List (DataW H) → Nat
  | [] => 0
  | d :: r => uptoBulk d + uptoBulkAll r
def uptoBulkEntries {H : Type} : List (Lit × DataW H) → Nat
  | [] => 0
  | x :: r => uptoBulkEntry x + uptoBulkEntries r
def uptoBulkEntry {H : Type} : Lit × DataW H → Nat
  | (.string bytes, d) => bytes.length + uptoBulk d + 1
  | (_, d) => uptoBulk d + 1
 end
def uptoSmall : (H : Type) → List (DataW H) → Bool := fun _ ds => decide (uptoBulkAll ds ≤ 1048576)
def OpenSpec.upto (s : _root_.Go.ChangeSpec) : _root_.Go.OpenSpec := { _root_.Go.OpenSpec.ofChange s with cond := some uptoSmall }

/-- 'smaltotop.TopJobsMade', WHERE WHAT IT READS IS OF BULK AT MOST 1048576: true; the input reads as it did. -/
def topJobsMadeUptoRow : OpenClaim := { program := "ytjelfogbefnmaaa", sum := "41ddbb5df7c0b6713740acf88a0555391dd2e6eab5a360ad12aa95a022882c74", func := "smalto/smaltotop.TopJobsMade", spec := "topJobsMade", unfollowed := true, recurses := true, apart := false, narrowed := true }
def TopJobsMadeUptoSaid : Prop := topJobsMadeUptoRow.holds Try.pinned (OpenSpec.upto topJobsMadeSpec)

/-- 'smaltotop.TopToldTold', WHERE WHAT IT READS IS OF BULK AT MOST 1048576: true; the input reads as it did. -/
def topToldToldUptoRow : OpenClaim := { program := "ytjelfogbefnmaaa", sum := "41ddbb5df7c0b6713740acf88a0555391dd2e6eab5a360ad12aa95a022882c74", func := "smalto/smaltotop.TopToldTold", spec := "topToldTold", unfollowed := true, recurses := true, apart := false, narrowed := true }
def TopToldToldUptoSaid : Prop := topToldToldUptoRow.holds Try.pinned (OpenSpec.upto topToldToldSpec)

end Rows
end Go.Proofs.Ytjelfogbefnmaaa
