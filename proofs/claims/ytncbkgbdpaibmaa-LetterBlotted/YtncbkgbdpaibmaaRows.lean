/-
  No cell of these rows narrows 'for every input' (looked for: loops, veiled, ifaces, maps, wideKeys, modest, calm, conditions, laid).
  DERIVED. THE GIVEN ROWS OF THIS SEAT. 13 by the template 'for every input the law returns true; each argument reads behind the call as it read before'; 0 by the template 'total and deterministic' (their statements: YtncbkgbdpaibmaaTotals.lean).
  GIVEN WITH THE SEED: the statements are not yours to turn. If you find one false, say at which input.
  Laid BY PROGRAM, IN A SANDBOX (cutbox-rows.mjs): the forced cells as the released guide's own fill.sh prints them over the translation 55bf4b777395e9da… (all of the seat's roots in one cut). By AI agents, Wed Nov 11 2026. No macro, syntax, notation, axiom, sorry.
-/
import Derived.Test.YtncbkgbdpaibmaaChecked
import GoSem.Claim
import GoSem.ClaimJoined
import GoSem.ClaimMapViews
import Derived.JoinedTies
import Derived.KernelRfl
namespace Go.Proofs.Ytncbkgbdpaibmaa
/- THE CELL 'sum', in the pinned program and in every row, IS THE sha256 OF THE DUMP (.gsa) THAT YtncbkgbdpaibmaaProg.lean LOADS. Nothing in Lean hashes anything: it is a label: what it is worth is what the hold of that sum in a sandbox is worth. -/
noncomputable def Try.pinned : Pinned := { name := "ytncbkgbdpaibmaa", sum := "55bf4b777395e9dad74f8d7e7c866d78428d4e018b58fead0d51a029de50cc5a", checked := Try.checked }
namespace Rows
def none {H : Type} : Left H := { results := [], args := [] }

/-- 'smaltolaw04.LetterLooks': WHATEVER THE INPUT: true; the input reads as it did. -/
def letterLooksSpec : ChangeSpec := { name := "letterLooks", fn := fun _ => fun
  | [d1, d2, d3] => { results := [.lit (.bool true)], args := [d1, d2, d3] }
  | _ => none }
def letterLooksRow : OpenClaim := { program := "ytncbkgbdpaibmaa", sum := "55bf4b777395e9dad74f8d7e7c866d78428d4e018b58fead0d51a029de50cc5a", func := "smalto/smaltolaw04.LetterLooks", spec := "letterLooks", unfollowed := true, recurses := true, plainKeys := false, apart := false }
def LetterLooksSaid : Prop := letterLooksRow.holds Try.pinned (OpenSpec.ofChange letterLooksSpec)

/-- ITS FALSE NEIGHBOUR: 'it returns false'. Refute it at one input. -/
def letterLooksWrong : ChangeSpec := { name := "letterLooks", fn := fun _ => fun
  | [d1, d2, d3] => { results := [.lit (.bool false)], args := [d1, d2, d3] }
  | _ => none }
def LetterLooksWrongFalsely : Prop := letterLooksRow.holds Try.pinned (OpenSpec.ofChange letterLooksWrong)

/-- 'smaltolaw04.LetterLays': WHATEVER THE INPUT: true; the input reads as it did. -/
def letterLaysSpec : ChangeSpec := { name := "letterLays", fn := fun _ => fun
  | [d1, d2, d3] => { results := [.lit (.bool true)], args := [d1, d2, d3] }
  | _ => none }
def letterLaysRow : OpenClaim := { program := "ytncbkgbdpaibmaa", sum := "55bf4b777395e9dad74f8d7e7c866d78428d4e018b58fead0d51a029de50cc5a", func := "smalto/smaltolaw04.LetterLays", spec := "letterLays", unfollowed := true, recurses := true, plainKeys := false, apart := false }
def LetterLaysSaid : Prop := letterLaysRow.holds Try.pinned (OpenSpec.ofChange letterLaysSpec)

/-- ITS FALSE NEIGHBOUR: 'it returns false'. Refute it at one input. -/
def letterLaysWrong : ChangeSpec := { name := "letterLays", fn := fun _ => fun
  | [d1, d2, d3] => { results := [.lit (.bool false)], args := [d1, d2, d3] }
  | _ => none }
def LetterLaysWrongFalsely : Prop := letterLaysRow.holds Try.pinned (OpenSpec.ofChange letterLaysWrong)

/-- 'smaltolaw04.LetterLefts': WHATEVER THE INPUT: true; the input reads as it did. -/
def letterLeftsSpec : ChangeSpec := { name := "letterLefts", fn := fun _ => fun
  | [d1, d2, d3] => { results := [.lit (.bool true)], args := [d1, d2, d3] }
  | _ => none }
def letterLeftsRow : OpenClaim := { program := "ytncbkgbdpaibmaa", sum := "55bf4b777395e9dad74f8d7e7c866d78428d4e018b58fead0d51a029de50cc5a", func := "smalto/smaltolaw04.LetterLefts", spec := "letterLefts", unfollowed := true, recurses := true, plainKeys := false, apart := false }
def LetterLeftsSaid : Prop := letterLeftsRow.holds Try.pinned (OpenSpec.ofChange letterLeftsSpec)

/-- ITS FALSE NEIGHBOUR: 'it returns false'. Refute it at one input. -/
def letterLeftsWrong : ChangeSpec := { name := "letterLefts", fn := fun _ => fun
  | [d1, d2, d3] => { results := [.lit (.bool false)], args := [d1, d2, d3] }
  | _ => none }
def LetterLeftsWrongFalsely : Prop := letterLeftsRow.holds Try.pinned (OpenSpec.ofChange letterLeftsWrong)

/-- 'smaltolaw04.LetterLines': WHATEVER THE INPUT: true; the input reads as it did. -/
def letterLinesSpec : ChangeSpec := { name := "letterLines", fn := fun _ => fun
  | [d1, d2, d3] => { results := [.lit (.bool true)], args := [d1, d2, d3] }
  | _ => none }
def letterLinesRow : OpenClaim := { program := "ytncbkgbdpaibmaa", sum := "55bf4b777395e9dad74f8d7e7c866d78428d4e018b58fead0d51a029de50cc5a", func := "smalto/smaltolaw04.LetterLines", spec := "letterLines", unfollowed := true, recurses := true, plainKeys := false, apart := false }
def LetterLinesSaid : Prop := letterLinesRow.holds Try.pinned (OpenSpec.ofChange letterLinesSpec)

/-- ITS FALSE NEIGHBOUR: 'it returns false'. Refute it at one input. -/
def letterLinesWrong : ChangeSpec := { name := "letterLines", fn := fun _ => fun
  | [d1, d2, d3] => { results := [.lit (.bool false)], args := [d1, d2, d3] }
  | _ => none }
def LetterLinesWrongFalsely : Prop := letterLinesRow.holds Try.pinned (OpenSpec.ofChange letterLinesWrong)

/-- 'smaltolaw04.LetterPicks': WHATEVER THE INPUT: true; the input reads as it did. -/
def letterPicksSpec : ChangeSpec := { name := "letterPicks", fn := fun _ => fun
  | [d1, d2, d3] => { results := [.lit (.bool true)], args := [d1, d2, d3] }
  | _ => none }
def letterPicksRow : OpenClaim := { program := "ytncbkgbdpaibmaa", sum := "55bf4b777395e9dad74f8d7e7c866d78428d4e018b58fead0d51a029de50cc5a", func := "smalto/smaltolaw04.LetterPicks", spec := "letterPicks", unfollowed := true, recurses := true, plainKeys := false, apart := false }
def LetterPicksSaid : Prop := letterPicksRow.holds Try.pinned (OpenSpec.ofChange letterPicksSpec)

/-- ITS FALSE NEIGHBOUR: 'it returns false'. Refute it at one input. -/
def letterPicksWrong : ChangeSpec := { name := "letterPicks", fn := fun _ => fun
  | [d1, d2, d3] => { results := [.lit (.bool false)], args := [d1, d2, d3] }
  | _ => none }
def LetterPicksWrongFalsely : Prop := letterPicksRow.holds Try.pinned (OpenSpec.ofChange letterPicksWrong)

/-- 'smaltolaw04.LetterWrongs': WHATEVER THE INPUT: true; the input reads as it did. -/
def letterWrongsSpec : ChangeSpec := { name := "letterWrongs", fn := fun _ => fun
  | [d1, d2, d3] => { results := [.lit (.bool true)], args := [d1, d2, d3] }
  | _ => none }
def letterWrongsRow : OpenClaim := { program := "ytncbkgbdpaibmaa", sum := "55bf4b777395e9dad74f8d7e7c866d78428d4e018b58fead0d51a029de50cc5a", func := "smalto/smaltolaw04.LetterWrongs", spec := "letterWrongs", unfollowed := true, recurses := true, plainKeys := false, apart := false }
def LetterWrongsSaid : Prop := letterWrongsRow.holds Try.pinned (OpenSpec.ofChange letterWrongsSpec)

/-- ITS FALSE NEIGHBOUR: 'it returns false'. Refute it at one input. -/
def letterWrongsWrong : ChangeSpec := { name := "letterWrongs", fn := fun _ => fun
  | [d1, d2, d3] => { results := [.lit (.bool false)], args := [d1, d2, d3] }
  | _ => none }
def LetterWrongsWrongFalsely : Prop := letterWrongsRow.holds Try.pinned (OpenSpec.ofChange letterWrongsWrong)

/-- 'smaltolaw04.LetterCans': WHATEVER THE INPUT: true; the input reads as it did. -/
def letterCansSpec : ChangeSpec := { name := "letterCans", fn := fun _ => fun
  | [d1, d2, d3] => { results := [.lit (.bool true)], args := [d1, d2, d3] }
  | _ => none }
def letterCansRow : OpenClaim := { program := "ytncbkgbdpaibmaa", sum := "55bf4b777395e9dad74f8d7e7c866d78428d4e018b58fead0d51a029de50cc5a", func := "smalto/smaltolaw04.LetterCans", spec := "letterCans", unfollowed := true, recurses := true, plainKeys := false, apart := false }
def LetterCansSaid : Prop := letterCansRow.holds Try.pinned (OpenSpec.ofChange letterCansSpec)

/-- ITS FALSE NEIGHBOUR: 'it returns false'. Refute it at one input. -/
def letterCansWrong : ChangeSpec := { name := "letterCans", fn := fun _ => fun
  | [d1, d2, d3] => { results := [.lit (.bool false)], args := [d1, d2, d3] }
  | _ => none }
def LetterCansWrongFalsely : Prop := letterCansRow.holds Try.pinned (OpenSpec.ofChange letterCansWrong)

/-- 'smaltolaw04.LetterLaid': WHATEVER THE INPUT: true; the input reads as it did. -/
def letterLaidSpec : ChangeSpec := { name := "letterLaid", fn := fun _ => fun
  | [d1, d2, d3] => { results := [.lit (.bool true)], args := [d1, d2, d3] }
  | _ => none }
def letterLaidRow : OpenClaim := { program := "ytncbkgbdpaibmaa", sum := "55bf4b777395e9dad74f8d7e7c866d78428d4e018b58fead0d51a029de50cc5a", func := "smalto/smaltolaw04.LetterLaid", spec := "letterLaid", unfollowed := true, recurses := true, plainKeys := false, apart := false }
def LetterLaidSaid : Prop := letterLaidRow.holds Try.pinned (OpenSpec.ofChange letterLaidSpec)

/-- ITS FALSE NEIGHBOUR: 'it returns false'. Refute it at one input. -/
def letterLaidWrong : ChangeSpec := { name := "letterLaid", fn := fun _ => fun
  | [d1, d2, d3] => { results := [.lit (.bool false)], args := [d1, d2, d3] }
  | _ => none }
def LetterLaidWrongFalsely : Prop := letterLaidRow.holds Try.pinned (OpenSpec.ofChange letterLaidWrong)

/-- 'smaltolaw04.LetterOut': WHATEVER THE INPUT: true; the input reads as it did. -/
def letterOutSpec : ChangeSpec := { name := "letterOut", fn := fun _ => fun
  | [d1, d2, d3] => { results := [.lit (.bool true)], args := [d1, d2, d3] }
  | _ => none }
def letterOutRow : OpenClaim := { program := "ytncbkgbdpaibmaa", sum := "55bf4b777395e9dad74f8d7e7c866d78428d4e018b58fead0d51a029de50cc5a", func := "smalto/smaltolaw04.LetterOut", spec := "letterOut", unfollowed := true, recurses := true, plainKeys := false, apart := false }
def LetterOutSaid : Prop := letterOutRow.holds Try.pinned (OpenSpec.ofChange letterOutSpec)

/-- ITS FALSE NEIGHBOUR: 'it returns false'. Refute it at one input. -/
def letterOutWrong : ChangeSpec := { name := "letterOut", fn := fun _ => fun
  | [d1, d2, d3] => { results := [.lit (.bool false)], args := [d1, d2, d3] }
  | _ => none }
def LetterOutWrongFalsely : Prop := letterOutRow.holds Try.pinned (OpenSpec.ofChange letterOutWrong)

/-- 'smaltolaw04.LetterBroken': WHATEVER THE INPUT: true; the input reads as it did. -/
def letterBrokenSpec : ChangeSpec := { name := "letterBroken", fn := fun _ => fun
  | [d1, d2, d3] => { results := [.lit (.bool true)], args := [d1, d2, d3] }
  | _ => none }
def letterBrokenRow : OpenClaim := { program := "ytncbkgbdpaibmaa", sum := "55bf4b777395e9dad74f8d7e7c866d78428d4e018b58fead0d51a029de50cc5a", func := "smalto/smaltolaw04.LetterBroken", spec := "letterBroken", unfollowed := true, recurses := true, plainKeys := false, apart := false }
def LetterBrokenSaid : Prop := letterBrokenRow.holds Try.pinned (OpenSpec.ofChange letterBrokenSpec)

/-- ITS FALSE NEIGHBOUR: 'it returns false'. Refute it at one input. -/
def letterBrokenWrong : ChangeSpec := { name := "letterBroken", fn := fun _ => fun
  | [d1, d2, d3] => { results := [.lit (.bool false)], args := [d1, d2, d3] }
  | _ => none }
def LetterBrokenWrongFalsely : Prop := letterBrokenRow.holds Try.pinned (OpenSpec.ofChange letterBrokenWrong)

/-- 'smaltolaw04.LetterPlates': WHATEVER THE INPUT: true; the input reads as it did. -/
def letterPlatesSpec : ChangeSpec := { name := "letterPlates", fn := fun _ => fun
  | [d1, d2, d3] => { results := [.lit (.bool true)], args := [d1, d2, d3] }
  | _ => none }
def letterPlatesRow : OpenClaim := { program := "ytncbkgbdpaibmaa", sum := "55bf4b777395e9dad74f8d7e7c866d78428d4e018b58fead0d51a029de50cc5a", func := "smalto/smaltolaw04.LetterPlates", spec := "letterPlates", unfollowed := true, recurses := true, plainKeys := false, apart := false }
def LetterPlatesSaid : Prop := letterPlatesRow.holds Try.pinned (OpenSpec.ofChange letterPlatesSpec)

/-- ITS FALSE NEIGHBOUR: 'it returns false'. Refute it at one input. -/
def letterPlatesWrong : ChangeSpec := { name := "letterPlates", fn := fun _ => fun
  | [d1, d2, d3] => { results := [.lit (.bool false)], args := [d1, d2, d3] }
  | _ => none }
def LetterPlatesWrongFalsely : Prop := letterPlatesRow.holds Try.pinned (OpenSpec.ofChange letterPlatesWrong)

/-- 'smaltolaw04.LetterChanged': WHATEVER THE INPUT: true; the input reads as it did. -/
def letterChangedSpec : ChangeSpec := { name := "letterChanged", fn := fun _ => fun
  | [d1, d2, d3] => { results := [.lit (.bool true)], args := [d1, d2, d3] }
  | _ => none }
def letterChangedRow : OpenClaim := { program := "ytncbkgbdpaibmaa", sum := "55bf4b777395e9dad74f8d7e7c866d78428d4e018b58fead0d51a029de50cc5a", func := "smalto/smaltolaw04.LetterChanged", spec := "letterChanged", unfollowed := true, recurses := true, plainKeys := false, apart := false }
def LetterChangedSaid : Prop := letterChangedRow.holds Try.pinned (OpenSpec.ofChange letterChangedSpec)

/-- ITS FALSE NEIGHBOUR: 'it returns false'. Refute it at one input. -/
def letterChangedWrong : ChangeSpec := { name := "letterChanged", fn := fun _ => fun
  | [d1, d2, d3] => { results := [.lit (.bool false)], args := [d1, d2, d3] }
  | _ => none }
def LetterChangedWrongFalsely : Prop := letterChangedRow.holds Try.pinned (OpenSpec.ofChange letterChangedWrong)

/-- 'smaltolaw04.LetterBlotted': WHATEVER THE INPUT: true; the input reads as it did. -/
def letterBlottedSpec : ChangeSpec := { name := "letterBlotted", fn := fun _ => fun
  | [d1, d2, d3] => { results := [.lit (.bool true)], args := [d1, d2, d3] }
  | _ => none }
def letterBlottedRow : OpenClaim := { program := "ytncbkgbdpaibmaa", sum := "55bf4b777395e9dad74f8d7e7c866d78428d4e018b58fead0d51a029de50cc5a", func := "smalto/smaltolaw04.LetterBlotted", spec := "letterBlotted", unfollowed := true, recurses := true, plainKeys := false, apart := false }
def LetterBlottedSaid : Prop := letterBlottedRow.holds Try.pinned (OpenSpec.ofChange letterBlottedSpec)

/-- ITS FALSE NEIGHBOUR: 'it returns false'. Refute it at one input. -/
def letterBlottedWrong : ChangeSpec := { name := "letterBlotted", fn := fun _ => fun
  | [d1, d2, d3] => { results := [.lit (.bool false)], args := [d1, d2, d3] }
  | _ => none }
def LetterBlottedWrongFalsely : Prop := letterBlottedRow.holds Try.pinned (OpenSpec.ofChange letterBlottedWrong)

/- THE SECOND FORM. 'bulk': how many values and letters a reading holds, each counted each time it is reached (what is shared counts as often as it is met; a slice's spare places count too). A statement '..UptoSaid' is the law's where the arguments, and the package variables that the reading takes, are together of bulk at most 1048576: NARROWER than '..Said'. Prove '..Said' where nothing that the law and all that it calls make is longer than what came in: it says more and counts as full. Else prove '..UptoSaid'. A law counts once. -/
mutual
def uptoBulk {H : Type} : DataW H → Nat
  | .lit (.string bytes) => bytes.length + 1
  | .lit _ => 1
  | .nil => 1
  | .ptr d => uptoBulk d + 1
  | .slice elems spare => uptoBulkAll elems + uptoBulkAll spare + 1
  | .agg parts => uptoBulkAll parts + 1
  | .iface _ d => uptoBulk d + 1
  | .map entries => uptoBulkEntries entries + 1
  | .held _ => 1
def uptoBulkAll {H : Type} : List (DataW H) → Nat
  | [] => 0
  | d :: r => uptoBulk d + uptoBulkAll r
def uptoBulkEntries {H : Type} : List (Lit × DataW H) → Nat
  | [] => 0
  | x :: r => uptoBulkEntry x + uptoBulkEntries r
def uptoBulkEntry {H : Type} : Lit × DataW H → Nat
  | (.string bytes, d) => bytes.length + uptoBulk d + 1
  | (_, d) => uptoBulk d + 1
 end
def uptoSmall : (H : Type) → List (DataW H) → Bool := fun _ ds => decide (uptoBulkAll ds ≤ 1048576)
def OpenSpec.upto (s : _root_.Go.ChangeSpec) : _root_.Go.OpenSpec := { _root_.Go.OpenSpec.ofChange s with cond := some uptoSmall }

/-- 'smaltolaw04.LetterLooks', WHERE WHAT IT READS IS OF BULK AT MOST 1048576: true; the input reads as it did. -/
def letterLooksUptoRow : OpenClaim := { program := "ytncbkgbdpaibmaa", sum := "55bf4b777395e9dad74f8d7e7c866d78428d4e018b58fead0d51a029de50cc5a", func := "smalto/smaltolaw04.LetterLooks", spec := "letterLooks", unfollowed := true, recurses := true, plainKeys := false, apart := false, narrowed := true }
def LetterLooksUptoSaid : Prop := letterLooksUptoRow.holds Try.pinned (OpenSpec.upto letterLooksSpec)

/-- 'smaltolaw04.LetterLays', WHERE WHAT IT READS IS OF BULK AT MOST 1048576: true; the input reads as it did. -/
def letterLaysUptoRow : OpenClaim := { program := "ytncbkgbdpaibmaa", sum := "55bf4b777395e9dad74f8d7e7c866d78428d4e018b58fead0d51a029de50cc5a", func := "smalto/smaltolaw04.LetterLays", spec := "letterLays", unfollowed := true, recurses := true, plainKeys := false, apart := false, narrowed := true }
def LetterLaysUptoSaid : Prop := letterLaysUptoRow.holds Try.pinned (OpenSpec.upto letterLaysSpec)

/-- 'smaltolaw04.LetterLefts', WHERE WHAT IT READS IS OF BULK AT MOST 1048576: true; the input reads as it did. -/
def letterLeftsUptoRow : OpenClaim := { program := "ytncbkgbdpaibmaa", sum := "55bf4b777395e9dad74f8d7e7c866d78428d4e018b58fead0d51a029de50cc5a", func := "smalto/smaltolaw04.LetterLefts", spec := "letterLefts", unfollowed := true, recurses := true, plainKeys := false, apart := false, narrowed := true }
def LetterLeftsUptoSaid : Prop := letterLeftsUptoRow.holds Try.pinned (OpenSpec.upto letterLeftsSpec)

/-- 'smaltolaw04.LetterLines', WHERE WHAT IT READS IS OF BULK AT MOST 1048576: true; the input reads as it did. -/
def letterLinesUptoRow : OpenClaim := { program := "ytncbkgbdpaibmaa", sum := "55bf4b777395e9dad74f8d7e7c866d78428d4e018b58fead0d51a029de50cc5a", func := "smalto/smaltolaw04.LetterLines", spec := "letterLines", unfollowed := true, recurses := true, plainKeys := false, apart := false, narrowed := true }
def LetterLinesUptoSaid : Prop := letterLinesUptoRow.holds Try.pinned (OpenSpec.upto letterLinesSpec)

/-- 'smaltolaw04.LetterPicks', WHERE WHAT IT READS IS OF BULK AT MOST 1048576: true; the input reads as it did. -/
def letterPicksUptoRow : OpenClaim := { program := "ytncbkgbdpaibmaa", sum := "55bf4b777395e9dad74f8d7e7c866d78428d4e018b58fead0d51a029de50cc5a", func := "smalto/smaltolaw04.LetterPicks", spec := "letterPicks", unfollowed := true, recurses := true, plainKeys := false, apart := false, narrowed := true }
def LetterPicksUptoSaid : Prop := letterPicksUptoRow.holds Try.pinned (OpenSpec.upto letterPicksSpec)

/-- 'smaltolaw04.LetterWrongs', WHERE WHAT IT READS IS OF BULK AT MOST 1048576: true; the input reads as it did. -/
def letterWrongsUptoRow : OpenClaim := { program := "ytncbkgbdpaibmaa", sum := "55bf4b777395e9dad74f8d7e7c866d78428d4e018b58fead0d51a029de50cc5a", func := "smalto/smaltolaw04.LetterWrongs", spec := "letterWrongs", unfollowed := true, recurses := true, plainKeys := false, apart := false, narrowed := true }
def LetterWrongsUptoSaid : Prop := letterWrongsUptoRow.holds Try.pinned (OpenSpec.upto letterWrongsSpec)

/-- 'smaltolaw04.LetterCans', WHERE WHAT IT READS IS OF BULK AT MOST 1048576: true; the input reads as it did. -/
def letterCansUptoRow : OpenClaim := { program := "ytncbkgbdpaibmaa", sum := "55bf4b777395e9dad74f8d7e7c866d78428d4e018b58fead0d51a029de50cc5a", func := "smalto/smaltolaw04.LetterCans", spec := "letterCans", unfollowed := true, recurses := true, plainKeys := false, apart := false, narrowed := true }
def LetterCansUptoSaid : Prop := letterCansUptoRow.holds Try.pinned (OpenSpec.upto letterCansSpec)

/-- 'smaltolaw04.LetterLaid', WHERE WHAT IT READS IS OF BULK AT MOST 1048576: true; the input reads as it did. -/
def letterLaidUptoRow : OpenClaim := { program := "ytncbkgbdpaibmaa", sum := "55bf4b777395e9dad74f8d7e7c866d78428d4e018b58fead0d51a029de50cc5a", func := "smalto/smaltolaw04.LetterLaid", spec := "letterLaid", unfollowed := true, recurses := true, plainKeys := false, apart := false, narrowed := true }
def LetterLaidUptoSaid : Prop := letterLaidUptoRow.holds Try.pinned (OpenSpec.upto letterLaidSpec)

/-- 'smaltolaw04.LetterOut', WHERE WHAT IT READS IS OF BULK AT MOST 1048576: true; the input reads as it did. -/
def letterOutUptoRow : OpenClaim := { program := "ytncbkgbdpaibmaa", sum := "55bf4b777395e9dad74f8d7e7c866d78428d4e018b58fead0d51a029de50cc5a", func := "smalto/smaltolaw04.LetterOut", spec := "letterOut", unfollowed := true, recurses := true, plainKeys := false, apart := false, narrowed := true }
def LetterOutUptoSaid : Prop := letterOutUptoRow.holds Try.pinned (OpenSpec.upto letterOutSpec)

/-- 'smaltolaw04.LetterBroken', WHERE WHAT IT READS IS OF BULK AT MOST 1048576: true; the input reads as it did. -/
def letterBrokenUptoRow : OpenClaim := { program := "ytncbkgbdpaibmaa", sum := "55bf4b777395e9dad74f8d7e7c866d78428d4e018b58fead0d51a029de50cc5a", func := "smalto/smaltolaw04.LetterBroken", spec := "letterBroken", unfollowed := true, recurses := true, plainKeys := false, apart := false, narrowed := true }
def LetterBrokenUptoSaid : Prop := letterBrokenUptoRow.holds Try.pinned (OpenSpec.upto letterBrokenSpec)

/-- 'smaltolaw04.LetterPlates', WHERE WHAT IT READS IS OF BULK AT MOST 1048576: true; the input reads as it did. -/
def letterPlatesUptoRow : OpenClaim := { program := "ytncbkgbdpaibmaa", sum := "55bf4b777395e9dad74f8d7e7c866d78428d4e018b58fead0d51a029de50cc5a", func := "smalto/smaltolaw04.LetterPlates", spec := "letterPlates", unfollowed := true, recurses := true, plainKeys := false, apart := false, narrowed := true }
def LetterPlatesUptoSaid : Prop := letterPlatesUptoRow.holds Try.pinned (OpenSpec.upto letterPlatesSpec)

/-- 'smaltolaw04.LetterChanged', WHERE WHAT IT READS IS OF BULK AT MOST 1048576: true; the input reads as it did. -/
def letterChangedUptoRow : OpenClaim := { program := "ytncbkgbdpaibmaa", sum := "55bf4b777395e9dad74f8d7e7c866d78428d4e018b58fead0d51a029de50cc5a", func := "smalto/smaltolaw04.LetterChanged", spec := "letterChanged", unfollowed := true, recurses := true, plainKeys := false, apart := false, narrowed := true }
def LetterChangedUptoSaid : Prop := letterChangedUptoRow.holds Try.pinned (OpenSpec.upto letterChangedSpec)

/-- 'smaltolaw04.LetterBlotted', WHERE WHAT IT READS IS OF BULK AT MOST 1048576: true; the input reads as it did. -/
def letterBlottedUptoRow : OpenClaim := { program := "ytncbkgbdpaibmaa", sum := "55bf4b777395e9dad74f8d7e7c866d78428d4e018b58fead0d51a029de50cc5a", func := "smalto/smaltolaw04.LetterBlotted", spec := "letterBlotted", unfollowed := true, recurses := true, plainKeys := false, apart := false, narrowed := true }
def LetterBlottedUptoSaid : Prop := letterBlottedUptoRow.holds Try.pinned (OpenSpec.upto letterBlottedSpec)

end Rows
end Go.Proofs.Ytncbkgbdpaibmaa
