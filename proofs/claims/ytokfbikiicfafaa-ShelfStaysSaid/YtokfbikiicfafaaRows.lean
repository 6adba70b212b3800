/-
  No cell of these rows narrows 'for every input' (looked for: loops, veiled, ifaces, maps, wideKeys, modest, calm, conditions, laid).
  DERIVED. THE GIVEN ROWS OF THIS SEAT. 7 by the template 'for every input the law returns true; each argument reads behind the call as it read before'; 0 by the template 'total and deterministic' (their statements: YtokfbikiicfafaaTotals.lean).
  GIVEN WITH THE SEED: the statements are not yours to turn. If you find one false, say at which input.
  Laid BY PROGRAM, IN A SANDBOX (cutbox-rows.mjs): the forced cells as the released guide's own fill.sh prints them over the translation d61104a6ffd79805… (all of the seat's roots in one cut). By AI agents, Wed Nov 11 2026. No macro, syntax, notation, axiom, sorry.
-/
import Derived.Test.YtokfbikiicfafaaChecked
import GoSem.Claim
import GoSem.ClaimJoined
import GoSem.ClaimMapViews
import Derived.JoinedTies
import Derived.KernelRfl
namespace Go.Proofs.Ytokfbikiicfafaa
/- THE CELL 'sum', in the pinned program and in every row, IS THE sha256 OF THE DUMP (.gsa) THAT YtokfbikiicfafaaProg.lean LOADS. Nothing in Lean hashes anything: it is a label: what it is worth is what the hold of that sum in a sandbox is worth. -/
noncomputable def Try.pinned : Pinned := { name := "ytokfbikiicfafaa", sum := "d61104a6ffd7980589f5753d2279702bb68db5867dfcf5137c5c207f1ed372ac", checked := Try.checked }
namespace Rows
def none {H : Type} : Left H := { results := [], args := [] }

/-- 'corncriblaw12.ShelfStays': WHATEVER THE INPUT: true; the input reads as it did. -/
def shelfStaysSpec : ChangeSpec := { name := "shelfStays", fn := fun _ => fun
  | [d1, d2, d3] => { results := [.lit (.bool true)], args := [d1, d2, d3] }
  | _ => none }
def shelfStaysRow : OpenClaim := { program := "ytokfbikiicfafaa", sum := "d61104a6ffd7980589f5753d2279702bb68db5867dfcf5137c5c207f1ed372ac", func := "corncrib/corncriblaw12.ShelfStays", spec := "shelfStays", unfollowed := true, recurses := true, apart := false }
def ShelfStaysSaid : Prop := shelfStaysRow.holds Try.pinned (OpenSpec.ofChange shelfStaysSpec)

/-- ITS FALSE NEIGHBOUR: 'it returns false'. Refute it at one input. -/
def shelfStaysWrong : ChangeSpec := { name := "shelfStays", fn := fun _ => fun
  | [d1, d2, d3] => { results := [.lit (.bool false)], args := [d1, d2, d3] }
  | _ => none }
def ShelfStaysWrongFalsely : Prop := shelfStaysRow.holds Try.pinned (OpenSpec.ofChange shelfStaysWrong)

/-- 'corncriblaw19.VoteFits': WHATEVER THE INPUT: true; the input reads as it did. -/
def voteFitsSpec : ChangeSpec := { name := "voteFits", fn := fun _ => fun
  | [d1, d2, d3] => { results := [.lit (.bool true)], args := [d1, d2, d3] }
  | _ => none }
def voteFitsRow : OpenClaim := { program := "ytokfbikiicfafaa", sum := "d61104a6ffd7980589f5753d2279702bb68db5867dfcf5137c5c207f1ed372ac", func := "corncrib/corncriblaw19.VoteFits", spec := "voteFits", inPlace := ["maps.clone"], unfollowed := true, recurses := true, apart := false }
def VoteFitsSaid : Prop := voteFitsRow.holds Try.pinned (OpenSpec.ofChange voteFitsSpec)

/-- ITS FALSE NEIGHBOUR: 'it returns false'. Refute it at one input. -/
def voteFitsWrong : ChangeSpec := { name := "voteFits", fn := fun _ => fun
  | [d1, d2, d3] => { results := [.lit (.bool false)], args := [d1, d2, d3] }
  | _ => none }
def VoteFitsWrongFalsely : Prop := voteFitsRow.holds Try.pinned (OpenSpec.ofChange voteFitsWrong)

/-- 'corncriblaw19.VoteAnswers': WHATEVER THE INPUT: true; the input reads as it did. -/
def voteAnswersSpec : ChangeSpec := { name := "voteAnswers", fn := fun _ => fun
  | [d1, d2, d3] => { results := [.lit (.bool true)], args := [d1, d2, d3] }
  | _ => none }
def voteAnswersRow : OpenClaim := { program := "ytokfbikiicfafaa", sum := "d61104a6ffd7980589f5753d2279702bb68db5867dfcf5137c5c207f1ed372ac", func := "corncrib/corncriblaw19.VoteAnswers", spec := "voteAnswers", unfollowed := true, recurses := true, apart := false }
def VoteAnswersSaid : Prop := voteAnswersRow.holds Try.pinned (OpenSpec.ofChange voteAnswersSpec)

/-- ITS FALSE NEIGHBOUR: 'it returns false'. Refute it at one input. -/
def voteAnswersWrong : ChangeSpec := { name := "voteAnswers", fn := fun _ => fun
  | [d1, d2, d3] => { results := [.lit (.bool false)], args := [d1, d2, d3] }
  | _ => none }
def VoteAnswersWrongFalsely : Prop := voteAnswersRow.holds Try.pinned (OpenSpec.ofChange voteAnswersWrong)

/-- 'corncriblaw19.VoteHolds': WHATEVER THE INPUT: true; the input reads as it did. -/
def voteHoldsSpec : ChangeSpec := { name := "voteHolds", fn := fun _ => fun
  | [d1, d2, d3] => { results := [.lit (.bool true)], args := [d1, d2, d3] }
  | _ => none }
def voteHoldsRow : OpenClaim := { program := "ytokfbikiicfafaa", sum := "d61104a6ffd7980589f5753d2279702bb68db5867dfcf5137c5c207f1ed372ac", func := "corncrib/corncriblaw19.VoteHolds", spec := "voteHolds", unfollowed := true, recurses := true, apart := false }
def VoteHoldsSaid : Prop := voteHoldsRow.holds Try.pinned (OpenSpec.ofChange voteHoldsSpec)

/-- ITS FALSE NEIGHBOUR: 'it returns false'. Refute it at one input. -/
def voteHoldsWrong : ChangeSpec := { name := "voteHolds", fn := fun _ => fun
  | [d1, d2, d3] => { results := [.lit (.bool false)], args := [d1, d2, d3] }
  | _ => none }
def VoteHoldsWrongFalsely : Prop := voteHoldsRow.holds Try.pinned (OpenSpec.ofChange voteHoldsWrong)

/-- 'corncriblaw18.LocksGrow': WHATEVER THE INPUT: true; the input reads as it did. -/
def locksGrowSpec : ChangeSpec := { name := "locksGrow", fn := fun _ => fun
  | [d1, d2] => { results := [.lit (.bool true)], args := [d1, d2] }
  | _ => none }
def locksGrowRow : OpenClaim := { program := "ytokfbikiicfafaa", sum := "d61104a6ffd7980589f5753d2279702bb68db5867dfcf5137c5c207f1ed372ac", func := "corncrib/corncriblaw18.LocksGrow", spec := "locksGrow", unfollowed := true, recurses := true, apart := false }
def LocksGrowSaid : Prop := locksGrowRow.holds Try.pinned (OpenSpec.ofChange locksGrowSpec)

/-- ITS FALSE NEIGHBOUR: 'it returns false'. Refute it at one input. -/
def locksGrowWrong : ChangeSpec := { name := "locksGrow", fn := fun _ => fun
  | [d1, d2] => { results := [.lit (.bool false)], args := [d1, d2] }
  | _ => none }
def LocksGrowWrongFalsely : Prop := locksGrowRow.holds Try.pinned (OpenSpec.ofChange locksGrowWrong)

/-- 'corncriblaw12.ShelfApart': WHATEVER THE INPUT: true; the input reads as it did. -/
def shelfApartSpec : ChangeSpec := { name := "shelfApart", fn := fun _ => fun
  | [d] => { results := [.lit (.bool true)], args := [d] }
  | _ => none }
def shelfApartRow : OpenClaim := { program := "ytokfbikiicfafaa", sum := "d61104a6ffd7980589f5753d2279702bb68db5867dfcf5137c5c207f1ed372ac", func := "corncrib/corncriblaw12.ShelfApart", spec := "shelfApart", unfollowed := true, recurses := true, apart := false }
def ShelfApartSaid : Prop := shelfApartRow.holds Try.pinned (OpenSpec.ofChange shelfApartSpec)

/-- ITS FALSE NEIGHBOUR: 'it returns false'. Refute it at one input. -/
def shelfApartWrong : ChangeSpec := { name := "shelfApart", fn := fun _ => fun
  | [d] => { results := [.lit (.bool false)], args := [d] }
  | _ => none }
def ShelfApartWrongFalsely : Prop := shelfApartRow.holds Try.pinned (OpenSpec.ofChange shelfApartWrong)

/-- 'corncriblaw18.LocksShelf': WHATEVER THE INPUT: true; the input reads as it did. -/
def locksShelfSpec : ChangeSpec := { name := "locksShelf", fn := fun _ => fun
  | [d] => { results := [.lit (.bool true)], args := [d] }
  | _ => none }
def locksShelfRow : OpenClaim := { program := "ytokfbikiicfafaa", sum := "d61104a6ffd7980589f5753d2279702bb68db5867dfcf5137c5c207f1ed372ac", func := "corncrib/corncriblaw18.LocksShelf", spec := "locksShelf", unfollowed := true, recurses := true, apart := false }
def LocksShelfSaid : Prop := locksShelfRow.holds Try.pinned (OpenSpec.ofChange locksShelfSpec)

/-- ITS FALSE NEIGHBOUR: 'it returns false'. Refute it at one input. -/
def locksShelfWrong : ChangeSpec := { name := "locksShelf", fn := fun _ => fun
  | [d] => { results := [.lit (.bool false)], args := [d] }
  | _ => none }
def LocksShelfWrongFalsely : Prop := locksShelfRow.holds Try.pinned (OpenSpec.ofChange locksShelfWrong)

/- THE SECOND FORM. 'bulk': how many values and letters a reading holds, each counted each time it is reached (what is shared counts as often as it is met; a slice's spare places count too). A statement '..UptoSaid' is the law's where the arguments, and the package variables that the reading takes, are together of bulk at most 1048576: NARROWER than '..Said'. Prove '..Said' where nothing that the law and all that it calls make is longer than what came in: it says more and counts as full. Else prove '..UptoSaid'. A law counts once. -/
mutual
def uptoBulk {H : Type} : DataW H → Nat
  | .lit (.string bytes) => bytes.length + 1
  | .lit _ => 1
  | .nil => 1
  | .ptr d => uptoBulk d + 1
  | .slice elems spare => uptoBulkAll elems + uptoBulkAll spare + 1
  | .agg parts => uptoBulkAll parts + 1
  | .iface _ d => uptoBulk d + 1
  | .map entries => uptoBulkEntries entries + 1
  | .held _ => 1
def uptoBulkAll {H : Type} : List (DataW H) → Nat
  | [] => 0
  | d :: r => uptoBulk d + uptoBulkAll r
def uptoBulkEntries {H : Type} : List (Lit × DataW H) → Nat
  | [] => 0
  | x :: r => uptoBulkEntry x + uptoBulkEntries r
def uptoBulkEntry {H : Type} : Lit × DataW H → Nat
  | (.string bytes, d) => bytes.length + uptoBulk d + 1
  | (_, d) => uptoBulk d + 1
 end
def uptoSmall : (H : Type) → List (DataW H) → Bool := fun _ ds => decide (uptoBulkAll ds ≤ 1048576)
def OpenSpec.upto (s : _root_.Go.ChangeSpec) : _root_.Go.OpenSpec := { _root_.Go.OpenSpec.ofChange s with cond := some uptoSmall }

/-- 'corncriblaw12.ShelfStays', WHERE WHAT IT READS IS OF BULK AT MOST 1048576: true; the input reads as it did. -/
def shelfStaysUptoRow : OpenClaim := { program := "ytokfbikiicfafaa", sum := "d61104a6ffd7980589f5753d2279702bb68db5867dfcf5137c5c207f1ed372ac", func := "corncrib/corncriblaw12.ShelfStays", spec := "shelfStays", unfollowed := true, recurses := true, apart := false, narrowed := true }
def ShelfStaysUptoSaid : Prop := shelfStaysUptoRow.holds Try.pinned (OpenSpec.upto shelfStaysSpec)

/-- 'corncriblaw19.VoteFits', WHERE WHAT IT READS IS OF BULK AT MOST 1048576: true; the input reads as it did. -/
def voteFitsUptoRow : OpenClaim := { program := "ytokfbikiicfafaa", sum := "d61104a6ffd7980589f5753d2279702bb68db5867dfcf5137c5c207f1ed372ac", func := "corncrib/corncriblaw19.VoteFits", spec := "voteFits", inPlace := ["maps.clone"], unfollowed := true, recurses := true, apart := false, narrowed := true }
def VoteFitsUptoSaid : Prop := voteFitsUptoRow.holds Try.pinned (OpenSpec.upto voteFitsSpec)

/-- 'corncriblaw19.VoteAnswers', WHERE WHAT IT READS IS OF BULK AT MOST 1048576: true; the input reads as it did. -/
def voteAnswersUptoRow : OpenClaim := { program := "ytokfbikiicfafaa", sum := "d61104a6ffd7980589f5753d2279702bb68db5867dfcf5137c5c207f1ed372ac", func := "corncrib/corncriblaw19.VoteAnswers", spec := "voteAnswers", unfollowed := true, recurses := true, apart := false, narrowed := true }
def VoteAnswersUptoSaid : Prop := voteAnswersUptoRow.holds Try.pinned (OpenSpec.upto voteAnswersSpec)

/-- 'corncriblaw19.VoteHolds', WHERE WHAT IT READS IS OF BULK AT MOST 1048576: true; the input reads as it did. -/
def voteHoldsUptoRow : OpenClaim := { program := "ytokfbikiicfafaa", sum := "d61104a6ffd7980589f5753d2279702bb68db5867dfcf5137c5c207f1ed372ac", func := "corncrib/corncriblaw19.VoteHolds", spec := "voteHolds", unfollowed := true, recurses := true, apart := false, narrowed := true }
def VoteHoldsUptoSaid : Prop := voteHoldsUptoRow.holds Try.pinned (OpenSpec.upto voteHoldsSpec)

/-- 'corncriblaw18.LocksGrow', WHERE WHAT IT READS IS OF BULK AT MOST 1048576: true; the input reads as it did. -/
def locksGrowUptoRow : OpenClaim := { program := "ytokfbikiicfafaa", sum := "d61104a6ffd7980589f5753d2279702bb68db5867dfcf5137c5c207f1ed372ac", func := "corncrib/corncriblaw18.LocksGrow", spec := "locksGrow", unfollowed := true, recurses := true, apart := false, narrowed := true }
def LocksGrowUptoSaid : Prop := locksGrowUptoRow.holds Try.pinned (OpenSpec.upto locksGrowSpec)

/-- 'corncriblaw12.ShelfApart', WHERE WHAT IT READS IS OF BULK AT MOST 1048576: true; the input reads as it did. -/
def shelfApartUptoRow : OpenClaim := { program := "ytokfbikiicfafaa", sum := "d61104a6ffd7980589f5753d2279702bb68db5867dfcf5137c5c207f1ed372ac", func := "corncrib/corncriblaw12.ShelfApart", spec := "shelfApart", unfollowed := true, recurses := true, apart := false, narrowed := true }
def ShelfApartUptoSaid : Prop := shelfApartUptoRow.holds Try.pinned (OpenSpec.upto shelfApartSpec)

/-- 'corncriblaw18.LocksShelf', WHERE WHAT IT READS IS OF BULK AT MOST 1048576: true; the input reads as it did. -/
def locksShelfUptoRow : OpenClaim := { program := "ytokfbikiicfafaa", sum := "d61104a6ffd7980589f5753d2279702bb68db5867dfcf5137c5c207f1ed372ac", func := "corncrib/corncriblaw18.LocksShelf", spec := "locksShelf", unfollowed := true, recurses := true, apart := false, narrowed := true }
def LocksShelfUptoSaid : Prop := locksShelfUptoRow.holds Try.pinned (OpenSpec.upto locksShelfSpec)

end Rows
end Go.Proofs.Ytokfbikiicfafaa
