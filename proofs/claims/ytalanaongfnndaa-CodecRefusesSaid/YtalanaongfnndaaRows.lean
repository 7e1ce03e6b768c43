/-
  No cell of these rows narrows 'for every input' (looked for: loops, veiled, ifaces, maps, wideKeys, modest, calm, conditions, laid).
  DERIVED. THE GIVEN ROWS OF THIS SEAT. 3 by the template 'for every input the law returns true; each argument reads behind the call as it read before'; 0 by the template 'total and deterministic' (their statements: YtalanaongfnndaaTotals.lean).
  GIVEN WITH THE SEED: the statements are not yours to turn. If you find one false, say at which input.
  Laid BY PROGRAM, IN A SANDBOX (cutbox-rows.mjs): the forced cells as the released guide's own fill.sh prints them over the translation d499bacc3f242c00… (all of the seat's roots in one cut). By AI agents, Wed Nov 11 2026. No macro, syntax, notation, axiom, sorry.
-/
import Derived.Test.YtalanaongfnndaaChecked
import GoSem.Claim
import GoSem.ClaimJoined
import GoSem.ClaimMapViews
import Derived.JoinedTies
import Derived.KernelRfl
namespace Go.Proofs.Ytalanaongfnndaa
/- THE CELL 'sum', in the pinned program and in every row, IS THE sha256 OF THE DUMP (.gsa) THAT YtalanaongfnndaaProg.lean LOADS. Nothing in Lean hashes anything: it is a label: what it is worth is what the hold of that sum in a sandbox is worth. -/
noncomputable def Try.pinned : Pinned := { name := "ytalanaongfnndaa", sum := "d499bacc3f242c005e0a1a8ffa6097d85b35f61c8bc828604e1bcda6d5591d46", checked := Try.checked }
namespace Rows
def none {H : Type} : Left H := { results := [], args := [] }

/-- 'shelfmarklaw5.CodecLetters': WHATEVER THE INPUT: true; the input reads as it did. -/
def codecLettersSpec : ChangeSpec := { name := "codecLetters", fn := fun _ => fun
  | [d1, d2] => { results := [.lit (.bool true)], args := [d1, d2] }
  | _ => none }
def codecLettersRow : OpenClaim := { program := "ytalanaongfnndaa", sum := "d499bacc3f242c005e0a1a8ffa6097d85b35f61c8bc828604e1bcda6d5591d46", func := "shelfmark/shelfmarklaw5.CodecLetters", spec := "codecLetters", apart := false }
def CodecLettersSaid : Prop := codecLettersRow.holds Try.pinned (OpenSpec.ofChange codecLettersSpec)

/-- ITS FALSE NEIGHBOUR: 'it returns false'. Refute it at one input. -/
def codecLettersWrong : ChangeSpec := { name := "codecLetters", fn := fun _ => fun
  | [d1, d2] => { results := [.lit (.bool false)], args := [d1, d2] }
  | _ => none }
def CodecLettersWrongFalsely : Prop := codecLettersRow.holds Try.pinned (OpenSpec.ofChange codecLettersWrong)

/-- 'shelfmarklaw5.CodecFolds': WHATEVER THE INPUT: true; the input reads as it did. -/
def codecFoldsSpec : ChangeSpec := { name := "codecFolds", fn := fun _ => fun
  | [d1, d2, d3] => { results := [.lit (.bool true)], args := [d1, d2, d3] }
  | _ => none }
def codecFoldsRow : OpenClaim := { program := "ytalanaongfnndaa", sum := "d499bacc3f242c005e0a1a8ffa6097d85b35f61c8bc828604e1bcda6d5591d46", func := "shelfmark/shelfmarklaw5.CodecFolds", spec := "codecFolds", apart := false }
def CodecFoldsSaid : Prop := codecFoldsRow.holds Try.pinned (OpenSpec.ofChange codecFoldsSpec)

/-- ITS FALSE NEIGHBOUR: 'it returns false'. Refute it at one input. -/
def codecFoldsWrong : ChangeSpec := { name := "codecFolds", fn := fun _ => fun
  | [d1, d2, d3] => { results := [.lit (.bool false)], args := [d1, d2, d3] }
  | _ => none }
def CodecFoldsWrongFalsely : Prop := codecFoldsRow.holds Try.pinned (OpenSpec.ofChange codecFoldsWrong)

/-- 'shelfmarklaw5.CodecRefuses': WHATEVER THE INPUT: true; the input reads as it did. -/
def codecRefusesSpec : ChangeSpec := { name := "codecRefuses", fn := fun _ => fun
  | [d1, d2] => { results := [.lit (.bool true)], args := [d1, d2] }
  | _ => none }
def codecRefusesRow : OpenClaim := { program := "ytalanaongfnndaa", sum := "d499bacc3f242c005e0a1a8ffa6097d85b35f61c8bc828604e1bcda6d5591d46", func := "shelfmark/shelfmarklaw5.CodecRefuses", spec := "codecRefuses", inPlace := ["internal/bytealg.IndexByteString"], unfollowed := true, recurses := true, apart := false }
def CodecRefusesSaid : Prop := codecRefusesRow.holds Try.pinned (OpenSpec.ofChange codecRefusesSpec)

/-- ITS FALSE NEIGHBOUR: 'it returns false'. Refute it at one input. -/
def codecRefusesWrong : ChangeSpec := { name := "codecRefuses", fn := fun _ => fun
  | [d1, d2] => { results := [.lit (.bool false)], args := [d1, d2] }
  | _ => none }
def CodecRefusesWrongFalsely : Prop := codecRefusesRow.holds Try.pinned (OpenSpec.ofChange codecRefusesWrong)

/- THE SECOND FORM. 'bulk': how many values and letters a reading holds, each counted each time it is reached (what is shared counts as often as it is met; a slice's spare places count too). A statement '..UptoSaid' is the law's where the arguments, and the package variables that the reading takes, are together of bulk at most 1048576: NARROWER than '..Said'. Prove '..Said' where nothing that the law and all that it calls make is longer than what came in: it says more and counts as full. Else prove '..UptoSaid'. A law counts once. -/
mutual
def uptoBulk {H : Type} : DataW H → Nat
  | .lit (.string bytes) => bytes.length + 1
  | .lit _ => 1
  | .nil => 1
  | .ptr d => uptoBulk d + 1
  | .slice elems spare => uptoBulkAll elems + uptoBulkAll spare + 1
  | .agg parts => uptoBulkAll parts + 1
  | .iface _ d => uptoBulk d + 1
  | .map entries => uptoBulkEntries entries + 1
  | .held _ => 1
def uptoBulkAll {H : Type} : List (DataW H) → Nat
  | [] => 0
  | d :: r => uptoBulk d + uptoBulkAll r
def uptoBulkEntries {H : Type} : List (Lit × DataW H) → Nat
  | [] => 0
  | x :: r => uptoBulkEntry x + uptoBulkEntries r
def uptoBulkEntry {H : Type} : Lit × DataW H → Nat
  | (.string bytes, d) => bytes.length + uptoBulk d + 1
  | (_, d) => uptoBulk d + 1
 end
def uptoSmall : (H : Type) → List (DataW H) → Bool := fun _ ds => decide (uptoBulkAll ds ≤ 1048576)
def OpenSpec.upto (s : _root_.Go.ChangeSpec) : _root_.Go.OpenSpec := { _root_.Go.OpenSpec.ofChange s with cond := some uptoSmall }

/-- 'shelfmarklaw5.CodecLetters', WHERE WHAT IT READS IS OF BULK AT MOST 1048576: true; the input reads as it did. -/
def codecLettersUptoRow : OpenClaim := { program := "ytalanaongfnndaa", sum := "d499bacc3f242c005e0a1a8ffa6097d85b35f61c8bc828604e1bcda6d5591d46", func := "shelfmark/shelfmarklaw5.CodecLetters", spec := "codecLetters", apart := false, narrowed := true }
def CodecLettersUptoSaid : Prop := codecLettersUptoRow.holds Try.pinned (OpenSpec.upto codecLettersSpec)

/-- 'shelfmarklaw5.CodecFolds', WHERE WHAT IT READS IS OF BULK AT MOST 1048576: true; the input reads as it did. -/
def codecFoldsUptoRow : OpenClaim := { program := "ytalanaongfnndaa", sum := "d499bacc3f242c005e0a1a8ffa6097d85b35f61c8bc828604e1bcda6d5591d46", func := "shelfmark/shelfmarklaw5.CodecFolds", spec := "codecFolds", apart := false, narrowed := true }
def CodecFoldsUptoSaid : Prop := codecFoldsUptoRow.holds Try.pinned (OpenSpec.upto codecFoldsSpec)

/-- 'shelfmarklaw5.CodecRefuses', WHERE WHAT IT READS IS OF BULK AT MOST 1048576: true; the input reads as it did. -/
def codecRefusesUptoRow : OpenClaim := { program := "ytalanaongfnndaa", sum := "d499bacc3f242c005e0a1a8ffa6097d85b35f61c8bc828604e1bcda6d5591d46", func := "shelfmark/shelfmarklaw5.CodecRefuses", spec := "codecRefuses", inPlace := ["internal/bytealg.IndexByteString"], unfollowed := true, recurses := true, apart := false, narrowed := true }
def CodecRefusesUptoSaid : Prop := codecRefusesUptoRow.holds Try.pinned (OpenSpec.upto codecRefusesSpec)

end Rows
end Go.Proofs.Ytalanaongfnndaa
