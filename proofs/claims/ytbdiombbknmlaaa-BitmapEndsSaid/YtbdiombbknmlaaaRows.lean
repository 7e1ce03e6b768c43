/-
  No cell of these rows narrows 'for every input' (looked for: loops, veiled, ifaces, maps, wideKeys, modest, calm, conditions, laid).
  DERIVED. THE GIVEN ROWS OF THIS SEAT. 3 by the template 'for every input the law returns true; each argument reads behind the call as it read before'; 0 by the template 'total and deterministic' (their statements: YtbdiombbknmlaaaTotals.lean).
  GIVEN WITH THE SEED: the statements are not yours to turn. If you find one false, say at which input.
  Laid BY PROGRAM, IN A SANDBOX (cutbox-rows.mjs): the forced cells as the released guide's own fill.sh prints them over the translation 331b9fbdb166e60a… (all of the seat's roots in one cut). By AI agents, Wed Nov 11 2026. No macro, syntax, notation, axiom, sorry.
-/
import Derived.Test.YtbdiombbknmlaaaChecked
import GoSem.Claim
import GoSem.ClaimJoined
import GoSem.ClaimMapViews
import Derived.JoinedTies
import Derived.KernelRfl
namespace Go.Proofs.Ytbdiombbknmlaaa
/- THE CELL 'sum', in the pinned program and in every row, IS THE sha256 OF THE DUMP (.gsa) THAT YtbdiombbknmlaaaProg.lean LOADS. Nothing in Lean hashes anything: it is a label: what it is worth is what the hold of that sum in a sandbox is worth. -/
noncomputable def Try.pinned : Pinned := { name := "ytbdiombbknmlaaa", sum := "331b9fbdb166e60ac31a28e7490bfb74b844cacbd917516cb9c0e28c755e8991", checked := Try.checked }
namespace Rows
def none {H : Type} : Left H := { results := [], args := [] }

/-- 'shelfmarklaw15.BitmapParts': WHATEVER THE INPUT: true; the input reads as it did. -/
def bitmapPartsSpec : ChangeSpec := { name := "bitmapParts", fn := fun _ => fun
  | [d1, d2, d3] => { results := [.lit (.bool true)], args := [d1, d2, d3] }
  | _ => none }
def bitmapPartsRow : OpenClaim := { program := "ytbdiombbknmlaaa", sum := "331b9fbdb166e60ac31a28e7490bfb74b844cacbd917516cb9c0e28c755e8991", func := "shelfmark/shelfmarklaw15.BitmapParts", spec := "bitmapParts", unfollowed := true, recurses := true, apart := false }
def BitmapPartsSaid : Prop := bitmapPartsRow.holds Try.pinned (OpenSpec.ofChange bitmapPartsSpec)

/-- ITS FALSE NEIGHBOUR: 'it returns false'. Refute it at one input. -/
def bitmapPartsWrong : ChangeSpec := { name := "bitmapParts", fn := fun _ => fun
  | [d1, d2, d3] => { results := [.lit (.bool false)], args := [d1, d2, d3] }
  | _ => none }
def BitmapPartsWrongFalsely : Prop := bitmapPartsRow.holds Try.pinned (OpenSpec.ofChange bitmapPartsWrong)

/-- 'shelfmarklaw15.BitmapTakes': WHATEVER THE INPUT: true; the input reads as it did. -/
def bitmapTakesSpec : ChangeSpec := { name := "bitmapTakes", fn := fun _ => fun
  | [d1, d2] => { results := [.lit (.bool true)], args := [d1, d2] }
  | _ => none }
def bitmapTakesRow : OpenClaim := { program := "ytbdiombbknmlaaa", sum := "331b9fbdb166e60ac31a28e7490bfb74b844cacbd917516cb9c0e28c755e8991", func := "shelfmark/shelfmarklaw15.BitmapTakes", spec := "bitmapTakes", unfollowed := true, recurses := true, apart := false }
def BitmapTakesSaid : Prop := bitmapTakesRow.holds Try.pinned (OpenSpec.ofChange bitmapTakesSpec)

/-- ITS FALSE NEIGHBOUR: 'it returns false'. Refute it at one input. -/
def bitmapTakesWrong : ChangeSpec := { name := "bitmapTakes", fn := fun _ => fun
  | [d1, d2] => { results := [.lit (.bool false)], args := [d1, d2] }
  | _ => none }
def BitmapTakesWrongFalsely : Prop := bitmapTakesRow.holds Try.pinned (OpenSpec.ofChange bitmapTakesWrong)

/-- 'shelfmarklaw15.BitmapEnds': WHATEVER THE INPUT: true; the input reads as it did. -/
def bitmapEndsSpec : ChangeSpec := { name := "bitmapEnds", fn := fun _ => fun
  | [d1, d2] => { results := [.lit (.bool true)], args := [d1, d2] }
  | _ => none }
def bitmapEndsRow : OpenClaim := { program := "ytbdiombbknmlaaa", sum := "331b9fbdb166e60ac31a28e7490bfb74b844cacbd917516cb9c0e28c755e8991", func := "shelfmark/shelfmarklaw15.BitmapEnds", spec := "bitmapEnds", unfollowed := true, recurses := true, apart := false }
def BitmapEndsSaid : Prop := bitmapEndsRow.holds Try.pinned (OpenSpec.ofChange bitmapEndsSpec)

/-- ITS FALSE NEIGHBOUR: 'it returns false'. Refute it at one input. -/
def bitmapEndsWrong : ChangeSpec := { name := "bitmapEnds", fn := fun _ => fun
  | [d1, d2] => { results := [.lit (.bool false)], args := [d1, d2] }
  | _ => none }
def BitmapEndsWrongFalsely : Prop := bitmapEndsRow.holds Try.pinned (OpenSpec.ofChange bitmapEndsWrong)

/- THE SECOND FORM. 'bulk': how many values and letters a reading holds, each counted each time it is reached (what is shared counts as often as it is met; a slice's spare places count too). A statement '..UptoSaid' is the law's where the arguments, and the package variables that the reading takes, are together of bulk at most 1048576: NARROWER than '..Said'. Prove '..Said' where nothing that the law and all that it calls make is longer than what came in: it says more and counts as full. Else prove '..UptoSaid'. A law counts once. -/
mutual
def uptoBulk {H : Type} : DataW H → Nat
  | .lit (.string bytes) => bytes.length + 1
  | .lit _ => 1
  | .nil => 1
  | .ptr d => uptoBulk d + 1
  | .slice elems spare => uptoBulkAll elems + uptoBulkAll spare + 1
  | .agg parts => uptoBulkAll parts + 1
  | .iface _ d => uptoBulk d + 1
  | .map entries => uptoBulkEntries entries + 1
  | .held _ => 1
def uptoBulkAll {H : Type} : List (DataW H) → Nat
  | [] => 0
  | d :: r => uptoBulk d + uptoBulkAll r
def uptoBulkEntries {H : Type} : List (Lit × DataW H) → Nat
  | [] => 0
  | x :: r => uptoBulkEntry x + uptoBulkEntries r
def uptoBulkEntry {H : Type} : Lit × DataW H → Nat
  | (.string bytes, d) => bytes.length + uptoBulk d + 1
  | (_, d) => uptoBulk d + 1
 end
def uptoSmall : (H : Type) → List (DataW H) → Bool := fun _ ds => decide (uptoBulkAll ds ≤ 1048576)
def OpenSpec.upto (s : _root_.Go.ChangeSpec) : _root_.Go.OpenSpec := { _root_.Go.OpenSpec.ofChange s with cond := some uptoSmall }

/-- 'shelfmarklaw15.BitmapParts', WHERE WHAT IT READS IS OF BULK AT MOST 1048576: true; the input reads as it did. -/
def bitmapPartsUptoRow : OpenClaim := { program := "ytbdiombbknmlaaa", sum := "331b9fbdb166e60ac31a28e7490bfb74b844cacbd917516cb9c0e28c755e8991", func := "shelfmark/shelfmarklaw15.BitmapParts", spec := "bitmapParts", unfollowed := true, recurses := true, apart := false, narrowed := true }
def BitmapPartsUptoSaid : Prop := bitmapPartsUptoRow.holds Try.pinned (OpenSpec.upto bitmapPartsSpec)

/-- 'shelfmarklaw15.BitmapTakes', WHERE WHAT IT READS IS OF BULK AT MOST 1048576: true; the input reads as it did. -/
def bitmapTakesUptoRow : OpenClaim := { program := "ytbdiombbknmlaaa", sum := "331b9fbdb166e60ac31a28e7490bfb74b844cacbd917516cb9c0e28c755e8991", func := "shelfmark/shelfmarklaw15.BitmapTakes", spec := "bitmapTakes", unfollowed := true, recurses := true, apart := false, narrowed := true }
def BitmapTakesUptoSaid : Prop := bitmapTakesUptoRow.holds Try.pinned (OpenSpec.upto bitmapTakesSpec)

/-- 'shelfmarklaw15.BitmapEnds', WHERE WHAT IT READS IS OF BULK AT MOST 1048576: true; the input reads as it did. -/
def bitmapEndsUptoRow : OpenClaim := { program := "ytbdiombbknmlaaa", sum := "331b9fbdb166e60ac31a28e7490bfb74b844cacbd917516cb9c0e28c755e8991", func := "shelfmark/shelfmarklaw15.BitmapEnds", spec := "bitmapEnds", unfollowed := true, recurses := true, apart := false, narrowed := true }
def BitmapEndsUptoSaid : Prop := bitmapEndsUptoRow.holds Try.pinned (OpenSpec.upto bitmapEndsSpec)

end Rows
end Go.Proofs.Ytbdiombbknmlaaa
