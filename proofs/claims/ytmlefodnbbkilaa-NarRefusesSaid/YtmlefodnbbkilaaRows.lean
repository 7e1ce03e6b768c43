/-
  No cell of these rows narrows 'for every input' (looked for: loops, veiled, ifaces, maps, wideKeys, modest, calm, conditions, laid).
  DERIVED. THE GIVEN ROWS OF THIS SEAT. 7 by the template 'for every input the law returns true; each argument reads behind the call as it read before'; 0 by the template 'total and deterministic' (their statements: YtmlefodnbbkilaaTotals.lean).
  GIVEN WITH THE SEED: the statements are not yours to turn. If you find one false, say at which input.
  Laid BY PROGRAM, IN A SANDBOX (cutbox-rows.mjs): the forced cells as the released guide's own fill.sh prints them over the translation 3dc5b69d6dd3773b… (all of the seat's roots in one cut). By AI agents, Wed Nov 11 2026. No macro, syntax, notation, axiom, sorry.
-/
import Derived.Test.YtmlefodnbbkilaaChecked
import GoSem.Claim
import GoSem.ClaimJoined
import GoSem.ClaimMapViews
import Derived.JoinedTies
import Derived.KernelRfl
namespace Go.Proofs.Ytmlefodnbbkilaa
/- THE CELL 'sum', in the pinned program and in every row, IS THE sha256 OF THE DUMP (.gsa) THAT YtmlefodnbbkilaaProg.lean LOADS. Nothing in Lean hashes anything: it is a label: what it is worth is what the hold of that sum in a sandbox is worth. -/
noncomputable def Try.pinned : Pinned := { name := "ytmlefodnbbkilaa", sum := "3dc5b69d6dd3773b05f0ade559506a72db9cddf8069e227430273eea2e72c5ba", checked := Try.checked }
namespace Rows
def none {H : Type} : Left H := { results := [], args := [] }

/-- 'shelfmarklaw10.NarMade': WHATEVER THE INPUT: true; the input reads as it did. -/
def narMadeSpec : ChangeSpec := { name := "narMade", fn := fun _ => fun
  | [d1, d2] => { results := [.lit (.bool true)], args := [d1, d2] }
  | _ => none }
def narMadeRow : OpenClaim := { program := "ytmlefodnbbkilaa", sum := "3dc5b69d6dd3773b05f0ade559506a72db9cddf8069e227430273eea2e72c5ba", func := "shelfmark/shelfmarklaw10.NarMade", spec := "narMade", inPlace := ["internal/bytealg.IndexByteString", "internal/bytealg.IndexString", "internal/abi.NoEscape", "internal/bytealg.MakeNoZero"], unfollowed := true, recurses := true, named := ["internal/bytealg.MaxLen"], apart := false }
def NarMadeSaid : Prop := narMadeRow.holds Try.pinned (OpenSpec.ofChange narMadeSpec)

/-- ITS FALSE NEIGHBOUR: 'it returns false'. Refute it at one input. -/
def narMadeWrong : ChangeSpec := { name := "narMade", fn := fun _ => fun
  | [d1, d2] => { results := [.lit (.bool false)], args := [d1, d2] }
  | _ => none }
def NarMadeWrongFalsely : Prop := narMadeRow.holds Try.pinned (OpenSpec.ofChange narMadeWrong)

/-- 'shelfmarklaw10.NarRefuses': WHATEVER THE INPUT: true; the input reads as it did. -/
def narRefusesSpec : ChangeSpec := { name := "narRefuses", fn := fun _ => fun
  | [d] => { results := [.lit (.bool true)], args := [d] }
  | _ => none }
def narRefusesRow : OpenClaim := { program := "ytmlefodnbbkilaa", sum := "3dc5b69d6dd3773b05f0ade559506a72db9cddf8069e227430273eea2e72c5ba", func := "shelfmark/shelfmarklaw10.NarRefuses", spec := "narRefuses", inPlace := ["internal/bytealg.IndexByteString", "internal/bytealg.IndexString", "internal/abi.NoEscape", "internal/bytealg.MakeNoZero"], unfollowed := true, recurses := true, named := ["internal/bytealg.MaxLen"], apart := false }
def NarRefusesSaid : Prop := narRefusesRow.holds Try.pinned (OpenSpec.ofChange narRefusesSpec)

/-- ITS FALSE NEIGHBOUR: 'it returns false'. Refute it at one input. -/
def narRefusesWrong : ChangeSpec := { name := "narRefuses", fn := fun _ => fun
  | [d] => { results := [.lit (.bool false)], args := [d] }
  | _ => none }
def NarRefusesWrongFalsely : Prop := narRefusesRow.holds Try.pinned (OpenSpec.ofChange narRefusesWrong)

/-- 'shelfmarklaw10.NarKnown': WHATEVER THE INPUT: true; the input reads as it did. -/
def narKnownSpec : ChangeSpec := { name := "narKnown", fn := fun _ => fun
  | [d1, d2] => { results := [.lit (.bool true)], args := [d1, d2] }
  | _ => none }
def narKnownRow : OpenClaim := { program := "ytmlefodnbbkilaa", sum := "3dc5b69d6dd3773b05f0ade559506a72db9cddf8069e227430273eea2e72c5ba", func := "shelfmark/shelfmarklaw10.NarKnown", spec := "narKnown", inPlace := ["internal/bytealg.IndexByteString", "internal/bytealg.IndexString", "internal/abi.NoEscape", "internal/bytealg.MakeNoZero"], unfollowed := true, recurses := true, named := ["internal/bytealg.MaxLen"], apart := false }
def NarKnownSaid : Prop := narKnownRow.holds Try.pinned (OpenSpec.ofChange narKnownSpec)

/-- ITS FALSE NEIGHBOUR: 'it returns false'. Refute it at one input. -/
def narKnownWrong : ChangeSpec := { name := "narKnown", fn := fun _ => fun
  | [d1, d2] => { results := [.lit (.bool false)], args := [d1, d2] }
  | _ => none }
def NarKnownWrongFalsely : Prop := narKnownRow.holds Try.pinned (OpenSpec.ofChange narKnownWrong)

/-- 'shelfmarklaw10.NarTexts': WHATEVER THE INPUT: true; the input reads as it did. -/
def narTextsSpec : ChangeSpec := { name := "narTexts", fn := fun _ => fun
  | [d1, d2, d3] => { results := [.lit (.bool true)], args := [d1, d2, d3] }
  | _ => none }
def narTextsRow : OpenClaim := { program := "ytmlefodnbbkilaa", sum := "3dc5b69d6dd3773b05f0ade559506a72db9cddf8069e227430273eea2e72c5ba", func := "shelfmark/shelfmarklaw10.NarTexts", spec := "narTexts", inPlace := ["internal/bytealg.IndexByteString", "internal/bytealg.IndexString", "internal/abi.NoEscape", "internal/bytealg.MakeNoZero"], unfollowed := true, recurses := true, named := ["internal/bytealg.MaxLen"], apart := false }
def NarTextsSaid : Prop := narTextsRow.holds Try.pinned (OpenSpec.ofChange narTextsSpec)

/-- ITS FALSE NEIGHBOUR: 'it returns false'. Refute it at one input. -/
def narTextsWrong : ChangeSpec := { name := "narTexts", fn := fun _ => fun
  | [d1, d2, d3] => { results := [.lit (.bool false)], args := [d1, d2, d3] }
  | _ => none }
def NarTextsWrongFalsely : Prop := narTextsRow.holds Try.pinned (OpenSpec.ofChange narTextsWrong)

/-- 'shelfmarklaw10.NarLimits': WHATEVER THE INPUT: true; the input reads as it did. -/
def narLimitsSpec : ChangeSpec := { name := "narLimits", fn := fun _ => fun
  | [d1, d2] => { results := [.lit (.bool true)], args := [d1, d2] }
  | _ => none }
def narLimitsRow : OpenClaim := { program := "ytmlefodnbbkilaa", sum := "3dc5b69d6dd3773b05f0ade559506a72db9cddf8069e227430273eea2e72c5ba", func := "shelfmark/shelfmarklaw10.NarLimits", spec := "narLimits", inPlace := ["internal/bytealg.IndexByteString", "internal/bytealg.IndexString", "internal/abi.NoEscape", "internal/bytealg.MakeNoZero"], unfollowed := true, recurses := true, named := ["internal/bytealg.MaxLen"], apart := false }
def NarLimitsSaid : Prop := narLimitsRow.holds Try.pinned (OpenSpec.ofChange narLimitsSpec)

/-- ITS FALSE NEIGHBOUR: 'it returns false'. Refute it at one input. -/
def narLimitsWrong : ChangeSpec := { name := "narLimits", fn := fun _ => fun
  | [d1, d2] => { results := [.lit (.bool false)], args := [d1, d2] }
  | _ => none }
def NarLimitsWrongFalsely : Prop := narLimitsRow.holds Try.pinned (OpenSpec.ofChange narLimitsWrong)

/-- 'shelfmarklaw10.NarAll': WHATEVER THE INPUT: true; the input reads as it did. -/
def narAllSpec : ChangeSpec := { name := "narAll", fn := fun _ => fun
  | [d1, d2, d3, d4] => { results := [.lit (.bool true)], args := [d1, d2, d3, d4] }
  | _ => none }
def narAllRow : OpenClaim := { program := "ytmlefodnbbkilaa", sum := "3dc5b69d6dd3773b05f0ade559506a72db9cddf8069e227430273eea2e72c5ba", func := "shelfmark/shelfmarklaw10.NarAll", spec := "narAll", inPlace := ["internal/bytealg.IndexByteString", "internal/bytealg.IndexString", "internal/abi.NoEscape", "internal/bytealg.MakeNoZero"], unfollowed := true, recurses := true, named := ["internal/bytealg.MaxLen"], apart := false }
def NarAllSaid : Prop := narAllRow.holds Try.pinned (OpenSpec.ofChange narAllSpec)

/-- ITS FALSE NEIGHBOUR: 'it returns false'. Refute it at one input. -/
def narAllWrong : ChangeSpec := { name := "narAll", fn := fun _ => fun
  | [d1, d2, d3, d4] => { results := [.lit (.bool false)], args := [d1, d2, d3, d4] }
  | _ => none }
def NarAllWrongFalsely : Prop := narAllRow.holds Try.pinned (OpenSpec.ofChange narAllWrong)

/-- 'shelfmarklaw10.NarTwo': WHATEVER THE INPUT: true; the input reads as it did. -/
def narTwoSpec : ChangeSpec := { name := "narTwo", fn := fun _ => fun
  | [d1, d2, d3, d4] => { results := [.lit (.bool true)], args := [d1, d2, d3, d4] }
  | _ => none }
def narTwoRow : OpenClaim := { program := "ytmlefodnbbkilaa", sum := "3dc5b69d6dd3773b05f0ade559506a72db9cddf8069e227430273eea2e72c5ba", func := "shelfmark/shelfmarklaw10.NarTwo", spec := "narTwo", inPlace := ["internal/bytealg.IndexByteString", "internal/bytealg.IndexString", "internal/abi.NoEscape", "internal/bytealg.MakeNoZero"], unfollowed := true, recurses := true, named := ["internal/bytealg.MaxLen"], apart := false }
def NarTwoSaid : Prop := narTwoRow.holds Try.pinned (OpenSpec.ofChange narTwoSpec)

/-- ITS FALSE NEIGHBOUR: 'it returns false'. Refute it at one input. -/
def narTwoWrong : ChangeSpec := { name := "narTwo", fn := fun _ => fun
  | [d1, d2, d3, d4] => { results := [.lit (.bool false)], args := [d1, d2, d3, d4] }
  | _ => none }
def NarTwoWrongFalsely : Prop := narTwoRow.holds Try.pinned (OpenSpec.ofChange narTwoWrong)

/- THE SECOND FORM. 'bulk': how many values and letters a reading holds, each counted each time it is reached (what is shared counts as often as it is met; a slice's spare places count too). A statement '..UptoSaid' is the law's where the arguments, and the package variables that the reading takes, are together of bulk at most 1048576: NARROWER than '..Said'. Prove '..Said' where nothing that the law and all that it calls make is longer than what came in: it says more and counts as full. Else prove '..UptoSaid'. A law counts once. -/
mutual
def uptoBulk {H : Type} : DataW H → Nat
  | .lit (.string bytes) => bytes.length + 1
  | .lit _ => 1
  | .nil => 1
  | .ptr d => uptoBulk d + 1
  | .slice elems spare => uptoBulkAll elems + uptoBulkAll spare + 1
  | .agg parts => uptoBulkAll parts + 1
  | .iface _ d => uptoBulk d + 1
  | .map entries => uptoBulkEntries entries + 1
  | .held _ => 1
def uptoBulkAll {H : Type} : List (DataW H) → Nat
  | [] => 0
  | d :: r => uptoBulk d + uptoBulkAll r
def uptoBulkEntries {H : Type} : List (Lit × DataW H) → Nat
  | [] => 0
  | x :: r => uptoBulkEntry x + uptoBulkEntries r
def uptoBulkEntry {H : Type} : Lit × DataW H → Nat
  | (.string bytes, d) => bytes.length + uptoBulk d + 1
  | (_, d) => uptoBulk d + 1
 end
def uptoSmall : (H : Type) → List (DataW H) → Bool := fun _ ds => decide (uptoBulkAll ds ≤ 1048576)
def OpenSpec.upto (s : _root_.Go.ChangeSpec) : _root_.Go.OpenSpec := { _root_.Go.OpenSpec.ofChange s with cond := some uptoSmall }

/-- 'shelfmarklaw10.NarMade', WHERE WHAT IT READS IS OF BULK AT MOST 1048576: true; the input reads as it did. -/
def narMadeUptoRow : OpenClaim := { program := "ytmlefodnbbkilaa", sum := "3dc5b69d6dd3773b05f0ade559506a72db9cddf8069e227430273eea2e72c5ba", func := "shelfmark/shelfmarklaw10.NarMade", spec := "narMade", inPlace := ["internal/bytealg.IndexByteString", "internal/bytealg.IndexString", "internal/abi.NoEscape", "internal/bytealg.MakeNoZero"], unfollowed := true, recurses := true, named := ["internal/bytealg.MaxLen"], apart := false, narrowed := true }
def NarMadeUptoSaid : Prop := narMadeUptoRow.holds Try.pinned (OpenSpec.upto narMadeSpec)

/-- 'shelfmarklaw10.NarRefuses', WHERE WHAT IT READS IS OF BULK AT MOST 1048576: true; the input reads as it did. -/
def narRefusesUptoRow : OpenClaim := { program := "ytmlefodnbbkilaa", sum := "3dc5b69d6dd3773b05f0ade559506a72db9cddf8069e227430273eea2e72c5ba", func := "shelfmark/shelfmarklaw10.NarRefuses", spec := "narRefuses", inPlace := ["internal/bytealg.IndexByteString", "internal/bytealg.IndexString", "internal/abi.NoEscape", "internal/bytealg.MakeNoZero"], unfollowed := true, recurses := true, named := ["internal/bytealg.MaxLen"], apart := false, narrowed := true }
def NarRefusesUptoSaid : Prop := narRefusesUptoRow.holds Try.pinned (OpenSpec.upto narRefusesSpec)

/-- 'shelfmarklaw10.NarKnown', WHERE WHAT IT READS IS OF BULK AT MOST 1048576: true; the input reads as it did. -/
def narKnownUptoRow : OpenClaim := { program := "ytmlefodnbbkilaa", sum := "3dc5b69d6dd3773b05f0ade559506a72db9cddf8069e227430273eea2e72c5ba", func := "shelfmark/shelfmarklaw10.NarKnown", spec := "narKnown", inPlace := ["internal/bytealg.IndexByteString", "internal/bytealg.IndexString", "internal/abi.NoEscape", "internal/bytealg.MakeNoZero"], unfollowed := true, recurses := true, named := ["internal/bytealg.MaxLen"], apart := false, narrowed := true }
def NarKnownUptoSaid : Prop := narKnownUptoRow.holds Try.pinned (OpenSpec.upto narKnownSpec)

/-- 'shelfmarklaw10.NarTexts', WHERE WHAT IT READS IS OF BULK AT MOST 1048576: true; the input reads as it did. -/
def narTextsUptoRow : OpenClaim := { program := "ytmlefodnbbkilaa", sum := "3dc5b69d6dd3773b05f0ade559506a72db9cddf8069e227430273eea2e72c5ba", func := "shelfmark/shelfmarklaw10.NarTexts", spec := "narTexts", inPlace := ["internal/bytealg.IndexByteString", "internal/bytealg.IndexString", "internal/abi.NoEscape", "internal/bytealg.MakeNoZero"], unfollowed := true, recurses := true, named := ["internal/bytealg.MaxLen"], apart := false, narrowed := true }
def NarTextsUptoSaid : Prop := narTextsUptoRow.holds Try.pinned (OpenSpec.upto narTextsSpec)

/-- 'shelfmarklaw10.NarLimits', WHERE WHAT IT READS IS OF BULK AT MOST 1048576: true; the input reads as it did. -/
def narLimitsUptoRow : OpenClaim := { program := "ytmlefodnbbkilaa", sum := "3dc5b69d6dd3773b05f0ade559506a72db9cddf8069e227430273eea2e72c5ba", func := "shelfmark/shelfmarklaw10.NarLimits", spec := "narLimits", inPlace := ["internal/bytealg.IndexByteString", "internal/bytealg.IndexString", "internal/abi.NoEscape", "internal/bytealg.MakeNoZero"], unfollowed := true, recurses := true, named := ["internal/bytealg.MaxLen"], apart := false, narrowed := true }
def NarLimitsUptoSaid : Prop := narLimitsUptoRow.holds Try.pinned (OpenSpec.upto narLimitsSpec)

/-- 'shelfmarklaw10.NarAll', WHERE WHAT IT READS IS OF BULK AT MOST 1048576: true; the input reads as it did. -/
def narAllUptoRow : OpenClaim := { program := "ytmlefodnbbkilaa", sum := "3dc5b69d6dd3773b05f0ade559506a72db9cddf8069e227430273eea2e72c5ba", func := "shelfmark/shelfmarklaw10.NarAll", spec := "narAll", inPlace := ["internal/bytealg.IndexByteString", "internal/bytealg.IndexString", "internal/abi.NoEscape", "internal/bytealg.MakeNoZero"], unfollowed := true, recurses := true, named := ["internal/bytealg.MaxLen"], apart := false, narrowed := true }
def NarAllUptoSaid : Prop := narAllUptoRow.holds Try.pinned (OpenSpec.upto narAllSpec)

/-- 'shelfmarklaw10.NarTwo', WHERE WHAT IT READS IS OF BULK AT MOST 1048576: true; the input reads as it did. -/
def narTwoUptoRow : OpenClaim := { program := "ytmlefodnbbkilaa", sum := "3dc5b69d6dd3773b05f0ade559506a72db9cddf8069e227430273eea2e72c5ba", func := "shelfmark/shelfmarklaw10.NarTwo", spec := "narTwo", inPlace := ["internal/bytealg.IndexByteString", "internal/bytealg.IndexString", "internal/abi.NoEscape", "internal/bytealg.MakeNoZero"], unfollowed := true, recurses := true, named := ["internal/bytealg.MaxLen"], apart := false, narrowed := true }
def NarTwoUptoSaid : Prop := narTwoUptoRow.holds Try.pinned (OpenSpec.upto narTwoSpec)

end Rows
end Go.Proofs.Ytmlefodnbbkilaa
