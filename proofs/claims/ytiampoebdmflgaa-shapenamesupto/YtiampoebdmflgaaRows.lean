/-
  NARROWER THAN 'FOR EVERY INPUT', by the rows' own cells (each row's printed sentence says how): ShapeOf: loops · ShapePositive: loops · ShapeNames: loops · WhnfEnvs: loops · WhnfNil: loops.
  DERIVED. THE GIVEN ROWS OF THIS SEAT. 5 by the template 'for every input the law returns true; each argument reads behind the call as it read before'; 0 by the template 'total and deterministic' (their statements: YtiampoebdmflgaaTotals.lean).
  GIVEN WITH THE SEED: the statements are not yours to turn. If you find one false, say at which input.
  Laid BY PROGRAM, IN A SANDBOX (cutbox-rows.mjs): the forced cells as the released guide's own fill.sh prints them over the translation 52118d6b20601f60… (all of the seat's roots in one cut). By AI agents, Wed Nov 11 2026. No macro, syntax, notation, axiom, sorry.
-/
import Derived.Test.YtiampoebdmflgaaChecked
import GoSem.Claim
import GoSem.ClaimJoined
import GoSem.ClaimMapViews
import Derived.JoinedTies
import Derived.KernelRfl
namespace Go.Proofs.Ytiampoebdmflgaa
/- THE CELL 'sum', in the pinned program and in every row, IS THE sha256 OF THE DUMP (.gsa) THAT YtiampoebdmflgaaProg.lean LOADS. Nothing in Lean hashes anything: it is a label: what it is worth is what the hold of that sum in a sandbox is worth. -/
noncomputable def Try.pinned : Pinned := { name := "ytiampoebdmflgaa", sum := "52118d6b20601f602c10cca97eb76c765352e0ceea0e96f8a8f8520f88a02005", checked := Try.checked }
namespace Rows
def none {H : Type} : Left H := { results := [], args := [] }

/-- 'assizelaw13.ShapeOf': WHATEVER THE INPUT: true; the input reads as it did. -/
def shapeOfSpec : ChangeSpec := { name := "shapeOf", fn := fun _ => fun
  | [d] => { results := [.lit (.bool true)], args := [d] }
  | _ => none }
def shapeOfRow : OpenClaim := { program := "ytiampoebdmflgaa", sum := "52118d6b20601f602c10cca97eb76c765352e0ceea0e96f8a8f8520f88a02005", func := "assize/assizelaw13.ShapeOf", spec := "shapeOf", unfollowed := true, recurses := true, loops := true, apart := false }
def ShapeOfSaid : Prop := shapeOfRow.holds Try.pinned (OpenSpec.ofChange shapeOfSpec)

/-- ITS FALSE NEIGHBOUR: 'it returns false'. Refute it at one input. -/
def shapeOfWrong : ChangeSpec := { name := "shapeOf", fn := fun _ => fun
  | [d] => { results := [.lit (.bool false)], args := [d] }
  | _ => none }
def ShapeOfWrongFalsely : Prop := shapeOfRow.holds Try.pinned (OpenSpec.ofChange shapeOfWrong)

/-- 'assizelaw13.ShapePositive': WHATEVER THE INPUT: true; the input reads as it did. -/
def shapePositiveSpec : ChangeSpec := { name := "shapePositive", fn := fun _ => fun
  | [d1, d2] => { results := [.lit (.bool true)], args := [d1, d2] }
  | _ => none }
def shapePositiveRow : OpenClaim := { program := "ytiampoebdmflgaa", sum := "52118d6b20601f602c10cca97eb76c765352e0ceea0e96f8a8f8520f88a02005", func := "assize/assizelaw13.ShapePositive", spec := "shapePositive", unfollowed := true, recurses := true, loops := true, apart := false }
def ShapePositiveSaid : Prop := shapePositiveRow.holds Try.pinned (OpenSpec.ofChange shapePositiveSpec)

/-- ITS FALSE NEIGHBOUR: 'it returns false'. Refute it at one input. -/
def shapePositiveWrong : ChangeSpec := { name := "shapePositive", fn := fun _ => fun
  | [d1, d2] => { results := [.lit (.bool false)], args := [d1, d2] }
  | _ => none }
def ShapePositiveWrongFalsely : Prop := shapePositiveRow.holds Try.pinned (OpenSpec.ofChange shapePositiveWrong)

/-- 'assizelaw13.ShapeNames': WHATEVER THE INPUT: true; the input reads as it did. -/
def shapeNamesSpec : ChangeSpec := { name := "shapeNames", fn := fun _ => fun
  | [d] => { results := [.lit (.bool true)], args := [d] }
  | _ => none }
def shapeNamesRow : OpenClaim := { program := "ytiampoebdmflgaa", sum := "52118d6b20601f602c10cca97eb76c765352e0ceea0e96f8a8f8520f88a02005", func := "assize/assizelaw13.ShapeNames", spec := "shapeNames", unfollowed := true, recurses := true, loops := true, apart := false }
def ShapeNamesSaid : Prop := shapeNamesRow.holds Try.pinned (OpenSpec.ofChange shapeNamesSpec)

/-- ITS FALSE NEIGHBOUR: 'it returns false'. Refute it at one input. -/
def shapeNamesWrong : ChangeSpec := { name := "shapeNames", fn := fun _ => fun
  | [d] => { results := [.lit (.bool false)], args := [d] }
  | _ => none }
def ShapeNamesWrongFalsely : Prop := shapeNamesRow.holds Try.pinned (OpenSpec.ofChange shapeNamesWrong)

/-- 'assizelaw10.WhnfEnvs': WHATEVER THE INPUT: true; the input reads as it did. -/
def whnfEnvsSpec : ChangeSpec := { name := "whnfEnvs", fn := fun _ => fun
  | [d1, d2, d3] => { results := [.lit (.bool true)], args := [d1, d2, d3] }
  | _ => none }
def whnfEnvsRow : OpenClaim := { program := "ytiampoebdmflgaa", sum := "52118d6b20601f602c10cca97eb76c765352e0ceea0e96f8a8f8520f88a02005", func := "assize/assizelaw10.WhnfEnvs", spec := "whnfEnvs", unfollowed := true, recurses := true, loops := true, apart := false }
def WhnfEnvsSaid : Prop := whnfEnvsRow.holds Try.pinned (OpenSpec.ofChange whnfEnvsSpec)

/-- ITS FALSE NEIGHBOUR: 'it returns false'. Refute it at one input. -/
def whnfEnvsWrong : ChangeSpec := { name := "whnfEnvs", fn := fun _ => fun
  | [d1, d2, d3] => { results := [.lit (.bool false)], args := [d1, d2, d3] }
  | _ => none }
def WhnfEnvsWrongFalsely : Prop := whnfEnvsRow.holds Try.pinned (OpenSpec.ofChange whnfEnvsWrong)

/-- 'assizelaw10.WhnfNil': WHATEVER THE INPUT: true; the input reads as it did. -/
def whnfNilSpec : ChangeSpec := { name := "whnfNil", fn := fun _ => fun
  | [d1, d2, d3] => { results := [.lit (.bool true)], args := [d1, d2, d3] }
  | _ => none }
def whnfNilRow : OpenClaim := { program := "ytiampoebdmflgaa", sum := "52118d6b20601f602c10cca97eb76c765352e0ceea0e96f8a8f8520f88a02005", func := "assize/assizelaw10.WhnfNil", spec := "whnfNil", unfollowed := true, recurses := true, loops := true, apart := false }
def WhnfNilSaid : Prop := whnfNilRow.holds Try.pinned (OpenSpec.ofChange whnfNilSpec)

/-- ITS FALSE NEIGHBOUR: 'it returns false'. Refute it at one input. -/
def whnfNilWrong : ChangeSpec := { name := "whnfNil", fn := fun _ => fun
  | [d1, d2, d3] => { results := [.lit (.bool false)], args := [d1, d2, d3] }
  | _ => none }
def WhnfNilWrongFalsely : Prop := whnfNilRow.holds Try.pinned (OpenSpec.ofChange whnfNilWrong)

/- THE SECOND FORM. 'bulk': how many values and letters a reading holds, each counted each time it is reached (what is shared counts as often as it is met; a slice's spare places count too). A statement '..UptoSaid' is the law's where the arguments, and the package variables that the reading takes, are together of bulk at most 1048576: NARROWER than '..Said'. Prove '..Said' where nothing that the law and all that it calls make is longer than what came in: it says more and counts as full. Else prove '..UptoSaid'. A law counts once. -/
mutual
def uptoBulk {H : Type} : DataW H → Nat
  | .lit (.string bytes) => bytes.length + 1
  | .lit _ => 1
  | .nil => 1
  | .ptr d => uptoBulk d + 1
  | .slice elems spare => uptoBulkAll elems + uptoBulkAll spare + 1
  | .agg parts => uptoBulkAll parts + 1
  | .iface _ d => uptoBulk d + 1
  | .map entries => uptoBulkEntries entries + 1
  | .held _ => 1
def uptoBulkAll {H : Type} : List (DataW H) → Nat
  | [] => 0
  | d :: r => uptoBulk d + uptoBulkAll r
def uptoBulkEntries {H : Type} : List (Lit × DataW H) → Nat
  | [] => 0
  | x :: r => uptoBulkEntry x + uptoBulkEntries r
def uptoBulkEntry {H : Type} : Lit × DataW H → Nat
  | (.string bytes, d) => bytes.length + uptoBulk d + 1
  | (_, d) => uptoBulk d + 1
 end
def uptoSmall : (H : Type) → List (DataW H) → Bool := fun _ ds => decide (uptoBulkAll ds ≤ 1048576)
def OpenSpec.upto (s : _root_.Go.ChangeSpec) : _root_.Go.OpenSpec := { _root_.Go.OpenSpec.ofChange s with cond := some uptoSmall }

/-- 'assizelaw13.ShapeOf', WHERE WHAT IT READS IS OF BULK AT MOST 1048576: true; the input reads as it did. -/
def shapeOfUptoRow : OpenClaim := { program := "ytiampoebdmflgaa", sum := "52118d6b20601f602c10cca97eb76c765352e0ceea0e96f8a8f8520f88a02005", func := "assize/assizelaw13.ShapeOf", spec := "shapeOf", unfollowed := true, recurses := true, loops := true, apart := false, narrowed := true }
def ShapeOfUptoSaid : Prop := shapeOfUptoRow.holds Try.pinned (OpenSpec.upto shapeOfSpec)

/-- 'assizelaw13.ShapePositive', WHERE WHAT IT READS IS OF BULK AT MOST 1048576: true; the input reads as it did. -/
def shapePositiveUptoRow : OpenClaim := { program := "ytiampoebdmflgaa", sum := "52118d6b20601f602c10cca97eb76c765352e0ceea0e96f8a8f8520f88a02005", func := "assize/assizelaw13.ShapePositive", spec := "shapePositive", unfollowed := true, recurses := true, loops := true, apart := false, narrowed := true }
def ShapePositiveUptoSaid : Prop := shapePositiveUptoRow.holds Try.pinned (OpenSpec.upto shapePositiveSpec)

/-- 'assizelaw13.ShapeNames', WHERE WHAT IT READS IS OF BULK AT MOST 1048576: true; the input reads as it did. -/
def shapeNamesUptoRow : OpenClaim := { program := "ytiampoebdmflgaa", sum := "52118d6b20601f602c10cca97eb76c765352e0ceea0e96f8a8f8520f88a02005", func := "assize/assizelaw13.ShapeNames", spec := "shapeNames", unfollowed := true, recurses := true, loops := true, apart := false, narrowed := true }
def ShapeNamesUptoSaid : Prop := shapeNamesUptoRow.holds Try.pinned (OpenSpec.upto shapeNamesSpec)

/-- 'assizelaw10.WhnfEnvs', WHERE WHAT IT READS IS OF BULK AT MOST 1048576: true; the input reads as it did. -/
def whnfEnvsUptoRow : OpenClaim := { program := "ytiampoebdmflgaa", sum := "52118d6b20601f602c10cca97eb76c765352e0ceea0e96f8a8f8520f88a02005", func := "assize/assizelaw10.WhnfEnvs", spec := "whnfEnvs", unfollowed := true, recurses := true, loops := true, apart := false, narrowed := true }
def WhnfEnvsUptoSaid : Prop := whnfEnvsUptoRow.holds Try.pinned (OpenSpec.upto whnfEnvsSpec)

/-- 'assizelaw10.WhnfNil', WHERE WHAT IT READS IS OF BULK AT MOST 1048576: true; the input reads as it did. -/
def whnfNilUptoRow : OpenClaim := { program := "ytiampoebdmflgaa", sum := "52118d6b20601f602c10cca97eb76c765352e0ceea0e96f8a8f8520f88a02005", func := "assize/assizelaw10.WhnfNil", spec := "whnfNil", unfollowed := true, recurses := true, loops := true, apart := false, narrowed := true }
def WhnfNilUptoSaid : Prop := whnfNilUptoRow.holds Try.pinned (OpenSpec.upto whnfNilSpec)

end Rows
end Go.Proofs.Ytiampoebdmflgaa
