/-
  NARROWER THAN 'FOR EVERY INPUT', by the rows' own cells (each row's printed sentence says how): WhnfFuel: loops · WhnfBeta: loops · WhnfNames: loops · WhnfTwice: loops · ShapeFuel: loops.
  DERIVED. THE GIVEN ROWS OF THIS SEAT. 5 by the template 'for every input the law returns true; each argument reads behind the call as it read before'; 0 by the template 'total and deterministic' (their statements: YtiampoebdmflgaaGreatTotals.lean).
  GIVEN WITH THE SEED: the statements are not yours to turn. If you find one false, say at which input.
  Laid BY PROGRAM, IN A SANDBOX (cutbox-rows.mjs): the forced cells as the released guide's own fill.sh prints them over the translation f52e36c2c0ce023d… (all of the seat's roots in one cut). By AI agents, Wed Nov 11 2026. No macro, syntax, notation, axiom, sorry.
-/
import Derived.Test.YtiampoebdmflgaaGreatChecked
import GoSem.Claim
import GoSem.ClaimJoined
import GoSem.ClaimMapViews
import Derived.JoinedTies
import Derived.KernelRfl
namespace Go.Proofs.YtiampoebdmflgaaGreat
/- THE CELL 'sum', in the pinned program and in every row, IS THE sha256 OF THE DUMP (.gsa) THAT YtiampoebdmflgaaGreatProg.lean LOADS. Nothing in Lean hashes anything: it is a label: what it is worth is what the hold of that sum in a sandbox is worth. -/
noncomputable def Tryz.pinned : Pinned := { name := "ytiampoebdmflgaagreat", sum := "f52e36c2c0ce023d595a3ca2aad619bc6cb3501e20fe60ddaea4f6393f4556a7", checked := Tryz.checked }
namespace Rows
def none {H : Type} : Left H := { results := [], args := [] }

/-- 'assizelaw10.WhnfFuel': WHATEVER THE INPUT: true; the input reads as it did. -/
def whnfFuelSpec : ChangeSpec := { name := "whnfFuel", fn := fun _ => fun
  | [d1, d2, d3, d4] => { results := [.lit (.bool true)], args := [d1, d2, d3, d4] }
  | _ => none }
def whnfFuelRow : OpenClaim := { program := "ytiampoebdmflgaagreat", sum := "f52e36c2c0ce023d595a3ca2aad619bc6cb3501e20fe60ddaea4f6393f4556a7", func := "assize/assizelaw10.WhnfFuel", spec := "whnfFuel", unfollowed := true, recurses := true, loops := true, apart := false }
def WhnfFuelSaid : Prop := whnfFuelRow.holds Tryz.pinned (OpenSpec.ofChange whnfFuelSpec)

/-- ITS FALSE NEIGHBOUR: 'it returns false'. Refute it at one input. -/
def whnfFuelWrong : ChangeSpec := { name := "whnfFuel", fn := fun _ => fun
  | [d1, d2, d3, d4] => { results := [.lit (.bool false)], args := [d1, d2, d3, d4] }
  | _ => none }
def WhnfFuelWrongFalsely : Prop := whnfFuelRow.holds Tryz.pinned (OpenSpec.ofChange whnfFuelWrong)

/-- 'assizelaw10.WhnfBeta': WHATEVER THE INPUT: true; the input reads as it did. -/
def whnfBetaSpec : ChangeSpec := { name := "whnfBeta", fn := fun _ => fun
  | [d1, d2, d3, d4] => { results := [.lit (.bool true)], args := [d1, d2, d3, d4] }
  | _ => none }
def whnfBetaRow : OpenClaim := { program := "ytiampoebdmflgaagreat", sum := "f52e36c2c0ce023d595a3ca2aad619bc6cb3501e20fe60ddaea4f6393f4556a7", func := "assize/assizelaw10.WhnfBeta", spec := "whnfBeta", unfollowed := true, recurses := true, loops := true, apart := false }
def WhnfBetaSaid : Prop := whnfBetaRow.holds Tryz.pinned (OpenSpec.ofChange whnfBetaSpec)

/-- ITS FALSE NEIGHBOUR: 'it returns false'. Refute it at one input. -/
def whnfBetaWrong : ChangeSpec := { name := "whnfBeta", fn := fun _ => fun
  | [d1, d2, d3, d4] => { results := [.lit (.bool false)], args := [d1, d2, d3, d4] }
  | _ => none }
def WhnfBetaWrongFalsely : Prop := whnfBetaRow.holds Tryz.pinned (OpenSpec.ofChange whnfBetaWrong)

/-- 'assizelaw10.WhnfNames': WHATEVER THE INPUT: true; the input reads as it did. -/
def whnfNamesSpec : ChangeSpec := { name := "whnfNames", fn := fun _ => fun
  | [d1, d2, d3] => { results := [.lit (.bool true)], args := [d1, d2, d3] }
  | _ => none }
def whnfNamesRow : OpenClaim := { program := "ytiampoebdmflgaagreat", sum := "f52e36c2c0ce023d595a3ca2aad619bc6cb3501e20fe60ddaea4f6393f4556a7", func := "assize/assizelaw10.WhnfNames", spec := "whnfNames", unfollowed := true, recurses := true, loops := true, apart := false }
def WhnfNamesSaid : Prop := whnfNamesRow.holds Tryz.pinned (OpenSpec.ofChange whnfNamesSpec)

/-- ITS FALSE NEIGHBOUR: 'it returns false'. Refute it at one input. -/
def whnfNamesWrong : ChangeSpec := { name := "whnfNames", fn := fun _ => fun
  | [d1, d2, d3] => { results := [.lit (.bool false)], args := [d1, d2, d3] }
  | _ => none }
def WhnfNamesWrongFalsely : Prop := whnfNamesRow.holds Tryz.pinned (OpenSpec.ofChange whnfNamesWrong)

/-- 'assizelaw10.WhnfTwice': WHATEVER THE INPUT: true; the input reads as it did. -/
def whnfTwiceSpec : ChangeSpec := { name := "whnfTwice", fn := fun _ => fun
  | [d1, d2, d3] => { results := [.lit (.bool true)], args := [d1, d2, d3] }
  | _ => none }
def whnfTwiceRow : OpenClaim := { program := "ytiampoebdmflgaagreat", sum := "f52e36c2c0ce023d595a3ca2aad619bc6cb3501e20fe60ddaea4f6393f4556a7", func := "assize/assizelaw10.WhnfTwice", spec := "whnfTwice", unfollowed := true, recurses := true, loops := true, apart := false }
def WhnfTwiceSaid : Prop := whnfTwiceRow.holds Tryz.pinned (OpenSpec.ofChange whnfTwiceSpec)

/-- ITS FALSE NEIGHBOUR: 'it returns false'. Refute it at one input. -/
def whnfTwiceWrong : ChangeSpec := { name := "whnfTwice", fn := fun _ => fun
  | [d1, d2, d3] => { results := [.lit (.bool false)], args := [d1, d2, d3] }
  | _ => none }
def WhnfTwiceWrongFalsely : Prop := whnfTwiceRow.holds Tryz.pinned (OpenSpec.ofChange whnfTwiceWrong)

/-- 'assizelaw13.ShapeFuel': WHATEVER THE INPUT: true; the input reads as it did. -/
def shapeFuelSpec : ChangeSpec := { name := "shapeFuel", fn := fun _ => fun
  | [d1, d2, d3, d4] => { results := [.lit (.bool true)], args := [d1, d2, d3, d4] }
  | _ => none }
def shapeFuelRow : OpenClaim := { program := "ytiampoebdmflgaagreat", sum := "f52e36c2c0ce023d595a3ca2aad619bc6cb3501e20fe60ddaea4f6393f4556a7", func := "assize/assizelaw13.ShapeFuel", spec := "shapeFuel", unfollowed := true, recurses := true, loops := true, apart := false }
def ShapeFuelSaid : Prop := shapeFuelRow.holds Tryz.pinned (OpenSpec.ofChange shapeFuelSpec)

/-- ITS FALSE NEIGHBOUR: 'it returns false'. Refute it at one input. -/
def shapeFuelWrong : ChangeSpec := { name := "shapeFuel", fn := fun _ => fun
  | [d1, d2, d3, d4] => { results := [.lit (.bool false)], args := [d1, d2, d3, d4] }
  | _ => none }
def ShapeFuelWrongFalsely : Prop := shapeFuelRow.holds Tryz.pinned (OpenSpec.ofChange shapeFuelWrong)

/- THE SECOND FORM. 'bulk': how many values and letters a reading holds, each counted each time it is reached (what is shared counts as often as it is met; a slice's spare places count too). A statement '..UptoSaid' is the law's where the arguments, and the package variables that the reading takes, are together of bulk at most 1048576: NARROWER than '..Said'. Prove '..Said' where nothing that the law and all that it calls make is longer than what came in: it says more and counts as full. Else prove '..UptoSaid'. A law counts once. -/
mutual
def uptoBulk {H : Type} : DataW H → Nat
  | .lit (.string bytes) => bytes.length + 1
  | .lit _ => 1
  | .nil => 1
  | .ptr d => uptoBulk d + 1
  | .slice elems spare => uptoBulkAll elems + uptoBulkAll spare + 1
  | .agg parts => uptoBulkAll parts + 1
  | .iface _ d => uptoBulk d + 1
  | .map entries => uptoBulkEntries entries + 1
  | .held _ => 1
def uptoBulkAll {H : Type} : List (DataW H) → Nat
  | [] => 0
  | d :: r => uptoBulk d + uptoBulkAll r
def uptoBulkEntries {H : Type} : List (Lit × DataW H) → Nat
  | [] => 0
  | x :: r => uptoBulkEntry x + uptoBulkEntries r
def uptoBulkEntry {H : Type} : Lit × DataW H → Nat
  | (.string bytes, d) => bytes.length + uptoBulk d + 1
  | (_, d) => uptoBulk d + 1
 end
def uptoSmall : (H : Type) → List (DataW H) → Bool := fun _ ds => decide (uptoBulkAll ds ≤ 1048576)
def OpenSpec.upto (s : _root_.Go.ChangeSpec) : _root_.Go.OpenSpec := { _root_.Go.OpenSpec.ofChange s with cond := some uptoSmall }

/-- 'assizelaw10.WhnfFuel', WHERE WHAT IT READS IS OF BULK AT MOST 1048576: true; the input reads as it did. -/
def whnfFuelUptoRow : OpenClaim := { program := "ytiampoebdmflgaagreat", sum := "f52e36c2c0ce023d595a3ca2aad619bc6cb3501e20fe60ddaea4f6393f4556a7", func := "assize/assizelaw10.WhnfFuel", spec := "whnfFuel", unfollowed := true, recurses := true, loops := true, apart := false, narrowed := true }
def WhnfFuelUptoSaid : Prop := whnfFuelUptoRow.holds Tryz.pinned (OpenSpec.upto whnfFuelSpec)

/-- 'assizelaw10.WhnfBeta', WHERE WHAT IT READS IS OF BULK AT MOST 1048576: true; the input reads as it did. -/
def whnfBetaUptoRow : OpenClaim := { program := "ytiampoebdmflgaagreat", sum := "f52e36c2c0ce023d595a3ca2aad619bc6cb3501e20fe60ddaea4f6393f4556a7", func := "assize/assizelaw10.WhnfBeta", spec := "whnfBeta", unfollowed := true, recurses := true, loops := true, apart := false, narrowed := true }
def WhnfBetaUptoSaid : Prop := whnfBetaUptoRow.holds Tryz.pinned (OpenSpec.upto whnfBetaSpec)

/-- 'assizelaw10.WhnfNames', WHERE WHAT IT READS IS OF BULK AT MOST 1048576: true; the input reads as it did. -/
def whnfNamesUptoRow : OpenClaim := { program := "ytiampoebdmflgaagreat", sum := "f52e36c2c0ce023d595a3ca2aad619bc6cb3501e20fe60ddaea4f6393f4556a7", func := "assize/assizelaw10.WhnfNames", spec := "whnfNames", unfollowed := true, recurses := true, loops := true, apart := false, narrowed := true }
def WhnfNamesUptoSaid : Prop := whnfNamesUptoRow.holds Tryz.pinned (OpenSpec.upto whnfNamesSpec)

/-- 'assizelaw10.WhnfTwice', WHERE WHAT IT READS IS OF BULK AT MOST 1048576: true; the input reads as it did. -/
def whnfTwiceUptoRow : OpenClaim := { program := "ytiampoebdmflgaagreat", sum := "f52e36c2c0ce023d595a3ca2aad619bc6cb3501e20fe60ddaea4f6393f4556a7", func := "assize/assizelaw10.WhnfTwice", spec := "whnfTwice", unfollowed := true, recurses := true, loops := true, apart := false, narrowed := true }
def WhnfTwiceUptoSaid : Prop := whnfTwiceUptoRow.holds Tryz.pinned (OpenSpec.upto whnfTwiceSpec)

/-- 'assizelaw13.ShapeFuel', WHERE WHAT IT READS IS OF BULK AT MOST 1048576: true; the input reads as it did. -/
def shapeFuelUptoRow : OpenClaim := { program := "ytiampoebdmflgaagreat", sum := "f52e36c2c0ce023d595a3ca2aad619bc6cb3501e20fe60ddaea4f6393f4556a7", func := "assize/assizelaw13.ShapeFuel", spec := "shapeFuel", unfollowed := true, recurses := true, loops := true, apart := false, narrowed := true }
def ShapeFuelUptoSaid : Prop := shapeFuelUptoRow.holds Tryz.pinned (OpenSpec.upto shapeFuelSpec)

end Rows
end Go.Proofs.YtiampoebdmflgaaGreat
