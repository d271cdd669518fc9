/-
  No cell of these rows narrows 'for every input' (looked for: loops, veiled, ifaces, maps, wideKeys, modest, calm, conditions, laid).
  DERIVED. THE GIVEN ROWS OF THIS SEAT. 3 by the template 'for every input the law returns true; each argument reads behind the call as it read before'; 0 by the template 'total and deterministic' (their statements: YtiiglipmekeikaaTotals.lean).
  GIVEN WITH THE SEED: the statements are not yours to turn. If you find one false, say at which input.
  Laid BY PROGRAM, IN A SANDBOX (cutbox-rows.mjs): the forced cells as the released guide's own fill.sh prints them over the translation 64c04549220a3d09… (all of the seat's roots in one cut). By AI agents, Wed Nov 11 2026. No macro, syntax, notation, axiom, sorry.
-/
import Derived.Test.YtiiglipmekeikaaChecked
import GoSem.Claim
import GoSem.ClaimJoined
import GoSem.ClaimMapViews
import Derived.JoinedTies
import Derived.KernelRfl
namespace Go.Proofs.Ytiiglipmekeikaa
/- THE CELL 'sum', in the pinned program and in every row, IS THE sha256 OF THE DUMP (.gsa) THAT YtiiglipmekeikaaProg.lean LOADS. Nothing in Lean hashes anything: it is a label: what it is worth is what the hold of that sum in a sandbox is worth. -/
noncomputable def Try.pinned : Pinned := { name := "ytiiglipmekeikaa", sum := "64c04549220a3d099eb8da8fbb7a822229d8a4c67ffe34fc68b7cb6fc637338c", checked := Try.checked }
namespace Rows
def none {H : Type} : Left H := { results := [], args := [] }

/-- 'armoirelaw18.AlarmAgain': WHATEVER THE INPUT: true; the input reads as it did. -/
def alarmAgainSpec : ChangeSpec := { name := "alarmAgain", fn := fun _ => fun
  | [d1, d2, d3] => { results := [.lit (.bool true)], args := [d1, d2, d3] }
  | _ => none }
def alarmAgainRow : OpenClaim := { program := "ytiiglipmekeikaa", sum := "64c04549220a3d099eb8da8fbb7a822229d8a4c67ffe34fc68b7cb6fc637338c", func := "armoire/armoirelaw18.AlarmAgain", spec := "alarmAgain", unfollowed := true, recurses := true, apart := false }
def AlarmAgainSaid : Prop := alarmAgainRow.holds Try.pinned (OpenSpec.ofChange alarmAgainSpec)

/-- ITS FALSE NEIGHBOUR: 'it returns false'. Refute it at one input. -/
def alarmAgainWrong : ChangeSpec := { name := "alarmAgain", fn := fun _ => fun
  | [d1, d2, d3] => { results := [.lit (.bool false)], args := [d1, d2, d3] }
  | _ => none }
def AlarmAgainWrongFalsely : Prop := alarmAgainRow.holds Try.pinned (OpenSpec.ofChange alarmAgainWrong)

/-- 'armoirelaw18.AlarmOrder': WHATEVER THE INPUT: true; the input reads as it did. -/
def alarmOrderSpec : ChangeSpec := { name := "alarmOrder", fn := fun _ => fun
  | [d1, d2] => { results := [.lit (.bool true)], args := [d1, d2] }
  | _ => none }
def alarmOrderRow : OpenClaim := { program := "ytiiglipmekeikaa", sum := "64c04549220a3d099eb8da8fbb7a822229d8a4c67ffe34fc68b7cb6fc637338c", func := "armoire/armoirelaw18.AlarmOrder", spec := "alarmOrder", unfollowed := true, recurses := true, apart := false }
def AlarmOrderSaid : Prop := alarmOrderRow.holds Try.pinned (OpenSpec.ofChange alarmOrderSpec)

/-- ITS FALSE NEIGHBOUR: 'it returns false'. Refute it at one input. -/
def alarmOrderWrong : ChangeSpec := { name := "alarmOrder", fn := fun _ => fun
  | [d1, d2] => { results := [.lit (.bool false)], args := [d1, d2] }
  | _ => none }
def AlarmOrderWrongFalsely : Prop := alarmOrderRow.holds Try.pinned (OpenSpec.ofChange alarmOrderWrong)

/-- 'armoirelaw18.AlarmPlays': WHATEVER THE INPUT: true; the input reads as it did. -/
def alarmPlaysSpec : ChangeSpec := { name := "alarmPlays", fn := fun _ => fun
  | [d] => { results := [.lit (.bool true)], args := [d] }
  | _ => none }
def alarmPlaysRow : OpenClaim := { program := "ytiiglipmekeikaa", sum := "64c04549220a3d099eb8da8fbb7a822229d8a4c67ffe34fc68b7cb6fc637338c", func := "armoire/armoirelaw18.AlarmPlays", spec := "alarmPlays", unfollowed := true, recurses := true, apart := false }
def AlarmPlaysSaid : Prop := alarmPlaysRow.holds Try.pinned (OpenSpec.ofChange alarmPlaysSpec)

/-- ITS FALSE NEIGHBOUR: 'it returns false'. Refute it at one input. -/
def alarmPlaysWrong : ChangeSpec := { name := "alarmPlays", fn := fun _ => fun
  | [d] => { results := [.lit (.bool false)], args := [d] }
  | _ => none }
def AlarmPlaysWrongFalsely : Prop := alarmPlaysRow.holds Try.pinned (OpenSpec.ofChange alarmPlaysWrong)

/- THE SECOND FORM. 'bulk': how many values and letters a reading holds, each counted each time it is reached (what is shared counts as often as it is met; a slice's spare places count too). A statement '..UptoSaid' is the law's where the arguments, and the package variables that the reading takes, are together of bulk at most 1048576: NARROWER than '..Said'. Prove '..Said' where nothing that the law and all that it calls make is longer than what came in: it says more and counts as full. Else prove '..UptoSaid'. A law counts once. -/
mutual
def uptoBulk {H : Type} : DataW H → Nat
  | .lit (.string bytes) => bytes.length + 1
  | .lit _ => 1
  | .nil => 1
  | .ptr d => uptoBulk d + 1
  | .slice elems spare => uptoBulkAll elems + uptoBulkAll spare + 1
  | .agg parts => uptoBulkAll parts + 1
  | .iface _ d => uptoBulk d + 1
  | .map entries => uptoBulkEntries entries + 1
  | .held _ => 1
def uptoBulkAll {H : Type} : List (DataW H) → Nat
  | [] => 0
  | d :: r => uptoBulk d + uptoBulkAll r
def uptoBulkEntries {H : Type} : List (Lit × DataW H) → Nat
  | [] => 0
  | x :: r => uptoBulkEntry x + uptoBulkEntries r
def uptoBulkEntry {H : Type} : Lit × DataW H → Nat
  | (.string bytes, d) => bytes.length + uptoBulk d + 1
  | (_, d) => uptoBulk d + 1
 end
def uptoSmall : (H : Type) → List (DataW H) → Bool := fun _ ds => decide (uptoBulkAll ds ≤ 1048576)
def OpenSpec.upto (s : _root_.Go.ChangeSpec) : _root_.Go.OpenSpec := { _root_.Go.OpenSpec.ofChange s with cond := some uptoSmall }

/-- 'armoirelaw18.AlarmAgain', WHERE WHAT IT READS IS OF BULK AT MOST 1048576: true; the input reads as it did. -/
def alarmAgainUptoRow : OpenClaim := { program := "ytiiglipmekeikaa", sum := "64c04549220a3d099eb8da8fbb7a822229d8a4c67ffe34fc68b7cb6fc637338c", func := "armoire/armoirelaw18.AlarmAgain", spec := "alarmAgain", unfollowed := true, recurses := true, apart := false, narrowed := true }
def AlarmAgainUptoSaid : Prop := alarmAgainUptoRow.holds Try.pinned (OpenSpec.upto alarmAgainSpec)

/-- 'armoirelaw18.AlarmOrder', WHERE WHAT IT READS IS OF BULK AT MOST 1048576: true; the input reads as it did. -/
def alarmOrderUptoRow : OpenClaim := { program := "ytiiglipmekeikaa", sum := "64c04549220a3d099eb8da8fbb7a822229d8a4c67ffe34fc68b7cb6fc637338c", func := "armoire/armoirelaw18.AlarmOrder", spec := "alarmOrder", unfollowed := true, recurses := true, apart := false, narrowed := true }
def AlarmOrderUptoSaid : Prop := alarmOrderUptoRow.holds Try.pinned (OpenSpec.upto alarmOrderSpec)

/-- 'armoirelaw18.AlarmPlays', WHERE WHAT IT READS IS OF BULK AT MOST 1048576: true; the input reads as it did. -/
def alarmPlaysUptoRow : OpenClaim := { program := "ytiiglipmekeikaa", sum := "64c04549220a3d099eb8da8fbb7a822229d8a4c67ffe34fc68b7cb6fc637338c", func := "armoire/armoirelaw18.AlarmPlays", spec := "alarmPlays", unfollowed := true, recurses := true, apart := false, narrowed := true }
def AlarmPlaysUptoSaid : Prop := alarmPlaysUptoRow.holds Try.pinned (OpenSpec.upto alarmPlaysSpec)

end Rows
end Go.Proofs.Ytiiglipmekeikaa
