/-
  No cell of these rows narrows 'for every input' (looked for: loops, veiled, ifaces, maps, wideKeys, modest, calm, conditions, laid).
  DERIVED. THE GIVEN ROWS OF THIS SEAT. 4 by the template 'for every input the law returns true; each argument reads behind the call as it read before'; 0 by the template 'total and deterministic' (their statements: YtdloapfifhelbaaTotals.lean).
  GIVEN WITH THE SEED: the statements are not yours to turn. If you find one false, say at which input.
  Laid BY PROGRAM, IN A SANDBOX (cutbox-rows.mjs): the forced cells as the released guide's own fill.sh prints them over the translation d852d8979423f97f… (all of the seat's roots in one cut). By AI agents, Wed Nov 11 2026. No macro, syntax, notation, axiom, sorry.
-/
import Derived.Test.YtdloapfifhelbaaChecked
import GoSem.Claim
import GoSem.ClaimJoined
import GoSem.ClaimMapViews
import Derived.JoinedTies
import Derived.KernelRfl
namespace Go.Proofs.Ytdloapfifhelbaa
/- THE CELL 'sum', in the pinned program and in every row, IS THE sha256 OF THE DUMP (.gsa) THAT YtdloapfifhelbaaProg.lean LOADS. Nothing in Lean hashes anything: it is a label: what it is worth is what the hold of that sum in a sandbox is worth. -/
noncomputable def Try.pinned : Pinned := { name := "ytdloapfifhelbaa", sum := "d852d8979423f97f2f3c71937f10df81c1d02c92f31a927c0fdb0c30042f3491", checked := Try.checked }
namespace Rows
def none {H : Type} : Left H := { results := [], args := [] }

/-- 'lodgerlaw08.SessDoes': WHATEVER THE INPUT: true; the input reads as it did. -/
def sessDoesSpec : ChangeSpec := { name := "sessDoes", fn := fun _ => fun
  | [d1, d2, d3] => { results := [.lit (.bool true)], args := [d1, d2, d3] }
  | _ => none }
def sessDoesRow : OpenClaim := { program := "ytdloapfifhelbaa", sum := "d852d8979423f97f2f3c71937f10df81c1d02c92f31a927c0fdb0c30042f3491", func := "lodger/lodgerlaw08.SessDoes", spec := "sessDoes", unfollowed := true, recurses := true, apart := false }
def SessDoesSaid : Prop := sessDoesRow.holds Try.pinned (OpenSpec.ofChange sessDoesSpec)

/-- ITS FALSE NEIGHBOUR: 'it returns false'. Refute it at one input. -/
def sessDoesWrong : ChangeSpec := { name := "sessDoes", fn := fun _ => fun
  | [d1, d2, d3] => { results := [.lit (.bool false)], args := [d1, d2, d3] }
  | _ => none }
def SessDoesWrongFalsely : Prop := sessDoesRow.holds Try.pinned (OpenSpec.ofChange sessDoesWrong)

/-- 'lodgerlaw08.SessLives': WHATEVER THE INPUT: true; the input reads as it did. -/
def sessLivesSpec : ChangeSpec := { name := "sessLives", fn := fun _ => fun
  | [d1, d2, d3] => { results := [.lit (.bool true)], args := [d1, d2, d3] }
  | _ => none }
def sessLivesRow : OpenClaim := { program := "ytdloapfifhelbaa", sum := "d852d8979423f97f2f3c71937f10df81c1d02c92f31a927c0fdb0c30042f3491", func := "lodger/lodgerlaw08.SessLives", spec := "sessLives", unfollowed := true, recurses := true, apart := false }
def SessLivesSaid : Prop := sessLivesRow.holds Try.pinned (OpenSpec.ofChange sessLivesSpec)

/-- ITS FALSE NEIGHBOUR: 'it returns false'. Refute it at one input. -/
def sessLivesWrong : ChangeSpec := { name := "sessLives", fn := fun _ => fun
  | [d1, d2, d3] => { results := [.lit (.bool false)], args := [d1, d2, d3] }
  | _ => none }
def SessLivesWrongFalsely : Prop := sessLivesRow.holds Try.pinned (OpenSpec.ofChange sessLivesWrong)

/-- 'lodgerlaw08.SessSlots': WHATEVER THE INPUT: true; the input reads as it did. -/
def sessSlotsSpec : ChangeSpec := { name := "sessSlots", fn := fun _ => fun
  | [d1, d2, d3] => { results := [.lit (.bool true)], args := [d1, d2, d3] }
  | _ => none }
def sessSlotsRow : OpenClaim := { program := "ytdloapfifhelbaa", sum := "d852d8979423f97f2f3c71937f10df81c1d02c92f31a927c0fdb0c30042f3491", func := "lodger/lodgerlaw08.SessSlots", spec := "sessSlots", unfollowed := true, recurses := true, apart := false }
def SessSlotsSaid : Prop := sessSlotsRow.holds Try.pinned (OpenSpec.ofChange sessSlotsSpec)

/-- ITS FALSE NEIGHBOUR: 'it returns false'. Refute it at one input. -/
def sessSlotsWrong : ChangeSpec := { name := "sessSlots", fn := fun _ => fun
  | [d1, d2, d3] => { results := [.lit (.bool false)], args := [d1, d2, d3] }
  | _ => none }
def SessSlotsWrongFalsely : Prop := sessSlotsRow.holds Try.pinned (OpenSpec.ofChange sessSlotsWrong)

/-- 'lodgerlaw08.SessKnown': WHATEVER THE INPUT: true; the input reads as it did. -/
def sessKnownSpec : ChangeSpec := { name := "sessKnown", fn := fun _ => fun
  | [] => { results := [.lit (.bool true)], args := [] }
  | _ => none }
def sessKnownRow : OpenClaim := { program := "ytdloapfifhelbaa", sum := "d852d8979423f97f2f3c71937f10df81c1d02c92f31a927c0fdb0c30042f3491", func := "lodger/lodgerlaw08.SessKnown", spec := "sessKnown", unfollowed := true, recurses := true, apart := false }
def SessKnownSaid : Prop := sessKnownRow.holds Try.pinned (OpenSpec.ofChange sessKnownSpec)

/-- ITS FALSE NEIGHBOUR: 'it returns false'. Refute it at one input. -/
def sessKnownWrong : ChangeSpec := { name := "sessKnown", fn := fun _ => fun
  | [] => { results := [.lit (.bool false)], args := [] }
  | _ => none }
def SessKnownWrongFalsely : Prop := sessKnownRow.holds Try.pinned (OpenSpec.ofChange sessKnownWrong)

/- THE SECOND FORM. 'bulk': how many values and letters a reading holds, each counted each time it is reached (what is shared counts as often as it is met; a slice's spare places count too). A statement '..UptoSaid' is the law's where the arguments, and the package variables that the reading takes, are together of bulk at most 1048576: NARROWER than '..Said'. Prove '..Said' where nothing that the law and all that it calls make is longer than what came in: it says more and counts as full. Else prove '..UptoSaid'. A law counts once. -/
mutual
def uptoBulk {H : Type} : DataW H → Nat
  | .lit (.string bytes) => bytes.length + 1
  | .lit _ => 1
  | .nil => 1
  | .ptr d => uptoBulk d + 1
  | .slice elems spare => uptoBulkAll elems + uptoBulkAll spare + 1
  | .agg parts => uptoBulkAll parts + 1
  | .iface _ d => uptoBulk d + 1
  | .map entries => uptoBulkEntries entries + 1
  | .held _ => 1
def uptoBulkAll {H : Type} : List (DataW H) → Nat
  | [] => 0
  | d :: r => uptoBulk d + uptoBulkAll r
def uptoBulkEntries {H : Type} : List (Lit × DataW H) → Nat
  | [] => 0
  | x :: r => uptoBulkEntry x + uptoBulkEntries r
def uptoBulkEntry {H : Type} : Lit × DataW H → Nat
  | (.string bytes, d) => bytes.length + uptoBulk d + 1
  | (_, d) => uptoBulk d + 1
 end
def uptoSmall : (H : Type) → List (DataW H) → Bool := fun _ ds => decide (uptoBulkAll ds ≤ 1048576)
def OpenSpec.upto (s : _root_.Go.ChangeSpec) : _root_.Go.OpenSpec := { _root_.Go.OpenSpec.ofChange s with cond := some uptoSmall }

/-- 'lodgerlaw08.SessDoes', WHERE WHAT IT READS IS OF BULK AT MOST 1048576: true; the input reads as it did. -/
def sessDoesUptoRow : OpenClaim := { program := "ytdloapfifhelbaa", sum := "d852d8979423f97f2f3c71937f10df81c1d02c92f31a927c0fdb0c30042f3491", func := "lodger/lodgerlaw08.SessDoes", spec := "sessDoes", unfollowed := true, recurses := true, apart := false, narrowed := true }
def SessDoesUptoSaid : Prop := sessDoesUptoRow.holds Try.pinned (OpenSpec.upto sessDoesSpec)

/-- 'lodgerlaw08.SessLives', WHERE WHAT IT READS IS OF BULK AT MOST 1048576: true; the input reads as it did. -/
def sessLivesUptoRow : OpenClaim := { program := "ytdloapfifhelbaa", sum := "d852d8979423f97f2f3c71937f10df81c1d02c92f31a927c0fdb0c30042f3491", func := "lodger/lodgerlaw08.SessLives", spec := "sessLives", unfollowed := true, recurses := true, apart := false, narrowed := true }
def SessLivesUptoSaid : Prop := sessLivesUptoRow.holds Try.pinned (OpenSpec.upto sessLivesSpec)

/-- 'lodgerlaw08.SessSlots', WHERE WHAT IT READS IS OF BULK AT MOST 1048576: true; the input reads as it did. -/
def sessSlotsUptoRow : OpenClaim := { program := "ytdloapfifhelbaa", sum := "d852d8979423f97f2f3c71937f10df81c1d02c92f31a927c0fdb0c30042f3491", func := "lodger/lodgerlaw08.SessSlots", spec := "sessSlots", unfollowed := true, recurses := true, apart := false, narrowed := true }
def SessSlotsUptoSaid : Prop := sessSlotsUptoRow.holds Try.pinned (OpenSpec.upto sessSlotsSpec)

/-- 'lodgerlaw08.SessKnown', WHERE WHAT IT READS IS OF BULK AT MOST 1048576: true; the input reads as it did. -/
def sessKnownUptoRow : OpenClaim := { program := "ytdloapfifhelbaa", sum := "d852d8979423f97f2f3c71937f10df81c1d02c92f31a927c0fdb0c30042f3491", func := "lodger/lodgerlaw08.SessKnown", spec := "sessKnown", unfollowed := true, recurses := true, apart := false, narrowed := true }
def SessKnownUptoSaid : Prop := sessKnownUptoRow.holds Try.pinned (OpenSpec.upto sessKnownSpec)

end Rows
end Go.Proofs.Ytdloapfifhelbaa
