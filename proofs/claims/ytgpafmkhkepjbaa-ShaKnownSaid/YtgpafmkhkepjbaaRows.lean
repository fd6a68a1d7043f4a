/-
  No cell of these rows narrows 'for every input' (looked for: loops, veiled, ifaces, maps, wideKeys, modest, calm, conditions, laid).
  DERIVED. THE GIVEN ROWS OF THIS SEAT. 11 by the template 'for every input the law returns true; each argument reads behind the call as it read before'; 0 by the template 'total and deterministic' (their statements: YtgpafmkhkepjbaaTotals.lean).
  GIVEN WITH THE SEED: the statements are not yours to turn. If you find one false, say at which input.
  Laid BY PROGRAM, IN A SANDBOX (cutbox-rows.mjs): the forced cells as the released guide's own fill.sh prints them over the translation c94bcfe6c83858df… (all of the seat's roots in one cut). By AI agents, Wed Nov 11 2026. No macro, syntax, notation, axiom, sorry.
-/
import Derived.Test.YtgpafmkhkepjbaaChecked
import GoSem.Claim
import GoSem.ClaimJoined
import GoSem.ClaimMapViews
import Derived.JoinedTies
import Derived.KernelRfl
namespace Go.Proofs.Ytgpafmkhkepjbaa
/- THE CELL 'sum', in the pinned program and in every row, IS THE sha256 OF THE DUMP (.gsa) THAT YtgpafmkhkepjbaaProg.lean LOADS. Nothing in Lean hashes anything: it is a label: what it is worth is what the hold of that sum in a sandbox is worth. -/
noncomputable def Try.pinned : Pinned := { name := "ytgpafmkhkepjbaa", sum := "c94bcfe6c83858dfcf857b4b7552abade7476ea4a2142c9c635796ced4b982f7", checked := Try.checked }
namespace Rows
def none {H : Type} : Left H := { results := [], args := [] }

/-- 'lodgerlaw03.ShaSums': WHATEVER THE INPUT: true; the input reads as it did. -/
def shaSumsSpec : ChangeSpec := { name := "shaSums", fn := fun _ => fun
  | [d] => { results := [.lit (.bool true)], args := [d] }
  | _ => none }
def shaSumsRow : OpenClaim := { program := "ytgpafmkhkepjbaa", sum := "c94bcfe6c83858dfcf857b4b7552abade7476ea4a2142c9c635796ced4b982f7", func := "lodger/lodgerlaw03.ShaSums", spec := "shaSums", unfollowed := true, recurses := true, apart := false }
def ShaSumsSaid : Prop := shaSumsRow.holds Try.pinned (OpenSpec.ofChange shaSumsSpec)

/-- ITS FALSE NEIGHBOUR: 'it returns false'. Refute it at one input. -/
def shaSumsWrong : ChangeSpec := { name := "shaSums", fn := fun _ => fun
  | [d] => { results := [.lit (.bool false)], args := [d] }
  | _ => none }
def ShaSumsWrongFalsely : Prop := shaSumsRow.holds Try.pinned (OpenSpec.ofChange shaSumsWrong)

/-- 'lodgerlaw03.ShaHexes': WHATEVER THE INPUT: true; the input reads as it did. -/
def shaHexesSpec : ChangeSpec := { name := "shaHexes", fn := fun _ => fun
  | [d] => { results := [.lit (.bool true)], args := [d] }
  | _ => none }
def shaHexesRow : OpenClaim := { program := "ytgpafmkhkepjbaa", sum := "c94bcfe6c83858dfcf857b4b7552abade7476ea4a2142c9c635796ced4b982f7", func := "lodger/lodgerlaw03.ShaHexes", spec := "shaHexes", unfollowed := true, recurses := true, apart := false }
def ShaHexesSaid : Prop := shaHexesRow.holds Try.pinned (OpenSpec.ofChange shaHexesSpec)

/-- ITS FALSE NEIGHBOUR: 'it returns false'. Refute it at one input. -/
def shaHexesWrong : ChangeSpec := { name := "shaHexes", fn := fun _ => fun
  | [d] => { results := [.lit (.bool false)], args := [d] }
  | _ => none }
def ShaHexesWrongFalsely : Prop := shaHexesRow.holds Try.pinned (OpenSpec.ofChange shaHexesWrong)

/-- 'lodgerlaw03.ShaFills': WHATEVER THE INPUT: true; the input reads as it did. -/
def shaFillsSpec : ChangeSpec := { name := "shaFills", fn := fun _ => fun
  | [d1, d2] => { results := [.lit (.bool true)], args := [d1, d2] }
  | _ => none }
def shaFillsRow : OpenClaim := { program := "ytgpafmkhkepjbaa", sum := "c94bcfe6c83858dfcf857b4b7552abade7476ea4a2142c9c635796ced4b982f7", func := "lodger/lodgerlaw03.ShaFills", spec := "shaFills", unfollowed := true, recurses := true, apart := false }
def ShaFillsSaid : Prop := shaFillsRow.holds Try.pinned (OpenSpec.ofChange shaFillsSpec)

/-- ITS FALSE NEIGHBOUR: 'it returns false'. Refute it at one input. -/
def shaFillsWrong : ChangeSpec := { name := "shaFills", fn := fun _ => fun
  | [d1, d2] => { results := [.lit (.bool false)], args := [d1, d2] }
  | _ => none }
def ShaFillsWrongFalsely : Prop := shaFillsRow.holds Try.pinned (OpenSpec.ofChange shaFillsWrong)

/-- 'lodgerlaw03.ShaApart': WHATEVER THE INPUT: true; the input reads as it did. -/
def shaApartSpec : ChangeSpec := { name := "shaApart", fn := fun _ => fun
  | [d1, d2] => { results := [.lit (.bool true)], args := [d1, d2] }
  | _ => none }
def shaApartRow : OpenClaim := { program := "ytgpafmkhkepjbaa", sum := "c94bcfe6c83858dfcf857b4b7552abade7476ea4a2142c9c635796ced4b982f7", func := "lodger/lodgerlaw03.ShaApart", spec := "shaApart", unfollowed := true, recurses := true, apart := false }
def ShaApartSaid : Prop := shaApartRow.holds Try.pinned (OpenSpec.ofChange shaApartSpec)

/-- ITS FALSE NEIGHBOUR: 'it returns false'. Refute it at one input. -/
def shaApartWrong : ChangeSpec := { name := "shaApart", fn := fun _ => fun
  | [d1, d2] => { results := [.lit (.bool false)], args := [d1, d2] }
  | _ => none }
def ShaApartWrongFalsely : Prop := shaApartRow.holds Try.pinned (OpenSpec.ofChange shaApartWrong)

/-- 'lodgerlaw03.ShaSame': WHATEVER THE INPUT: true; the input reads as it did. -/
def shaSameSpec : ChangeSpec := { name := "shaSame", fn := fun _ => fun
  | [d1, d2, d3] => { results := [.lit (.bool true)], args := [d1, d2, d3] }
  | _ => none }
def shaSameRow : OpenClaim := { program := "ytgpafmkhkepjbaa", sum := "c94bcfe6c83858dfcf857b4b7552abade7476ea4a2142c9c635796ced4b982f7", func := "lodger/lodgerlaw03.ShaSame", spec := "shaSame", unfollowed := true, recurses := true, apart := false }
def ShaSameSaid : Prop := shaSameRow.holds Try.pinned (OpenSpec.ofChange shaSameSpec)

/-- ITS FALSE NEIGHBOUR: 'it returns false'. Refute it at one input. -/
def shaSameWrong : ChangeSpec := { name := "shaSame", fn := fun _ => fun
  | [d1, d2, d3] => { results := [.lit (.bool false)], args := [d1, d2, d3] }
  | _ => none }
def ShaSameWrongFalsely : Prop := shaSameRow.holds Try.pinned (OpenSpec.ofChange shaSameWrong)

/-- 'lodgerlaw03.ShaKnown': WHATEVER THE INPUT: true; the input reads as it did. -/
def shaKnownSpec : ChangeSpec := { name := "shaKnown", fn := fun _ => fun
  | [] => { results := [.lit (.bool true)], args := [] }
  | _ => none }
def shaKnownRow : OpenClaim := { program := "ytgpafmkhkepjbaa", sum := "c94bcfe6c83858dfcf857b4b7552abade7476ea4a2142c9c635796ced4b982f7", func := "lodger/lodgerlaw03.ShaKnown", spec := "shaKnown", unfollowed := true, recurses := true, apart := false }
def ShaKnownSaid : Prop := shaKnownRow.holds Try.pinned (OpenSpec.ofChange shaKnownSpec)

/-- ITS FALSE NEIGHBOUR: 'it returns false'. Refute it at one input. -/
def shaKnownWrong : ChangeSpec := { name := "shaKnown", fn := fun _ => fun
  | [] => { results := [.lit (.bool false)], args := [] }
  | _ => none }
def ShaKnownWrongFalsely : Prop := shaKnownRow.holds Try.pinned (OpenSpec.ofChange shaKnownWrong)

/-- 'lodgerlaw04.MacIs': WHATEVER THE INPUT: true; the input reads as it did. -/
def macIsSpec : ChangeSpec := { name := "macIs", fn := fun _ => fun
  | [d1, d2] => { results := [.lit (.bool true)], args := [d1, d2] }
  | _ => none }
def macIsRow : OpenClaim := { program := "ytgpafmkhkepjbaa", sum := "c94bcfe6c83858dfcf857b4b7552abade7476ea4a2142c9c635796ced4b982f7", func := "lodger/lodgerlaw04.MacIs", spec := "macIs", unfollowed := true, recurses := true, apart := false }
def MacIsSaid : Prop := macIsRow.holds Try.pinned (OpenSpec.ofChange macIsSpec)

/-- ITS FALSE NEIGHBOUR: 'it returns false'. Refute it at one input. -/
def macIsWrong : ChangeSpec := { name := "macIs", fn := fun _ => fun
  | [d1, d2] => { results := [.lit (.bool false)], args := [d1, d2] }
  | _ => none }
def MacIsWrongFalsely : Prop := macIsRow.holds Try.pinned (OpenSpec.ofChange macIsWrong)

/-- 'lodgerlaw04.MacSame': WHATEVER THE INPUT: true; the input reads as it did. -/
def macSameSpec : ChangeSpec := { name := "macSame", fn := fun _ => fun
  | [d1, d2] => { results := [.lit (.bool true)], args := [d1, d2] }
  | _ => none }
def macSameRow : OpenClaim := { program := "ytgpafmkhkepjbaa", sum := "c94bcfe6c83858dfcf857b4b7552abade7476ea4a2142c9c635796ced4b982f7", func := "lodger/lodgerlaw04.MacSame", spec := "macSame", unfollowed := true, recurses := true, apart := false }
def MacSameSaid : Prop := macSameRow.holds Try.pinned (OpenSpec.ofChange macSameSpec)

/-- ITS FALSE NEIGHBOUR: 'it returns false'. Refute it at one input. -/
def macSameWrong : ChangeSpec := { name := "macSame", fn := fun _ => fun
  | [d1, d2] => { results := [.lit (.bool false)], args := [d1, d2] }
  | _ => none }
def MacSameWrongFalsely : Prop := macSameRow.holds Try.pinned (OpenSpec.ofChange macSameWrong)

/-- 'lodgerlaw04.MacSums': WHATEVER THE INPUT: true; the input reads as it did. -/
def macSumsSpec : ChangeSpec := { name := "macSums", fn := fun _ => fun
  | [d1, d2] => { results := [.lit (.bool true)], args := [d1, d2] }
  | _ => none }
def macSumsRow : OpenClaim := { program := "ytgpafmkhkepjbaa", sum := "c94bcfe6c83858dfcf857b4b7552abade7476ea4a2142c9c635796ced4b982f7", func := "lodger/lodgerlaw04.MacSums", spec := "macSums", unfollowed := true, recurses := true, apart := false }
def MacSumsSaid : Prop := macSumsRow.holds Try.pinned (OpenSpec.ofChange macSumsSpec)

/-- ITS FALSE NEIGHBOUR: 'it returns false'. Refute it at one input. -/
def macSumsWrong : ChangeSpec := { name := "macSums", fn := fun _ => fun
  | [d1, d2] => { results := [.lit (.bool false)], args := [d1, d2] }
  | _ => none }
def MacSumsWrongFalsely : Prop := macSumsRow.holds Try.pinned (OpenSpec.ofChange macSumsWrong)

/-- 'lodgerlaw04.MacKeys': WHATEVER THE INPUT: true; the input reads as it did. -/
def macKeysSpec : ChangeSpec := { name := "macKeys", fn := fun _ => fun
  | [d1, d2, d3] => { results := [.lit (.bool true)], args := [d1, d2, d3] }
  | _ => none }
def macKeysRow : OpenClaim := { program := "ytgpafmkhkepjbaa", sum := "c94bcfe6c83858dfcf857b4b7552abade7476ea4a2142c9c635796ced4b982f7", func := "lodger/lodgerlaw04.MacKeys", spec := "macKeys", unfollowed := true, recurses := true, apart := false }
def MacKeysSaid : Prop := macKeysRow.holds Try.pinned (OpenSpec.ofChange macKeysSpec)

/-- ITS FALSE NEIGHBOUR: 'it returns false'. Refute it at one input. -/
def macKeysWrong : ChangeSpec := { name := "macKeys", fn := fun _ => fun
  | [d1, d2, d3] => { results := [.lit (.bool false)], args := [d1, d2, d3] }
  | _ => none }
def MacKeysWrongFalsely : Prop := macKeysRow.holds Try.pinned (OpenSpec.ofChange macKeysWrong)

/-- 'lodgerlaw04.MacKnown': WHATEVER THE INPUT: true; the input reads as it did. -/
def macKnownSpec : ChangeSpec := { name := "macKnown", fn := fun _ => fun
  | [] => { results := [.lit (.bool true)], args := [] }
  | _ => none }
def macKnownRow : OpenClaim := { program := "ytgpafmkhkepjbaa", sum := "c94bcfe6c83858dfcf857b4b7552abade7476ea4a2142c9c635796ced4b982f7", func := "lodger/lodgerlaw04.MacKnown", spec := "macKnown", unfollowed := true, recurses := true, apart := false }
def MacKnownSaid : Prop := macKnownRow.holds Try.pinned (OpenSpec.ofChange macKnownSpec)

/-- ITS FALSE NEIGHBOUR: 'it returns false'. Refute it at one input. -/
def macKnownWrong : ChangeSpec := { name := "macKnown", fn := fun _ => fun
  | [] => { results := [.lit (.bool false)], args := [] }
  | _ => none }
def MacKnownWrongFalsely : Prop := macKnownRow.holds Try.pinned (OpenSpec.ofChange macKnownWrong)

/- THE SECOND FORM. 'bulk': how many values and letters a reading holds, each counted each time it is reached (what is shared counts as often as it is met; a slice's spare places count too). A statement '..UptoSaid' is the law's where the arguments, and the package variables that the reading takes, are together of bulk at most 1048576: NARROWER than '..Said'. Prove '..Said' where nothing that the law and all that it calls make is longer than what came in: it says more and counts as full. Else prove '..UptoSaid'. A law counts once. -/
mutual
def uptoBulk {H : Type} : DataW H → Nat
  | .lit (.string bytes) => bytes.length + 1
  | .lit _ => 1
  | .nil => 1
  | .ptr d => uptoBulk d + 1
  | .slice elems spare => uptoBulkAll elems + uptoBulkAll spare + 1
  | .agg parts => uptoBulkAll parts + 1
  | .iface _ d => uptoBulk d + 1
  | .map entries => uptoBulkEntries entries + 1
  | .held _ => 1
def uptoBulkAll {H : Type} : List (DataW H) → Nat
  | [] => 0
  | d :: r => uptoBulk d + uptoBulkAll r
def uptoBulkEntries {H : Type} : List (Lit × DataW H) → Nat
  | [] => 0
  | x :: r => uptoBulkEntry x + uptoBulkEntries r
def uptoBulkEntry {H : Type} : Lit × DataW H → Nat
  | (.string bytes, d) => bytes.length + uptoBulk d + 1
  | (_, d) => uptoBulk d + 1
 end
def uptoSmall : (H : Type) → List (DataW H) → Bool := fun _ ds => decide (uptoBulkAll ds ≤ 1048576)
def OpenSpec.upto (s : _root_.Go.ChangeSpec) : _root_.Go.OpenSpec := { _root_.Go.OpenSpec.ofChange s with cond := some uptoSmall }

/-- 'lodgerlaw03.ShaSums', WHERE WHAT IT READS IS OF BULK AT MOST 1048576: true; the input reads as it did. -/
def shaSumsUptoRow : OpenClaim := { program := "ytgpafmkhkepjbaa", sum := "c94bcfe6c83858dfcf857b4b7552abade7476ea4a2142c9c635796ced4b982f7", func := "lodger/lodgerlaw03.ShaSums", spec := "shaSums", unfollowed := true, recurses := true, apart := false, narrowed := true }
def ShaSumsUptoSaid : Prop := shaSumsUptoRow.holds Try.pinned (OpenSpec.upto shaSumsSpec)

/-- 'lodgerlaw03.ShaHexes', WHERE WHAT IT READS IS OF BULK AT MOST 1048576: true; the input reads as it did. -/
def shaHexesUptoRow : OpenClaim := { program := "ytgpafmkhkepjbaa", sum := "c94bcfe6c83858dfcf857b4b7552abade7476ea4a2142c9c635796ced4b982f7", func := "lodger/lodgerlaw03.ShaHexes", spec := "shaHexes", unfollowed := true, recurses := true, apart := false, narrowed := true }
def ShaHexesUptoSaid : Prop := shaHexesUptoRow.holds Try.pinned (OpenSpec.upto shaHexesSpec)

/-- 'lodgerlaw03.ShaFills', WHERE WHAT IT READS IS OF BULK AT MOST 1048576: true; the input reads as it did. -/
def shaFillsUptoRow : OpenClaim := { program := "ytgpafmkhkepjbaa", sum := "c94bcfe6c83858dfcf857b4b7552abade7476ea4a2142c9c635796ced4b982f7", func := "lodger/lodgerlaw03.ShaFills", spec := "shaFills", unfollowed := true, recurses := true, apart := false, narrowed := true }
def ShaFillsUptoSaid : Prop := shaFillsUptoRow.holds Try.pinned (OpenSpec.upto shaFillsSpec)

/-- 'lodgerlaw03.ShaApart', WHERE WHAT IT READS IS OF BULK AT MOST 1048576: true; the input reads as it did. -/
def shaApartUptoRow : OpenClaim := { program := "ytgpafmkhkepjbaa", sum := "c94bcfe6c83858dfcf857b4b7552abade7476ea4a2142c9c635796ced4b982f7", func := "lodger/lodgerlaw03.ShaApart", spec := "shaApart", unfollowed := true, recurses := true, apart := false, narrowed := true }
def ShaApartUptoSaid : Prop := shaApartUptoRow.holds Try.pinned (OpenSpec.upto shaApartSpec)

/-- 'lodgerlaw03.ShaSame', WHERE WHAT IT READS IS OF BULK AT MOST 1048576: true; the input reads as it did. -/
def shaSameUptoRow : OpenClaim := { program := "ytgpafmkhkepjbaa", sum := "c94bcfe6c83858dfcf857b4b7552abade7476ea4a2142c9c635796ced4b982f7", func := "lodger/lodgerlaw03.ShaSame", spec := "shaSame", unfollowed := true, recurses := true, apart := false, narrowed := true }
def ShaSameUptoSaid : Prop := shaSameUptoRow.holds Try.pinned (OpenSpec.upto shaSameSpec)

/-- 'lodgerlaw03.ShaKnown', WHERE WHAT IT READS IS OF BULK AT MOST 1048576: true; the input reads as it did. -/
def shaKnownUptoRow : OpenClaim := { program := "ytgpafmkhkepjbaa", sum := "c94bcfe6c83858dfcf857b4b7552abade7476ea4a2142c9c635796ced4b982f7", func := "lodger/lodgerlaw03.ShaKnown", spec := "shaKnown", unfollowed := true, recurses := true, apart := false, narrowed := true }
def ShaKnownUptoSaid : Prop := shaKnownUptoRow.holds Try.pinned (OpenSpec.upto shaKnownSpec)

/-- 'lodgerlaw04.MacIs', WHERE WHAT IT READS IS OF BULK AT MOST 1048576: true; the input reads as it did. -/
def macIsUptoRow : OpenClaim := { program := "ytgpafmkhkepjbaa", sum := "c94bcfe6c83858dfcf857b4b7552abade7476ea4a2142c9c635796ced4b982f7", func := "lodger/lodgerlaw04.MacIs", spec := "macIs", unfollowed := true, recurses := true, apart := false, narrowed := true }
def MacIsUptoSaid : Prop := macIsUptoRow.holds Try.pinned (OpenSpec.upto macIsSpec)

/-- 'lodgerlaw04.MacSame', WHERE WHAT IT READS IS OF BULK AT MOST 1048576: true; the input reads as it did. -/
def macSameUptoRow : OpenClaim := { program := "ytgpafmkhkepjbaa", sum := "c94bcfe6c83858dfcf857b4b7552abade7476ea4a2142c9c635796ced4b982f7", func := "lodger/lodgerlaw04.MacSame", spec := "macSame", unfollowed := true, recurses := true, apart := false, narrowed := true }
def MacSameUptoSaid : Prop := macSameUptoRow.holds Try.pinned (OpenSpec.upto macSameSpec)

/-- 'lodgerlaw04.MacSums', WHERE WHAT IT READS IS OF BULK AT MOST 1048576: true; the input reads as it did. -/
def macSumsUptoRow : OpenClaim := { program := "ytgpafmkhkepjbaa", sum := "c94bcfe6c83858dfcf857b4b7552abade7476ea4a2142c9c635796ced4b982f7", func := "lodger/lodgerlaw04.MacSums", spec := "macSums", unfollowed := true, recurses := true, apart := false, narrowed := true }
def MacSumsUptoSaid : Prop := macSumsUptoRow.holds Try.pinned (OpenSpec.upto macSumsSpec)

/-- 'lodgerlaw04.MacKeys', WHERE WHAT IT READS IS OF BULK AT MOST 1048576: true; the input reads as it did. -/
def macKeysUptoRow : OpenClaim := { program := "ytgpafmkhkepjbaa", sum := "c94bcfe6c83858dfcf857b4b7552abade7476ea4a2142c9c635796ced4b982f7", func := "lodger/lodgerlaw04.MacKeys", spec := "macKeys", unfollowed := true, recurses := true, apart := false, narrowed := true }
def MacKeysUptoSaid : Prop := macKeysUptoRow.holds Try.pinned (OpenSpec.upto macKeysSpec)

/-- 'lodgerlaw04.MacKnown', WHERE WHAT IT READS IS OF BULK AT MOST 1048576: true; the input reads as it did. -/
def macKnownUptoRow : OpenClaim := { program := "ytgpafmkhkepjbaa", sum := "c94bcfe6c83858dfcf857b4b7552abade7476ea4a2142c9c635796ced4b982f7", func := "lodger/lodgerlaw04.MacKnown", spec := "macKnown", unfollowed := true, recurses := true, apart := false, narrowed := true }
def MacKnownUptoSaid : Prop := macKnownUptoRow.holds Try.pinned (OpenSpec.upto macKnownSpec)

end Rows
end Go.Proofs.Ytgpafmkhkepjbaa
