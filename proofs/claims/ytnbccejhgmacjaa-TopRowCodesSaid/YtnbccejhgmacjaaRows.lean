/-
  No cell of these rows narrows 'for every input' (looked for: loops, veiled, ifaces, maps, wideKeys, modest, calm, conditions, laid).
  DERIVED. THE GIVEN ROWS OF THIS SEAT. 6 by the template 'for every input the law returns true; each argument reads behind the call as it read before'; 0 by the template 'total and deterministic' (their statements: YtnbccejhgmacjaaTotals.lean).
  GIVEN WITH THE SEED: the statements are not yours to turn. If you find one false, say at which input.
  Laid BY PROGRAM, IN A SANDBOX (cutbox-rows.mjs): the forced cells as the released guide's own fill.sh prints them over the translation 9f6da52ccc83ed79… (all of the seat's roots in one cut). By AI agents, Wed Nov 11 2026. No macro, syntax, notation, axiom, sorry.
-/
import Derived.Test.YtnbccejhgmacjaaChecked
import GoSem.Claim
import GoSem.ClaimJoined
import GoSem.ClaimMapViews
import Derived.JoinedTies
import Derived.KernelRfl
namespace Go.Proofs.Ytnbccejhgmacjaa
/- THE CELL 'sum', in the pinned program and in every row, IS THE sha256 OF THE DUMP (.gsa) THAT YtnbccejhgmacjaaProg.lean LOADS. Nothing in Lean hashes anything: it is a label: what it is worth is what the hold of that sum in a sandbox is worth. -/
noncomputable def Try.pinned : Pinned := { name := "ytnbccejhgmacjaa", sum := "9f6da52ccc83ed79b4e76f44d808fd757640625f92f98bcb80cdb71aef6c3101", checked := Try.checked }
namespace Rows
def none {H : Type} : Left H := { results := [], args := [] }

/-- 'tabelliontop.TopOctets': WHATEVER THE INPUT: true; the input reads as it did. -/
def topOctetsSpec : ChangeSpec := { name := "topOctets", fn := fun _ => fun
  | [d1, d2, d3, d4, d5, d6] => { results := [.lit (.bool true)], args := [d1, d2, d3, d4, d5, d6] }
  | _ => none }
def topOctetsRow : OpenClaim := { program := "ytnbccejhgmacjaa", sum := "9f6da52ccc83ed79b4e76f44d808fd757640625f92f98bcb80cdb71aef6c3101", func := "tabellion/tabelliontop.TopOctets", spec := "topOctets", apart := false }
def TopOctetsSaid : Prop := topOctetsRow.holds Try.pinned (OpenSpec.ofChange topOctetsSpec)

/-- ITS FALSE NEIGHBOUR: 'it returns false'. Refute it at one input. -/
def topOctetsWrong : ChangeSpec := { name := "topOctets", fn := fun _ => fun
  | [d1, d2, d3, d4, d5, d6] => { results := [.lit (.bool false)], args := [d1, d2, d3, d4, d5, d6] }
  | _ => none }
def TopOctetsWrongFalsely : Prop := topOctetsRow.holds Try.pinned (OpenSpec.ofChange topOctetsWrong)

/-- 'tabelliontop.TopRowCodes': WHATEVER THE INPUT: true; the input reads as it did. -/
def topRowCodesSpec : ChangeSpec := { name := "topRowCodes", fn := fun _ => fun
  | [d1, d2] => { results := [.lit (.bool true)], args := [d1, d2] }
  | _ => none }
def topRowCodesRow : OpenClaim := { program := "ytnbccejhgmacjaa", sum := "9f6da52ccc83ed79b4e76f44d808fd757640625f92f98bcb80cdb71aef6c3101", func := "tabellion/tabelliontop.TopRowCodes", spec := "topRowCodes", inPlace := ["internal/abi.NoEscape", "internal/bytealg.abigen_runtime_cmpstring"], unfollowed := true, recurses := true, apart := false }
def TopRowCodesSaid : Prop := topRowCodesRow.holds Try.pinned (OpenSpec.ofChange topRowCodesSpec)

/-- ITS FALSE NEIGHBOUR: 'it returns false'. Refute it at one input. -/
def topRowCodesWrong : ChangeSpec := { name := "topRowCodes", fn := fun _ => fun
  | [d1, d2] => { results := [.lit (.bool false)], args := [d1, d2] }
  | _ => none }
def TopRowCodesWrongFalsely : Prop := topRowCodesRow.holds Try.pinned (OpenSpec.ofChange topRowCodesWrong)

/-- 'tabelliontop.TopSorted': WHATEVER THE INPUT: true; the input reads as it did. -/
def topSortedSpec : ChangeSpec := { name := "topSorted", fn := fun _ => fun
  | [d1, d2, d3] => { results := [.lit (.bool true)], args := [d1, d2, d3] }
  | _ => none }
def topSortedRow : OpenClaim := { program := "ytnbccejhgmacjaa", sum := "9f6da52ccc83ed79b4e76f44d808fd757640625f92f98bcb80cdb71aef6c3101", func := "tabellion/tabelliontop.TopSorted", spec := "topSorted", inPlace := ["internal/bytealg.abigen_runtime_cmpstring", "slices.overlaps[tabellion/api.Row]"], unfollowed := true, recurses := true, apart := false }
def TopSortedSaid : Prop := topSortedRow.holds Try.pinned (OpenSpec.ofChange topSortedSpec)

/-- ITS FALSE NEIGHBOUR: 'it returns false'. Refute it at one input. -/
def topSortedWrong : ChangeSpec := { name := "topSorted", fn := fun _ => fun
  | [d1, d2, d3] => { results := [.lit (.bool false)], args := [d1, d2, d3] }
  | _ => none }
def TopSortedWrongFalsely : Prop := topSortedRow.holds Try.pinned (OpenSpec.ofChange topSortedWrong)

/-- 'tabelliontop.TopAggs': WHATEVER THE INPUT: true; the input reads as it did. -/
def topAggsSpec : ChangeSpec := { name := "topAggs", fn := fun _ => fun
  | [d1, d2] => { results := [.lit (.bool true)], args := [d1, d2] }
  | _ => none }
def topAggsRow : OpenClaim := { program := "ytnbccejhgmacjaa", sum := "9f6da52ccc83ed79b4e76f44d808fd757640625f92f98bcb80cdb71aef6c3101", func := "tabellion/tabelliontop.TopAggs", spec := "topAggs", inPlace := ["internal/bytealg.abigen_runtime_cmpstring", "slices.overlaps[tabellion/api.Value]"], unfollowed := true, recurses := true, apart := false }
def TopAggsSaid : Prop := topAggsRow.holds Try.pinned (OpenSpec.ofChange topAggsSpec)

/-- ITS FALSE NEIGHBOUR: 'it returns false'. Refute it at one input. -/
def topAggsWrong : ChangeSpec := { name := "topAggs", fn := fun _ => fun
  | [d1, d2] => { results := [.lit (.bool false)], args := [d1, d2] }
  | _ => none }
def TopAggsWrongFalsely : Prop := topAggsRow.holds Try.pinned (OpenSpec.ofChange topAggsWrong)

/-- 'tabelliontop.TopKeyCodes': WHATEVER THE INPUT: true; the input reads as it did. -/
def topKeyCodesSpec : ChangeSpec := { name := "topKeyCodes", fn := fun _ => fun
  | [d1, d2] => { results := [.lit (.bool true)], args := [d1, d2] }
  | _ => none }
def topKeyCodesRow : OpenClaim := { program := "ytnbccejhgmacjaa", sum := "9f6da52ccc83ed79b4e76f44d808fd757640625f92f98bcb80cdb71aef6c3101", func := "tabellion/tabelliontop.TopKeyCodes", spec := "topKeyCodes", inPlace := ["internal/bytealg.IndexByteString", "internal/bytealg.IndexString", "internal/abi.NoEscape", "internal/bytealg.abigen_runtime_cmpstring", "internal/bytealg.MakeNoZero"], unfollowed := true, recurses := true, named := ["internal/bytealg.MaxLen"], apart := false }
def TopKeyCodesSaid : Prop := topKeyCodesRow.holds Try.pinned (OpenSpec.ofChange topKeyCodesSpec)

/-- ITS FALSE NEIGHBOUR: 'it returns false'. Refute it at one input. -/
def topKeyCodesWrong : ChangeSpec := { name := "topKeyCodes", fn := fun _ => fun
  | [d1, d2] => { results := [.lit (.bool false)], args := [d1, d2] }
  | _ => none }
def TopKeyCodesWrongFalsely : Prop := topKeyCodesRow.holds Try.pinned (OpenSpec.ofChange topKeyCodesWrong)

/-- 'tabelliontop.TopStats': WHATEVER THE INPUT: true; the input reads as it did. -/
def topStatsSpec : ChangeSpec := { name := "topStats", fn := fun _ => fun
  | [d1, d2, d3] => { results := [.lit (.bool true)], args := [d1, d2, d3] }
  | _ => none }
def topStatsRow : OpenClaim := { program := "ytnbccejhgmacjaa", sum := "9f6da52ccc83ed79b4e76f44d808fd757640625f92f98bcb80cdb71aef6c3101", func := "tabellion/tabelliontop.TopStats", spec := "topStats", inPlace := ["internal/bytealg.abigen_runtime_cmpstring", "slices.overlaps[tabellion/api.Value]", "slices.overlaps[tabellion/api.Often]"], unfollowed := true, recurses := true, apart := false }
def TopStatsSaid : Prop := topStatsRow.holds Try.pinned (OpenSpec.ofChange topStatsSpec)

/-- ITS FALSE NEIGHBOUR: 'it returns false'. Refute it at one input. -/
def topStatsWrong : ChangeSpec := { name := "topStats", fn := fun _ => fun
  | [d1, d2, d3] => { results := [.lit (.bool false)], args := [d1, d2, d3] }
  | _ => none }
def TopStatsWrongFalsely : Prop := topStatsRow.holds Try.pinned (OpenSpec.ofChange topStatsWrong)

/- THE SECOND FORM. 'bulk': how many values and letters a reading holds, each counted each time it is reached (what is shared counts as often as it is met; a slice's spare places count too). A statement '..UptoSaid' is the law's where the arguments, and the package variables that the reading takes, are together of bulk at most 1048576: NARROWER than '..Said'. Prove '..Said' where nothing that the law and all that it calls make is longer than what came in: it says more and counts as full. Else prove '..UptoSaid'. A law counts once. -/
mutual
def uptoBulk {H : Type} : DataW H → Nat
  | .lit (.string bytes) => bytes.length + 1
  | .lit _ => 1
  | .nil => 1
  | .ptr d => uptoBulk d + 1
  | .slice elems spare => uptoBulkAll elems + uptoBulkAll spare + 1
  | .agg parts => uptoBulkAll parts + 1
  | .iface _ d => uptoBulk d + 1
  | .map entries => uptoBulkEntries entries + 1
  | .held _ => 1
def uptoBulkAll {H : Type} : List (DataW H) → Nat
  | [] => 0
  | d :: r => uptoBulk d + uptoBulkAll r
def uptoBulkEntries {H : Type} : List (Lit × DataW H) → Nat
  | [] => 0
  | x :: r => uptoBulkEntry x + uptoBulkEntries r
def uptoBulkEntry {H : Type} : Lit × DataW H → Nat
  | (.string bytes, d) => bytes.length + uptoBulk d + 1
  | (_, d) => uptoBulk d + 1
 end
def uptoSmall : (H : Type) → List (DataW H) → Bool := fun _ ds => decide (uptoBulkAll ds ≤ 1048576)
def OpenSpec.upto (s : _root_.Go.ChangeSpec) : _root_.Go.OpenSpec := { _root_.Go.OpenSpec.ofChange s with cond := some uptoSmall }

/-- 'tabelliontop.TopOctets', WHERE WHAT IT READS IS OF BULK AT MOST 1048576: true; the input reads as it did. -/
def topOctetsUptoRow : OpenClaim := { program := "ytnbccejhgmacjaa", sum := "9f6da52ccc83ed79b4e76f44d808fd757640625f92f98bcb80cdb71aef6c3101", func := "tabellion/tabelliontop.TopOctets", spec := "topOctets", apart := false, narrowed := true }
def TopOctetsUptoSaid : Prop := topOctetsUptoRow.holds Try.pinned (OpenSpec.upto topOctetsSpec)

/-- 'tabelliontop.TopRowCodes', WHERE WHAT IT READS IS OF BULK AT MOST 1048576: true; the input reads as it did. -/
def topRowCodesUptoRow : OpenClaim := { program := "ytnbccejhgmacjaa", sum := "9f6da52ccc83ed79b4e76f44d808fd757640625f92f98bcb80cdb71aef6c3101", func := "tabellion/tabelliontop.TopRowCodes", spec := "topRowCodes", inPlace := ["internal/abi.NoEscape", "internal/bytealg.abigen_runtime_cmpstring"], unfollowed := true, recurses := true, apart := false, narrowed := true }
def TopRowCodesUptoSaid : Prop := topRowCodesUptoRow.holds Try.pinned (OpenSpec.upto topRowCodesSpec)

/-- 'tabelliontop.TopSorted', WHERE WHAT IT READS IS OF BULK AT MOST 1048576: true; the input reads as it did. -/
def topSortedUptoRow : OpenClaim := { program := "ytnbccejhgmacjaa", sum := "9f6da52ccc83ed79b4e76f44d808fd757640625f92f98bcb80cdb71aef6c3101", func := "tabellion/tabelliontop.TopSorted", spec := "topSorted", inPlace := ["internal/bytealg.abigen_runtime_cmpstring", "slices.overlaps[tabellion/api.Row]"], unfollowed := true, recurses := true, apart := false, narrowed := true }
def TopSortedUptoSaid : Prop := topSortedUptoRow.holds Try.pinned (OpenSpec.upto topSortedSpec)

/-- 'tabelliontop.TopAggs', WHERE WHAT IT READS IS OF BULK AT MOST 1048576: true; the input reads as it did. -/
def topAggsUptoRow : OpenClaim := { program := "ytnbccejhgmacjaa", sum := "9f6da52ccc83ed79b4e76f44d808fd757640625f92f98bcb80cdb71aef6c3101", func := "tabellion/tabelliontop.TopAggs", spec := "topAggs", inPlace := ["internal/bytealg.abigen_runtime_cmpstring", "slices.overlaps[tabellion/api.Value]"], unfollowed := true, recurses := true, apart := false, narrowed := true }
def TopAggsUptoSaid : Prop := topAggsUptoRow.holds Try.pinned (OpenSpec.upto topAggsSpec)

/-- 'tabelliontop.TopKeyCodes', WHERE WHAT IT READS IS OF BULK AT MOST 1048576: true; the input reads as it did. -/
def topKeyCodesUptoRow : OpenClaim := { program := "ytnbccejhgmacjaa", sum := "9f6da52ccc83ed79b4e76f44d808fd757640625f92f98bcb80cdb71aef6c3101", func := "tabellion/tabelliontop.TopKeyCodes", spec := "topKeyCodes", inPlace := ["internal/bytealg.IndexByteString", "internal/bytealg.IndexString", "internal/abi.NoEscape", "internal/bytealg.abigen_runtime_cmpstring", "internal/bytealg.MakeNoZero"], unfollowed := true, recurses := true, named := ["internal/bytealg.MaxLen"], apart := false, narrowed := true }
def TopKeyCodesUptoSaid : Prop := topKeyCodesUptoRow.holds Try.pinned (OpenSpec.upto topKeyCodesSpec)

/-- 'tabelliontop.TopStats', WHERE WHAT IT READS IS OF BULK AT MOST 1048576: true; the input reads as it did. -/
def topStatsUptoRow : OpenClaim := { program := "ytnbccejhgmacjaa", sum := "9f6da52ccc83ed79b4e76f44d808fd757640625f92f98bcb80cdb71aef6c3101", func := "tabellion/tabelliontop.TopStats", spec := "topStats", inPlace := ["internal/bytealg.abigen_runtime_cmpstring", "slices.overlaps[tabellion/api.Value]", "slices.overlaps[tabellion/api.Often]"], unfollowed := true, recurses := true, apart := false, narrowed := true }
def TopStatsUptoSaid : Prop := topStatsUptoRow.holds Try.pinned (OpenSpec.upto topStatsSpec)

end Rows
end Go.Proofs.Ytnbccejhgmacjaa
