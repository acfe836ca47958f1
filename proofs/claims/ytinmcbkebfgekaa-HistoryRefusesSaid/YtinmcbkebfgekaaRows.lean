/-
  NARROWER THAN 'FOR EVERY INPUT', by the rows' own cells (each row's printed sentence says how): HistoryOrders: loops · HistoryArrives: loops · HistoryLater: loops · HistorySince: loops · HistoryRefuses: loops.
  DERIVED. THE GIVEN ROWS OF THIS SEAT. 5 by the template 'for every input the law returns true; each argument reads behind the call as it read before'; 0 by the template 'total and deterministic' (their statements: YtinmcbkebfgekaaTotals.lean).
  GIVEN WITH THE SEED: the statements are not yours to turn. If you find one false, say at which input.
  Laid BY PROGRAM, IN A SANDBOX (cutbox-rows.mjs): the forced cells as the released guide's own fill.sh prints them over the translation f923757df9e48068… (all of the seat's roots in one cut). By AI agents, Wed Nov 11 2026. No macro, syntax, notation, axiom, sorry.
-/
import Derived.Test.YtinmcbkebfgekaaChecked
import GoSem.Claim
import GoSem.ClaimJoined
import GoSem.ClaimMapViews
import Derived.JoinedTies
import Derived.KernelRfl
namespace Go.Proofs.Ytinmcbkebfgekaa
/- THE CELL 'sum', in the pinned program and in every row, IS THE sha256 OF THE DUMP (.gsa) THAT YtinmcbkebfgekaaProg.lean LOADS. Nothing in Lean hashes anything: it is a label: what it is worth is what the hold of that sum in a sandbox is worth. -/
noncomputable def Try.pinned : Pinned := { name := "ytinmcbkebfgekaa", sum := "f923757df9e48068b377e210d77e425e21335f0ca6e92dab4a21877d78269899", checked := Try.checked }
namespace Rows
def none {H : Type} : Left H := { results := [], args := [] }

/-- 'pandectlaw29.HistoryOrders': WHATEVER THE INPUT: true; the input reads as it did. -/
def historyOrdersSpec : ChangeSpec := { name := "historyOrders", fn := fun _ => fun
  | [d1, d2] => { results := [.lit (.bool true)], args := [d1, d2] }
  | _ => none }
def historyOrdersRow : OpenClaim := { program := "ytinmcbkebfgekaa", sum := "f923757df9e48068b377e210d77e425e21335f0ca6e92dab4a21877d78269899", func := "pandect/pandectlaw29.HistoryOrders", spec := "historyOrders", inPlace := ["slices.overlaps[*pandect/api.Known]"], unfollowed := true, recurses := true, loops := true, plainKeys := false, apart := false }
def HistoryOrdersSaid : Prop := historyOrdersRow.holds Try.pinned (OpenSpec.ofChange historyOrdersSpec)

/-- ITS FALSE NEIGHBOUR: 'it returns false'. Refute it at one input. -/
def historyOrdersWrong : ChangeSpec := { name := "historyOrders", fn := fun _ => fun
  | [d1, d2] => { results := [.lit (.bool false)], args := [d1, d2] }
  | _ => none }
def HistoryOrdersWrongFalsely : Prop := historyOrdersRow.holds Try.pinned (OpenSpec.ofChange historyOrdersWrong)

/-- 'pandectlaw29.HistoryArrives': WHATEVER THE INPUT: true; the input reads as it did. -/
def historyArrivesSpec : ChangeSpec := { name := "historyArrives", fn := fun _ => fun
  | [d1, d2] => { results := [.lit (.bool true)], args := [d1, d2] }
  | _ => none }
def historyArrivesRow : OpenClaim := { program := "ytinmcbkebfgekaa", sum := "f923757df9e48068b377e210d77e425e21335f0ca6e92dab4a21877d78269899", func := "pandect/pandectlaw29.HistoryArrives", spec := "historyArrives", inPlace := ["slices.overlaps[*pandect/api.Known]"], unfollowed := true, recurses := true, loops := true, plainKeys := false, apart := false }
def HistoryArrivesSaid : Prop := historyArrivesRow.holds Try.pinned (OpenSpec.ofChange historyArrivesSpec)

/-- ITS FALSE NEIGHBOUR: 'it returns false'. Refute it at one input. -/
def historyArrivesWrong : ChangeSpec := { name := "historyArrives", fn := fun _ => fun
  | [d1, d2] => { results := [.lit (.bool false)], args := [d1, d2] }
  | _ => none }
def HistoryArrivesWrongFalsely : Prop := historyArrivesRow.holds Try.pinned (OpenSpec.ofChange historyArrivesWrong)

/-- 'pandectlaw29.HistoryLater': WHATEVER THE INPUT: true; the input reads as it did. -/
def historyLaterSpec : ChangeSpec := { name := "historyLater", fn := fun _ => fun
  | [d1, d2, d3] => { results := [.lit (.bool true)], args := [d1, d2, d3] }
  | _ => none }
def historyLaterRow : OpenClaim := { program := "ytinmcbkebfgekaa", sum := "f923757df9e48068b377e210d77e425e21335f0ca6e92dab4a21877d78269899", func := "pandect/pandectlaw29.HistoryLater", spec := "historyLater", inPlace := ["slices.overlaps[*pandect/api.Known]"], unfollowed := true, recurses := true, loops := true, plainKeys := false, apart := false }
def HistoryLaterSaid : Prop := historyLaterRow.holds Try.pinned (OpenSpec.ofChange historyLaterSpec)

/-- ITS FALSE NEIGHBOUR: 'it returns false'. Refute it at one input. -/
def historyLaterWrong : ChangeSpec := { name := "historyLater", fn := fun _ => fun
  | [d1, d2, d3] => { results := [.lit (.bool false)], args := [d1, d2, d3] }
  | _ => none }
def HistoryLaterWrongFalsely : Prop := historyLaterRow.holds Try.pinned (OpenSpec.ofChange historyLaterWrong)

/-- 'pandectlaw29.HistorySince': WHATEVER THE INPUT: true; the input reads as it did. -/
def historySinceSpec : ChangeSpec := { name := "historySince", fn := fun _ => fun
  | [d1, d2] => { results := [.lit (.bool true)], args := [d1, d2] }
  | _ => none }
def historySinceRow : OpenClaim := { program := "ytinmcbkebfgekaa", sum := "f923757df9e48068b377e210d77e425e21335f0ca6e92dab4a21877d78269899", func := "pandect/pandectlaw29.HistorySince", spec := "historySince", inPlace := ["slices.overlaps[*pandect/api.Known]"], unfollowed := true, recurses := true, loops := true, plainKeys := false, apart := false }
def HistorySinceSaid : Prop := historySinceRow.holds Try.pinned (OpenSpec.ofChange historySinceSpec)

/-- ITS FALSE NEIGHBOUR: 'it returns false'. Refute it at one input. -/
def historySinceWrong : ChangeSpec := { name := "historySince", fn := fun _ => fun
  | [d1, d2] => { results := [.lit (.bool false)], args := [d1, d2] }
  | _ => none }
def HistorySinceWrongFalsely : Prop := historySinceRow.holds Try.pinned (OpenSpec.ofChange historySinceWrong)

/-- 'pandectlaw29.HistoryRefuses': WHATEVER THE INPUT: true; the input reads as it did. -/
def historyRefusesSpec : ChangeSpec := { name := "historyRefuses", fn := fun _ => fun
  | [d1, d2, d3] => { results := [.lit (.bool true)], args := [d1, d2, d3] }
  | _ => none }
def historyRefusesRow : OpenClaim := { program := "ytinmcbkebfgekaa", sum := "f923757df9e48068b377e210d77e425e21335f0ca6e92dab4a21877d78269899", func := "pandect/pandectlaw29.HistoryRefuses", spec := "historyRefuses", inPlace := ["slices.overlaps[*pandect/api.Known]"], unfollowed := true, recurses := true, loops := true, plainKeys := false, apart := false }
def HistoryRefusesSaid : Prop := historyRefusesRow.holds Try.pinned (OpenSpec.ofChange historyRefusesSpec)

/-- ITS FALSE NEIGHBOUR: 'it returns false'. Refute it at one input. -/
def historyRefusesWrong : ChangeSpec := { name := "historyRefuses", fn := fun _ => fun
  | [d1, d2, d3] => { results := [.lit (.bool false)], args := [d1, d2, d3] }
  | _ => none }
def HistoryRefusesWrongFalsely : Prop := historyRefusesRow.holds Try.pinned (OpenSpec.ofChange historyRefusesWrong)

/- THE SECOND FORM. 'bulk': how many values and letters a reading holds, each counted each time it is reached (what is shared counts as often as it is met; a slice's spare places count too). A statement '..UptoSaid' is the law's where the arguments, and the package variables that the reading takes, are together of bulk at most 1048576: NARROWER than '..Said'. Prove '..Said' where nothing that the law and all that it calls make is longer than what came in: it says more and counts as full. Else prove '..UptoSaid'. A law counts once. -/
mutual
def uptoBulk {H : Type} : DataW H → Nat
  | .lit (.string bytes) => bytes.length + 1
  | .lit _ => 1
  | .nil => 1
  | .ptr d => uptoBulk d + 1
  | .slice elems spare => uptoBulkAll elems + uptoBulkAll spare + 1
  | .agg parts => uptoBulkAll parts + 1
  | .iface _ d => uptoBulk d + 1
  | .map entries => uptoBulkEntries entries + 1
  | .held _ => 1
def uptoBulkAll {H : Type} : List (DataW H) → Nat
  | [] => 0
  | d :: r => uptoBulk d + uptoBulkAll r
def uptoBulkEntries {H : Type} : List (Lit × DataW H) → Nat
  | [] => 0
  | x :: r => uptoBulkEntry x + uptoBulkEntries r
def uptoBulkEntry {H : Type} : Lit × DataW H → Nat
  | (.string bytes, d) => bytes.length + uptoBulk d + 1
  | (_, d) => uptoBulk d + 1
 end
def uptoSmall : (H : Type) → List (DataW H) → Bool := fun _ ds => decide (uptoBulkAll ds ≤ 1048576)
def OpenSpec.upto (s : _root_.Go.ChangeSpec) : _root_.Go.OpenSpec := { _root_.Go.OpenSpec.ofChange s with cond := some uptoSmall }

/-- 'pandectlaw29.HistoryOrders', WHERE WHAT IT READS IS OF BULK AT MOST 1048576: true; the input reads as it did. -/
def historyOrdersUptoRow : OpenClaim := { program := "ytinmcbkebfgekaa", sum := "f923757df9e48068b377e210d77e425e21335f0ca6e92dab4a21877d78269899", func := "pandect/pandectlaw29.HistoryOrders", spec := "historyOrders", inPlace := ["slices.overlaps[*pandect/api.Known]"], unfollowed := true, recurses := true, loops := true, plainKeys := false, apart := false, narrowed := true }
def HistoryOrdersUptoSaid : Prop := historyOrdersUptoRow.holds Try.pinned (OpenSpec.upto historyOrdersSpec)

/-- 'pandectlaw29.HistoryArrives', WHERE WHAT IT READS IS OF BULK AT MOST 1048576: true; the input reads as it did. -/
def historyArrivesUptoRow : OpenClaim := { program := "ytinmcbkebfgekaa", sum := "f923757df9e48068b377e210d77e425e21335f0ca6e92dab4a21877d78269899", func := "pandect/pandectlaw29.HistoryArrives", spec := "historyArrives", inPlace := ["slices.overlaps[*pandect/api.Known]"], unfollowed := true, recurses := true, loops := true, plainKeys := false, apart := false, narrowed := true }
def HistoryArrivesUptoSaid : Prop := historyArrivesUptoRow.holds Try.pinned (OpenSpec.upto historyArrivesSpec)

/-- 'pandectlaw29.HistoryLater', WHERE WHAT IT READS IS OF BULK AT MOST 1048576: true; the input reads as it did. -/
def historyLaterUptoRow : OpenClaim := { program := "ytinmcbkebfgekaa", sum := "f923757df9e48068b377e210d77e425e21335f0ca6e92dab4a21877d78269899", func := "pandect/pandectlaw29.HistoryLater", spec := "historyLater", inPlace := ["slices.overlaps[*pandect/api.Known]"], unfollowed := true, recurses := true, loops := true, plainKeys := false, apart := false, narrowed := true }
def HistoryLaterUptoSaid : Prop := historyLaterUptoRow.holds Try.pinned (OpenSpec.upto historyLaterSpec)

/-- 'pandectlaw29.HistorySince', WHERE WHAT IT READS IS OF BULK AT MOST 1048576: true; the input reads as it did. -/
def historySinceUptoRow : OpenClaim := { program := "ytinmcbkebfgekaa", sum := "f923757df9e48068b377e210d77e425e21335f0ca6e92dab4a21877d78269899", func := "pandect/pandectlaw29.HistorySince", spec := "historySince", inPlace := ["slices.overlaps[*pandect/api.Known]"], unfollowed := true, recurses := true, loops := true, plainKeys := false, apart := false, narrowed := true }
def HistorySinceUptoSaid : Prop := historySinceUptoRow.holds Try.pinned (OpenSpec.upto historySinceSpec)

/-- 'pandectlaw29.HistoryRefuses', WHERE WHAT IT READS IS OF BULK AT MOST 1048576: true; the input reads as it did. -/
def historyRefusesUptoRow : OpenClaim := { program := "ytinmcbkebfgekaa", sum := "f923757df9e48068b377e210d77e425e21335f0ca6e92dab4a21877d78269899", func := "pandect/pandectlaw29.HistoryRefuses", spec := "historyRefuses", inPlace := ["slices.overlaps[*pandect/api.Known]"], unfollowed := true, recurses := true, loops := true, plainKeys := false, apart := false, narrowed := true }
def HistoryRefusesUptoSaid : Prop := historyRefusesUptoRow.holds Try.pinned (OpenSpec.upto historyRefusesSpec)

end Rows
end Go.Proofs.Ytinmcbkebfgekaa
