/-
  No cell of these rows narrows 'for every input' (looked for: loops, veiled, ifaces, maps, wideKeys, modest, calm, conditions, laid).
  DERIVED. THE GIVEN ROWS OF THIS SEAT. 4 by the template 'for every input the law returns true; each argument reads behind the call as it read before'; 0 by the template 'total and deterministic' (their statements: YthlkklcbcdmegaaGreatTotals.lean).
  GIVEN WITH THE SEED: the statements are not yours to turn. If you find one false, say at which input.
  Laid BY PROGRAM, IN A SANDBOX (cutbox-rows.mjs): the forced cells as the released guide's own fill.sh prints them over the translation d183cfd8099f8108… (all of the seat's roots in one cut). By AI agents, Wed Nov 11 2026. No macro, syntax, notation, axiom, sorry.
-/
import Derived.Test.YthlkklcbcdmegaaGreatChecked
import GoSem.Claim
import GoSem.ClaimJoined
import GoSem.ClaimMapViews
import Derived.JoinedTies
import Derived.KernelRfl
namespace Go.Proofs.YthlkklcbcdmegaaGreat
/- THE CELL 'sum', in the pinned program and in every row, IS THE sha256 OF THE DUMP (.gsa) THAT YthlkklcbcdmegaaGreatProg.lean LOADS. Nothing in Lean hashes anything: it is a label: what it is worth is what the hold of that sum in a sandbox is worth. -/
noncomputable def Tryz.pinned : Pinned := { name := "ythlkklcbcdmegaagreat", sum := "d183cfd8099f81087e6f1990d4336c10ea59e4e990edf2226efaec9e1103fd5f", checked := Tryz.checked }
namespace Rows
def none {H : Type} : Left H := { results := [], args := [] }

/-- 'firebreaklaw15.MachineNames': WHATEVER THE INPUT: true; the input reads as it did. -/
def machineNamesSpec : ChangeSpec := { name := "machineNames", fn := fun _ => fun
  | [] => { results := [.lit (.bool true)], args := [] }
  | _ => none }
def machineNamesRow : OpenClaim := { program := "ythlkklcbcdmegaagreat", sum := "d183cfd8099f81087e6f1990d4336c10ea59e4e990edf2226efaec9e1103fd5f", func := "firebreak/firebreaklaw15.MachineNames", spec := "machineNames", inPlace := ["internal/bytealg.IndexByteString", "internal/bytealg.IndexString", "slices.overlaps[firebreak/wheel.entry]", "math.Float64frombits", "math.Float64bits"], unfollowed := true, recurses := true, named := ["internal/bytealg.MaxLen"], apart := false }
def MachineNamesSaid : Prop := machineNamesRow.holds Tryz.pinned (OpenSpec.ofChange machineNamesSpec)

/-- ITS FALSE NEIGHBOUR: 'it returns false'. Refute it at one input. -/
def machineNamesWrong : ChangeSpec := { name := "machineNames", fn := fun _ => fun
  | [] => { results := [.lit (.bool false)], args := [] }
  | _ => none }
def MachineNamesWrongFalsely : Prop := machineNamesRow.holds Tryz.pinned (OpenSpec.ofChange machineNamesWrong)

/-- 'firebreaklaw15.MachineDoes': WHATEVER THE INPUT: true; the input reads as it did. -/
def machineDoesSpec : ChangeSpec := { name := "machineDoes", fn := fun _ => fun
  | [d1, d2] => { results := [.lit (.bool true)], args := [d1, d2] }
  | _ => none }
def machineDoesRow : OpenClaim := { program := "ythlkklcbcdmegaagreat", sum := "d183cfd8099f81087e6f1990d4336c10ea59e4e990edf2226efaec9e1103fd5f", func := "firebreak/firebreaklaw15.MachineDoes", spec := "machineDoes", inPlace := ["internal/bytealg.IndexByteString", "internal/bytealg.IndexString", "slices.overlaps[firebreak/wheel.entry]", "math.Float64frombits", "math.Float64bits"], unfollowed := true, recurses := true, named := ["internal/bytealg.MaxLen"], apart := false }
def MachineDoesSaid : Prop := machineDoesRow.holds Tryz.pinned (OpenSpec.ofChange machineDoesSpec)

/-- ITS FALSE NEIGHBOUR: 'it returns false'. Refute it at one input. -/
def machineDoesWrong : ChangeSpec := { name := "machineDoes", fn := fun _ => fun
  | [d1, d2] => { results := [.lit (.bool false)], args := [d1, d2] }
  | _ => none }
def MachineDoesWrongFalsely : Prop := machineDoesRow.holds Tryz.pinned (OpenSpec.ofChange machineDoesWrong)

/-- 'firebreaklaw15.MachineStands': WHATEVER THE INPUT: true; the input reads as it did. -/
def machineStandsSpec : ChangeSpec := { name := "machineStands", fn := fun _ => fun
  | [d1, d2, d3] => { results := [.lit (.bool true)], args := [d1, d2, d3] }
  | _ => none }
def machineStandsRow : OpenClaim := { program := "ythlkklcbcdmegaagreat", sum := "d183cfd8099f81087e6f1990d4336c10ea59e4e990edf2226efaec9e1103fd5f", func := "firebreak/firebreaklaw15.MachineStands", spec := "machineStands", inPlace := ["internal/bytealg.IndexByteString", "internal/bytealg.IndexString", "slices.overlaps[firebreak/wheel.entry]", "math.Float64frombits", "math.Float64bits"], unfollowed := true, recurses := true, named := ["internal/bytealg.MaxLen"], apart := false }
def MachineStandsSaid : Prop := machineStandsRow.holds Tryz.pinned (OpenSpec.ofChange machineStandsSpec)

/-- ITS FALSE NEIGHBOUR: 'it returns false'. Refute it at one input. -/
def machineStandsWrong : ChangeSpec := { name := "machineStands", fn := fun _ => fun
  | [d1, d2, d3] => { results := [.lit (.bool false)], args := [d1, d2, d3] }
  | _ => none }
def MachineStandsWrongFalsely : Prop := machineStandsRow.holds Tryz.pinned (OpenSpec.ofChange machineStandsWrong)

/-- 'firebreaklaw15.MachineLays': WHATEVER THE INPUT: true; the input reads as it did. -/
def machineLaysSpec : ChangeSpec := { name := "machineLays", fn := fun _ => fun
  | [d1, d2, d3] => { results := [.lit (.bool true)], args := [d1, d2, d3] }
  | _ => none }
def machineLaysRow : OpenClaim := { program := "ythlkklcbcdmegaagreat", sum := "d183cfd8099f81087e6f1990d4336c10ea59e4e990edf2226efaec9e1103fd5f", func := "firebreak/firebreaklaw15.MachineLays", spec := "machineLays", inPlace := ["internal/bytealg.IndexByteString", "internal/bytealg.IndexString", "slices.overlaps[firebreak/wheel.entry]", "math.Float64frombits", "math.Float64bits"], unfollowed := true, recurses := true, named := ["internal/bytealg.MaxLen"], apart := false }
def MachineLaysSaid : Prop := machineLaysRow.holds Tryz.pinned (OpenSpec.ofChange machineLaysSpec)

/-- ITS FALSE NEIGHBOUR: 'it returns false'. Refute it at one input. -/
def machineLaysWrong : ChangeSpec := { name := "machineLays", fn := fun _ => fun
  | [d1, d2, d3] => { results := [.lit (.bool false)], args := [d1, d2, d3] }
  | _ => none }
def MachineLaysWrongFalsely : Prop := machineLaysRow.holds Tryz.pinned (OpenSpec.ofChange machineLaysWrong)

/- THE SECOND FORM. 'bulk': how many values and letters a reading holds, each counted each time it is reached (what is shared counts as often as it is met; a slice's spare places count too). A statement '..UptoSaid' is the law's where the arguments, and the package variables that the reading takes, are together of bulk at most 1048576: NARROWER than '..Said'. Prove '..Said' where nothing that the law and all that it calls make is longer than what came in: it says more and counts as full. Else prove '..UptoSaid'. A law counts once. -/
mutual
def uptoBulk {H : Type} : DataW H → Nat
  | .lit (.string bytes) => bytes.length + 1
  | .lit _ => 1
  | .nil => 1
  | .ptr d => uptoBulk d + 1
  | .slice elems spare => uptoBulkAll elems + uptoBulkAll spare + 1
  | .agg parts => uptoBulkAll parts + 1
  | .iface _ d => uptoBulk d + 1
  | .map entries => uptoBulkEntries entries + 1
  | .held _ => 1
def uptoBulkAll {H : Type} : List (DataW H) → Nat
  | [] => 0
  | d :: r => uptoBulk d + uptoBulkAll r
def uptoBulkEntries {H : Type} : List (Lit × DataW H) → Nat
  | [] => 0
  | x :: r => uptoBulkEntry x + uptoBulkEntries r
def uptoBulkEntry {H : Type} : Lit × DataW H → Nat
  | (.string bytes, d) => bytes.length + uptoBulk d + 1
  | (_, d) => uptoBulk d + 1
 end
def uptoSmall : (H : Type) → List (DataW H) → Bool := fun _ ds => decide (uptoBulkAll ds ≤ 1048576)
def OpenSpec.upto (s : _root_.Go.ChangeSpec) : _root_.Go.OpenSpec := { _root_.Go.OpenSpec.ofChange s with cond := some uptoSmall }

/-- 'firebreaklaw15.MachineNames', WHERE WHAT IT READS IS OF BULK AT MOST 1048576: true; the input reads as it did. -/
def machineNamesUptoRow : OpenClaim := { program := "ythlkklcbcdmegaagreat", sum := "d183cfd8099f81087e6f1990d4336c10ea59e4e990edf2226efaec9e1103fd5f", func := "firebreak/firebreaklaw15.MachineNames", spec := "machineNames", inPlace := ["internal/bytealg.IndexByteString", "internal/bytealg.IndexString", "slices.overlaps[firebreak/wheel.entry]", "math.Float64frombits", "math.Float64bits"], unfollowed := true, recurses := true, named := ["internal/bytealg.MaxLen"], apart := false, narrowed := true }
def MachineNamesUptoSaid : Prop := machineNamesUptoRow.holds Tryz.pinned (OpenSpec.upto machineNamesSpec)

/-- 'firebreaklaw15.MachineDoes', WHERE WHAT IT READS IS OF BULK AT MOST 1048576: true; the input reads as it did. -/
def machineDoesUptoRow : OpenClaim := { program := "ythlkklcbcdmegaagreat", sum := "d183cfd8099f81087e6f1990d4336c10ea59e4e990edf2226efaec9e1103fd5f", func := "firebreak/firebreaklaw15.MachineDoes", spec := "machineDoes", inPlace := ["internal/bytealg.IndexByteString", "internal/bytealg.IndexString", "slices.overlaps[firebreak/wheel.entry]", "math.Float64frombits", "math.Float64bits"], unfollowed := true, recurses := true, named := ["internal/bytealg.MaxLen"], apart := false, narrowed := true }
def MachineDoesUptoSaid : Prop := machineDoesUptoRow.holds Tryz.pinned (OpenSpec.upto machineDoesSpec)

/-- 'firebreaklaw15.MachineStands', WHERE WHAT IT READS IS OF BULK AT MOST 1048576: true; the input reads as it did. -/
def machineStandsUptoRow : OpenClaim := { program := "ythlkklcbcdmegaagreat", sum := "d183cfd8099f81087e6f1990d4336c10ea59e4e990edf2226efaec9e1103fd5f", func := "firebreak/firebreaklaw15.MachineStands", spec := "machineStands", inPlace := ["internal/bytealg.IndexByteString", "internal/bytealg.IndexString", "slices.overlaps[firebreak/wheel.entry]", "math.Float64frombits", "math.Float64bits"], unfollowed := true, recurses := true, named := ["internal/bytealg.MaxLen"], apart := false, narrowed := true }
def MachineStandsUptoSaid : Prop := machineStandsUptoRow.holds Tryz.pinned (OpenSpec.upto machineStandsSpec)

/-- 'firebreaklaw15.MachineLays', WHERE WHAT IT READS IS OF BULK AT MOST 1048576: true; the input reads as it did. -/
def machineLaysUptoRow : OpenClaim := { program := "ythlkklcbcdmegaagreat", sum := "d183cfd8099f81087e6f1990d4336c10ea59e4e990edf2226efaec9e1103fd5f", func := "firebreak/firebreaklaw15.MachineLays", spec := "machineLays", inPlace := ["internal/bytealg.IndexByteString", "internal/bytealg.IndexString", "slices.overlaps[firebreak/wheel.entry]", "math.Float64frombits", "math.Float64bits"], unfollowed := true, recurses := true, named := ["internal/bytealg.MaxLen"], apart := false, narrowed := true }
def MachineLaysUptoSaid : Prop := machineLaysUptoRow.holds Tryz.pinned (OpenSpec.upto machineLaysSpec)

end Rows
end Go.Proofs.YthlkklcbcdmegaaGreat
