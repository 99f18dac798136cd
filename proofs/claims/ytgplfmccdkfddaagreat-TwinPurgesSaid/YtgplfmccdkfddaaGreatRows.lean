/-
  No cell of these rows narrows 'for every input' (looked for: loops, veiled, ifaces, maps, wideKeys, modest, calm, conditions, laid).
  DERIVED. THE GIVEN ROWS OF THIS SEAT. 3 by the template 'for every input the law returns true; each argument reads behind the call as it read before'; 0 by the template 'total and deterministic' (their statements: YtgplfmccdkfddaaGreatTotals.lean).
  GIVEN WITH THE SEED: the statements are not yours to turn. If you find one false, say at which input.
  Laid BY PROGRAM, IN A SANDBOX (cutbox-rows.mjs): the forced cells as the released guide's own fill.sh prints them over the translation 5827a44aec21e22f… (all of the seat's roots in one cut). By AI agents, Wed Nov 11 2026. No macro, syntax, notation, axiom, sorry.
-/
import Derived.Test.YtgplfmccdkfddaaGreatChecked
import GoSem.Claim
import GoSem.ClaimJoined
import GoSem.ClaimMapViews
import Derived.JoinedTies
import Derived.KernelRfl
namespace Go.Proofs.YtgplfmccdkfddaaGreat
/- THE CELL 'sum', in the pinned program and in every row, IS THE sha256 OF THE DUMP (.gsa) THAT YtgplfmccdkfddaaGreatProg.lean LOADS. Nothing in Lean hashes anything: it is a label: what it is worth is what the hold of that sum in a sandbox is worth. -/
noncomputable def Tryz.pinned : Pinned := { name := "ytgplfmccdkfddaagreat", sum := "5827a44aec21e22f4c130a8f0845c34a8a27058df94dc677756b84dd2fb5453f", checked := Tryz.checked }
namespace Rows
def none {H : Type} : Left H := { results := [], args := [] }

/-- 'firebreaklaw19.TwinPurges': WHATEVER THE INPUT: true; the input reads as it did. -/
def twinPurgesSpec : ChangeSpec := { name := "twinPurges", fn := fun _ => fun
  | [d1, d2, d3] => { results := [.lit (.bool true)], args := [d1, d2, d3] }
  | _ => none }
def twinPurgesRow : OpenClaim := { program := "ytgplfmccdkfddaagreat", sum := "5827a44aec21e22f4c130a8f0845c34a8a27058df94dc677756b84dd2fb5453f", func := "firebreak/firebreaklaw19.TwinPurges", spec := "twinPurges", inPlace := ["internal/bytealg.IndexByteString", "internal/bytealg.IndexString", "slices.overlaps[firebreak/wheel.entry]", "math.Float64frombits", "math.Float64bits"], unfollowed := true, recurses := true, named := ["internal/bytealg.MaxLen"], apart := false }
def TwinPurgesSaid : Prop := twinPurgesRow.holds Tryz.pinned (OpenSpec.ofChange twinPurgesSpec)

/-- ITS FALSE NEIGHBOUR: 'it returns false'. Refute it at one input. -/
def twinPurgesWrong : ChangeSpec := { name := "twinPurges", fn := fun _ => fun
  | [d1, d2, d3] => { results := [.lit (.bool false)], args := [d1, d2, d3] }
  | _ => none }
def TwinPurgesWrongFalsely : Prop := twinPurgesRow.holds Tryz.pinned (OpenSpec.ofChange twinPurgesWrong)

/-- 'firebreaklaw17.RunNames': WHATEVER THE INPUT: true; the input reads as it did. -/
def runNamesSpec : ChangeSpec := { name := "runNames", fn := fun _ => fun
  | [] => { results := [.lit (.bool true)], args := [] }
  | _ => none }
def runNamesRow : OpenClaim := { program := "ytgplfmccdkfddaagreat", sum := "5827a44aec21e22f4c130a8f0845c34a8a27058df94dc677756b84dd2fb5453f", func := "firebreak/firebreaklaw17.RunNames", spec := "runNames", inPlace := ["internal/bytealg.IndexByteString", "internal/bytealg.IndexString", "slices.overlaps[firebreak/wheel.entry]", "math.Float64frombits", "math.Float64bits"], unfollowed := true, recurses := true, named := ["internal/bytealg.MaxLen"], apart := false }
def RunNamesSaid : Prop := runNamesRow.holds Tryz.pinned (OpenSpec.ofChange runNamesSpec)

/-- ITS FALSE NEIGHBOUR: 'it returns false'. Refute it at one input. -/
def runNamesWrong : ChangeSpec := { name := "runNames", fn := fun _ => fun
  | [] => { results := [.lit (.bool false)], args := [] }
  | _ => none }
def RunNamesWrongFalsely : Prop := runNamesRow.holds Tryz.pinned (OpenSpec.ofChange runNamesWrong)

/-- 'firebreaklaw17.RunOwners': WHATEVER THE INPUT: true; the input reads as it did. -/
def runOwnersSpec : ChangeSpec := { name := "runOwners", fn := fun _ => fun
  | [d1, d2, d3] => { results := [.lit (.bool true)], args := [d1, d2, d3] }
  | _ => none }
def runOwnersRow : OpenClaim := { program := "ytgplfmccdkfddaagreat", sum := "5827a44aec21e22f4c130a8f0845c34a8a27058df94dc677756b84dd2fb5453f", func := "firebreak/firebreaklaw17.RunOwners", spec := "runOwners", inPlace := ["internal/bytealg.IndexByteString", "internal/bytealg.IndexString", "slices.overlaps[firebreak/wheel.entry]", "math.Float64frombits", "math.Float64bits"], unfollowed := true, recurses := true, named := ["internal/bytealg.MaxLen"], apart := false }
def RunOwnersSaid : Prop := runOwnersRow.holds Tryz.pinned (OpenSpec.ofChange runOwnersSpec)

/-- ITS FALSE NEIGHBOUR: 'it returns false'. Refute it at one input. -/
def runOwnersWrong : ChangeSpec := { name := "runOwners", fn := fun _ => fun
  | [d1, d2, d3] => { results := [.lit (.bool false)], args := [d1, d2, d3] }
  | _ => none }
def RunOwnersWrongFalsely : Prop := runOwnersRow.holds Tryz.pinned (OpenSpec.ofChange runOwnersWrong)

/- THE SECOND FORM. 'bulk': how many values and letters a reading holds, each counted each time it is reached (what is shared counts as often as it is met; a slice's spare places count too). A statement '..UptoSaid' is the law's where the arguments, and the package variables that the reading takes, are together of bulk at most 1048576: NARROWER than '..Said'. Prove '..Said' where nothing that the law and all that it calls make is longer than what came in: it says more and counts as full. Else prove '..UptoSaid'. A law counts once. -/
mutual
def uptoBulk {H : Type} : DataW H → Nat
  | .lit (.string bytes) => bytes.length + 1
  | .lit _ => 1
  | .nil => 1
  | .ptr d => uptoBulk d + 1
  | .slice elems spare => uptoBulkAll elems + uptoBulkAll spare + 1
  | .agg parts => uptoBulkAll parts + 1
  | .iface _ d => uptoBulk d + 1
  | .map entries => uptoBulkEntries entries + 1
  | .held _ => 1
def uptoBulkAll {H : Type} : List (DataW H) → Nat
  | [] => 0
  | d :: r => uptoBulk d + uptoBulkAll r
def uptoBulkEntries {H : Type} : List (Lit × DataW H) → Nat
  | [] => 0
  | x :: r => uptoBulkEntry x + uptoBulkEntries r
def uptoBulkEntry {H : Type} : Lit × DataW H → Nat
  | (.string bytes, d) => bytes.length + uptoBulk d + 1
  | (_, d) => uptoBulk d + 1
 end
def uptoSmall : (H : Type) → List (DataW H) → Bool := fun _ ds => decide (uptoBulkAll ds ≤ 1048576)
def OpenSpec.upto (s : _root_.Go.ChangeSpec) : _root_.Go.OpenSpec := { _root_.Go.OpenSpec.ofChange s with cond := some uptoSmall }

/-- 'firebreaklaw19.TwinPurges', WHERE WHAT IT READS IS OF BULK AT MOST 1048576: true; the input reads as it did. -/
def twinPurgesUptoRow : OpenClaim := { program := "ytgplfmccdkfddaagreat", sum := "5827a44aec21e22f4c130a8f0845c34a8a27058df94dc677756b84dd2fb5453f", func := "firebreak/firebreaklaw19.TwinPurges", spec := "twinPurges", inPlace := ["internal/bytealg.IndexByteString", "internal/bytealg.IndexString", "slices.overlaps[firebreak/wheel.entry]", "math.Float64frombits", "math.Float64bits"], unfollowed := true, recurses := true, named := ["internal/bytealg.MaxLen"], apart := false, narrowed := true }
def TwinPurgesUptoSaid : Prop := twinPurgesUptoRow.holds Tryz.pinned (OpenSpec.upto twinPurgesSpec)

/-- 'firebreaklaw17.RunNames', WHERE WHAT IT READS IS OF BULK AT MOST 1048576: true; the input reads as it did. -/
def runNamesUptoRow : OpenClaim := { program := "ytgplfmccdkfddaagreat", sum := "5827a44aec21e22f4c130a8f0845c34a8a27058df94dc677756b84dd2fb5453f", func := "firebreak/firebreaklaw17.RunNames", spec := "runNames", inPlace := ["internal/bytealg.IndexByteString", "internal/bytealg.IndexString", "slices.overlaps[firebreak/wheel.entry]", "math.Float64frombits", "math.Float64bits"], unfollowed := true, recurses := true, named := ["internal/bytealg.MaxLen"], apart := false, narrowed := true }
def RunNamesUptoSaid : Prop := runNamesUptoRow.holds Tryz.pinned (OpenSpec.upto runNamesSpec)

/-- 'firebreaklaw17.RunOwners', WHERE WHAT IT READS IS OF BULK AT MOST 1048576: true; the input reads as it did. -/
def runOwnersUptoRow : OpenClaim := { program := "ytgplfmccdkfddaagreat", sum := "5827a44aec21e22f4c130a8f0845c34a8a27058df94dc677756b84dd2fb5453f", func := "firebreak/firebreaklaw17.RunOwners", spec := "runOwners", inPlace := ["internal/bytealg.IndexByteString", "internal/bytealg.IndexString", "slices.overlaps[firebreak/wheel.entry]", "math.Float64frombits", "math.Float64bits"], unfollowed := true, recurses := true, named := ["internal/bytealg.MaxLen"], apart := false, narrowed := true }
def RunOwnersUptoSaid : Prop := runOwnersUptoRow.holds Tryz.pinned (OpenSpec.upto runOwnersSpec)

end Rows
end Go.Proofs.YtgplfmccdkfddaaGreat
