/-
  No cell of these rows narrows 'for every input' (looked for: loops, veiled, ifaces, maps, wideKeys, modest, calm, conditions, laid).
  DERIVED. THE GIVEN ROWS OF THIS SEAT. 5 by the template 'for every input the law returns true; each argument reads behind the call as it read before'; 0 by the template 'total and deterministic' (their statements: YtloapcmhhcbonaaGreatTotals.lean).
  GIVEN WITH THE SEED: the statements are not yours to turn. If you find one false, say at which input.
  Laid BY PROGRAM, IN A SANDBOX (cutbox-rows.mjs): the forced cells as the released guide's own fill.sh prints them over the translation d06c4e9627ea5acb… (all of the seat's roots in one cut). By AI agents, Wed Nov 11 2026. No macro, syntax, notation, axiom, sorry.
-/
import Derived.Test.YtloapcmhhcbonaaGreatChecked
import GoSem.Claim
import GoSem.ClaimJoined
import GoSem.ClaimMapViews
import Derived.JoinedTies
import Derived.KernelRfl
namespace Go.Proofs.YtloapcmhhcbonaaGreat
/- THE CELL 'sum', in the pinned program and in every row, IS THE sha256 OF THE DUMP (.gsa) THAT YtloapcmhhcbonaaGreatProg.lean LOADS. Nothing in Lean hashes anything: it is a label: what it is worth is what the hold of that sum in a sandbox is worth. -/
noncomputable def Tryz.pinned : Pinned := { name := "ytloapcmhhcbonaagreat", sum := "d06c4e9627ea5acb6f9870cf578553bbe448532b86009de722c0e94dd72bc743", checked := Tryz.checked }
namespace Rows
def none {H : Type} : Left H := { results := [], args := [] }

/-- 'firebreaklaw22.SnapWrites': WHATEVER THE INPUT: true; the input reads as it did. -/
def snapWritesSpec : ChangeSpec := { name := "snapWrites", fn := fun _ => fun
  | [d1, d2] => { results := [.lit (.bool true)], args := [d1, d2] }
  | _ => none }
def snapWritesRow : OpenClaim := { program := "ytloapcmhhcbonaagreat", sum := "d06c4e9627ea5acb6f9870cf578553bbe448532b86009de722c0e94dd72bc743", func := "firebreak/firebreaklaw22.SnapWrites", spec := "snapWrites", inPlace := ["internal/bytealg.IndexByteString", "internal/bytealg.IndexString"], unfollowed := true, recurses := true, named := ["internal/bytealg.MaxLen"], apart := false }
def SnapWritesSaid : Prop := snapWritesRow.holds Tryz.pinned (OpenSpec.ofChange snapWritesSpec)

/-- ITS FALSE NEIGHBOUR: 'it returns false'. Refute it at one input. -/
def snapWritesWrong : ChangeSpec := { name := "snapWrites", fn := fun _ => fun
  | [d1, d2] => { results := [.lit (.bool false)], args := [d1, d2] }
  | _ => none }
def SnapWritesWrongFalsely : Prop := snapWritesRow.holds Tryz.pinned (OpenSpec.ofChange snapWritesWrong)

/-- 'firebreaklaw22.SnapReads': WHATEVER THE INPUT: true; the input reads as it did. -/
def snapReadsSpec : ChangeSpec := { name := "snapReads", fn := fun _ => fun
  | [d] => { results := [.lit (.bool true)], args := [d] }
  | _ => none }
def snapReadsRow : OpenClaim := { program := "ytloapcmhhcbonaagreat", sum := "d06c4e9627ea5acb6f9870cf578553bbe448532b86009de722c0e94dd72bc743", func := "firebreak/firebreaklaw22.SnapReads", spec := "snapReads", inPlace := ["internal/bytealg.IndexByteString", "internal/bytealg.IndexString"], unfollowed := true, recurses := true, named := ["internal/bytealg.MaxLen"], apart := false }
def SnapReadsSaid : Prop := snapReadsRow.holds Tryz.pinned (OpenSpec.ofChange snapReadsSpec)

/-- ITS FALSE NEIGHBOUR: 'it returns false'. Refute it at one input. -/
def snapReadsWrong : ChangeSpec := { name := "snapReads", fn := fun _ => fun
  | [d] => { results := [.lit (.bool false)], args := [d] }
  | _ => none }
def SnapReadsWrongFalsely : Prop := snapReadsRow.holds Tryz.pinned (OpenSpec.ofChange snapReadsWrong)

/-- 'firebreaklaw22.SnapReturns': WHATEVER THE INPUT: true; the input reads as it did. -/
def snapReturnsSpec : ChangeSpec := { name := "snapReturns", fn := fun _ => fun
  | [d1, d2, d3, d4] => { results := [.lit (.bool true)], args := [d1, d2, d3, d4] }
  | _ => none }
def snapReturnsRow : OpenClaim := { program := "ytloapcmhhcbonaagreat", sum := "d06c4e9627ea5acb6f9870cf578553bbe448532b86009de722c0e94dd72bc743", func := "firebreak/firebreaklaw22.SnapReturns", spec := "snapReturns", inPlace := ["internal/bytealg.IndexByteString", "internal/bytealg.IndexString"], unfollowed := true, recurses := true, named := ["internal/bytealg.MaxLen"], apart := false }
def SnapReturnsSaid : Prop := snapReturnsRow.holds Tryz.pinned (OpenSpec.ofChange snapReturnsSpec)

/-- ITS FALSE NEIGHBOUR: 'it returns false'. Refute it at one input. -/
def snapReturnsWrong : ChangeSpec := { name := "snapReturns", fn := fun _ => fun
  | [d1, d2, d3, d4] => { results := [.lit (.bool false)], args := [d1, d2, d3, d4] }
  | _ => none }
def SnapReturnsWrongFalsely : Prop := snapReturnsRow.holds Tryz.pinned (OpenSpec.ofChange snapReturnsWrong)

/-- 'firebreaklaw22.SnapKeeps': WHATEVER THE INPUT: true; the input reads as it did. -/
def snapKeepsSpec : ChangeSpec := { name := "snapKeeps", fn := fun _ => fun
  | [d1, d2, d3] => { results := [.lit (.bool true)], args := [d1, d2, d3] }
  | _ => none }
def snapKeepsRow : OpenClaim := { program := "ytloapcmhhcbonaagreat", sum := "d06c4e9627ea5acb6f9870cf578553bbe448532b86009de722c0e94dd72bc743", func := "firebreak/firebreaklaw22.SnapKeeps", spec := "snapKeeps", inPlace := ["internal/bytealg.IndexByteString", "internal/bytealg.IndexString"], unfollowed := true, recurses := true, named := ["internal/bytealg.MaxLen"], apart := false }
def SnapKeepsSaid : Prop := snapKeepsRow.holds Tryz.pinned (OpenSpec.ofChange snapKeepsSpec)

/-- ITS FALSE NEIGHBOUR: 'it returns false'. Refute it at one input. -/
def snapKeepsWrong : ChangeSpec := { name := "snapKeeps", fn := fun _ => fun
  | [d1, d2, d3] => { results := [.lit (.bool false)], args := [d1, d2, d3] }
  | _ => none }
def SnapKeepsWrongFalsely : Prop := snapKeepsRow.holds Tryz.pinned (OpenSpec.ofChange snapKeepsWrong)

/-- 'firebreaklaw22.SnapApart': WHATEVER THE INPUT: true; the input reads as it did. -/
def snapApartSpec : ChangeSpec := { name := "snapApart", fn := fun _ => fun
  | [d] => { results := [.lit (.bool true)], args := [d] }
  | _ => none }
def snapApartRow : OpenClaim := { program := "ytloapcmhhcbonaagreat", sum := "d06c4e9627ea5acb6f9870cf578553bbe448532b86009de722c0e94dd72bc743", func := "firebreak/firebreaklaw22.SnapApart", spec := "snapApart", inPlace := ["internal/bytealg.IndexByteString", "internal/bytealg.IndexString"], unfollowed := true, recurses := true, named := ["internal/bytealg.MaxLen"], apart := false }
def SnapApartSaid : Prop := snapApartRow.holds Tryz.pinned (OpenSpec.ofChange snapApartSpec)

/-- ITS FALSE NEIGHBOUR: 'it returns false'. Refute it at one input. -/
def snapApartWrong : ChangeSpec := { name := "snapApart", fn := fun _ => fun
  | [d] => { results := [.lit (.bool false)], args := [d] }
  | _ => none }
def SnapApartWrongFalsely : Prop := snapApartRow.holds Tryz.pinned (OpenSpec.ofChange snapApartWrong)

/- THE SECOND FORM. 'bulk': how many values and letters a reading holds, each counted each time it is reached (what is shared counts as often as it is met; a slice's spare places count too). A statement '..UptoSaid' is the law's where the arguments, and the package variables that the reading takes, are together of bulk at most 1048576: NARROWER than '..Said'. Prove '..Said' where nothing that the law and all that it calls make is longer than what came in: it says more and counts as full. Else prove '..UptoSaid'. A law counts once. -/
mutual
def uptoBulk {H : Type} : DataW H → Nat
  | .lit (.string bytes) => bytes.length + 1
  | .lit _ => 1
  | .nil => 1
  | .ptr d => uptoBulk d + 1
  | .slice elems spare => uptoBulkAll elems + uptoBulkAll spare + 1
  | .agg parts => uptoBulkAll parts + 1
  | .iface _ d => uptoBulk d + 1
  | .map entries => uptoBulkEntries entries + 1
  | .held _ => 1
def uptoBulkAll {H : Type} : List (DataW H) → Nat
  | [] => 0
  | d :: r => uptoBulk d + uptoBulkAll r
def uptoBulkEntries {H : Type} : List (Lit × DataW H) → Nat
  | [] => 0
  | x :: r => uptoBulkEntry x + uptoBulkEntries r
def uptoBulkEntry {H : Type} : Lit × DataW H → Nat
  | (.string bytes, d) => bytes.length + uptoBulk d + 1
  | (_, d) => uptoBulk d + 1
 end
def uptoSmall : (H : Type) → List (DataW H) → Bool := fun _ ds => decide (uptoBulkAll ds ≤ 1048576)
def OpenSpec.upto (s : _root_.Go.ChangeSpec) : _root_.Go.OpenSpec := { _root_.Go.OpenSpec.ofChange s with cond := some uptoSmall }

/-- 'firebreaklaw22.SnapWrites', WHERE WHAT IT READS IS OF BULK AT MOST 1048576: true; the input reads as it did. -/
def snapWritesUptoRow : OpenClaim := { program := "ytloapcmhhcbonaagreat", sum := "d06c4e9627ea5acb6f9870cf578553bbe448532b86009de722c0e94dd72bc743", func := "firebreak/firebreaklaw22.SnapWrites", spec := "snapWrites", inPlace := ["internal/bytealg.IndexByteString", "internal/bytealg.IndexString"], unfollowed := true, recurses := true, named := ["internal/bytealg.MaxLen"], apart := false, narrowed := true }
def SnapWritesUptoSaid : Prop := snapWritesUptoRow.holds Tryz.pinned (OpenSpec.upto snapWritesSpec)

/-- 'firebreaklaw22.SnapReads', WHERE WHAT IT READS IS OF BULK AT MOST 1048576: true; the input reads as it did. -/
def snapReadsUptoRow : OpenClaim := { program := "ytloapcmhhcbonaagreat", sum := "d06c4e9627ea5acb6f9870cf578553bbe448532b86009de722c0e94dd72bc743", func := "firebreak/firebreaklaw22.SnapReads", spec := "snapReads", inPlace := ["internal/bytealg.IndexByteString", "internal/bytealg.IndexString"], unfollowed := true, recurses := true, named := ["internal/bytealg.MaxLen"], apart := false, narrowed := true }
def SnapReadsUptoSaid : Prop := snapReadsUptoRow.holds Tryz.pinned (OpenSpec.upto snapReadsSpec)

/-- 'firebreaklaw22.SnapReturns', WHERE WHAT IT READS IS OF BULK AT MOST 1048576: true; the input reads as it did. -/
def snapReturnsUptoRow : OpenClaim := { program := "ytloapcmhhcbonaagreat", sum := "d06c4e9627ea5acb6f9870cf578553bbe448532b86009de722c0e94dd72bc743", func := "firebreak/firebreaklaw22.SnapReturns", spec := "snapReturns", inPlace := ["internal/bytealg.IndexByteString", "internal/bytealg.IndexString"], unfollowed := true, recurses := true, named := ["internal/bytealg.MaxLen"], apart := false, narrowed := true }
def SnapReturnsUptoSaid : Prop := snapReturnsUptoRow.holds Tryz.pinned (OpenSpec.upto snapReturnsSpec)

/-- 'firebreaklaw22.SnapKeeps', WHERE WHAT IT READS IS OF BULK AT MOST 1048576: true; the input reads as it did. -/
def snapKeepsUptoRow : OpenClaim := { program := "ytloapcmhhcbonaagreat", sum := "d06c4e9627ea5acb6f9870cf578553bbe448532b86009de722c0e94dd72bc743", func := "firebreak/firebreaklaw22.SnapKeeps", spec := "snapKeeps", inPlace := ["internal/bytealg.IndexByteString", "internal/bytealg.IndexString"], unfollowed := true, recurses := true, named := ["internal/bytealg.MaxLen"], apart := false, narrowed := true }
def SnapKeepsUptoSaid : Prop := snapKeepsUptoRow.holds Tryz.pinned (OpenSpec.upto snapKeepsSpec)

/-- 'firebreaklaw22.SnapApart', WHERE WHAT IT READS IS OF BULK AT MOST 1048576: true; the input reads as it did. -/
def snapApartUptoRow : OpenClaim := { program := "ytloapcmhhcbonaagreat", sum := "d06c4e9627ea5acb6f9870cf578553bbe448532b86009de722c0e94dd72bc743", func := "firebreak/firebreaklaw22.SnapApart", spec := "snapApart", inPlace := ["internal/bytealg.IndexByteString", "internal/bytealg.IndexString"], unfollowed := true, recurses := true, named := ["internal/bytealg.MaxLen"], apart := false, narrowed := true }
def SnapApartUptoSaid : Prop := snapApartUptoRow.holds Tryz.pinned (OpenSpec.upto snapApartSpec)

end Rows
end Go.Proofs.YtloapcmhhcbonaaGreat
