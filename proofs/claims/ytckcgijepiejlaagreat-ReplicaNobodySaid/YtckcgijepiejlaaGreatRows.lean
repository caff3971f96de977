/-
  No cell of these rows narrows 'for every input' (looked for: loops, veiled, ifaces, maps, wideKeys, modest, calm, conditions, laid).
  DERIVED. THE GIVEN ROWS OF THIS SEAT. 2 by the template 'for every input the law returns true; each argument reads behind the call as it read before'; 0 by the template 'total and deterministic' (their statements: YtckcgijepiejlaaGreatTotals.lean).
  GIVEN WITH THE SEED: the statements are not yours to turn. If you find one false, say at which input.
  Laid BY PROGRAM, IN A SANDBOX (cutbox-rows.mjs): the forced cells as the released guide's own fill.sh prints them over the translation a27ccb9313a950e5… (all of the seat's roots in one cut). By AI agents, Wed Nov 11 2026. No macro, syntax, notation, axiom, sorry.
-/
import Derived.Test.YtckcgijepiejlaaGreatChecked
import GoSem.Claim
import GoSem.ClaimJoined
import GoSem.ClaimMapViews
import Derived.JoinedTies
import Derived.KernelRfl
namespace Go.Proofs.YtckcgijepiejlaaGreat
/- THE CELL 'sum', in the pinned program and in every row, IS THE sha256 OF THE DUMP (.gsa) THAT YtckcgijepiejlaaGreatProg.lean LOADS. Nothing in Lean hashes anything: it is a label: what it is worth is what the hold of that sum in a sandbox is worth. -/
noncomputable def Tryz.pinned : Pinned := { name := "ytckcgijepiejlaagreat", sum := "a27ccb9313a950e54ed90e938d0aacd21361ff4205f25e3074ffdf0da66ffa41", checked := Tryz.checked }
namespace Rows
def none {H : Type} : Left H := { results := [], args := [] }

/-- 'baileylaw27.ReplicaSays': WHATEVER THE INPUT: true; the input reads as it did. -/
def replicaSaysSpec : ChangeSpec := { name := "replicaSays", fn := fun _ => fun
  | [d] => { results := [.lit (.bool true)], args := [d] }
  | _ => none }
def replicaSaysRow : OpenClaim := { program := "ytckcgijepiejlaagreat", sum := "a27ccb9313a950e54ed90e938d0aacd21361ff4205f25e3074ffdf0da66ffa41", func := "bailey/baileylaw27.ReplicaSays", spec := "replicaSays", inPlace := ["internal/bytealg.abigen_runtime_cmpstring", "slices.overlaps[bailey/api.Space]", "slices.overlaps[bailey/api.Snap]", "slices.overlaps[int]", "slices.overlaps[bailey/api.Share]", "slices.overlaps[bailey/api.Session]"], unfollowed := true, recurses := true, apart := false }
def ReplicaSaysSaid : Prop := replicaSaysRow.holds Tryz.pinned (OpenSpec.ofChange replicaSaysSpec)

/-- ITS FALSE NEIGHBOUR: 'it returns false'. Refute it at one input. -/
def replicaSaysWrong : ChangeSpec := { name := "replicaSays", fn := fun _ => fun
  | [d] => { results := [.lit (.bool false)], args := [d] }
  | _ => none }
def ReplicaSaysWrongFalsely : Prop := replicaSaysRow.holds Tryz.pinned (OpenSpec.ofChange replicaSaysWrong)

/-- 'baileylaw27.ReplicaNobody': WHATEVER THE INPUT: true; the input reads as it did. -/
def replicaNobodySpec : ChangeSpec := { name := "replicaNobody", fn := fun _ => fun
  | [d1, d2, d3] => { results := [.lit (.bool true)], args := [d1, d2, d3] }
  | _ => none }
def replicaNobodyRow : OpenClaim := { program := "ytckcgijepiejlaagreat", sum := "a27ccb9313a950e54ed90e938d0aacd21361ff4205f25e3074ffdf0da66ffa41", func := "bailey/baileylaw27.ReplicaNobody", spec := "replicaNobody", inPlace := ["internal/bytealg.abigen_runtime_cmpstring", "slices.overlaps[bailey/api.Space]", "slices.overlaps[bailey/api.Snap]", "slices.overlaps[int]", "slices.overlaps[bailey/api.Share]", "slices.overlaps[bailey/api.Session]"], unfollowed := true, recurses := true, apart := false }
def ReplicaNobodySaid : Prop := replicaNobodyRow.holds Tryz.pinned (OpenSpec.ofChange replicaNobodySpec)

/-- ITS FALSE NEIGHBOUR: 'it returns false'. Refute it at one input. -/
def replicaNobodyWrong : ChangeSpec := { name := "replicaNobody", fn := fun _ => fun
  | [d1, d2, d3] => { results := [.lit (.bool false)], args := [d1, d2, d3] }
  | _ => none }
def ReplicaNobodyWrongFalsely : Prop := replicaNobodyRow.holds Tryz.pinned (OpenSpec.ofChange replicaNobodyWrong)

/- THE SECOND FORM. 'bulk': how many values and letters a reading holds, each counted each time it is reached (what is shared counts as often as it is met; a slice's spare places count too). A statement '..UptoSaid' is the law's where the arguments, and the package variables that the reading takes, are together of bulk at most 1048576: NARROWER than '..Said'. Prove '..Said' where nothing that the law and all that it calls make is longer than what came in: it says more and counts as full. Else prove '..UptoSaid'. A law counts once. -/
mutual
def uptoBulk {H : Type} : DataW H → Nat
  | .lit (.string bytes) => bytes.length + 1
  | .lit _ => 1
  | .nil => 1
  | .ptr d => uptoBulk d + 1
  | .slice elems spare => uptoBulkAll elems + uptoBulkAll spare + 1
  | .agg parts => uptoBulkAll parts + 1
  | .iface _ d => uptoBulk d + 1
  | .map entries => uptoBulkEntries entries + 1
  | .held _ => 1
def uptoBulkAll {H : Type} : List (DataW H) → Nat
  | [] => 0
  | d :: r => uptoBulk d + uptoBulkAll r
def uptoBulkEntries {H : Type} : List (Lit × DataW H) → Nat
  | [] => 0
  | x :: r => uptoBulkEntry x + uptoBulkEntries r
def uptoBulkEntry {H : Type} : Lit × DataW H → Nat
  | (.string bytes, d) => bytes.length + uptoBulk d + 1
  | (_, d) => uptoBulk d + 1
 end
def uptoSmall : (H : Type) → List (DataW H) → Bool := fun _ ds => decide (uptoBulkAll ds ≤ 1048576)
def OpenSpec.upto (s : _root_.Go.ChangeSpec) : _root_.Go.OpenSpec := { _root_.Go.OpenSpec.ofChange s with cond := some uptoSmall }

/-- 'baileylaw27.ReplicaSays', WHERE WHAT IT READS IS OF BULK AT MOST 1048576: true; the input reads as it did. -/
def replicaSaysUptoRow : OpenClaim := { program := "ytckcgijepiejlaagreat", sum := "a27ccb9313a950e54ed90e938d0aacd21361ff4205f25e3074ffdf0da66ffa41", func := "bailey/baileylaw27.ReplicaSays", spec := "replicaSays", inPlace := ["internal/bytealg.abigen_runtime_cmpstring", "slices.overlaps[bailey/api.Space]", "slices.overlaps[bailey/api.Snap]", "slices.overlaps[int]", "slices.overlaps[bailey/api.Share]", "slices.overlaps[bailey/api.Session]"], unfollowed := true, recurses := true, apart := false, narrowed := true }
def ReplicaSaysUptoSaid : Prop := replicaSaysUptoRow.holds Tryz.pinned (OpenSpec.upto replicaSaysSpec)

/-- 'baileylaw27.ReplicaNobody', WHERE WHAT IT READS IS OF BULK AT MOST 1048576: true; the input reads as it did. -/
def replicaNobodyUptoRow : OpenClaim := { program := "ytckcgijepiejlaagreat", sum := "a27ccb9313a950e54ed90e938d0aacd21361ff4205f25e3074ffdf0da66ffa41", func := "bailey/baileylaw27.ReplicaNobody", spec := "replicaNobody", inPlace := ["internal/bytealg.abigen_runtime_cmpstring", "slices.overlaps[bailey/api.Space]", "slices.overlaps[bailey/api.Snap]", "slices.overlaps[int]", "slices.overlaps[bailey/api.Share]", "slices.overlaps[bailey/api.Session]"], unfollowed := true, recurses := true, apart := false, narrowed := true }
def ReplicaNobodyUptoSaid : Prop := replicaNobodyUptoRow.holds Tryz.pinned (OpenSpec.upto replicaNobodySpec)

end Rows
end Go.Proofs.YtckcgijepiejlaaGreat
