/-
  No cell of these rows narrows 'for every input' (looked for: loops, veiled, ifaces, maps, wideKeys, modest, calm, conditions, laid).
  DERIVED. THE GIVEN ROWS OF THIS SEAT. 7 by the template 'for every input the law returns true; each argument reads behind the call as it read before'; 0 by the template 'total and deterministic' (their statements: YtneejoienmffmaaTotals.lean).
  GIVEN WITH THE SEED: the statements are not yours to turn. If you find one false, say at which input.
  Laid BY PROGRAM, IN A SANDBOX (cutbox-rows.mjs): the forced cells as the released guide's own fill.sh prints them over the translation c2becad509598856… (all of the seat's roots in one cut). By AI agents, Wed Nov 11 2026. No macro, syntax, notation, axiom, sorry.
-/
import Derived.Test.YtneejoienmffmaaChecked
import GoSem.Claim
import GoSem.ClaimJoined
import GoSem.ClaimMapViews
import Derived.JoinedTies
import Derived.KernelRfl
namespace Go.Proofs.Ytneejoienmffmaa
/- THE CELL 'sum', in the pinned program and in every row, IS THE sha256 OF THE DUMP (.gsa) THAT YtneejoienmffmaaProg.lean LOADS. Nothing in Lean hashes anything: it is a label: what it is worth is what the hold of that sum in a sandbox is worth. -/
noncomputable def Try.pinned : Pinned := { name := "ytneejoienmffmaa", sum := "c2becad5095988568edf4bf1cbda9f3e9859e949061725dee0cbf36908f6b1f7", checked := Try.checked }
namespace Rows
def none {H : Type} : Left H := { results := [], args := [] }

/-- 'lockgatelaw18.KindsReach': WHATEVER THE INPUT: true; the input reads as it did. -/
def kindsReachSpec : ChangeSpec := { name := "kindsReach", fn := fun _ => fun
  | [d1, d2, d3, d4, d5] => { results := [.lit (.bool true)], args := [d1, d2, d3, d4, d5] }
  | _ => none }
def kindsReachRow : OpenClaim := { program := "ytneejoienmffmaa", sum := "c2becad5095988568edf4bf1cbda9f3e9859e949061725dee0cbf36908f6b1f7", func := "lockgate/lockgatelaw18.KindsReach", spec := "kindsReach", unfollowed := true, recurses := true, apart := false }
def KindsReachSaid : Prop := kindsReachRow.holds Try.pinned (OpenSpec.ofChange kindsReachSpec)

/-- ITS FALSE NEIGHBOUR: 'it returns false'. Refute it at one input. -/
def kindsReachWrong : ChangeSpec := { name := "kindsReach", fn := fun _ => fun
  | [d1, d2, d3, d4, d5] => { results := [.lit (.bool false)], args := [d1, d2, d3, d4, d5] }
  | _ => none }
def KindsReachWrongFalsely : Prop := kindsReachRow.holds Try.pinned (OpenSpec.ofChange kindsReachWrong)

/-- 'lockgatelaw18.KindsHolds': WHATEVER THE INPUT: true; the input reads as it did. -/
def kindsHoldsSpec : ChangeSpec := { name := "kindsHolds", fn := fun _ => fun
  | [d1, d2, d3, d4, d5] => { results := [.lit (.bool true)], args := [d1, d2, d3, d4, d5] }
  | _ => none }
def kindsHoldsRow : OpenClaim := { program := "ytneejoienmffmaa", sum := "c2becad5095988568edf4bf1cbda9f3e9859e949061725dee0cbf36908f6b1f7", func := "lockgate/lockgatelaw18.KindsHolds", spec := "kindsHolds", unfollowed := true, recurses := true, apart := false }
def KindsHoldsSaid : Prop := kindsHoldsRow.holds Try.pinned (OpenSpec.ofChange kindsHoldsSpec)

/-- ITS FALSE NEIGHBOUR: 'it returns false'. Refute it at one input. -/
def kindsHoldsWrong : ChangeSpec := { name := "kindsHolds", fn := fun _ => fun
  | [d1, d2, d3, d4, d5] => { results := [.lit (.bool false)], args := [d1, d2, d3, d4, d5] }
  | _ => none }
def KindsHoldsWrongFalsely : Prop := kindsHoldsRow.holds Try.pinned (OpenSpec.ofChange kindsHoldsWrong)

/-- 'lockgatelaw05.ScalarBranches': WHATEVER THE INPUT: true; the input reads as it did. -/
def scalarBranchesSpec : ChangeSpec := { name := "scalarBranches", fn := fun _ => fun
  | [d1, d2, d3, d4, d5, d6] => { results := [.lit (.bool true)], args := [d1, d2, d3, d4, d5, d6] }
  | _ => none }
def scalarBranchesRow : OpenClaim := { program := "ytneejoienmffmaa", sum := "c2becad5095988568edf4bf1cbda9f3e9859e949061725dee0cbf36908f6b1f7", func := "lockgate/lockgatelaw05.ScalarBranches", spec := "scalarBranches", unfollowed := true, recurses := true, apart := false }
def ScalarBranchesSaid : Prop := scalarBranchesRow.holds Try.pinned (OpenSpec.ofChange scalarBranchesSpec)

/-- ITS FALSE NEIGHBOUR: 'it returns false'. Refute it at one input. -/
def scalarBranchesWrong : ChangeSpec := { name := "scalarBranches", fn := fun _ => fun
  | [d1, d2, d3, d4, d5, d6] => { results := [.lit (.bool false)], args := [d1, d2, d3, d4, d5, d6] }
  | _ => none }
def ScalarBranchesWrongFalsely : Prop := scalarBranchesRow.holds Try.pinned (OpenSpec.ofChange scalarBranchesWrong)

/-- 'lockgatelaw18.KindsSound': WHATEVER THE INPUT: true; the input reads as it did. -/
def kindsSoundSpec : ChangeSpec := { name := "kindsSound", fn := fun _ => fun
  | [d1, d2, d3, d4, d5, d6, d7, d8, d9] => { results := [.lit (.bool true)], args := [d1, d2, d3, d4, d5, d6, d7, d8, d9] }
  | _ => none }
def kindsSoundRow : OpenClaim := { program := "ytneejoienmffmaa", sum := "c2becad5095988568edf4bf1cbda9f3e9859e949061725dee0cbf36908f6b1f7", func := "lockgate/lockgatelaw18.KindsSound", spec := "kindsSound", unfollowed := true, recurses := true, apart := false }
def KindsSoundSaid : Prop := kindsSoundRow.holds Try.pinned (OpenSpec.ofChange kindsSoundSpec)

/-- ITS FALSE NEIGHBOUR: 'it returns false'. Refute it at one input. -/
def kindsSoundWrong : ChangeSpec := { name := "kindsSound", fn := fun _ => fun
  | [d1, d2, d3, d4, d5, d6, d7, d8, d9] => { results := [.lit (.bool false)], args := [d1, d2, d3, d4, d5, d6, d7, d8, d9] }
  | _ => none }
def KindsSoundWrongFalsely : Prop := kindsSoundRow.holds Try.pinned (OpenSpec.ofChange kindsSoundWrong)

/-- 'lockgatelaw05.ScalarSound': WHATEVER THE INPUT: true; the input reads as it did. -/
def scalarSoundSpec : ChangeSpec := { name := "scalarSound", fn := fun _ => fun
  | [d1, d2, d3, d4, d5, d6] => { results := [.lit (.bool true)], args := [d1, d2, d3, d4, d5, d6] }
  | _ => none }
def scalarSoundRow : OpenClaim := { program := "ytneejoienmffmaa", sum := "c2becad5095988568edf4bf1cbda9f3e9859e949061725dee0cbf36908f6b1f7", func := "lockgate/lockgatelaw05.ScalarSound", spec := "scalarSound", unfollowed := true, recurses := true, apart := false }
def ScalarSoundSaid : Prop := scalarSoundRow.holds Try.pinned (OpenSpec.ofChange scalarSoundSpec)

/-- ITS FALSE NEIGHBOUR: 'it returns false'. Refute it at one input. -/
def scalarSoundWrong : ChangeSpec := { name := "scalarSound", fn := fun _ => fun
  | [d1, d2, d3, d4, d5, d6] => { results := [.lit (.bool false)], args := [d1, d2, d3, d4, d5, d6] }
  | _ => none }
def ScalarSoundWrongFalsely : Prop := scalarSoundRow.holds Try.pinned (OpenSpec.ofChange scalarSoundWrong)

/-- 'lockgatelaw05.ScalarAlone': WHATEVER THE INPUT: true; the input reads as it did. -/
def scalarAloneSpec : ChangeSpec := { name := "scalarAlone", fn := fun _ => fun
  | [d1, d2, d3, d4] => { results := [.lit (.bool true)], args := [d1, d2, d3, d4] }
  | _ => none }
def scalarAloneRow : OpenClaim := { program := "ytneejoienmffmaa", sum := "c2becad5095988568edf4bf1cbda9f3e9859e949061725dee0cbf36908f6b1f7", func := "lockgate/lockgatelaw05.ScalarAlone", spec := "scalarAlone", unfollowed := true, recurses := true, apart := false }
def ScalarAloneSaid : Prop := scalarAloneRow.holds Try.pinned (OpenSpec.ofChange scalarAloneSpec)

/-- ITS FALSE NEIGHBOUR: 'it returns false'. Refute it at one input. -/
def scalarAloneWrong : ChangeSpec := { name := "scalarAlone", fn := fun _ => fun
  | [d1, d2, d3, d4] => { results := [.lit (.bool false)], args := [d1, d2, d3, d4] }
  | _ => none }
def ScalarAloneWrongFalsely : Prop := scalarAloneRow.holds Try.pinned (OpenSpec.ofChange scalarAloneWrong)

/-- 'lockgatelaw05.ScalarKnown': WHATEVER THE INPUT: true; the input reads as it did. -/
def scalarKnownSpec : ChangeSpec := { name := "scalarKnown", fn := fun _ => fun
  | [] => { results := [.lit (.bool true)], args := [] }
  | _ => none }
def scalarKnownRow : OpenClaim := { program := "ytneejoienmffmaa", sum := "c2becad5095988568edf4bf1cbda9f3e9859e949061725dee0cbf36908f6b1f7", func := "lockgate/lockgatelaw05.ScalarKnown", spec := "scalarKnown", unfollowed := true, recurses := true, apart := false }
def ScalarKnownSaid : Prop := scalarKnownRow.holds Try.pinned (OpenSpec.ofChange scalarKnownSpec)

/-- ITS FALSE NEIGHBOUR: 'it returns false'. Refute it at one input. -/
def scalarKnownWrong : ChangeSpec := { name := "scalarKnown", fn := fun _ => fun
  | [] => { results := [.lit (.bool false)], args := [] }
  | _ => none }
def ScalarKnownWrongFalsely : Prop := scalarKnownRow.holds Try.pinned (OpenSpec.ofChange scalarKnownWrong)

/- THE SECOND FORM. 'bulk': how many values and letters a reading holds, each counted each time it is reached (what is shared counts as often as it is met; a slice's spare places count too). A statement '..UptoSaid' is the law's where the arguments, and the package variables that the reading takes, are together of bulk at most 1048576: NARROWER than '..Said'. Prove '..Said' where nothing that the law and all that it calls make is longer than what came in: it says more and counts as full. Else prove '..UptoSaid'. A law counts once. -/
mutual
def uptoBulk {H : Type} : DataW H → Nat
  | .lit (.string bytes) => bytes.length + 1
  | .lit _ => 1
  | .nil => 1
  | .ptr d => uptoBulk d + 1
  | .slice elems spare => uptoBulkAll elems + uptoBulkAll spare + 1
  | .agg parts => uptoBulkAll parts + 1
  | .iface _ d => uptoBulk d + 1
  | .map entries => uptoBulkEntries entries + 1
  | .held _ => 1
def uptoBulkAll {H : Type} : List (DataW H) → Nat
  | [] => 0
  | d :: r => uptoBulk d + uptoBulkAll r
def uptoBulkEntries {H : Type} : List (Lit × DataW H) → Nat
  | [] => 0
  | x :: r => uptoBulkEntry x + uptoBulkEntries r
def uptoBulkEntry {H : Type} : Lit × DataW H → Nat
  | (.string bytes, d) => bytes.length + uptoBulk d + 1
  | (_, d) => uptoBulk d + 1
 end
def uptoSmall : (H : Type) → List (DataW H) → Bool := fun _ ds => decide (uptoBulkAll ds ≤ 1048576)
def OpenSpec.upto (s : _root_.Go.ChangeSpec) : _root_.Go.OpenSpec := { _root_.Go.OpenSpec.ofChange s with cond := some uptoSmall }

/-- 'lockgatelaw18.KindsReach', WHERE WHAT IT READS IS OF BULK AT MOST 1048576: true; the input reads as it did. -/
def kindsReachUptoRow : OpenClaim := { program := "ytneejoienmffmaa", sum := "c2becad5095988568edf4bf1cbda9f3e9859e949061725dee0cbf36908f6b1f7", func := "lockgate/lockgatelaw18.KindsReach", spec := "kindsReach", unfollowed := true, recurses := true, apart := false, narrowed := true }
def KindsReachUptoSaid : Prop := kindsReachUptoRow.holds Try.pinned (OpenSpec.upto kindsReachSpec)

/-- 'lockgatelaw18.KindsHolds', WHERE WHAT IT READS IS OF BULK AT MOST 1048576: true; the input reads as it did. -/
def kindsHoldsUptoRow : OpenClaim := { program := "ytneejoienmffmaa", sum := "c2becad5095988568edf4bf1cbda9f3e9859e949061725dee0cbf36908f6b1f7", func := "lockgate/lockgatelaw18.KindsHolds", spec := "kindsHolds", unfollowed := true, recurses := true, apart := false, narrowed := true }
def KindsHoldsUptoSaid : Prop := kindsHoldsUptoRow.holds Try.pinned (OpenSpec.upto kindsHoldsSpec)

/-- 'lockgatelaw05.ScalarBranches', WHERE WHAT IT READS IS OF BULK AT MOST 1048576: true; the input reads as it did. -/
def scalarBranchesUptoRow : OpenClaim := { program := "ytneejoienmffmaa", sum := "c2becad5095988568edf4bf1cbda9f3e9859e949061725dee0cbf36908f6b1f7", func := "lockgate/lockgatelaw05.ScalarBranches", spec := "scalarBranches", unfollowed := true, recurses := true, apart := false, narrowed := true }
def ScalarBranchesUptoSaid : Prop := scalarBranchesUptoRow.holds Try.pinned (OpenSpec.upto scalarBranchesSpec)

/-- 'lockgatelaw18.KindsSound', WHERE WHAT IT READS IS OF BULK AT MOST 1048576: true; the input reads as it did. -/
def kindsSoundUptoRow : OpenClaim := { program := "ytneejoienmffmaa", sum := "c2becad5095988568edf4bf1cbda9f3e9859e949061725dee0cbf36908f6b1f7", func := "lockgate/lockgatelaw18.KindsSound", spec := "kindsSound", unfollowed := true, recurses := true, apart := false, narrowed := true }
def KindsSoundUptoSaid : Prop := kindsSoundUptoRow.holds Try.pinned (OpenSpec.upto kindsSoundSpec)

/-- 'lockgatelaw05.ScalarSound', WHERE WHAT IT READS IS OF BULK AT MOST 1048576: true; the input reads as it did. -/
def scalarSoundUptoRow : OpenClaim := { program := "ytneejoienmffmaa", sum := "c2becad5095988568edf4bf1cbda9f3e9859e949061725dee0cbf36908f6b1f7", func := "lockgate/lockgatelaw05.ScalarSound", spec := "scalarSound", unfollowed := true, recurses := true, apart := false, narrowed := true }
def ScalarSoundUptoSaid : Prop := scalarSoundUptoRow.holds Try.pinned (OpenSpec.upto scalarSoundSpec)

/-- 'lockgatelaw05.ScalarAlone', WHERE WHAT IT READS IS OF BULK AT MOST 1048576: true; the input reads as it did. -/
def scalarAloneUptoRow : OpenClaim := { program := "ytneejoienmffmaa", sum := "c2becad5095988568edf4bf1cbda9f3e9859e949061725dee0cbf36908f6b1f7", func := "lockgate/lockgatelaw05.ScalarAlone", spec := "scalarAlone", unfollowed := true, recurses := true, apart := false, narrowed := true }
def ScalarAloneUptoSaid : Prop := scalarAloneUptoRow.holds Try.pinned (OpenSpec.upto scalarAloneSpec)

/-- 'lockgatelaw05.ScalarKnown', WHERE WHAT IT READS IS OF BULK AT MOST 1048576: true; the input reads as it did. -/
def scalarKnownUptoRow : OpenClaim := { program := "ytneejoienmffmaa", sum := "c2becad5095988568edf4bf1cbda9f3e9859e949061725dee0cbf36908f6b1f7", func := "lockgate/lockgatelaw05.ScalarKnown", spec := "scalarKnown", unfollowed := true, recurses := true, apart := false, narrowed := true }
def ScalarKnownUptoSaid : Prop := scalarKnownUptoRow.holds Try.pinned (OpenSpec.upto scalarKnownSpec)

end Rows
end Go.Proofs.Ytneejoienmffmaa
