/-
  No cell of these rows narrows 'for every input' (looked for: loops, veiled, ifaces, maps, wideKeys, modest, calm, conditions, laid).
  DERIVED. THE GIVEN ROWS OF THIS SEAT. 9 by the template 'for every input the law returns true; each argument reads behind the call as it read before'; 0 by the template 'total and deterministic' (their statements: YtnbahnpckfelpaaTotals.lean).
  GIVEN WITH THE SEED: the statements are not yours to turn. If you find one false, say at which input.
  Laid BY PROGRAM, IN A SANDBOX (cutbox-rows.mjs): the forced cells as the released guide's own fill.sh prints them over the translation f0b16871c8078742… (all of the seat's roots in one cut). By AI agents, Wed Nov 11 2026. No macro, syntax, notation, axiom, sorry.
-/
import Derived.Test.YtnbahnpckfelpaaChecked
import GoSem.Claim
import GoSem.ClaimJoined
import GoSem.ClaimMapViews
import Derived.JoinedTies
import Derived.KernelRfl
namespace Go.Proofs.Ytnbahnpckfelpaa
/- THE CELL 'sum', in the pinned program and in every row, IS THE sha256 OF THE DUMP (.gsa) THAT YtnbahnpckfelpaaProg.lean LOADS. Nothing in Lean hashes anything: it is a label: what it is worth is what the hold of that sum in a sandbox is worth. -/
noncomputable def Try.pinned : Pinned := { name := "ytnbahnpckfelpaa", sum := "f0b16871c80787428452bab9dcac754958f51eb4d7206f9ccb5b813d8d8cb4c6", checked := Try.checked }
namespace Rows
def none {H : Type} : Left H := { results := [], args := [] }

/-- 'laws.FnExactGetCode': WHATEVER THE INPUT: true; the input reads as it did. -/
def fnExactGetCodeSpec : ChangeSpec := { name := "fnExactGetCode", fn := fun _ => fun
  | [d] => { results := [.lit (.bool true)], args := [d] }
  | _ => none }
def fnExactGetCodeRow : OpenClaim := { program := "ytnbahnpckfelpaa", sum := "f0b16871c80787428452bab9dcac754958f51eb4d7206f9ccb5b813d8d8cb4c6", func := "loop.example/g00187/laws.FnExactGetCode", spec := "fnExactGetCode", unfollowed := true, recurses := true, apart := false }
def FnExactGetCodeSaid : Prop := fnExactGetCodeRow.holds Try.pinned (OpenSpec.ofChange fnExactGetCodeSpec)

/-- ITS FALSE NEIGHBOUR: 'it returns false'. Refute it at one input. -/
def fnExactGetCodeWrong : ChangeSpec := { name := "fnExactGetCode", fn := fun _ => fun
  | [d] => { results := [.lit (.bool false)], args := [d] }
  | _ => none }
def FnExactGetCodeWrongFalsely : Prop := fnExactGetCodeRow.holds Try.pinned (OpenSpec.ofChange fnExactGetCodeWrong)

/-- 'laws.FnExactBlockOf': WHATEVER THE INPUT: true; the input reads as it did. -/
def fnExactBlockOfSpec : ChangeSpec := { name := "fnExactBlockOf", fn := fun _ => fun
  | [d1, d2] => { results := [.lit (.bool true)], args := [d1, d2] }
  | _ => none }
def fnExactBlockOfRow : OpenClaim := { program := "ytnbahnpckfelpaa", sum := "f0b16871c80787428452bab9dcac754958f51eb4d7206f9ccb5b813d8d8cb4c6", func := "loop.example/g00187/laws.FnExactBlockOf", spec := "fnExactBlockOf", unfollowed := true, recurses := true, apart := false }
def FnExactBlockOfSaid : Prop := fnExactBlockOfRow.holds Try.pinned (OpenSpec.ofChange fnExactBlockOfSpec)

/-- ITS FALSE NEIGHBOUR: 'it returns false'. Refute it at one input. -/
def fnExactBlockOfWrong : ChangeSpec := { name := "fnExactBlockOf", fn := fun _ => fun
  | [d1, d2] => { results := [.lit (.bool false)], args := [d1, d2] }
  | _ => none }
def FnExactBlockOfWrongFalsely : Prop := fnExactBlockOfRow.holds Try.pinned (OpenSpec.ofChange fnExactBlockOfWrong)

/-- 'laws.FnExactLeaders': WHATEVER THE INPUT: true; the input reads as it did. -/
def fnExactLeadersSpec : ChangeSpec := { name := "fnExactLeaders", fn := fun _ => fun
  | [d] => { results := [.lit (.bool true)], args := [d] }
  | _ => none }
def fnExactLeadersRow : OpenClaim := { program := "ytnbahnpckfelpaa", sum := "f0b16871c80787428452bab9dcac754958f51eb4d7206f9ccb5b813d8d8cb4c6", func := "loop.example/g00187/laws.FnExactLeaders", spec := "fnExactLeaders", unfollowed := true, recurses := true, apart := false }
def FnExactLeadersSaid : Prop := fnExactLeadersRow.holds Try.pinned (OpenSpec.ofChange fnExactLeadersSpec)

/-- ITS FALSE NEIGHBOUR: 'it returns false'. Refute it at one input. -/
def fnExactLeadersWrong : ChangeSpec := { name := "fnExactLeaders", fn := fun _ => fun
  | [d] => { results := [.lit (.bool false)], args := [d] }
  | _ => none }
def FnExactLeadersWrongFalsely : Prop := fnExactLeadersRow.holds Try.pinned (OpenSpec.ofChange fnExactLeadersWrong)

/-- 'laws.FnExactMet': WHATEVER THE INPUT: true; the input reads as it did. -/
def fnExactMetSpec : ChangeSpec := { name := "fnExactMet", fn := fun _ => fun
  | [d] => { results := [.lit (.bool true)], args := [d] }
  | _ => none }
def fnExactMetRow : OpenClaim := { program := "ytnbahnpckfelpaa", sum := "f0b16871c80787428452bab9dcac754958f51eb4d7206f9ccb5b813d8d8cb4c6", func := "loop.example/g00187/laws.FnExactMet", spec := "fnExactMet", unfollowed := true, recurses := true, apart := false }
def FnExactMetSaid : Prop := fnExactMetRow.holds Try.pinned (OpenSpec.ofChange fnExactMetSpec)

/-- ITS FALSE NEIGHBOUR: 'it returns false'. Refute it at one input. -/
def fnExactMetWrong : ChangeSpec := { name := "fnExactMet", fn := fun _ => fun
  | [d] => { results := [.lit (.bool false)], args := [d] }
  | _ => none }
def FnExactMetWrongFalsely : Prop := fnExactMetRow.holds Try.pinned (OpenSpec.ofChange fnExactMetWrong)

/-- 'laws.FnExactBlockNexts': WHATEVER THE INPUT: true; the input reads as it did. -/
def fnExactBlockNextsSpec : ChangeSpec := { name := "fnExactBlockNexts", fn := fun _ => fun
  | [d1, d2] => { results := [.lit (.bool true)], args := [d1, d2] }
  | _ => none }
def fnExactBlockNextsRow : OpenClaim := { program := "ytnbahnpckfelpaa", sum := "f0b16871c80787428452bab9dcac754958f51eb4d7206f9ccb5b813d8d8cb4c6", func := "loop.example/g00187/laws.FnExactBlockNexts", spec := "fnExactBlockNexts", unfollowed := true, recurses := true, apart := false }
def FnExactBlockNextsSaid : Prop := fnExactBlockNextsRow.holds Try.pinned (OpenSpec.ofChange fnExactBlockNextsSpec)

/-- ITS FALSE NEIGHBOUR: 'it returns false'. Refute it at one input. -/
def fnExactBlockNextsWrong : ChangeSpec := { name := "fnExactBlockNexts", fn := fun _ => fun
  | [d1, d2] => { results := [.lit (.bool false)], args := [d1, d2] }
  | _ => none }
def FnExactBlockNextsWrongFalsely : Prop := fnExactBlockNextsRow.holds Try.pinned (OpenSpec.ofChange fnExactBlockNextsWrong)

/-- 'laws.FnExactAhead': WHATEVER THE INPUT: true; the input reads as it did. -/
def fnExactAheadSpec : ChangeSpec := { name := "fnExactAhead", fn := fun _ => fun
  | [d1, d2] => { results := [.lit (.bool true)], args := [d1, d2] }
  | _ => none }
def fnExactAheadRow : OpenClaim := { program := "ytnbahnpckfelpaa", sum := "f0b16871c80787428452bab9dcac754958f51eb4d7206f9ccb5b813d8d8cb4c6", func := "loop.example/g00187/laws.FnExactAhead", spec := "fnExactAhead", unfollowed := true, recurses := true, apart := false }
def FnExactAheadSaid : Prop := fnExactAheadRow.holds Try.pinned (OpenSpec.ofChange fnExactAheadSpec)

/-- ITS FALSE NEIGHBOUR: 'it returns false'. Refute it at one input. -/
def fnExactAheadWrong : ChangeSpec := { name := "fnExactAhead", fn := fun _ => fun
  | [d1, d2] => { results := [.lit (.bool false)], args := [d1, d2] }
  | _ => none }
def FnExactAheadWrongFalsely : Prop := fnExactAheadRow.holds Try.pinned (OpenSpec.ofChange fnExactAheadWrong)

/-- 'laws.FnExactPressure': WHATEVER THE INPUT: true; the input reads as it did. -/
def fnExactPressureSpec : ChangeSpec := { name := "fnExactPressure", fn := fun _ => fun
  | [d] => { results := [.lit (.bool true)], args := [d] }
  | _ => none }
def fnExactPressureRow : OpenClaim := { program := "ytnbahnpckfelpaa", sum := "f0b16871c80787428452bab9dcac754958f51eb4d7206f9ccb5b813d8d8cb4c6", func := "loop.example/g00187/laws.FnExactPressure", spec := "fnExactPressure", unfollowed := true, recurses := true, apart := false }
def FnExactPressureSaid : Prop := fnExactPressureRow.holds Try.pinned (OpenSpec.ofChange fnExactPressureSpec)

/-- ITS FALSE NEIGHBOUR: 'it returns false'. Refute it at one input. -/
def fnExactPressureWrong : ChangeSpec := { name := "fnExactPressure", fn := fun _ => fun
  | [d] => { results := [.lit (.bool false)], args := [d] }
  | _ => none }
def FnExactPressureWrongFalsely : Prop := fnExactPressureRow.holds Try.pinned (OpenSpec.ofChange fnExactPressureWrong)

/-- 'laws.FnExactTrim': WHATEVER THE INPUT: true; the input reads as it did. -/
def fnExactTrimSpec : ChangeSpec := { name := "fnExactTrim", fn := fun _ => fun
  | [d] => { results := [.lit (.bool true)], args := [d] }
  | _ => none }
def fnExactTrimRow : OpenClaim := { program := "ytnbahnpckfelpaa", sum := "f0b16871c80787428452bab9dcac754958f51eb4d7206f9ccb5b813d8d8cb4c6", func := "loop.example/g00187/laws.FnExactTrim", spec := "fnExactTrim", unfollowed := true, recurses := true, apart := false }
def FnExactTrimSaid : Prop := fnExactTrimRow.holds Try.pinned (OpenSpec.ofChange fnExactTrimSpec)

/-- ITS FALSE NEIGHBOUR: 'it returns false'. Refute it at one input. -/
def fnExactTrimWrong : ChangeSpec := { name := "fnExactTrim", fn := fun _ => fun
  | [d] => { results := [.lit (.bool false)], args := [d] }
  | _ => none }
def FnExactTrimWrongFalsely : Prop := fnExactTrimRow.holds Try.pinned (OpenSpec.ofChange fnExactTrimWrong)

/-- 'laws.FnExactMaps': WHATEVER THE INPUT: true; the input reads as it did. -/
def fnExactMapsSpec : ChangeSpec := { name := "fnExactMaps", fn := fun _ => fun
  | [d] => { results := [.lit (.bool true)], args := [d] }
  | _ => none }
def fnExactMapsRow : OpenClaim := { program := "ytnbahnpckfelpaa", sum := "f0b16871c80787428452bab9dcac754958f51eb4d7206f9ccb5b813d8d8cb4c6", func := "loop.example/g00187/laws.FnExactMaps", spec := "fnExactMaps", unfollowed := true, recurses := true, apart := false }
def FnExactMapsSaid : Prop := fnExactMapsRow.holds Try.pinned (OpenSpec.ofChange fnExactMapsSpec)

/-- ITS FALSE NEIGHBOUR: 'it returns false'. Refute it at one input. -/
def fnExactMapsWrong : ChangeSpec := { name := "fnExactMaps", fn := fun _ => fun
  | [d] => { results := [.lit (.bool false)], args := [d] }
  | _ => none }
def FnExactMapsWrongFalsely : Prop := fnExactMapsRow.holds Try.pinned (OpenSpec.ofChange fnExactMapsWrong)

/- THE SECOND FORM. 'bulk': how many values and letters a reading holds, each counted each time it is reached (what is shared counts as often as it is met; a slice's spare places count too). A statement '..UptoSaid' is the law's where the arguments, and the package variables that the reading takes, are together of bulk at most 1048576: NARROWER than '..Said'. Prove '..Said' where nothing that the law and all that it calls make is longer than what came in: it says more and counts as full. Else prove '..UptoSaid'. A law counts once. -/
mutual
def uptoBulk {H : Type} : DataW H → Nat
  | .lit (.string bytes) => bytes.length + 1
  | .lit _ => 1
  | .nil => 1
  | .ptr d => uptoBulk d + 1
  | .slice elems spare => uptoBulkAll elems + uptoBulkAll spare + 1
  | .agg parts => uptoBulkAll parts + 1
  | .iface _ d => uptoBulk d + 1
  | .map entries => uptoBulkEntries entries + 1
  | .held _ => 1
def uptoBulkAll {H : Type} : List (DataW H) → Nat
  | [] => 0
  | d :: r => uptoBulk d + uptoBulkAll r
def uptoBulkEntries {H : Type} : List (Lit × DataW H) → Nat
  | [] => 0
  | x :: r => uptoBulkEntry x + uptoBulkEntries r
def uptoBulkEntry {H : Type} : Lit × DataW H → Nat
  | (.string bytes, d) => bytes.length + uptoBulk d + 1
  | (_, d) => uptoBulk d + 1
 end
def uptoSmall : (H : Type) → List (DataW H) → Bool := fun _ ds => decide (uptoBulkAll ds ≤ 1048576)
def OpenSpec.upto (s : _root_.Go.ChangeSpec) : _root_.Go.OpenSpec := { _root_.Go.OpenSpec.ofChange s with cond := some uptoSmall }

/-- 'laws.FnExactGetCode', WHERE WHAT IT READS IS OF BULK AT MOST 1048576: true; the input reads as it did. -/
def fnExactGetCodeUptoRow : OpenClaim := { program := "ytnbahnpckfelpaa", sum := "f0b16871c80787428452bab9dcac754958f51eb4d7206f9ccb5b813d8d8cb4c6", func := "loop.example/g00187/laws.FnExactGetCode", spec := "fnExactGetCode", unfollowed := true, recurses := true, apart := false, narrowed := true }
def FnExactGetCodeUptoSaid : Prop := fnExactGetCodeUptoRow.holds Try.pinned (OpenSpec.upto fnExactGetCodeSpec)

/-- 'laws.FnExactBlockOf', WHERE WHAT IT READS IS OF BULK AT MOST 1048576: true; the input reads as it did. -/
def fnExactBlockOfUptoRow : OpenClaim := { program := "ytnbahnpckfelpaa", sum := "f0b16871c80787428452bab9dcac754958f51eb4d7206f9ccb5b813d8d8cb4c6", func := "loop.example/g00187/laws.FnExactBlockOf", spec := "fnExactBlockOf", unfollowed := true, recurses := true, apart := false, narrowed := true }
def FnExactBlockOfUptoSaid : Prop := fnExactBlockOfUptoRow.holds Try.pinned (OpenSpec.upto fnExactBlockOfSpec)

/-- 'laws.FnExactLeaders', WHERE WHAT IT READS IS OF BULK AT MOST 1048576: true; the input reads as it did. -/
def fnExactLeadersUptoRow : OpenClaim := { program := "ytnbahnpckfelpaa", sum := "f0b16871c80787428452bab9dcac754958f51eb4d7206f9ccb5b813d8d8cb4c6", func := "loop.example/g00187/laws.FnExactLeaders", spec := "fnExactLeaders", unfollowed := true, recurses := true, apart := false, narrowed := true }
def FnExactLeadersUptoSaid : Prop := fnExactLeadersUptoRow.holds Try.pinned (OpenSpec.upto fnExactLeadersSpec)

/-- 'laws.FnExactMet', WHERE WHAT IT READS IS OF BULK AT MOST 1048576: true; the input reads as it did. -/
def fnExactMetUptoRow : OpenClaim := { program := "ytnbahnpckfelpaa", sum := "f0b16871c80787428452bab9dcac754958f51eb4d7206f9ccb5b813d8d8cb4c6", func := "loop.example/g00187/laws.FnExactMet", spec := "fnExactMet", unfollowed := true, recurses := true, apart := false, narrowed := true }
def FnExactMetUptoSaid : Prop := fnExactMetUptoRow.holds Try.pinned (OpenSpec.upto fnExactMetSpec)

/-- 'laws.FnExactBlockNexts', WHERE WHAT IT READS IS OF BULK AT MOST 1048576: true; the input reads as it did. -/
def fnExactBlockNextsUptoRow : OpenClaim := { program := "ytnbahnpckfelpaa", sum := "f0b16871c80787428452bab9dcac754958f51eb4d7206f9ccb5b813d8d8cb4c6", func := "loop.example/g00187/laws.FnExactBlockNexts", spec := "fnExactBlockNexts", unfollowed := true, recurses := true, apart := false, narrowed := true }
def FnExactBlockNextsUptoSaid : Prop := fnExactBlockNextsUptoRow.holds Try.pinned (OpenSpec.upto fnExactBlockNextsSpec)

/-- 'laws.FnExactAhead', WHERE WHAT IT READS IS OF BULK AT MOST 1048576: true; the input reads as it did. -/
def fnExactAheadUptoRow : OpenClaim := { program := "ytnbahnpckfelpaa", sum := "f0b16871c80787428452bab9dcac754958f51eb4d7206f9ccb5b813d8d8cb4c6", func := "loop.example/g00187/laws.FnExactAhead", spec := "fnExactAhead", unfollowed := true, recurses := true, apart := false, narrowed := true }
def FnExactAheadUptoSaid : Prop := fnExactAheadUptoRow.holds Try.pinned (OpenSpec.upto fnExactAheadSpec)

/-- 'laws.FnExactPressure', WHERE WHAT IT READS IS OF BULK AT MOST 1048576: true; the input reads as it did. -/
def fnExactPressureUptoRow : OpenClaim := { program := "ytnbahnpckfelpaa", sum := "f0b16871c80787428452bab9dcac754958f51eb4d7206f9ccb5b813d8d8cb4c6", func := "loop.example/g00187/laws.FnExactPressure", spec := "fnExactPressure", unfollowed := true, recurses := true, apart := false, narrowed := true }
def FnExactPressureUptoSaid : Prop := fnExactPressureUptoRow.holds Try.pinned (OpenSpec.upto fnExactPressureSpec)

/-- 'laws.FnExactTrim', WHERE WHAT IT READS IS OF BULK AT MOST 1048576: true; the input reads as it did. -/
def fnExactTrimUptoRow : OpenClaim := { program := "ytnbahnpckfelpaa", sum := "f0b16871c80787428452bab9dcac754958f51eb4d7206f9ccb5b813d8d8cb4c6", func := "loop.example/g00187/laws.FnExactTrim", spec := "fnExactTrim", unfollowed := true, recurses := true, apart := false, narrowed := true }
def FnExactTrimUptoSaid : Prop := fnExactTrimUptoRow.holds Try.pinned (OpenSpec.upto fnExactTrimSpec)

/-- 'laws.FnExactMaps', WHERE WHAT IT READS IS OF BULK AT MOST 1048576: true; the input reads as it did. -/
def fnExactMapsUptoRow : OpenClaim := { program := "ytnbahnpckfelpaa", sum := "f0b16871c80787428452bab9dcac754958f51eb4d7206f9ccb5b813d8d8cb4c6", func := "loop.example/g00187/laws.FnExactMaps", spec := "fnExactMaps", unfollowed := true, recurses := true, apart := false, narrowed := true }
def FnExactMapsUptoSaid : Prop := fnExactMapsUptoRow.holds Try.pinned (OpenSpec.upto fnExactMapsSpec)

end Rows
end Go.Proofs.Ytnbahnpckfelpaa
