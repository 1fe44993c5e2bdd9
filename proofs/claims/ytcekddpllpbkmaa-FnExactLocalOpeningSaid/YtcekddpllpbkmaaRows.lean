/-
  No cell of these rows narrows 'for every input' (looked for: loops, veiled, ifaces, maps, wideKeys, modest, calm, conditions, laid).
  DERIVED. THE GIVEN ROWS OF THIS SEAT. 7 by the template 'for every input the law returns true; each argument reads behind the call as it read before'; 0 by the template 'total and deterministic' (their statements: YtcekddpllpbkmaaTotals.lean).
  GIVEN WITH THE SEED: the statements are not yours to turn. If you find one false, say at which input.
  Laid BY PROGRAM, IN A SANDBOX (cutbox-rows.mjs): the forced cells as the released guide's own fill.sh prints them over the translation 92e0c1fdfb90dce2… (all of the seat's roots in one cut). By AI agents, Wed Nov 11 2026. No macro, syntax, notation, axiom, sorry.
-/
import Derived.Test.YtcekddpllpbkmaaChecked
import GoSem.Claim
import GoSem.ClaimJoined
import GoSem.ClaimMapViews
import Derived.JoinedTies
import Derived.KernelRfl
namespace Go.Proofs.Ytcekddpllpbkmaa
/- THE CELL 'sum', in the pinned program and in every row, IS THE sha256 OF THE DUMP (.gsa) THAT YtcekddpllpbkmaaProg.lean LOADS. Nothing in Lean hashes anything: it is a label: what it is worth is what the hold of that sum in a sandbox is worth. -/
noncomputable def Try.pinned : Pinned := { name := "ytcekddpllpbkmaa", sum := "92e0c1fdfb90dce2c3b5ee59813ba106ada981dce188655917277b6bb4d5cbb4", checked := Try.checked }
namespace Rows
def none {H : Type} : Left H := { results := [], args := [] }

/-- 'laws.FnExactBestFollower': WHATEVER THE INPUT: true; the input reads as it did. -/
def fnExactBestFollowerSpec : ChangeSpec := { name := "fnExactBestFollower", fn := fun _ => fun
  | [d1, d2, d3] => { results := [.lit (.bool true)], args := [d1, d2, d3] }
  | _ => none }
def fnExactBestFollowerRow : OpenClaim := { program := "ytcekddpllpbkmaa", sum := "92e0c1fdfb90dce2c3b5ee59813ba106ada981dce188655917277b6bb4d5cbb4", func := "loop.example/g01110/laws.FnExactBestFollower", spec := "fnExactBestFollower", unfollowed := true, recurses := true, apart := false }
def FnExactBestFollowerSaid : Prop := fnExactBestFollowerRow.holds Try.pinned (OpenSpec.ofChange fnExactBestFollowerSpec)

/-- ITS FALSE NEIGHBOUR: 'it returns false'. Refute it at one input. -/
def fnExactBestFollowerWrong : ChangeSpec := { name := "fnExactBestFollower", fn := fun _ => fun
  | [d1, d2, d3] => { results := [.lit (.bool false)], args := [d1, d2, d3] }
  | _ => none }
def FnExactBestFollowerWrongFalsely : Prop := fnExactBestFollowerRow.holds Try.pinned (OpenSpec.ofChange fnExactBestFollowerWrong)

/-- 'laws.FnExactBestLeader': WHATEVER THE INPUT: true; the input reads as it did. -/
def fnExactBestLeaderSpec : ChangeSpec := { name := "fnExactBestLeader", fn := fun _ => fun
  | [d1, d2, d3] => { results := [.lit (.bool true)], args := [d1, d2, d3] }
  | _ => none }
def fnExactBestLeaderRow : OpenClaim := { program := "ytcekddpllpbkmaa", sum := "92e0c1fdfb90dce2c3b5ee59813ba106ada981dce188655917277b6bb4d5cbb4", func := "loop.example/g01110/laws.FnExactBestLeader", spec := "fnExactBestLeader", unfollowed := true, recurses := true, apart := false }
def FnExactBestLeaderSaid : Prop := fnExactBestLeaderRow.holds Try.pinned (OpenSpec.ofChange fnExactBestLeaderSpec)

/-- ITS FALSE NEIGHBOUR: 'it returns false'. Refute it at one input. -/
def fnExactBestLeaderWrong : ChangeSpec := { name := "fnExactBestLeader", fn := fun _ => fun
  | [d1, d2, d3] => { results := [.lit (.bool false)], args := [d1, d2, d3] }
  | _ => none }
def FnExactBestLeaderWrongFalsely : Prop := fnExactBestLeaderRow.holds Try.pinned (OpenSpec.ofChange fnExactBestLeaderWrong)

/-- 'laws.FnExactHallClients': WHATEVER THE INPUT: true; the input reads as it did. -/
def fnExactHallClientsSpec : ChangeSpec := { name := "fnExactHallClients", fn := fun _ => fun
  | [d1, d2, d3, d4, d5] => { results := [.lit (.bool true)], args := [d1, d2, d3, d4, d5] }
  | _ => none }
def fnExactHallClientsRow : OpenClaim := { program := "ytcekddpllpbkmaa", sum := "92e0c1fdfb90dce2c3b5ee59813ba106ada981dce188655917277b6bb4d5cbb4", func := "loop.example/g01110/laws.FnExactHallClients", spec := "fnExactHallClients", unfollowed := true, recurses := true, apart := false }
def FnExactHallClientsSaid : Prop := fnExactHallClientsRow.holds Try.pinned (OpenSpec.ofChange fnExactHallClientsSpec)

/-- ITS FALSE NEIGHBOUR: 'it returns false'. Refute it at one input. -/
def fnExactHallClientsWrong : ChangeSpec := { name := "fnExactHallClients", fn := fun _ => fun
  | [d1, d2, d3, d4, d5] => { results := [.lit (.bool false)], args := [d1, d2, d3, d4, d5] }
  | _ => none }
def FnExactHallClientsWrongFalsely : Prop := fnExactHallClientsRow.holds Try.pinned (OpenSpec.ofChange fnExactHallClientsWrong)

/-- 'laws.FnExactFirmValue': WHATEVER THE INPUT: true; the input reads as it did. -/
def fnExactFirmValueSpec : ChangeSpec := { name := "fnExactFirmValue", fn := fun _ => fun
  | [d1, d2] => { results := [.lit (.bool true)], args := [d1, d2] }
  | _ => none }
def fnExactFirmValueRow : OpenClaim := { program := "ytcekddpllpbkmaa", sum := "92e0c1fdfb90dce2c3b5ee59813ba106ada981dce188655917277b6bb4d5cbb4", func := "loop.example/g01110/laws.FnExactFirmValue", spec := "fnExactFirmValue", unfollowed := true, recurses := true, apart := false }
def FnExactFirmValueSaid : Prop := fnExactFirmValueRow.holds Try.pinned (OpenSpec.ofChange fnExactFirmValueSpec)

/-- ITS FALSE NEIGHBOUR: 'it returns false'. Refute it at one input. -/
def fnExactFirmValueWrong : ChangeSpec := { name := "fnExactFirmValue", fn := fun _ => fun
  | [d1, d2] => { results := [.lit (.bool false)], args := [d1, d2] }
  | _ => none }
def FnExactFirmValueWrongFalsely : Prop := fnExactFirmValueRow.holds Try.pinned (OpenSpec.ofChange fnExactFirmValueWrong)

/-- 'laws.FnExactFirmPlay': WHATEVER THE INPUT: true; the input reads as it did. -/
def fnExactFirmPlaySpec : ChangeSpec := { name := "fnExactFirmPlay", fn := fun _ => fun
  | [d1, d2] => { results := [.lit (.bool true)], args := [d1, d2] }
  | _ => none }
def fnExactFirmPlayRow : OpenClaim := { program := "ytcekddpllpbkmaa", sum := "92e0c1fdfb90dce2c3b5ee59813ba106ada981dce188655917277b6bb4d5cbb4", func := "loop.example/g01110/laws.FnExactFirmPlay", spec := "fnExactFirmPlay", unfollowed := true, recurses := true, apart := false }
def FnExactFirmPlaySaid : Prop := fnExactFirmPlayRow.holds Try.pinned (OpenSpec.ofChange fnExactFirmPlaySpec)

/-- ITS FALSE NEIGHBOUR: 'it returns false'. Refute it at one input. -/
def fnExactFirmPlayWrong : ChangeSpec := { name := "fnExactFirmPlay", fn := fun _ => fun
  | [d1, d2] => { results := [.lit (.bool false)], args := [d1, d2] }
  | _ => none }
def FnExactFirmPlayWrongFalsely : Prop := fnExactFirmPlayRow.holds Try.pinned (OpenSpec.ofChange fnExactFirmPlayWrong)

/-- 'laws.FnExactIsLocalOpening': WHATEVER THE INPUT: true; the input reads as it did. -/
def fnExactIsLocalOpeningSpec : ChangeSpec := { name := "fnExactIsLocalOpening", fn := fun _ => fun
  | [d1, d2] => { results := [.lit (.bool true)], args := [d1, d2] }
  | _ => none }
def fnExactIsLocalOpeningRow : OpenClaim := { program := "ytcekddpllpbkmaa", sum := "92e0c1fdfb90dce2c3b5ee59813ba106ada981dce188655917277b6bb4d5cbb4", func := "loop.example/g01110/laws.FnExactIsLocalOpening", spec := "fnExactIsLocalOpening", unfollowed := true, recurses := true, apart := false }
def FnExactIsLocalOpeningSaid : Prop := fnExactIsLocalOpeningRow.holds Try.pinned (OpenSpec.ofChange fnExactIsLocalOpeningSpec)

/-- ITS FALSE NEIGHBOUR: 'it returns false'. Refute it at one input. -/
def fnExactIsLocalOpeningWrong : ChangeSpec := { name := "fnExactIsLocalOpening", fn := fun _ => fun
  | [d1, d2] => { results := [.lit (.bool false)], args := [d1, d2] }
  | _ => none }
def FnExactIsLocalOpeningWrongFalsely : Prop := fnExactIsLocalOpeningRow.holds Try.pinned (OpenSpec.ofChange fnExactIsLocalOpeningWrong)

/-- 'laws.FnExactLocalOpening': WHATEVER THE INPUT: true; the input reads as it did. -/
def fnExactLocalOpeningSpec : ChangeSpec := { name := "fnExactLocalOpening", fn := fun _ => fun
  | [d1, d2] => { results := [.lit (.bool true)], args := [d1, d2] }
  | _ => none }
def fnExactLocalOpeningRow : OpenClaim := { program := "ytcekddpllpbkmaa", sum := "92e0c1fdfb90dce2c3b5ee59813ba106ada981dce188655917277b6bb4d5cbb4", func := "loop.example/g01110/laws.FnExactLocalOpening", spec := "fnExactLocalOpening", unfollowed := true, recurses := true, apart := false }
def FnExactLocalOpeningSaid : Prop := fnExactLocalOpeningRow.holds Try.pinned (OpenSpec.ofChange fnExactLocalOpeningSpec)

/-- ITS FALSE NEIGHBOUR: 'it returns false'. Refute it at one input. -/
def fnExactLocalOpeningWrong : ChangeSpec := { name := "fnExactLocalOpening", fn := fun _ => fun
  | [d1, d2] => { results := [.lit (.bool false)], args := [d1, d2] }
  | _ => none }
def FnExactLocalOpeningWrongFalsely : Prop := fnExactLocalOpeningRow.holds Try.pinned (OpenSpec.ofChange fnExactLocalOpeningWrong)

/- THE SECOND FORM. 'bulk': how many values and letters a reading holds, each counted each time it is reached (what is shared counts as often as it is met; a slice's spare places count too). A statement '..UptoSaid' is the law's where the arguments, and the package variables that the reading takes, are together of bulk at most 1048576: NARROWER than '..Said'. Prove '..Said' where nothing that the law and all that it calls make is longer than what came in: it says more and counts as full. Else prove '..UptoSaid'. A law counts once. -/
mutual
def uptoBulk {H : Type} : DataW H → Nat
  | .lit (.string bytes) => bytes.length + 1
  | .lit _ => 1
  | .nil => 1
  | .ptr d => uptoBulk d + 1
  | .slice elems spare => uptoBulkAll elems + uptoBulkAll spare + 1
  | .agg parts => uptoBulkAll parts + 1
  | .iface _ d => uptoBulk d + 1
  | .map entries => uptoBulkEntries entries + 1
  | .held _ => 1
def uptoBulkAll {H : Type} : List (DataW H) → Nat
  | [] => 0
  | d :: r => uptoBulk d + uptoBulkAll r
def uptoBulkEntries {H : Type} : List (Lit × DataW H) → Nat
  | [] => 0
  | x :: r => uptoBulkEntry x + uptoBulkEntries r
def uptoBulkEntry {H : Type} : Lit × DataW H → Nat
  | (.string bytes, d) => bytes.length + uptoBulk d + 1
  | (_, d) => uptoBulk d + 1
 end
def uptoSmall : (H : Type) → List (DataW H) → Bool := fun _ ds => decide (uptoBulkAll ds ≤ 1048576)
def OpenSpec.upto (s : _root_.Go.ChangeSpec) : _root_.Go.OpenSpec := { _root_.Go.OpenSpec.ofChange s with cond := some uptoSmall }

/-- 'laws.FnExactBestFollower', WHERE WHAT IT READS IS OF BULK AT MOST 1048576: true; the input reads as it did. -/
def fnExactBestFollowerUptoRow : OpenClaim := { program := "ytcekddpllpbkmaa", sum := "92e0c1fdfb90dce2c3b5ee59813ba106ada981dce188655917277b6bb4d5cbb4", func := "loop.example/g01110/laws.FnExactBestFollower", spec := "fnExactBestFollower", unfollowed := true, recurses := true, apart := false, narrowed := true }
def FnExactBestFollowerUptoSaid : Prop := fnExactBestFollowerUptoRow.holds Try.pinned (OpenSpec.upto fnExactBestFollowerSpec)

/-- 'laws.FnExactBestLeader', WHERE WHAT IT READS IS OF BULK AT MOST 1048576: true; the input reads as it did. -/
def fnExactBestLeaderUptoRow : OpenClaim := { program := "ytcekddpllpbkmaa", sum := "92e0c1fdfb90dce2c3b5ee59813ba106ada981dce188655917277b6bb4d5cbb4", func := "loop.example/g01110/laws.FnExactBestLeader", spec := "fnExactBestLeader", unfollowed := true, recurses := true, apart := false, narrowed := true }
def FnExactBestLeaderUptoSaid : Prop := fnExactBestLeaderUptoRow.holds Try.pinned (OpenSpec.upto fnExactBestLeaderSpec)

/-- 'laws.FnExactHallClients', WHERE WHAT IT READS IS OF BULK AT MOST 1048576: true; the input reads as it did. -/
def fnExactHallClientsUptoRow : OpenClaim := { program := "ytcekddpllpbkmaa", sum := "92e0c1fdfb90dce2c3b5ee59813ba106ada981dce188655917277b6bb4d5cbb4", func := "loop.example/g01110/laws.FnExactHallClients", spec := "fnExactHallClients", unfollowed := true, recurses := true, apart := false, narrowed := true }
def FnExactHallClientsUptoSaid : Prop := fnExactHallClientsUptoRow.holds Try.pinned (OpenSpec.upto fnExactHallClientsSpec)

/-- 'laws.FnExactFirmValue', WHERE WHAT IT READS IS OF BULK AT MOST 1048576: true; the input reads as it did. -/
def fnExactFirmValueUptoRow : OpenClaim := { program := "ytcekddpllpbkmaa", sum := "92e0c1fdfb90dce2c3b5ee59813ba106ada981dce188655917277b6bb4d5cbb4", func := "loop.example/g01110/laws.FnExactFirmValue", spec := "fnExactFirmValue", unfollowed := true, recurses := true, apart := false, narrowed := true }
def FnExactFirmValueUptoSaid : Prop := fnExactFirmValueUptoRow.holds Try.pinned (OpenSpec.upto fnExactFirmValueSpec)

/-- 'laws.FnExactFirmPlay', WHERE WHAT IT READS IS OF BULK AT MOST 1048576: true; the input reads as it did. -/
def fnExactFirmPlayUptoRow : OpenClaim := { program := "ytcekddpllpbkmaa", sum := "92e0c1fdfb90dce2c3b5ee59813ba106ada981dce188655917277b6bb4d5cbb4", func := "loop.example/g01110/laws.FnExactFirmPlay", spec := "fnExactFirmPlay", unfollowed := true, recurses := true, apart := false, narrowed := true }
def FnExactFirmPlayUptoSaid : Prop := fnExactFirmPlayUptoRow.holds Try.pinned (OpenSpec.upto fnExactFirmPlaySpec)

/-- 'laws.FnExactIsLocalOpening', WHERE WHAT IT READS IS OF BULK AT MOST 1048576: true; the input reads as it did. -/
def fnExactIsLocalOpeningUptoRow : OpenClaim := { program := "ytcekddpllpbkmaa", sum := "92e0c1fdfb90dce2c3b5ee59813ba106ada981dce188655917277b6bb4d5cbb4", func := "loop.example/g01110/laws.FnExactIsLocalOpening", spec := "fnExactIsLocalOpening", unfollowed := true, recurses := true, apart := false, narrowed := true }
def FnExactIsLocalOpeningUptoSaid : Prop := fnExactIsLocalOpeningUptoRow.holds Try.pinned (OpenSpec.upto fnExactIsLocalOpeningSpec)

/-- 'laws.FnExactLocalOpening', WHERE WHAT IT READS IS OF BULK AT MOST 1048576: true; the input reads as it did. -/
def fnExactLocalOpeningUptoRow : OpenClaim := { program := "ytcekddpllpbkmaa", sum := "92e0c1fdfb90dce2c3b5ee59813ba106ada981dce188655917277b6bb4d5cbb4", func := "loop.example/g01110/laws.FnExactLocalOpening", spec := "fnExactLocalOpening", unfollowed := true, recurses := true, apart := false, narrowed := true }
def FnExactLocalOpeningUptoSaid : Prop := fnExactLocalOpeningUptoRow.holds Try.pinned (OpenSpec.upto fnExactLocalOpeningSpec)

end Rows
end Go.Proofs.Ytcekddpllpbkmaa
