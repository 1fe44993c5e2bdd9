/-
  No cell of these rows narrows 'for every input' (looked for: loops, veiled, ifaces, maps, wideKeys, modest, calm, conditions, laid).
  DERIVED. THE GIVEN ROWS OF THIS SEAT. 7 by the template 'for every input the law returns true; each argument reads behind the call as it read before'; 0 by the template 'total and deterministic' (their statements: YtlmlmmomfkgdcaaTotals.lean).
  GIVEN WITH THE SEED: the statements are not yours to turn. If you find one false, say at which input.
  Laid BY PROGRAM, IN A SANDBOX (cutbox-rows.mjs): the forced cells as the released guide's own fill.sh prints them over the translation 7fd0bb80a8e91bde… (all of the seat's roots in one cut). By AI agents, Wed Nov 11 2026. No macro, syntax, notation, axiom, sorry.
-/
import Derived.Test.YtlmlmmomfkgdcaaChecked
import GoSem.Claim
import GoSem.ClaimJoined
import GoSem.ClaimMapViews
import Derived.JoinedTies
import Derived.KernelRfl
namespace Go.Proofs.Ytlmlmmomfkgdcaa
/- THE CELL 'sum', in the pinned program and in every row, IS THE sha256 OF THE DUMP (.gsa) THAT YtlmlmmomfkgdcaaProg.lean LOADS. Nothing in Lean hashes anything: it is a label: what it is worth is what the hold of that sum in a sandbox is worth. -/
noncomputable def Try.pinned : Pinned := { name := "ytlmlmmomfkgdcaa", sum := "7fd0bb80a8e91bde18bfe347826375f112a2dcf715a0b00ba8f0fd2ff4488074", checked := Try.checked }
namespace Rows
def none {H : Type} : Left H := { results := [], args := [] }

/-- 'laws.FnExactWorthReached': WHATEVER THE INPUT: true; the input reads as it did. -/
def fnExactWorthReachedSpec : ChangeSpec := { name := "fnExactWorthReached", fn := fun _ => fun
  | [d1, d2, d3] => { results := [.lit (.bool true)], args := [d1, d2, d3] }
  | _ => none }
def fnExactWorthReachedRow : OpenClaim := { program := "ytlmlmmomfkgdcaa", sum := "7fd0bb80a8e91bde18bfe347826375f112a2dcf715a0b00ba8f0fd2ff4488074", func := "loop.example/g01110/laws.FnExactWorthReached", spec := "fnExactWorthReached", unfollowed := true, recurses := true, apart := false }
def FnExactWorthReachedSaid : Prop := fnExactWorthReachedRow.holds Try.pinned (OpenSpec.ofChange fnExactWorthReachedSpec)

/-- ITS FALSE NEIGHBOUR: 'it returns false'. Refute it at one input. -/
def fnExactWorthReachedWrong : ChangeSpec := { name := "fnExactWorthReached", fn := fun _ => fun
  | [d1, d2, d3] => { results := [.lit (.bool false)], args := [d1, d2, d3] }
  | _ => none }
def FnExactWorthReachedWrongFalsely : Prop := fnExactWorthReachedRow.holds Try.pinned (OpenSpec.ofChange fnExactWorthReachedWrong)

/-- 'laws.FnExactClientsTaken': WHATEVER THE INPUT: true; the input reads as it did. -/
def fnExactClientsTakenSpec : ChangeSpec := { name := "fnExactClientsTaken", fn := fun _ => fun
  | [d1, d2, d3] => { results := [.lit (.bool true)], args := [d1, d2, d3] }
  | _ => none }
def fnExactClientsTakenRow : OpenClaim := { program := "ytlmlmmomfkgdcaa", sum := "7fd0bb80a8e91bde18bfe347826375f112a2dcf715a0b00ba8f0fd2ff4488074", func := "loop.example/g01110/laws.FnExactClientsTaken", spec := "fnExactClientsTaken", unfollowed := true, recurses := true, apart := false }
def FnExactClientsTakenSaid : Prop := fnExactClientsTakenRow.holds Try.pinned (OpenSpec.ofChange fnExactClientsTakenSpec)

/-- ITS FALSE NEIGHBOUR: 'it returns false'. Refute it at one input. -/
def fnExactClientsTakenWrong : ChangeSpec := { name := "fnExactClientsTaken", fn := fun _ => fun
  | [d1, d2, d3] => { results := [.lit (.bool false)], args := [d1, d2, d3] }
  | _ => none }
def FnExactClientsTakenWrongFalsely : Prop := fnExactClientsTakenRow.holds Try.pinned (OpenSpec.ofChange fnExactClientsTakenWrong)

/-- 'laws.FnExactGainTable': WHATEVER THE INPUT: true; the input reads as it did. -/
def fnExactGainTableSpec : ChangeSpec := { name := "fnExactGainTable", fn := fun _ => fun
  | [d1, d2] => { results := [.lit (.bool true)], args := [d1, d2] }
  | _ => none }
def fnExactGainTableRow : OpenClaim := { program := "ytlmlmmomfkgdcaa", sum := "7fd0bb80a8e91bde18bfe347826375f112a2dcf715a0b00ba8f0fd2ff4488074", func := "loop.example/g01110/laws.FnExactGainTable", spec := "fnExactGainTable", unfollowed := true, recurses := true, apart := false }
def FnExactGainTableSaid : Prop := fnExactGainTableRow.holds Try.pinned (OpenSpec.ofChange fnExactGainTableSpec)

/-- ITS FALSE NEIGHBOUR: 'it returns false'. Refute it at one input. -/
def fnExactGainTableWrong : ChangeSpec := { name := "fnExactGainTable", fn := fun _ => fun
  | [d1, d2] => { results := [.lit (.bool false)], args := [d1, d2] }
  | _ => none }
def FnExactGainTableWrongFalsely : Prop := fnExactGainTableRow.holds Try.pinned (OpenSpec.ofChange fnExactGainTableWrong)

/-- 'laws.FnExactMarginalGain': WHATEVER THE INPUT: true; the input reads as it did. -/
def fnExactMarginalGainSpec : ChangeSpec := { name := "fnExactMarginalGain", fn := fun _ => fun
  | [d1, d2, d3, d4] => { results := [.lit (.bool true)], args := [d1, d2, d3, d4] }
  | _ => none }
def fnExactMarginalGainRow : OpenClaim := { program := "ytlmlmmomfkgdcaa", sum := "7fd0bb80a8e91bde18bfe347826375f112a2dcf715a0b00ba8f0fd2ff4488074", func := "loop.example/g01110/laws.FnExactMarginalGain", spec := "fnExactMarginalGain", unfollowed := true, recurses := true, apart := false }
def FnExactMarginalGainSaid : Prop := fnExactMarginalGainRow.holds Try.pinned (OpenSpec.ofChange fnExactMarginalGainSpec)

/-- ITS FALSE NEIGHBOUR: 'it returns false'. Refute it at one input. -/
def fnExactMarginalGainWrong : ChangeSpec := { name := "fnExactMarginalGain", fn := fun _ => fun
  | [d1, d2, d3, d4] => { results := [.lit (.bool false)], args := [d1, d2, d3, d4] }
  | _ => none }
def FnExactMarginalGainWrongFalsely : Prop := fnExactMarginalGainRow.holds Try.pinned (OpenSpec.ofChange fnExactMarginalGainWrong)

/-- 'laws.FnExactGreedyGain': WHATEVER THE INPUT: true; the input reads as it did. -/
def fnExactGreedyGainSpec : ChangeSpec := { name := "fnExactGreedyGain", fn := fun _ => fun
  | [d1, d2, d3] => { results := [.lit (.bool true)], args := [d1, d2, d3] }
  | _ => none }
def fnExactGreedyGainRow : OpenClaim := { program := "ytlmlmmomfkgdcaa", sum := "7fd0bb80a8e91bde18bfe347826375f112a2dcf715a0b00ba8f0fd2ff4488074", func := "loop.example/g01110/laws.FnExactGreedyGain", spec := "fnExactGreedyGain", unfollowed := true, recurses := true, apart := false }
def FnExactGreedyGainSaid : Prop := fnExactGreedyGainRow.holds Try.pinned (OpenSpec.ofChange fnExactGreedyGainSpec)

/-- ITS FALSE NEIGHBOUR: 'it returns false'. Refute it at one input. -/
def fnExactGreedyGainWrong : ChangeSpec := { name := "fnExactGreedyGain", fn := fun _ => fun
  | [d1, d2, d3] => { results := [.lit (.bool false)], args := [d1, d2, d3] }
  | _ => none }
def FnExactGreedyGainWrongFalsely : Prop := fnExactGreedyGainRow.holds Try.pinned (OpenSpec.ofChange fnExactGreedyGainWrong)

/-- 'laws.FnExactLazyGain': WHATEVER THE INPUT: true; the input reads as it did. -/
def fnExactLazyGainSpec : ChangeSpec := { name := "fnExactLazyGain", fn := fun _ => fun
  | [d1, d2, d3] => { results := [.lit (.bool true)], args := [d1, d2, d3] }
  | _ => none }
def fnExactLazyGainRow : OpenClaim := { program := "ytlmlmmomfkgdcaa", sum := "7fd0bb80a8e91bde18bfe347826375f112a2dcf715a0b00ba8f0fd2ff4488074", func := "loop.example/g01110/laws.FnExactLazyGain", spec := "fnExactLazyGain", unfollowed := true, recurses := true, apart := false }
def FnExactLazyGainSaid : Prop := fnExactLazyGainRow.holds Try.pinned (OpenSpec.ofChange fnExactLazyGainSpec)

/-- ITS FALSE NEIGHBOUR: 'it returns false'. Refute it at one input. -/
def fnExactLazyGainWrong : ChangeSpec := { name := "fnExactLazyGain", fn := fun _ => fun
  | [d1, d2, d3] => { results := [.lit (.bool false)], args := [d1, d2, d3] }
  | _ => none }
def FnExactLazyGainWrongFalsely : Prop := fnExactLazyGainRow.holds Try.pinned (OpenSpec.ofChange fnExactLazyGainWrong)

/-- 'laws.FnExactGreedyAllowed': WHATEVER THE INPUT: true; the input reads as it did. -/
def fnExactGreedyAllowedSpec : ChangeSpec := { name := "fnExactGreedyAllowed", fn := fun _ => fun
  | [d1, d2, d3, d4] => { results := [.lit (.bool true)], args := [d1, d2, d3, d4] }
  | _ => none }
def fnExactGreedyAllowedRow : OpenClaim := { program := "ytlmlmmomfkgdcaa", sum := "7fd0bb80a8e91bde18bfe347826375f112a2dcf715a0b00ba8f0fd2ff4488074", func := "loop.example/g01110/laws.FnExactGreedyAllowed", spec := "fnExactGreedyAllowed", unfollowed := true, recurses := true, apart := false }
def FnExactGreedyAllowedSaid : Prop := fnExactGreedyAllowedRow.holds Try.pinned (OpenSpec.ofChange fnExactGreedyAllowedSpec)

/-- ITS FALSE NEIGHBOUR: 'it returns false'. Refute it at one input. -/
def fnExactGreedyAllowedWrong : ChangeSpec := { name := "fnExactGreedyAllowed", fn := fun _ => fun
  | [d1, d2, d3, d4] => { results := [.lit (.bool false)], args := [d1, d2, d3, d4] }
  | _ => none }
def FnExactGreedyAllowedWrongFalsely : Prop := fnExactGreedyAllowedRow.holds Try.pinned (OpenSpec.ofChange fnExactGreedyAllowedWrong)

/- THE SECOND FORM. 'bulk': how many values and letters a reading holds, each counted each time it is reached (what is shared counts as often as it is met; a slice's spare places count too). A statement '..UptoSaid' is the law's where the arguments, and the package variables that the reading takes, are together of bulk at most 1048576: NARROWER than '..Said'. Prove '..Said' where nothing that the law and all that it calls make is longer than what came in: it says more and counts as full. Else prove '..UptoSaid'. A law counts once. -/
mutual
def uptoBulk {H : Type} : DataW H → Nat
  | .lit (.string bytes) => bytes.length + 1
  | .lit _ => 1
  | .nil => 1
  | .ptr d => uptoBulk d + 1
  | .slice elems spare => uptoBulkAll elems + uptoBulkAll spare + 1
  | .agg parts => uptoBulkAll parts + 1
  | .iface _ d => uptoBulk d + 1
  | .map entries => uptoBulkEntries entries + 1
  | .held _ => 1
def uptoBulkAll {H : Type} : List (DataW H) → Nat
  | [] => 0
  | d :: r => uptoBulk d + uptoBulkAll r
def uptoBulkEntries {H : Type} : List (Lit × DataW H) → Nat
  | [] => 0
  | x :: r => uptoBulkEntry x + uptoBulkEntries r
def uptoBulkEntry {H : Type} : Lit × DataW H → Nat
  | (.string bytes, d) => bytes.length + uptoBulk d + 1
  | (_, d) => uptoBulk d + 1
 end
def uptoSmall : (H : Type) → List (DataW H) → Bool := fun _ ds => decide (uptoBulkAll ds ≤ 1048576)
def OpenSpec.upto (s : _root_.Go.ChangeSpec) : _root_.Go.OpenSpec := { _root_.Go.OpenSpec.ofChange s with cond := some uptoSmall }

/-- 'laws.FnExactWorthReached', WHERE WHAT IT READS IS OF BULK AT MOST 1048576: true; the input reads as it did. -/
def fnExactWorthReachedUptoRow : OpenClaim := { program := "ytlmlmmomfkgdcaa", sum := "7fd0bb80a8e91bde18bfe347826375f112a2dcf715a0b00ba8f0fd2ff4488074", func := "loop.example/g01110/laws.FnExactWorthReached", spec := "fnExactWorthReached", unfollowed := true, recurses := true, apart := false, narrowed := true }
def FnExactWorthReachedUptoSaid : Prop := fnExactWorthReachedUptoRow.holds Try.pinned (OpenSpec.upto fnExactWorthReachedSpec)

/-- 'laws.FnExactClientsTaken', WHERE WHAT IT READS IS OF BULK AT MOST 1048576: true; the input reads as it did. -/
def fnExactClientsTakenUptoRow : OpenClaim := { program := "ytlmlmmomfkgdcaa", sum := "7fd0bb80a8e91bde18bfe347826375f112a2dcf715a0b00ba8f0fd2ff4488074", func := "loop.example/g01110/laws.FnExactClientsTaken", spec := "fnExactClientsTaken", unfollowed := true, recurses := true, apart := false, narrowed := true }
def FnExactClientsTakenUptoSaid : Prop := fnExactClientsTakenUptoRow.holds Try.pinned (OpenSpec.upto fnExactClientsTakenSpec)

/-- 'laws.FnExactGainTable', WHERE WHAT IT READS IS OF BULK AT MOST 1048576: true; the input reads as it did. -/
def fnExactGainTableUptoRow : OpenClaim := { program := "ytlmlmmomfkgdcaa", sum := "7fd0bb80a8e91bde18bfe347826375f112a2dcf715a0b00ba8f0fd2ff4488074", func := "loop.example/g01110/laws.FnExactGainTable", spec := "fnExactGainTable", unfollowed := true, recurses := true, apart := false, narrowed := true }
def FnExactGainTableUptoSaid : Prop := fnExactGainTableUptoRow.holds Try.pinned (OpenSpec.upto fnExactGainTableSpec)

/-- 'laws.FnExactMarginalGain', WHERE WHAT IT READS IS OF BULK AT MOST 1048576: true; the input reads as it did. -/
def fnExactMarginalGainUptoRow : OpenClaim := { program := "ytlmlmmomfkgdcaa", sum := "7fd0bb80a8e91bde18bfe347826375f112a2dcf715a0b00ba8f0fd2ff4488074", func := "loop.example/g01110/laws.FnExactMarginalGain", spec := "fnExactMarginalGain", unfollowed := true, recurses := true, apart := false, narrowed := true }
def FnExactMarginalGainUptoSaid : Prop := fnExactMarginalGainUptoRow.holds Try.pinned (OpenSpec.upto fnExactMarginalGainSpec)

/-- 'laws.FnExactGreedyGain', WHERE WHAT IT READS IS OF BULK AT MOST 1048576: true; the input reads as it did. -/
def fnExactGreedyGainUptoRow : OpenClaim := { program := "ytlmlmmomfkgdcaa", sum := "7fd0bb80a8e91bde18bfe347826375f112a2dcf715a0b00ba8f0fd2ff4488074", func := "loop.example/g01110/laws.FnExactGreedyGain", spec := "fnExactGreedyGain", unfollowed := true, recurses := true, apart := false, narrowed := true }
def FnExactGreedyGainUptoSaid : Prop := fnExactGreedyGainUptoRow.holds Try.pinned (OpenSpec.upto fnExactGreedyGainSpec)

/-- 'laws.FnExactLazyGain', WHERE WHAT IT READS IS OF BULK AT MOST 1048576: true; the input reads as it did. -/
def fnExactLazyGainUptoRow : OpenClaim := { program := "ytlmlmmomfkgdcaa", sum := "7fd0bb80a8e91bde18bfe347826375f112a2dcf715a0b00ba8f0fd2ff4488074", func := "loop.example/g01110/laws.FnExactLazyGain", spec := "fnExactLazyGain", unfollowed := true, recurses := true, apart := false, narrowed := true }
def FnExactLazyGainUptoSaid : Prop := fnExactLazyGainUptoRow.holds Try.pinned (OpenSpec.upto fnExactLazyGainSpec)

/-- 'laws.FnExactGreedyAllowed', WHERE WHAT IT READS IS OF BULK AT MOST 1048576: true; the input reads as it did. -/
def fnExactGreedyAllowedUptoRow : OpenClaim := { program := "ytlmlmmomfkgdcaa", sum := "7fd0bb80a8e91bde18bfe347826375f112a2dcf715a0b00ba8f0fd2ff4488074", func := "loop.example/g01110/laws.FnExactGreedyAllowed", spec := "fnExactGreedyAllowed", unfollowed := true, recurses := true, apart := false, narrowed := true }
def FnExactGreedyAllowedUptoSaid : Prop := fnExactGreedyAllowedUptoRow.holds Try.pinned (OpenSpec.upto fnExactGreedyAllowedSpec)

end Rows
end Go.Proofs.Ytlmlmmomfkgdcaa
