/-
  No cell of these rows narrows 'for every input' (looked for: loops, veiled, ifaces, maps, wideKeys, modest, calm, conditions, laid).
  DERIVED. THE GIVEN ROWS OF THIS SEAT. 2 by the template 'for every input the law returns true; each argument reads behind the call as it read before'; 0 by the template 'total and deterministic' (their statements: YtlnhganinomaaaaTotals.lean).
  GIVEN WITH THE SEED: the statements are not yours to turn. If you find one false, say at which input.
  Laid BY PROGRAM, IN A SANDBOX (cutbox-rows.mjs): the forced cells as the released guide's own fill.sh prints them over the translation 4ef74c9ad90d9a84… (all of the seat's roots in one cut). By AI agents, Wed Nov 11 2026. No macro, syntax, notation, axiom, sorry.
-/
import Derived.Test.YtlnhganinomaaaaChecked
import GoSem.Claim
import GoSem.ClaimJoined
import GoSem.ClaimMapViews
import Derived.JoinedTies
import Derived.KernelRfl
namespace Go.Proofs.Ytlnhganinomaaaa
/- THE CELL 'sum', in the pinned program and in every row, IS THE sha256 OF THE DUMP (.gsa) THAT YtlnhganinomaaaaProg.lean LOADS. Nothing in Lean hashes anything: it is a label: what it is worth is what the hold of that sum in a sandbox is worth. -/
noncomputable def Try.pinned : Pinned := { name := "ytlnhganinomaaaa", sum := "4ef74c9ad90d9a84cc9639248d92efaa3934b9dc12910824e6876ec163860106", checked := Try.checked }
namespace Rows
def none {H : Type} : Left H := { results := [], args := [] }

/-- 'souffleurlaw20.StackCuts': WHATEVER THE INPUT: true; the input reads as it did. -/
def stackCutsSpec : ChangeSpec := { name := "stackCuts", fn := fun _ => fun
  | [d1, d2] => { results := [.lit (.bool true)], args := [d1, d2] }
  | _ => none }
def stackCutsRow : OpenClaim := { program := "ytlnhganinomaaaa", sum := "4ef74c9ad90d9a84cc9639248d92efaa3934b9dc12910824e6876ec163860106", func := "souffleur/souffleurlaw20.StackCuts", spec := "stackCuts", plainKeys := false, apart := false }
def StackCutsSaid : Prop := stackCutsRow.holds Try.pinned (OpenSpec.ofChange stackCutsSpec)

/-- ITS FALSE NEIGHBOUR: 'it returns false'. Refute it at one input. -/
def stackCutsWrong : ChangeSpec := { name := "stackCuts", fn := fun _ => fun
  | [d1, d2] => { results := [.lit (.bool false)], args := [d1, d2] }
  | _ => none }
def StackCutsWrongFalsely : Prop := stackCutsRow.holds Try.pinned (OpenSpec.ofChange stackCutsWrong)

/-- 'souffleurlaw20.StackOwn': WHATEVER THE INPUT: true; the input reads as it did. -/
def stackOwnSpec : ChangeSpec := { name := "stackOwn", fn := fun _ => fun
  | [d1, d2] => { results := [.lit (.bool true)], args := [d1, d2] }
  | _ => none }
def stackOwnRow : OpenClaim := { program := "ytlnhganinomaaaa", sum := "4ef74c9ad90d9a84cc9639248d92efaa3934b9dc12910824e6876ec163860106", func := "souffleur/souffleurlaw20.StackOwn", spec := "stackOwn", plainKeys := false, apart := false }
def StackOwnSaid : Prop := stackOwnRow.holds Try.pinned (OpenSpec.ofChange stackOwnSpec)

/-- ITS FALSE NEIGHBOUR: 'it returns false'. Refute it at one input. -/
def stackOwnWrong : ChangeSpec := { name := "stackOwn", fn := fun _ => fun
  | [d1, d2] => { results := [.lit (.bool false)], args := [d1, d2] }
  | _ => none }
def StackOwnWrongFalsely : Prop := stackOwnRow.holds Try.pinned (OpenSpec.ofChange stackOwnWrong)

/- THE SECOND FORM. 'bulk': how many values and letters a reading holds, each counted each time it is reached (what is shared counts as often as it is met; a slice's spare places count too). A statement '..UptoSaid' is the law's where the arguments, and the package variables that the reading takes, are together of bulk at most 1048576: NARROWER than '..Said'. Prove '..Said' where nothing that the law and all that it calls make is longer than what came in: it says more and counts as full. Else prove '..UptoSaid'. A law counts once. -/
mutual
def uptoBulk {H : Type} : DataW H → Nat
  | .lit (.string bytes) => bytes.length + 1
  | .lit _ => 1
  | .nil => 1
  | .ptr d => uptoBulk d + 1
  | .slice elems spare => uptoBulkAll elems + uptoBulkAll spare + 1
  | .agg parts => uptoBulkAll parts + 1
  | .iface _ d => uptoBulk d + 1
  | .map entries => uptoBulkEntries entries + 1
  | .held _ => 1
def uptoBulkAll {H : Type} : List (DataW H) → Nat
  | [] => 0
  | d :: r => uptoBulk d + uptoBulkAll r
def uptoBulkEntries {H : Type} : List (Lit × DataW H) → Nat
  | [] => 0
  | x :: r => uptoBulkEntry x + uptoBulkEntries r
def uptoBulkEntry {H : Type} : Lit × DataW H → Nat
  | (.string bytes, d) => bytes.length + uptoBulk d + 1
  | (_, d) => uptoBulk d + 1
 end
def uptoSmall : (H : Type) → List (DataW H) → Bool := fun _ ds => decide (uptoBulkAll ds ≤ 1048576)
def OpenSpec.upto (s : _root_.Go.ChangeSpec) : _root_.Go.OpenSpec := { _root_.Go.OpenSpec.ofChange s with cond := some uptoSmall }

/-- 'souffleurlaw20.StackCuts', WHERE WHAT IT READS IS OF BULK AT MOST 1048576: true; the input reads as it did. -/
def stackCutsUptoRow : OpenClaim := { program := "ytlnhganinomaaaa", sum := "4ef74c9ad90d9a84cc9639248d92efaa3934b9dc12910824e6876ec163860106", func := "souffleur/souffleurlaw20.StackCuts", spec := "stackCuts", plainKeys := false, apart := false, narrowed := true }
def StackCutsUptoSaid : Prop := stackCutsUptoRow.holds Try.pinned (OpenSpec.upto stackCutsSpec)

/-- 'souffleurlaw20.StackOwn', WHERE WHAT IT READS IS OF BULK AT MOST 1048576: true; the input reads as it did. -/
def stackOwnUptoRow : OpenClaim := { program := "ytlnhganinomaaaa", sum := "4ef74c9ad90d9a84cc9639248d92efaa3934b9dc12910824e6876ec163860106", func := "souffleur/souffleurlaw20.StackOwn", spec := "stackOwn", plainKeys := false, apart := false, narrowed := true }
def StackOwnUptoSaid : Prop := stackOwnUptoRow.holds Try.pinned (OpenSpec.upto stackOwnSpec)

end Rows
end Go.Proofs.Ytlnhganinomaaaa
