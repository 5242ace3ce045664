/-
  No cell of these rows narrows 'for every input' (looked for: loops, veiled, ifaces, maps, wideKeys, modest, calm, conditions, laid).
  DERIVED. THE GIVEN ROWS OF THIS SEAT. 5 by the template 'for every input the law returns true; each argument reads behind the call as it read before'; 0 by the template 'total and deterministic' (their statements: YtpddkboiomencaaTotals.lean).
  GIVEN WITH THE SEED: the statements are not yours to turn. If you find one false, say at which input.
  Laid BY PROGRAM, IN A SANDBOX (cutbox-rows.mjs): the forced cells as the released guide's own fill.sh prints them over the translation e1549e128bcf00bd… (all of the seat's roots in one cut). By AI agents, Wed Nov 11 2026. No macro, syntax, notation, axiom, sorry.
-/
import Derived.Test.YtpddkboiomencaaChecked
import GoSem.Claim
import GoSem.ClaimJoined
import GoSem.ClaimMapViews
import Derived.JoinedTies
import Derived.KernelRfl
namespace Go.Proofs.Ytpddkboiomencaa
/- THE CELL 'sum', in the pinned program and in every row, IS THE sha256 OF THE DUMP (.gsa) THAT YtpddkboiomencaaProg.lean LOADS. Nothing in Lean hashes anything: it is a label: what it is worth is what the hold of that sum in a sandbox is worth. -/
noncomputable def Try.pinned : Pinned := { name := "ytpddkboiomencaa", sum := "e1549e128bcf00bd8e080a2902ef468c199d6c6001ec23bdc92700e63ac07b77", checked := Try.checked }
namespace Rows
def none {H : Type} : Left H := { results := [], args := [] }

/-- 'girolaw25.LifecyclePath': WHATEVER THE INPUT: true; the input reads as it did. -/
def lifecyclePathSpec : ChangeSpec := { name := "lifecyclePath", fn := fun _ => fun
  | [d1, d2] => { results := [.lit (.bool true)], args := [d1, d2] }
  | _ => none }
def lifecyclePathRow : OpenClaim := { program := "ytpddkboiomencaa", sum := "e1549e128bcf00bd8e080a2902ef468c199d6c6001ec23bdc92700e63ac07b77", func := "giro/girolaw25.LifecyclePath", spec := "lifecyclePath", recurses := true, apart := false }
def LifecyclePathSaid : Prop := lifecyclePathRow.holds Try.pinned (OpenSpec.ofChange lifecyclePathSpec)

/-- ITS FALSE NEIGHBOUR: 'it returns false'. Refute it at one input. -/
def lifecyclePathWrong : ChangeSpec := { name := "lifecyclePath", fn := fun _ => fun
  | [d1, d2] => { results := [.lit (.bool false)], args := [d1, d2] }
  | _ => none }
def LifecyclePathWrongFalsely : Prop := lifecyclePathRow.holds Try.pinned (OpenSpec.ofChange lifecyclePathWrong)

/-- 'girolaw25.LifecycleNext': WHATEVER THE INPUT: true; the input reads as it did. -/
def lifecycleNextSpec : ChangeSpec := { name := "lifecycleNext", fn := fun _ => fun
  | [d1, d2] => { results := [.lit (.bool true)], args := [d1, d2] }
  | _ => none }
def lifecycleNextRow : OpenClaim := { program := "ytpddkboiomencaa", sum := "e1549e128bcf00bd8e080a2902ef468c199d6c6001ec23bdc92700e63ac07b77", func := "giro/girolaw25.LifecycleNext", spec := "lifecycleNext", apart := false }
def LifecycleNextSaid : Prop := lifecycleNextRow.holds Try.pinned (OpenSpec.ofChange lifecycleNextSpec)

/-- ITS FALSE NEIGHBOUR: 'it returns false'. Refute it at one input. -/
def lifecycleNextWrong : ChangeSpec := { name := "lifecycleNext", fn := fun _ => fun
  | [d1, d2] => { results := [.lit (.bool false)], args := [d1, d2] }
  | _ => none }
def LifecycleNextWrongFalsely : Prop := lifecycleNextRow.holds Try.pinned (OpenSpec.ofChange lifecycleNextWrong)

/-- 'girolaw25.LifecycleReachable': WHATEVER THE INPUT: true; the input reads as it did. -/
def lifecycleReachableSpec : ChangeSpec := { name := "lifecycleReachable", fn := fun _ => fun
  | [d] => { results := [.lit (.bool true)], args := [d] }
  | _ => none }
def lifecycleReachableRow : OpenClaim := { program := "ytpddkboiomencaa", sum := "e1549e128bcf00bd8e080a2902ef468c199d6c6001ec23bdc92700e63ac07b77", func := "giro/girolaw25.LifecycleReachable", spec := "lifecycleReachable", recurses := true, apart := false }
def LifecycleReachableSaid : Prop := lifecycleReachableRow.holds Try.pinned (OpenSpec.ofChange lifecycleReachableSpec)

/-- ITS FALSE NEIGHBOUR: 'it returns false'. Refute it at one input. -/
def lifecycleReachableWrong : ChangeSpec := { name := "lifecycleReachable", fn := fun _ => fun
  | [d] => { results := [.lit (.bool false)], args := [d] }
  | _ => none }
def LifecycleReachableWrongFalsely : Prop := lifecycleReachableRow.holds Try.pinned (OpenSpec.ofChange lifecycleReachableWrong)

/-- 'girolaw25.LifecyclePathLeads': WHATEVER THE INPUT: true; the input reads as it did. -/
def lifecyclePathLeadsSpec : ChangeSpec := { name := "lifecyclePathLeads", fn := fun _ => fun
  | [d1, d2] => { results := [.lit (.bool true)], args := [d1, d2] }
  | _ => none }
def lifecyclePathLeadsRow : OpenClaim := { program := "ytpddkboiomencaa", sum := "e1549e128bcf00bd8e080a2902ef468c199d6c6001ec23bdc92700e63ac07b77", func := "giro/girolaw25.LifecyclePathLeads", spec := "lifecyclePathLeads", recurses := true, apart := false }
def LifecyclePathLeadsSaid : Prop := lifecyclePathLeadsRow.holds Try.pinned (OpenSpec.ofChange lifecyclePathLeadsSpec)

/-- ITS FALSE NEIGHBOUR: 'it returns false'. Refute it at one input. -/
def lifecyclePathLeadsWrong : ChangeSpec := { name := "lifecyclePathLeads", fn := fun _ => fun
  | [d1, d2] => { results := [.lit (.bool false)], args := [d1, d2] }
  | _ => none }
def LifecyclePathLeadsWrongFalsely : Prop := lifecyclePathLeadsRow.holds Try.pinned (OpenSpec.ofChange lifecyclePathLeadsWrong)

/-- 'girolaw25.LifecycleFinal': WHATEVER THE INPUT: true; the input reads as it did. -/
def lifecycleFinalSpec : ChangeSpec := { name := "lifecycleFinal", fn := fun _ => fun
  | [d] => { results := [.lit (.bool true)], args := [d] }
  | _ => none }
def lifecycleFinalRow : OpenClaim := { program := "ytpddkboiomencaa", sum := "e1549e128bcf00bd8e080a2902ef468c199d6c6001ec23bdc92700e63ac07b77", func := "giro/girolaw25.LifecycleFinal", spec := "lifecycleFinal", recurses := true, apart := false }
def LifecycleFinalSaid : Prop := lifecycleFinalRow.holds Try.pinned (OpenSpec.ofChange lifecycleFinalSpec)

/-- ITS FALSE NEIGHBOUR: 'it returns false'. Refute it at one input. -/
def lifecycleFinalWrong : ChangeSpec := { name := "lifecycleFinal", fn := fun _ => fun
  | [d] => { results := [.lit (.bool false)], args := [d] }
  | _ => none }
def LifecycleFinalWrongFalsely : Prop := lifecycleFinalRow.holds Try.pinned (OpenSpec.ofChange lifecycleFinalWrong)

/- THE SECOND FORM. 'bulk': how many values and letters a reading holds, each counted each time it is reached (what is shared counts as often as it is met; a slice's spare places count too). A statement '..UptoSaid' is the law's where the arguments, and the package variables that the reading takes, are together of bulk at most 1048576: NARROWER than '..Said'. Prove '..Said' where nothing that the law and all that it calls make is longer than what came in: it says more and counts as full. Else prove '..UptoSaid'. A law counts once. -/
mutual
def uptoBulk {H : Type} : DataW H → Nat
  | .lit (.string bytes) => bytes.length + 1
  | .lit _ => 1
  | .nil => 1
  | .ptr d => uptoBulk d + 1
  | .slice elems spare => uptoBulkAll elems + uptoBulkAll spare + 1
  | .agg parts => uptoBulkAll parts + 1
  | .iface _ d => uptoBulk d + 1
  | .map entries => uptoBulkEntries entries + 1
  | .held _ => 1
def uptoBulkAll {H : Type} : List (DataW H) → Nat
  | [] => 0
  | d :: r => uptoBulk d + uptoBulkAll r
def uptoBulkEntries {H : Type} : List (Lit × DataW H) → Nat
  | [] => 0
  | x :: r => uptoBulkEntry x + uptoBulkEntries r
def uptoBulkEntry {H : Type} : Lit × DataW H → Nat
  | (.string bytes, d) => bytes.length + uptoBulk d + 1
  | (_, d) => uptoBulk d + 1
 end
def uptoSmall : (H : Type) → List (DataW H) → Bool := fun _ ds => decide (uptoBulkAll ds ≤ 1048576)
def OpenSpec.upto (s : _root_.Go.ChangeSpec) : _root_.Go.OpenSpec := { _root_.Go.OpenSpec.ofChange s with cond := some uptoSmall }

/-- 'girolaw25.LifecyclePath', WHERE WHAT IT READS IS OF BULK AT MOST 1048576: true; the input reads as it did. -/
def lifecyclePathUptoRow : OpenClaim := { program := "ytpddkboiomencaa", sum := "e1549e128bcf00bd8e080a2902ef468c199d6c6001ec23bdc92700e63ac07b77", func := "giro/girolaw25.LifecyclePath", spec := "lifecyclePath", recurses := true, apart := false, narrowed := true }
def LifecyclePathUptoSaid : Prop := lifecyclePathUptoRow.holds Try.pinned (OpenSpec.upto lifecyclePathSpec)

/-- 'girolaw25.LifecycleNext', WHERE WHAT IT READS IS OF BULK AT MOST 1048576: true; the input reads as it did. -/
def lifecycleNextUptoRow : OpenClaim := { program := "ytpddkboiomencaa", sum := "e1549e128bcf00bd8e080a2902ef468c199d6c6001ec23bdc92700e63ac07b77", func := "giro/girolaw25.LifecycleNext", spec := "lifecycleNext", apart := false, narrowed := true }
def LifecycleNextUptoSaid : Prop := lifecycleNextUptoRow.holds Try.pinned (OpenSpec.upto lifecycleNextSpec)

/-- 'girolaw25.LifecycleReachable', WHERE WHAT IT READS IS OF BULK AT MOST 1048576: true; the input reads as it did. -/
def lifecycleReachableUptoRow : OpenClaim := { program := "ytpddkboiomencaa", sum := "e1549e128bcf00bd8e080a2902ef468c199d6c6001ec23bdc92700e63ac07b77", func := "giro/girolaw25.LifecycleReachable", spec := "lifecycleReachable", recurses := true, apart := false, narrowed := true }
def LifecycleReachableUptoSaid : Prop := lifecycleReachableUptoRow.holds Try.pinned (OpenSpec.upto lifecycleReachableSpec)

/-- 'girolaw25.LifecyclePathLeads', WHERE WHAT IT READS IS OF BULK AT MOST 1048576: true; the input reads as it did. -/
def lifecyclePathLeadsUptoRow : OpenClaim := { program := "ytpddkboiomencaa", sum := "e1549e128bcf00bd8e080a2902ef468c199d6c6001ec23bdc92700e63ac07b77", func := "giro/girolaw25.LifecyclePathLeads", spec := "lifecyclePathLeads", recurses := true, apart := false, narrowed := true }
def LifecyclePathLeadsUptoSaid : Prop := lifecyclePathLeadsUptoRow.holds Try.pinned (OpenSpec.upto lifecyclePathLeadsSpec)

/-- 'girolaw25.LifecycleFinal', WHERE WHAT IT READS IS OF BULK AT MOST 1048576: true; the input reads as it did. -/
def lifecycleFinalUptoRow : OpenClaim := { program := "ytpddkboiomencaa", sum := "e1549e128bcf00bd8e080a2902ef468c199d6c6001ec23bdc92700e63ac07b77", func := "giro/girolaw25.LifecycleFinal", spec := "lifecycleFinal", recurses := true, apart := false, narrowed := true }
def LifecycleFinalUptoSaid : Prop := lifecycleFinalUptoRow.holds Try.pinned (OpenSpec.upto lifecycleFinalSpec)

end Rows
end Go.Proofs.Ytpddkboiomencaa
