/-
  No cell of these rows narrows 'for every input' (looked for: loops, veiled, ifaces, maps, wideKeys, modest, calm, conditions, laid).
  DERIVED. THE GIVEN ROWS OF THIS SEAT. 4 by the template 'for every input the law returns true; each argument reads behind the call as it read before'; 0 by the template 'total and deterministic' (their statements: YtbomebnonkcieaaTotals.lean).
  GIVEN WITH THE SEED: the statements are not yours to turn. If you find one false, say at which input.
  Laid BY PROGRAM, IN A SANDBOX (cutbox-rows.mjs): the forced cells as the released guide's own fill.sh prints them over the translation f61de087f8e623ce… (all of the seat's roots in one cut). By AI agents, Wed Nov 11 2026. No macro, syntax, notation, axiom, sorry.
-/
import Derived.Test.YtbomebnonkcieaaChecked
import GoSem.Claim
import GoSem.ClaimJoined
import GoSem.ClaimMapViews
import Derived.JoinedTies
import Derived.KernelRfl
namespace Go.Proofs.Ytbomebnonkcieaa
/- THE CELL 'sum', in the pinned program and in every row, IS THE sha256 OF THE DUMP (.gsa) THAT YtbomebnonkcieaaProg.lean LOADS. Nothing in Lean hashes anything: it is a label: what it is worth is what the hold of that sum in a sandbox is worth. -/
noncomputable def Try.pinned : Pinned := { name := "ytbomebnonkcieaa", sum := "f61de087f8e623cea5ba3e1078dd2d72174eff1acdc1b7c03ff676ae31a5a93a", checked := Try.checked }
namespace Rows
def none {H : Type} : Left H := { results := [], args := [] }

/-- 'indenturelaw21.ConfAll': WHATEVER THE INPUT: true; the input reads as it did. -/
def confAllSpec : ChangeSpec := { name := "confAll", fn := fun _ => fun
  | [d1, d2, d3] => { results := [.lit (.bool true)], args := [d1, d2, d3] }
  | _ => none }
def confAllRow : OpenClaim := { program := "ytbomebnonkcieaa", sum := "f61de087f8e623cea5ba3e1078dd2d72174eff1acdc1b7c03ff676ae31a5a93a", func := "indenture/indenturelaw21.ConfAll", spec := "confAll", apart := false }
def ConfAllSaid : Prop := confAllRow.holds Try.pinned (OpenSpec.ofChange confAllSpec)

/-- ITS FALSE NEIGHBOUR: 'it returns false'. Refute it at one input. -/
def confAllWrong : ChangeSpec := { name := "confAll", fn := fun _ => fun
  | [d1, d2, d3] => { results := [.lit (.bool false)], args := [d1, d2, d3] }
  | _ => none }
def ConfAllWrongFalsely : Prop := confAllRow.holds Try.pinned (OpenSpec.ofChange confAllWrong)

/-- 'indenturelaw21.ConfWay': WHATEVER THE INPUT: true; the input reads as it did. -/
def confWaySpec : ChangeSpec := { name := "confWay", fn := fun _ => fun
  | [d1, d2] => { results := [.lit (.bool true)], args := [d1, d2] }
  | _ => none }
def confWayRow : OpenClaim := { program := "ytbomebnonkcieaa", sum := "f61de087f8e623cea5ba3e1078dd2d72174eff1acdc1b7c03ff676ae31a5a93a", func := "indenture/indenturelaw21.ConfWay", spec := "confWay", apart := false }
def ConfWaySaid : Prop := confWayRow.holds Try.pinned (OpenSpec.ofChange confWaySpec)

/-- ITS FALSE NEIGHBOUR: 'it returns false'. Refute it at one input. -/
def confWayWrong : ChangeSpec := { name := "confWay", fn := fun _ => fun
  | [d1, d2] => { results := [.lit (.bool false)], args := [d1, d2] }
  | _ => none }
def ConfWayWrongFalsely : Prop := confWayRow.holds Try.pinned (OpenSpec.ofChange confWayWrong)

/-- 'indenturelaw21.ConfBack': WHATEVER THE INPUT: true; the input reads as it did. -/
def confBackSpec : ChangeSpec := { name := "confBack", fn := fun _ => fun
  | [d1, d2, d3] => { results := [.lit (.bool true)], args := [d1, d2, d3] }
  | _ => none }
def confBackRow : OpenClaim := { program := "ytbomebnonkcieaa", sum := "f61de087f8e623cea5ba3e1078dd2d72174eff1acdc1b7c03ff676ae31a5a93a", func := "indenture/indenturelaw21.ConfBack", spec := "confBack", apart := false }
def ConfBackSaid : Prop := confBackRow.holds Try.pinned (OpenSpec.ofChange confBackSpec)

/-- ITS FALSE NEIGHBOUR: 'it returns false'. Refute it at one input. -/
def confBackWrong : ChangeSpec := { name := "confBack", fn := fun _ => fun
  | [d1, d2, d3] => { results := [.lit (.bool false)], args := [d1, d2, d3] }
  | _ => none }
def ConfBackWrongFalsely : Prop := confBackRow.holds Try.pinned (OpenSpec.ofChange confBackWrong)

/-- 'indenturelaw21.ConfLast': WHATEVER THE INPUT: true; the input reads as it did. -/
def confLastSpec : ChangeSpec := { name := "confLast", fn := fun _ => fun
  | [d] => { results := [.lit (.bool true)], args := [d] }
  | _ => none }
def confLastRow : OpenClaim := { program := "ytbomebnonkcieaa", sum := "f61de087f8e623cea5ba3e1078dd2d72174eff1acdc1b7c03ff676ae31a5a93a", func := "indenture/indenturelaw21.ConfLast", spec := "confLast", apart := false }
def ConfLastSaid : Prop := confLastRow.holds Try.pinned (OpenSpec.ofChange confLastSpec)

/-- ITS FALSE NEIGHBOUR: 'it returns false'. Refute it at one input. -/
def confLastWrong : ChangeSpec := { name := "confLast", fn := fun _ => fun
  | [d] => { results := [.lit (.bool false)], args := [d] }
  | _ => none }
def ConfLastWrongFalsely : Prop := confLastRow.holds Try.pinned (OpenSpec.ofChange confLastWrong)

/- THE SECOND FORM. 'bulk': how many values and letters a reading holds, each counted each time it is reached (what is shared counts as often as it is met; a slice's spare places count too). A statement '..UptoSaid' is the law's where the arguments, and the package variables that the reading takes, are together of bulk at most 1048576: NARROWER than '..Said'. Prove '..Said' where nothing that the law and all that it calls make is longer than what came in: it says more and counts as full. Else prove '..UptoSaid'. A law counts once. -/
mutual
def uptoBulk {H : Type} : DataW H → Nat
  | .lit (.string bytes) => bytes.length + 1
  | .lit _ => 1
  | .nil => 1
  | .ptr d => uptoBulk d + 1
  | .slice elems spare => uptoBulkAll elems + uptoBulkAll spare + 1
  | .agg parts => uptoBulkAll parts + 1
  | .iface _ d => uptoBulk d + 1
  | .map entries => uptoBulkEntries entries + 1
  | .held _ => 1
def uptoBulkAll {H : Type} : List (DataW H) → Nat
  | [] => 0
  | d :: r => uptoBulk d + uptoBulkAll r
def uptoBulkEntries {H : Type} : List (Lit × DataW H) → Nat
  | [] => 0
  | x :: r => uptoBulkEntry x + uptoBulkEntries r
def uptoBulkEntry {H : Type} : Lit × DataW H → Nat
  | (.string bytes, d) => bytes.length + uptoBulk d + 1
  | (_, d) => uptoBulk d + 1
 end
def uptoSmall : (H : Type) → List (DataW H) → Bool := fun _ ds => decide (uptoBulkAll ds ≤ 1048576)
def OpenSpec.upto (s : _root_.Go.ChangeSpec) : _root_.Go.OpenSpec := { _root_.Go.OpenSpec.ofChange s with cond := some uptoSmall }

/-- 'indenturelaw21.ConfAll', WHERE WHAT IT READS IS OF BULK AT MOST 1048576: true; the input reads as it did. -/
def confAllUptoRow : OpenClaim := { program := "ytbomebnonkcieaa", sum := "f61de087f8e623cea5ba3e1078dd2d72174eff1acdc1b7c03ff676ae31a5a93a", func := "indenture/indenturelaw21.ConfAll", spec := "confAll", apart := false, narrowed := true }
def ConfAllUptoSaid : Prop := confAllUptoRow.holds Try.pinned (OpenSpec.upto confAllSpec)

/-- 'indenturelaw21.ConfWay', WHERE WHAT IT READS IS OF BULK AT MOST 1048576: true; the input reads as it did. -/
def confWayUptoRow : OpenClaim := { program := "ytbomebnonkcieaa", sum := "f61de087f8e623cea5ba3e1078dd2d72174eff1acdc1b7c03ff676ae31a5a93a", func := "indenture/indenturelaw21.ConfWay", spec := "confWay", apart := false, narrowed := true }
def ConfWayUptoSaid : Prop := confWayUptoRow.holds Try.pinned (OpenSpec.upto confWaySpec)

/-- 'indenturelaw21.ConfBack', WHERE WHAT IT READS IS OF BULK AT MOST 1048576: true; the input reads as it did. -/
def confBackUptoRow : OpenClaim := { program := "ytbomebnonkcieaa", sum := "f61de087f8e623cea5ba3e1078dd2d72174eff1acdc1b7c03ff676ae31a5a93a", func := "indenture/indenturelaw21.ConfBack", spec := "confBack", apart := false, narrowed := true }
def ConfBackUptoSaid : Prop := confBackUptoRow.holds Try.pinned (OpenSpec.upto confBackSpec)

/-- 'indenturelaw21.ConfLast', WHERE WHAT IT READS IS OF BULK AT MOST 1048576: true; the input reads as it did. -/
def confLastUptoRow : OpenClaim := { program := "ytbomebnonkcieaa", sum := "f61de087f8e623cea5ba3e1078dd2d72174eff1acdc1b7c03ff676ae31a5a93a", func := "indenture/indenturelaw21.ConfLast", spec := "confLast", apart := false, narrowed := true }
def ConfLastUptoSaid : Prop := confLastUptoRow.holds Try.pinned (OpenSpec.upto confLastSpec)

end Rows
end Go.Proofs.Ytbomebnonkcieaa
