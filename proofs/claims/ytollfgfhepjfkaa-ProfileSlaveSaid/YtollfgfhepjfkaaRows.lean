/-
  No cell of these rows narrows 'for every input' (looked for: loops, veiled, ifaces, maps, wideKeys, modest, calm, conditions, laid).
  DERIVED. THE GIVEN ROWS OF THIS SEAT. 3 by the template 'for every input the law returns true; each argument reads behind the call as it read before'; 0 by the template 'total and deterministic' (their statements: YtollfgfhepjfkaaTotals.lean).
  GIVEN WITH THE SEED: the statements are not yours to turn. If you find one false, say at which input.
  Laid BY PROGRAM, IN A SANDBOX (cutbox-rows.mjs): the forced cells as the released guide's own fill.sh prints them over the translation 9b264b4bcbacdb93… (all of the seat's roots in one cut). By AI agents, Wed Nov 11 2026. No macro, syntax, notation, axiom, sorry.
-/
import Derived.Test.YtollfgfhepjfkaaChecked
import GoSem.Claim
import GoSem.ClaimJoined
import GoSem.ClaimMapViews
import Derived.JoinedTies
import Derived.KernelRfl
namespace Go.Proofs.Ytollfgfhepjfkaa
/- THE CELL 'sum', in the pinned program and in every row, IS THE sha256 OF THE DUMP (.gsa) THAT YtollfgfhepjfkaaProg.lean LOADS. Nothing in Lean hashes anything: it is a label: what it is worth is what the hold of that sum in a sandbox is worth. -/
noncomputable def Try.pinned : Pinned := { name := "ytollfgfhepjfkaa", sum := "9b264b4bcbacdb936d05723b455a775aad837477c7b849ac4b2fb18c9a96967f", checked := Try.checked }
namespace Rows
def none {H : Type} : Left H := { results := [], args := [] }

/-- 'modscanlaw31.ProfileValid': WHATEVER THE INPUT: true; the input reads as it did. -/
def profileValidSpec : ChangeSpec := { name := "profileValid", fn := fun _ => fun
  | [d] => { results := [.lit (.bool true)], args := [d] }
  | _ => none }
def profileValidRow : OpenClaim := { program := "ytollfgfhepjfkaa", sum := "9b264b4bcbacdb936d05723b455a775aad837477c7b849ac4b2fb18c9a96967f", func := "modscan/modscanlaw31.ProfileValid", spec := "profileValid", apart := false }
def ProfileValidSaid : Prop := profileValidRow.holds Try.pinned (OpenSpec.ofChange profileValidSpec)

/-- ITS FALSE NEIGHBOUR: 'it returns false'. Refute it at one input. -/
def profileValidWrong : ChangeSpec := { name := "profileValid", fn := fun _ => fun
  | [d] => { results := [.lit (.bool false)], args := [d] }
  | _ => none }
def ProfileValidWrongFalsely : Prop := profileValidRow.holds Try.pinned (OpenSpec.ofChange profileValidWrong)

/-- 'modscanlaw31.ProfileSlave': WHATEVER THE INPUT: true; the input reads as it did. -/
def profileSlaveSpec : ChangeSpec := { name := "profileSlave", fn := fun _ => fun
  | [d1, d2, d3] => { results := [.lit (.bool true)], args := [d1, d2, d3] }
  | _ => none }
def profileSlaveRow : OpenClaim := { program := "ytollfgfhepjfkaa", sum := "9b264b4bcbacdb936d05723b455a775aad837477c7b849ac4b2fb18c9a96967f", func := "modscan/modscanlaw31.ProfileSlave", spec := "profileSlave", apart := false }
def ProfileSlaveSaid : Prop := profileSlaveRow.holds Try.pinned (OpenSpec.ofChange profileSlaveSpec)

/-- ITS FALSE NEIGHBOUR: 'it returns false'. Refute it at one input. -/
def profileSlaveWrong : ChangeSpec := { name := "profileSlave", fn := fun _ => fun
  | [d1, d2, d3] => { results := [.lit (.bool false)], args := [d1, d2, d3] }
  | _ => none }
def ProfileSlaveWrongFalsely : Prop := profileSlaveRow.holds Try.pinned (OpenSpec.ofChange profileSlaveWrong)

/-- 'modscanlaw31.ProfileChoose': WHATEVER THE INPUT: true; the input reads as it did. -/
def profileChooseSpec : ChangeSpec := { name := "profileChoose", fn := fun _ => fun
  | [d1, d2, d3] => { results := [.lit (.bool true)], args := [d1, d2, d3] }
  | _ => none }
def profileChooseRow : OpenClaim := { program := "ytollfgfhepjfkaa", sum := "9b264b4bcbacdb936d05723b455a775aad837477c7b849ac4b2fb18c9a96967f", func := "modscan/modscanlaw31.ProfileChoose", spec := "profileChoose", apart := false }
def ProfileChooseSaid : Prop := profileChooseRow.holds Try.pinned (OpenSpec.ofChange profileChooseSpec)

/-- ITS FALSE NEIGHBOUR: 'it returns false'. Refute it at one input. -/
def profileChooseWrong : ChangeSpec := { name := "profileChoose", fn := fun _ => fun
  | [d1, d2, d3] => { results := [.lit (.bool false)], args := [d1, d2, d3] }
  | _ => none }
def ProfileChooseWrongFalsely : Prop := profileChooseRow.holds Try.pinned (OpenSpec.ofChange profileChooseWrong)

/- THE SECOND FORM. 'bulk': how many values and letters a reading holds, each counted each time it is reached (what is shared counts as often as it is met; a slice's spare places count too). A statement '..UptoSaid' is the law's where the arguments, and the package variables that the reading takes, are together of bulk at most 1048576: NARROWER than '..Said'. Prove '..Said' where nothing that the law and all that it calls make is longer than what came in: it says more and counts as full. Else prove '..UptoSaid'. A law counts once. -/
mutual
def uptoBulk {H : Type} : DataW H → Nat
  | .lit (.string bytes) => bytes.length + 1
  | .lit _ => 1
  | .nil => 1
  | .ptr d => uptoBulk d + 1
  | .slice elems spare => uptoBulkAll elems + uptoBulkAll spare + 1
  | .agg parts => uptoBulkAll parts + 1
  | .iface _ d => uptoBulk d + 1
  | .map entries => uptoBulkEntries entries + 1
  | .held _ => 1
def uptoBulkAll {H : Type} : List (DataW H) → Nat
  | [] => 0
  | d :: r => uptoBulk d + uptoBulkAll r
def uptoBulkEntries {H : Type} : List (Lit × DataW H) → Nat
  | [] => 0
  | x :: r => uptoBulkEntry x + uptoBulkEntries r
def uptoBulkEntry {H : Type} : Lit × DataW H → Nat
  | (.string bytes, d) => bytes.length + uptoBulk d + 1
  | (_, d) => uptoBulk d + 1
 end
def uptoSmall : (H : Type) → List (DataW H) → Bool := fun _ ds => decide (uptoBulkAll ds ≤ 1048576)
def OpenSpec.upto (s : _root_.Go.ChangeSpec) : _root_.Go.OpenSpec := { _root_.Go.OpenSpec.ofChange s with cond := some uptoSmall }

/-- 'modscanlaw31.ProfileValid', WHERE WHAT IT READS IS OF BULK AT MOST 1048576: true; the input reads as it did. -/
def profileValidUptoRow : OpenClaim := { program := "ytollfgfhepjfkaa", sum := "9b264b4bcbacdb936d05723b455a775aad837477c7b849ac4b2fb18c9a96967f", func := "modscan/modscanlaw31.ProfileValid", spec := "profileValid", apart := false, narrowed := true }
def ProfileValidUptoSaid : Prop := profileValidUptoRow.holds Try.pinned (OpenSpec.upto profileValidSpec)

/-- 'modscanlaw31.ProfileSlave', WHERE WHAT IT READS IS OF BULK AT MOST 1048576: true; the input reads as it did. -/
def profileSlaveUptoRow : OpenClaim := { program := "ytollfgfhepjfkaa", sum := "9b264b4bcbacdb936d05723b455a775aad837477c7b849ac4b2fb18c9a96967f", func := "modscan/modscanlaw31.ProfileSlave", spec := "profileSlave", apart := false, narrowed := true }
def ProfileSlaveUptoSaid : Prop := profileSlaveUptoRow.holds Try.pinned (OpenSpec.upto profileSlaveSpec)

/-- 'modscanlaw31.ProfileChoose', WHERE WHAT IT READS IS OF BULK AT MOST 1048576: true; the input reads as it did. -/
def profileChooseUptoRow : OpenClaim := { program := "ytollfgfhepjfkaa", sum := "9b264b4bcbacdb936d05723b455a775aad837477c7b849ac4b2fb18c9a96967f", func := "modscan/modscanlaw31.ProfileChoose", spec := "profileChoose", apart := false, narrowed := true }
def ProfileChooseUptoSaid : Prop := profileChooseUptoRow.holds Try.pinned (OpenSpec.upto profileChooseSpec)

end Rows
end Go.Proofs.Ytollfgfhepjfkaa
