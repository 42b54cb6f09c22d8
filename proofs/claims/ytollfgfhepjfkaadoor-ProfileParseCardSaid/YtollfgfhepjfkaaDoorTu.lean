/- ProfileParse: for every input the call returns true, and the arguments read as they did; the row, and the card. -/
import Derived.Test.YtollfgfhepjfkaaDoorCards
import Derived.Test.YtollfgfhepjfkaaDoorTie
import Derived.Test.YtollfgfhepjfkaaDoorTt
import Derived.Test.YtollfgfhepjfkaaDoorFr
import Derived.LaidMore
import Derived.Stop.LaidErr
import Derived.Lib.LaidTab
import Derived.SevenTiedAt
namespace Go.Pl
open Go Go.Ev Go.Proofs
theorem laid : laidOutB Tryd.prog = true := by kernel_rfl
theorem bool4 : Tryd.prog.underlying 4 = some .bool := by kernel_rfl
theorem own : ownKnob Tryd.prog.godebug = none := by kernel_rfl
theorem arg22 : argSh Tryd.prog 22 = some shBytes := by kernel_rfl
theorem arg23 : argSh Tryd.prog 23 = some shDb := by kernel_rfl
theorem arg4 : argSh Tryd.prog 4 = some .bool := by kernel_rfl
theorem arg3 : argSh Tryd.prog 3 = some shInt := by kernel_rfl
theorem arg5 : argSh Tryd.prog 5 = some (.int .u8) := by kernel_rfl
def laid3 : List (String × DataW Unit) := [("math/bits.deBruijn32tab", Go.Proofs.YtollfgfhepjfkaaDoor.Rows.laid_math_bits_deBruijn32tab), ("math/bits.deBruijn64tab", Go.Proofs.YtollfgfhepjfkaaDoor.Rows.laid_math_bits_deBruijn64tab), ("internal/strconv.uint64pow10", Go.Proofs.YtollfgfhepjfkaaDoor.Rows.laid_internal_strconv_uint64pow10)]
theorem gTab : Tryd.prog.globalNamed tabName = some 1 := by kernel_rfl
theorem tTab : (Tryd.prog.globals[1]?).map (·.type) = some 123 := by kernel_rfl
theorem uTab : Tryd.prog.underlying 123 = some (.array 20 116) := by kernel_rfl
theorem eTab : Tryd.prog.underlying 116 = some (.int .u64) := by kernel_rfl
theorem cTab : Tryd.prog.cellsOf 116 = 1 := by kernel_rfl
theorem cTab' : Tryd.prog.cellsOf 123 = 20 := by kernel_rfl
theorem tab_of {W : World} (h : laidMetH Tryd.prog laid3 W) : TabOk Tryd.prog W := by
  intro g hg
  rw [MakeChecks.laidMetH_plain _ _ _ (by kernel_rfl)] at h
  have h2 := laidMet.tail (laidMet.tail h)
  exact Lib.tabIs_of_head (rest := []) gTab tTab uTab eTab cTab cTab' h2
theorem door_met (os : Os) (args : Array Value) : laidMetH Tryd.prog laid3 ((World.doorLaid Tryd.prog 400 os).forCall (fun _ _ => 0) ⟨#[], args, []⟩).memory :=
  laidMetH_of_parts3 (fuel := 8) (laidMet_of_run' 8 (by kernel_rfl) (by kernel_rfl)) (by kernel_rfl) (by kernel_rfl)
end Go.Pl
namespace Go.Proofs.YtollfgfhepjfkaaDoor
open Go Go.Ev Go.Pl Go.Proofs Go.ChangeShapes Go.WideShapes Go.ChangeAt Go.RowKit
set_option maxRecDepth 100000 in
theorem profileParse_lifted (os : Os) (started : os.Started) (H : Type) (enc : TypeId × Value → H) :
    ReturnsInHanded {} Tryd.checked os 3 .any (fun w args => (Rows.profileParseSpec.pre enc Tryd.prog Tryd.f3 [] false w args ∧ laidMetH Tryd.prog laid3 w) ∧ sizedMet enc Tryd.prog Tryd.f3 (OpenSpec.ofChange Rows.profileParseSpec) false w args)
      (Rows.profileParseSpec.post enc Tryd.prog Tryd.f3 false true false false) := by
  refine returnsInHanded_of_change_and (C := Tryd.checked) (X := fun w _ => laidMetH Tryd.prog laid3 w) (fun _ _ _ hh h => h.of_heap hh) own started (by kernel_rfl) Tryd.func3
    (ChangeSpec.witness_shaped (enc := enc) (C := Tryd.checked) (os := os) (X := fun w _ => laidMetH Tryd.prog laid3 w) false (World.doorLaid Tryd.prog 400 os) #[.slice none 0 0, .slice none 0 0, .bool false, .int .i64 0, .int .u8 0] 8 rfl (World.shaped_of_RefB (by kernel_rfl) (by kernel_rfl)) (by kernel_rfl) (by kernel_rfl) (by kernel_rfl) (door_met os _)) ?_
  intro W base args ds gs before hval hW _ _ hL _
  have hp : Tryd.f3.params.toList = [22, 23, 4, 3, 5] := by kernel_rfl
  refine contract_of (shs := [shBytes, shDb, .bool, shInt, .int .u8]) snd3 (fun _ _ => rfl) (fun ds h => h) ?_ (by kernel_rfl) bool4 laid (tab_of hL) ?_ rfl ?_ base args ds gs before hval hW
  · rw [hp]
    show [argSh Tryd.prog 22, argSh Tryd.prog 23, argSh Tryd.prog 4, argSh Tryd.prog 3, argSh Tryd.prog 5] = _
    rw [arg22, arg23, arg4, arg3, arg5]; rfl
  · rw [hp]
    intro t ht
    have hall : ([22, 23, 4, 3, 5] : List Nat).all (fun t => Tryd.prog.readableRec t && decide (t < Tryd.prog.types.size)) = true := by kernel_rfl
    have := List.all_eq_true.1 hall t ht
    simp only [Bool.and_eq_true, decide_eq_true_eq] at this
    exact this
  · intro ds hl
    rw [hp] at hl
    match ds, hl with
    | [a, b, c, d, e], _ => rfl
theorem profileParse_holds : Rows.ProfileParseSaid :=
  OpenClaim.holds_of_wide 3 Tryd.f3 rfl rfl rfl rfl rfl rfl rfl ⟨rfl, rfl, rfl, rfl, rfl⟩ rfl rfl rfl rfl rfl (by kernel_rfl) Tryd.func3 (by kernel_rfl)
    (of_decide_eq_true (by kernel_rfl)) (by unfold Func.isWrapper; first | (rw [if_pos (by decide +kernel)]; kernel_rfl) | (rw [if_neg (by decide +kernel)]; exact ⟨rfl, rfl⟩))
    (fun os started H enc _ => profileParse_lifted os started H enc)
#print axioms profileParse_holds
theorem profileParse_card_holds : Rows.ProfileParseCardSaid :=
  Claim7.holds_tied_plain_at .later [] [.data, .data, .data] true (true, "79e1aea20ba18bd0f61ffd4574dcf051bc74d5d203402eb87551f47cea7d3d9b") false
    profileParse_holds (fun _ h => by cases h) (by kernel_rfl) (fun _ h => by cases h) profileParse_row_tie rfl ⟨rfl, rfl⟩ (by kernel_rfl) rfl
    (fun f fn hf hfn => by
      obtain rfl : f = 3 := Option.some.inj ((show Tryd.prog.funcNamed "modscan/modscanlaw31.ProfileParse" = some 3 by kernel_rfl).symm.trans hf) |>.symm
      obtain rfl : fn = Tryd.f3 := (Option.some.inj (Tryd.func3.symm.trans hfn)).symm
      exact ⟨by kernel_rfl, fun j t ht => by
        have hm : t ∈ ([22, 23, 4, 3, 5] : List Nat) := by
          have hp : Tryd.f3.params.toList = [22, 23, 4, 3, 5] := by kernel_rfl
          rw [← hp]
          simpa using Array.mem_of_getElem? ht
        have hall : (([22, 23, 4, 3, 5] : List Nat).all fun u => !Tryd.prog.wantsStandIn u) = true := by kernel_rfl
        exact (show Tryd.prog.wantsStandIn t = false by simpa using List.all_eq_true.1 hall t hm)⟩)
    (by kernel_rfl)
#print axioms profileParse_card_holds
end Go.Proofs.YtollfgfhepjfkaaDoor
