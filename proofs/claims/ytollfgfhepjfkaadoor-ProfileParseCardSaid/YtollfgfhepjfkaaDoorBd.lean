/- strings.Builder's methods, as the evaluator sees them: each is its own spec. -/
import Derived.Test.YtollfgfhepjfkaaDoorEv21
import Derived.KernelRfl
import Derived.Laws.Externs
namespace Go.Ev
open Go Go.Proofs
/-- strings.Builder may be turned back from an unsafe pointer; uint8; internal/abi.NoEscape. -/
def xs : List Nat × List Nat × List Nat × List (Nat × Nat) := ([65], [5], [53], [(38, 1)])
theorem xok : XOk Tryd.prog xs := ⟨by kernel_rfl, by kernel_rfl, fun f hf v w => by
  simp only [xs, List.mem_singleton] at hf
  subst hf
  rw [run_callFunc_extern Tryd.func53 (by kernel_rfl) (by kernel_rfl) (by kernel_rfl) (e := Extern.AbiNoEscape.same) (by kernel_rfl), Lib.run_noEscape]
  rfl⟩
/-- .. and what temporary 33 (law ProfileParse) gets are rows of its own. -/
def xs3 : List Nat × List Nat × List Nat × List (Nat × Nat) := ([65], [5], [53], [(38, 1), (1000000033, 0)])
theorem xok3 : XOk Tryd.prog xs3 := ⟨xok.selfs, xok.bts, xok.ext⟩
theorem mixedH : Tryd.prog.follows .mixedOrders = true := by kernel_rfl
theorem tyOkH : typesOk Tryd.prog = true := by kernel_rfl
theorem eqOkH : ([40] : List Nat).all (eqOkP Tryd.prog) = true := by kernel_rfl
theorem setOkH : ([74] : List Nat).all (setOkP Tryd.prog) = true := by kernel_rfl
theorem toldX (calls : List (Nat × Spc)) (hcalls : List (Nat × HSpc)) (a : Ann) : Told Tryd.prog (cfgH Tryd.prog [40] [74] xs calls hcalls a) := toldH xok _ _ _ tyOkH eqOkH setOkH
theorem toldX3 (calls : List (Nat × Spc)) (hcalls : List (Nat × HSpc)) (a : Ann) : Told Tryd.prog (cfgH Tryd.prog [40] [74] xs3 calls hcalls a) := toldH xok3 _ _ _ tyOkH eqOkH setOkH
theorem nocallX (a : Ann) : Calling Tryd.prog (cfgH Tryd.prog [40] [74] xs [] [] a) := callingH_nil (calling_nil _ _ _ _)
/-- (*strings.Builder).copyCheck -/
noncomputable def f35c  : Cfg := cfgH Tryd.prog [40] [74] xs [] [] ⟨20, [0, 6, 19], [], []⟩
noncomputable def hs35 : HSpc := hsOf f35c Tryd.f35
theorem hsnd35 : HSound Tryd.prog 35 hs35 := hsOf_sound mixedH (toldX _ _ _) (nocallX _) Tryd.func35 (c := bodyOf Tryd.f35) (by kernel_rfl) (by kernel_rfl)
/-- (*strings.Builder).WriteString -/
noncomputable def f22c  : Cfg := cfgH Tryd.prog [40] [74] xs [] [(35, hs35)] ⟨19, [0, 1, 4, 5], [], []⟩
noncomputable def hs22 : HSpc := hsOf f22c Tryd.f22
theorem hsnd22 : HSound Tryd.prog 22 hs22 := hsOf_sound mixedH (toldX _ _ _) (callingH_cons hsnd35 (nocallX _)) Tryd.func22 (c := bodyOf Tryd.f22) (by kernel_rfl) (by kernel_rfl)
/-- (*strings.Builder).WriteByte -/
noncomputable def f55c  : Cfg := cfgH Tryd.prog [40] [74] xs [] [(35, hs35)] ⟨17, [0, 1, 4], [], []⟩
noncomputable def hs55 : HSpc := hsOf f55c Tryd.f55
theorem hsnd55 : HSound Tryd.prog 55 hs55 := hsOf_sound mixedH (toldX _ _ _) (callingH_cons hsnd35 (nocallX _)) Tryd.func55 (c := bodyOf Tryd.f55) (by kernel_rfl) (by kernel_rfl)
/-- (*strings.Builder).String -/
noncomputable def f24c  : Cfg := cfgH Tryd.prog [40] [74] xs [] [] ⟨14, [0, 2], [], []⟩
noncomputable def hs24 : HSpc := hsOf f24c Tryd.f24
theorem hsnd24 : HSound Tryd.prog 24 hs24 := hsOf_sound mixedH (toldX _ _ _) (nocallX _) Tryd.func24 (c := bodyOf Tryd.f24) (by kernel_rfl) (by kernel_rfl)


end Go.Ev
