/- Awake answers true: the evaluator is run at its closed data. -/
import Derived.Test.YtollfgfhepjfkaaPe
import Derived.Test.YtollfgfhepjfkaaPb2
namespace Go.Pl
open Go Go.Ev Go.Proofs

/-- what the evaluator says, as a spec. -/
noncomputable def evS (C : Cfg) (fuel : Nat) (fn : Func) : Spc := ⟨fun ds => (evF C std fuel fn ds).isSome, fun ds => (evF C std fuel fn ds).getD .undef⟩
theorem evS_val {C : Cfg} {fuel : Nat} {fn : Func} {ds : List D} (h : (evS C fuel fn).pre ds = true) : evF C std fuel fn ds = some ((evS C fuel fn).val ds) := by
  obtain ⟨d, hd⟩ := Option.isSome_iff_exists.1 h
  show _ = some ((evF C std fuel fn ds).getD .undef)
  rw [hd]; rfl
theorem sndE (C : Cfg) (fuel : Nat) (hT : Go.Ev.Told Try.prog C) {f : Nat} {fn : Func} (hf : Try.prog.funcs[f]? = some fn) (hb : fn.body = some (bodyOf fn)) (hn : (fn.name == "runtime.NumGoroutine") = false)
    (hC : Go.Ev.Calling Try.prog C) : Sound Try.prog f (evS C fuel fn) := snd C hT hf hb hn hC fun _ h => ⟨fuel, evS_val h⟩

noncomputable def es20 : Spc := sp20
noncomputable def es30 : Spc := evS (f30c sp35) 50 Try.f30
noncomputable def es29 : Spc := evS (f29c es30) 50 Try.f29
noncomputable def es38 : Spc := evS (f38c sp20) 50 Try.f38
noncomputable def es31 : Spc := evS (f31c es38) 50 Try.f31
noncomputable def es13 : Spc := evS (f13c sp21 es29 es30 es31) 50 Try.f13
noncomputable def es18 : Spc := evS (f18c sp8 es13) 50 Try.f18
theorem sndE30 : Sound Try.prog 30 es30 := sndE (f30c sp35) 50 (told1 _ _) Try.func30 (by kernel_rfl) (by kernel_rfl) (calling_cons snd35 (nocall _))
theorem sndE29 : Sound Try.prog 29 es29 := sndE (f29c es30) 50 (told1 _ _) Try.func29 (by kernel_rfl) (by kernel_rfl) (calling_cons sndE30 (nocall _))
theorem sndE38 : Sound Try.prog 38 es38 := sndE (f38c sp20) 50 (told1 _ _) Try.func38 (by kernel_rfl) (by kernel_rfl) (calling_cons snd20 (nocall _))
theorem sndE31 : Sound Try.prog 31 es31 := sndE (f31c es38) 50 (told1 _ _) Try.func31 (by kernel_rfl) (by kernel_rfl) (calling_cons sndE38 (nocall _))
theorem sndE13 : Sound Try.prog 13 es13 := sndE (f13c sp21 es29 es30 es31) 50 (told1 _ _) Try.func13 (by kernel_rfl) (by kernel_rfl) (calling_cons snd21 (calling_cons sndE29 (calling_cons sndE30 (calling_cons sndE31 (nocall _)))))
theorem sndE18 : Sound Try.prog 18 es18 := sndE (f18c sp8 es13) 50 (told1 _ _) Try.func18 (by kernel_rfl) (by kernel_rfl) (calling_cons snd8 (calling_cons sndE13 (nocall _)))
def sp7 : Spc := mkS [] fun _ => .bool true
theorem awake : evF (f7c es18 sp8) std 50 Try.f7 [] = some (.bool true) := by kernel_rfl
theorem snd7 : Sound Try.prog 7 sp7 := by
  refine snd (f7c es18 sp8) (told1 _ _) Try.func7 (by kernel_rfl) (by kernel_rfl) (calling_cons sndE18 (calling_cons snd8 (nocall _))) fun ds h => ⟨50, ?_⟩
  have := zip_nil h; subst this
  exact awake

end Go.Pl
