/- ProfileValid: for every input, the call returns true, and the argument reads as it did. No conditions. -/
import Derived.Test.YtollfgfhepjfkaaRows
import Derived.Test.YtollfgfhepjfkaaPf
import Derived.Test.YtollfgfhepjfkaaFr
namespace Go.Pl
open Go Go.Ev Go.Proofs

def sp3 : Spc := mkS [shDb] fun _ => .bool true
theorem beqB_self (b : Bool) : beqB b b = true := by cases b <;> rfl
theorem snd3 : Sound Try.prog 3 sp3 := by
  refine snd (f3c sp6 sp7 sp8 sp9) (told1 _ _) Try.func3 (by kernel_rfl) (by kernel_rfl) (calling_cons snd6 (calling_cons snd7 (calling_cons snd8 (calling_cons snd9 (nocall _))))) fun ds h => ⟨1, ?_⟩
  obtain ⟨d, rfl, h0⟩ := one_of h
  obtain ⟨xs, rfl, _, _⟩ := ok_sl h0
  refine (e3 sp6 sp7 sp8 sp9 xs 1).trans ?_
  have q6 : sp6.pre [D.sl 2 xs] = true := h
  have q8 : sp8.pre [D.sl 2 xs] = true := h
  have q9 : sp9.pre [D.sl 2 xs] = true := h
  have q7 : sp7.pre [] = true := rfl
  have v8 : sp8.val [D.sl 2 xs] = D.bool (dbValid (toDb (D.sl 2 xs))) := rfl
  have v9 : sp9.val [D.sl 2 xs] = D.bool (dbValid (toDb (D.sl 2 xs))) := rfl
  have v6 : sp6.val [D.sl 2 xs] = D.bool (dbSmall (toDb (D.sl 2 xs))) := rfl
  have v7 : sp7.val [] = D.bool true := rfl
  rw [q6, q7, q8, q9, v6, v7, v8, v9]
  simp only [D.isB, D.b, Bool.and_self, Bool.true_or, chk_true, cond_true, beqB_self]
  cases dbSmall (toDb (D.sl 2 xs)) <;> rfl

theorem laid : laidOutB Try.prog = true := by kernel_rfl
theorem bool4 : Try.prog.underlying 4 = some .bool := by kernel_rfl
theorem own : ownKnob Try.prog.godebug = none := by kernel_rfl
theorem arg22 : argSh Try.prog 22 = some shDb := by kernel_rfl

end Go.Pl
namespace Go.Proofs.Ytollfgfhepjfkaa
open Go Go.Ev Go.Pl Go.Proofs
set_option maxRecDepth 100000 in
theorem profileValid_lifted (os : Os) (started : os.Started) (H : Type) (enc : TypeId × Value → H) :
    ReturnsInHanded {} Try.checked os 3 .any (Rows.profileValidSpec.pre6 enc Try.prog Try.f3 Rows.profileValidRow.domain false) (Rows.profileValidSpec.post enc Try.prog Try.f3 false true false false) := by
  refine returnsInHanded_of_change (C := Try.checked) own started (by kernel_rfl) Try.func3
    (ChangeSpec.witness6 (enc := enc) (C := Try.checked) false ⟨#[], #[.slice none 0 0], []⟩ 8 (by kernel_rfl) (by kernel_rfl) (by kernel_rfl) (by kernel_rfl)) ?_
  intro W base args ds gs before hval hW _ _
  have hp : Try.f3.params.toList = [22] := by kernel_rfl
  refine contract_of (shs := [shDb]) snd3 (fun _ _ => rfl) (fun ds h => h) ?_ (by kernel_rfl) bool4 laid ?_ rfl ?_ base args ds gs before hval hW
  · rw [hp]
    show [argSh Try.prog 22] = _
    rw [arg22]; rfl
  · rw [hp]
    intro t ht
    rw [List.mem_singleton.1 ht]
    exact ⟨by kernel_rfl, of_decide_eq_true (by kernel_rfl)⟩
  · intro ds hl
    rw [hp] at hl
    obtain ⟨d, rfl⟩ := List.length_eq_one_iff.1 hl
    rfl
theorem profileValid_holds : Rows.ProfileValidSaid :=
  OpenClaim.holds_of_wide 3 Try.f3 rfl rfl rfl rfl rfl rfl rfl ⟨rfl, rfl, rfl, rfl, rfl⟩ rfl rfl rfl rfl rfl (by kernel_rfl) Try.func3 (by kernel_rfl)
    (of_decide_eq_true (by kernel_rfl)) (by unfold Func.isWrapper; first | (rw [if_pos (by decide +kernel)]; kernel_rfl) | (rw [if_neg (by decide +kernel)]; exact ⟨rfl, rfl⟩))
    (fun os started H enc _ => profileValid_lifted os started H enc)
#print axioms profileValid_holds
end Go.Proofs.Ytollfgfhepjfkaa
