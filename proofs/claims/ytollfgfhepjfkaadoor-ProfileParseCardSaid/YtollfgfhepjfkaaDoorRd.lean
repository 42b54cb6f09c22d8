/- profile.reader's methods, as the evaluator sees them: each is its own spec; what they call is a parameter. -/
import Derived.Test.YtollfgfhepjfkaaDoorBd
import Derived.Test.YtollfgfhepjfkaaDoorEv22
namespace Go.Ev
open Go Go.Proofs
/-- (*modscan/profile.reader).next -/
noncomputable def f50c  : Cfg := cfgH Tryd.prog [40] [74] xs [] [] ⟨28, [0, 2, 3, 9], [], []⟩
noncomputable def hs50 : HSpc := hsOf f50c Tryd.f50
theorem hsnd50 : HSound Tryd.prog 50 hs50 := hsOf_sound mixedH (toldX _ _ _) (nocallX _) Tryd.func50 (c := bodyOf Tryd.f50) (by kernel_rfl) (by kernel_rfl)
/-- (*modscan/profile.reader).number -/
noncomputable def f51c (s61 : Spc) : Cfg := cfgH Tryd.prog [40] [74] xs [(61, s61)] [(50, hs50)] ⟨23, [0, 2, 3, 4], [], []⟩
noncomputable def hs51 (s61 : Spc) : HSpc := hsOf (f51c s61) Tryd.f51
theorem hsnd51 {s61 : Spc} (h61 : Sound Tryd.prog 61 s61) : HSound Tryd.prog 51 (hs51 s61) := hsOf_sound mixedH (toldX _ _ _) (callingH_cons hsnd50 (callingH_nil (calling_cons h61 (calling_nil _ _ _ _)))) Tryd.func51 (c := bodyOf Tryd.f51) (by kernel_rfl) (by kernel_rfl)
/-- (*modscan/profile.reader).value -/
noncomputable def f52c (s60 : Spc) : Cfg := cfgH Tryd.prog [40] [74] xs [(60, s60)] [(50, hs50)] ⟨23, [0, 2, 3, 4], [], []⟩
noncomputable def hs52 (s60 : Spc) : HSpc := hsOf (f52c s60) Tryd.f52
theorem hsnd52 {s60 : Spc} (h60 : Sound Tryd.prog 60 s60) : HSound Tryd.prog 52 (hs52 s60) := hsOf_sound mixedH (toldX _ _ _) (callingH_cons hsnd50 (callingH_nil (calling_cons h60 (calling_nil _ _ _ _)))) Tryd.func52 (c := bodyOf Tryd.f52) (by kernel_rfl) (by kernel_rfl)
/-- rows of ints that a recursion makes: modscanref02.digits -/
def hs46 (p46 : Int → Int → Bool) (v46 : Int → Int → List D) : HSpc := fun ts ob => match ts, ob with
  | [.d (.int .i64 n), .d (.int .i64 b)], [] => .chk (p46 n b) (.ret (.vec 0) [(0, .vec 3 1 (v46 n b))])
  | _, _ => .fail
noncomputable def f46c (p46 : Int → Int → Bool) (v46 : Int → Int → List D) : Cfg := cfgH Tryd.prog [40] [74] xs [] [(46, hs46 p46 v46)] ⟨20, [0, 1, 4, 7], [], []⟩
theorem hsnd46' {p46 : Int → Int → Bool} {v46 : Int → Int → List D} (h46 : HSound Tryd.prog 46 (hs46 p46 v46)) : HSound Tryd.prog 46 (hsOf (f46c p46 v46) Tryd.f46) := hsOf_sound mixedH (toldX _ _ _) (callingH_cons h46 (nocallX _)) Tryd.func46 (c := bodyOf Tryd.f46) (by kernel_rfl) (by kernel_rfl)
theorem h46 (p46 : Int → Int → Bool) (v46 : Int → Int → List D) (n b : Int) : hsOf (f46c p46 v46) Tryd.f46 [.d (.int .i64 n), .d (.int .i64 b)] [] = (.chk true (.chk true (.chk true (.chk true (.ite (decide (n < b)) (.chk true (.chk true (.chk true (.ret (T.vec 0) [(0, (Ob.vec 3 1 [(D.int IntKind.i64 n)]))])))) (.chk true (.chk true (.chk (!(decide (b = (0 : Int)))) (.chk true (.chk (p46 (IntKind.wrap IntKind.i64 (Int.tdiv n b)) b) (.chk true (.chk true (.chk (!(decide (b = (0 : Int)))) (.chk true (.chk (decide (((List.length (v46 (IntKind.wrap IntKind.i64 (Int.tdiv n b)) b)) + 1) ≤ 4294967296)) (.chk true (.ret (T.vec 0) [(0, (Ob.vec 3 1 ((v46 (IntKind.wrap IntKind.i64 (Int.tdiv n b)) b) ++ [(D.int IntKind.i64 (Int.tmod n b))])))]))))))))))))))))) := by kernel_rfl

/-- a number's digits, of base b, at most f. -/
def dg (b : Int) : Nat → Int → List D
  | 0, _ => []
  | f + 1, n => bif decide (n < b) then [.int .i64 n] else dg b f (n.tdiv b) ++ [.int .i64 (n.tmod b)]
theorem dg_length (b : Int) : ∀ f n, (dg b f n).length ≤ f
  | 0, n => by simp [dg]
  | f + 1, n => by
    simp only [dg]
    cases decide (n < b) with
    | true => simp
    | false => simp; exact dg_length b f _
/-- where a number has at most f digits. -/
def pd (f : Nat) (n b : Int) : Bool := decide (2 ≤ b) && decide (b ≤ 16) && decide (0 ≤ n) && decide (n < 4294967296) && decide (n < b ^ f) && decide (1 ≤ f) && decide (f ≤ 64)
theorem hsnd46 : ∀ f, HSound Tryd.prog 46 (hs46 (pd f) (fun n b => dg b f n))
  | 0 => ⟨⟨Tryd.f46, Tryd.func46, by kernel_rfl, by kernel_rfl⟩, fun b S E ob ts vs t obr hH hv hl => by
    exfalso
    unfold hs46 at hl
    split at hl
    · simp [pd, HTree.leaf] at hl
    · simp [HTree.leaf] at hl⟩
  | f + 1 => by
    refine (hsnd46' (hsnd46 f)).weak fun ts ob r hl => ?_
    unfold hs46 at hl
    split at hl
    · rename_i n b
      simp only [HTree.leaf] at hl
      cases hp : pd (f + 1) n b with
      | false => rw [hp] at hl; simp at hl
      | true =>
        rw [hp] at hl
        simp only at hl
        simp only [pd, Bool.and_eq_true, decide_eq_true_eq] at hp
        obtain ⟨⟨⟨⟨⟨⟨h2, h16⟩, h0⟩, h32⟩, hlt⟩, h1⟩, hf⟩ := hp
        rw [h46, ← hl]
        simp only [HTree.leaf, dg]
        by_cases hn : n < b
        · simp [hn, HTree.leaf]
        · have hb0 : ¬ b = 0 := by omega
          have hq0 : 0 ≤ n.tdiv b := Int.tdiv_nonneg h0 (by omega)
          have hqe : n.tdiv b = n / b := Int.tdiv_eq_ediv_of_nonneg h0
          have hql : n.tdiv b ≤ n := by rw [hqe]; exact Int.ediv_le_self b h0
          have hw : IntKind.wrap .i64 (n.tdiv b) = n.tdiv b := by
            simp only [IntKind.wrap, IntKind.bits, IntKind.signed]
            simp
            omega
          have hpow : n / b < b ^ f := by
            rw [Int.pow_succ] at hlt
            exact Int.ediv_lt_of_lt_mul (by omega) hlt
          have hf1 : 1 ≤ f := by
            rcases Nat.eq_zero_or_pos f with h | h
            · subst h; rw [Int.pow_succ, Int.pow_zero] at hlt; omega
            · exact h
          have hp' : pd f (n.tdiv b) b = true := by
            simp only [pd, Bool.and_eq_true, decide_eq_true_eq]
            refine ⟨⟨⟨⟨⟨⟨h2, h16⟩, hq0⟩, by omega⟩, by rw [hqe]; exact hpow⟩, hf1⟩, by omega⟩
          have hlen := dg_length b f (n.tdiv b)
          have hle : (dg b f (n.tdiv b)).length + 1 ≤ 4294967296 := by omega
          simp [hn, hb0, hw, hp', hle, HTree.leaf]
    · simp [HTree.leaf] at hl
/-- modscanref02.digits, up to 32 bits. -/
def sp46 : Spc where
  pre ds := match ds with | [.int .i64 n, .int .i64 b] => pd 33 n b | _ => false
  val ds := match ds with | [.int .i64 n, .int .i64 b] => .sl 1 (dg b 33 n) | _ => .undef
theorem snd46 : Sound Tryd.prog 46 sp46 := sound_ofH (hsnd46 33) fun ds hp => by
  unfold sp46 at hp ⊢
  simp only at hp ⊢
  split at hp
  · exact ⟨0, 3, 1, _, by simp [hs46, HTree.leaf, hp], rfl⟩
  · cases hp
end Go.Ev
