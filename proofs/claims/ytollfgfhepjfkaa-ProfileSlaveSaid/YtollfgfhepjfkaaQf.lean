/- Slaves (continued): what is known of a valid one. -/
import Derived.Test.YtollfgfhepjfkaaQc
namespace Go.Pl
open Go Go.Ev Go.Proofs

theorem getS_val {p : List D → Bool} {C : Cfg} {fuel : Nat} {fn : Func} {ds : List D} {b : Bool} (h : evF C std fuel fn ds = some (.bool b)) : (getS p C fuel fn).val ds = .bool b := by
  show (evF C std fuel fn ds).getD .undef = _
  rw [h]; rfl
theorem q11 {s : Slave} (hs : s.ok) (m : Nat) (hm : 9223372036854775807 < m) : Qs s (evF (f11c sp24 sp25 sp26 sp27) std (m + 1 + 1 + 1 + 1 + 1) Try.f11 [s.d]) := by
  have he := e11 sp24 sp25 sp26 sp27 s.baud s.parity s.unit s.t0.sup (s.t0.rd.map Rng.d) s.t0.most s.t1.sup (s.t1.rd.map Rng.d) s.t1.most s.t2.sup (s.t2.rd.map Rng.d) s.t2.most s.t3.sup (s.t3.rd.map Rng.d) s.t3.most s.level (s.objects.map Obj.d) s.has s.server (m + 1 + 1 + 1 + 1 + 1)
  have he : evF (f11c sp24 sp25 sp26 sp27) std (m + 1 + 1 + 1 + 1 + 1) Try.f11 [s.d] = _ := he
  rw [he]
  obtain ⟨_, b, hb⟩ := getS_sp (p := okZip [shRng]) (tot24 s.baud s.parity)
  have hb : sp24.val [D.agg [D.int .i64 s.baud, D.int .i64 s.parity]] = D.bool b := hb
  rw [pre24 hs.baud hs.parity, hb, isB_, b_]
  simp only [Bool.and_self, chk_true, cond_or]
  cases h1 : (!b || decide (s.unit < 1) || decide (247 < s.unit) || decide (s.level < 0) || decide (3 < s.level))
  case true => exact Qs.no s
  simp only [Bool.or_eq_false_iff, decide_eq_false_iff_not] at h1
  have hlv : 0 ≤ s.level := by omega
  simp only [cond_false]
  rw [f11l4_0]
  refine tstep s hs.t0 1 2000 rfl rfl _ fun f0 => ?_
  rw [f11l4_1]
  refine tstep s hs.t1 2 2000 rfl rfl _ fun f1 => ?_
  rw [f11l4_2]
  refine tstep s hs.t2 3 125 rfl rfl _ fun f2 => ?_
  rw [f11l4_3]
  refine tstep s hs.t3 4 125 rfl rfl _ fun f3 => ?_
  rw [f11l4_4]
  simp only [cond_or, cond_and]
  cases h2 : (decide (s.level = 0) && !decide ((((s.objects.map Obj.d).length : Nat) : Int) = 0) || !beqB s.has (decide ((0 : Int) < ((s.server.length : Nat) : Int))) || decide ((64 : Int) < ((s.server.length : Nat) : Int)))
  case true => exact Qs.no s
  simp only [Bool.or_eq_false_iff, Bool.and_eq_false_iff, Bool.not_eq_false', decide_eq_true_eq, decide_eq_false_iff_not] at h2
  obtain ⟨⟨g1, g2⟩, _⟩ := h2
  have hhas : s.has = decide (0 < s.server.length) := by
    have e1 : decide ((0 : Int) < ((s.server.length : Nat) : Int)) = decide (0 < s.server.length) := decide_eq_decide.2 (by omega)
    rw [e1] at g2
    revert g2
    cases s.has <;> cases decide (0 < s.server.length) <;> simp [beqB]
  simp only [cond_false]
  have hF : (¬ 0 < s.level → s.objects = []) → SFacts s := fun h => ⟨f0, f1, f2, f3, h, hlv, hhas⟩
  by_cases h0 : s.level = 0
  · rw [decide_eq_true h0]
    refine ⟨true, rfl, fun _ => hF fun _ => ?_⟩
    rcases g1 with g1 | g1
    · exact absurd h0 g1
    · exact List.eq_nil_of_length_eq_zero (by simpa using g1)
  · rw [decide_eq_false h0]
    simp only [cond_false]
    have hT : ∀ o : Option D, Tot o → Qs s o := fun o ⟨b, hb⟩ => ⟨b, hb, fun _ => hF fun h => by omega⟩
    refine hT _ ?_
    obtain ⟨_, b2, hb2⟩ := getS_sp (p := okZip [shObjs]) (tot27 hs.olen)
    have hb2 : sp27.val [D.sl 2 (s.objects.map Obj.d)] = D.bool b2 := hb2
    rw [pre27 hs.osh, hb2, isB_, b_]
    simp only [Bool.and_self, Bool.true_or, chk_true, List.length_map]
    by_cases hl3 : s.objects.length < 3
    · have e1 : decide (((s.objects.length : Nat) : Int) < 3) = true := decide_eq_true (by omega)
      rw [e1]
      simp only [oneG, Bool.or_true, Bool.not_true, Bool.not_false, cond_true, cond_false, chk_true, Bool.true_or]
      exact ⟨false, rfl⟩
    · have e1 : decide ((2 : Int) < ((s.objects.length : Nat) : Int)) = true := decide_eq_true (by omega)
      obtain ⟨o2, _, ho2⟩ := nth_get (f := Obj.d) (l := s.objects) (i := 2) (by omega)
      have hol := hs.olen
      have hw : IntKind.wrap IntKind.i64 (((s.objects.length : Nat) : Int) - 1) = (((s.objects.length - 1 : Nat)) : Int) := by rw [wrap_in (by omega) (by omega)]; omega
      obtain ⟨oz, _, hoz⟩ := nth_get (f := Obj.d) (l := s.objects) (i := s.objects.length - 1) (by omega)
      have e2 : decide ((((s.objects.length - 1 : Nat)) : Int) < ((s.objects.length : Nat) : Int)) = true := decide_eq_true (by omega)
      rw [e1, ho2, o0, isI_, hw, Int.toNat_natCast, hoz, o0, isI_, ge0, e2]
      simp only [Bool.and_self, Bool.true_or, chk_true]
      cases (decide ((16 : Int) < ((s.objects.length : Nat) : Int)) || !b2 || decide (((s.objects.length : Nat) : Int) < 3) || !decide (D.i (D.int IntKind.i64 o2.id) = 2))
      case true => exact ⟨false, rfl⟩
      simp only [cond_false]
      cases (decide (s.level = 1) && decide ((2 : Int) < D.i (D.int IntKind.i64 oz.id)) || decide (s.level = 2) && decide ((127 : Int) < D.i (D.int IntKind.i64 oz.id)))
      case true => exact ⟨false, rfl⟩
      have := tot21 (m + 1 + 1 + 1 + 1 + 1) sp24 sp25 sp26 sp27 s s.objects [] (m + 1 + 1 + 1 + 1 + 1) rfl hs.olen (by have := hs.olen; omega)
      exact this
noncomputable def sp11 : Spc := getS (okZip [shSlave]) (f11c sp24 sp25 sp26 sp27) (9223372036854775808 + 1 + 1 + 1 + 1 + 1) Try.f11
theorem snd11 : Sound Try.prog 11 sp11 := by
  refine snd (f11c sp24 sp25 sp26 sp27) (told1 _ _) Try.func11 (by kernel_rfl) (by kernel_rfl) (calling_cons snd24 (calling_cons snd25 (calling_cons snd26 (calling_cons snd27 (nocall _))))) fun ds h => ⟨9223372036854775808 + 1 + 1 + 1 + 1 + 1, ?_⟩
  obtain ⟨d, rfl, h1⟩ := one_of h
  obtain ⟨s, rfl, hs⟩ := slave_of h1
  obtain ⟨b, hb, _⟩ := q11 hs 9223372036854775808 (by omega)
  have hT : Tot (evF (f11c sp24 sp25 sp26 sp27) std (9223372036854775808 + 1 + 1 + 1 + 1 + 1) Try.f11 [s.d]) := ⟨b, hb⟩
  have h2 := getS_sp (p := okZip [shSlave]) hT
  exact h2.1
theorem val11 {s : Slave} (hs : s.ok) : ∃ b, sp11.val [s.d] = D.bool b ∧ (b = true → SFacts s) := by
  obtain ⟨b, hb, hf⟩ := q11 hs 9223372036854775808 (by omega)
  have h2 := getS_val (p := okZip [shSlave]) hb
  exact ⟨b, h2, hf⟩

end Go.Pl
