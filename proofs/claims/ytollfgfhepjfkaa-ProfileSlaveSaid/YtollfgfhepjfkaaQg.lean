/- Slaves (continued): whether they are small. -/
import Derived.Test.YtollfgfhepjfkaaQc
namespace Go.Pl
open Go Go.Ev Go.Proofs

/-! ### small slaves -/
noncomputable def sp10 : Spc := getS (fun ds => okZip [.sl 19 shSlave, .num .i64] ds && decide ((nth ds 0).l.length = 1)) (f10c sp23) 6 Try.f10
theorem pre23 {l : List Obj} (h : okS shObjs (.sl 2 (l.map Obj.d)) = true) : sp23.pre [D.sl 2 (l.map Obj.d)] = true := by
  show okZip [shObjs] _ = true
  simp only [okZip, h, Bool.and_self]
theorem val23 (l : List Obj) : sp23.val [D.sl 2 (l.map Obj.d)] = D.bool (objsSmall l) := by
  show D.bool (objsSmall ((l.map Obj.d).map toO)) = _
  rw [map_toO]
theorem l7 {c1 c2 c3 c4 c5 c6 e : Bool} {X Y : Option D} (h1 : c1 = true) (h2 : c2 = true) (h3 : c3 = true) (h4 : c4 = true) (h5 : c5 = true) (h6 : c6 = true) (hX : Tot X) :
    Tot (bif c1 then chk (c2 && c3) (chk (c4 && c5) (chk c6 (bif e then some (D.bool false) else X))) else Y) := by
  subst h1; subst h2; subst h3; subst h4; subst h5; subst h6
  cases e
  · exact hX
  · exact ⟨false, rfl⟩
theorem l7e {c : Bool} {X Y : Option D} (h : c = false) (hX : Tot X) : Tot (bif c then Y else X) := by
  subst h; exact hX
theorem tot10 {s : Slave} (hs : s.ok) (n : Int) : Tot (evF (f10c sp23) std 6 Try.f10 [D.sl 19 [s.d], D.int .i64 n]) := by
  have he := e10 sp23 [s.d] n 6
  rw [he, f10l2]
  have q0 : decide ((0 : Int) < 4) = true := rfl
  have q1 : decide ((0 : Int) < ((4 : Nat) : Int)) = true := rfl
  have q2 : decide ((1 : Int) < 4) = true := rfl
  have q3 : decide ((0 : Int) ≤ 1) = true := rfl
  have q4 : decide ((1 : Int) < ((4 : Nat) : Int)) = true := rfl
  have q5 : decide ((2 : Int) < 4) = true := rfl
  have q6 : decide ((0 : Int) ≤ 2) = true := rfl
  have q7 : decide ((2 : Int) < ((4 : Nat) : Int)) = true := rfl
  have q8 : decide ((3 : Int) < 4) = true := rfl
  have q9 : decide ((0 : Int) ≤ 3) = true := rfl
  have q10 : decide ((3 : Int) < ((4 : Nat) : Int)) = true := rfl
  have q11 : decide ((4 : Int) < 4) = false := rfl
  have z : Int.toNat 0 = 0 := rfl
  have w1 : IntKind.wrap IntKind.i64 ((0 : Int) + 1) = 1 := rfl
  have w2 : IntKind.wrap IntKind.i64 ((1 : Int) + 1) = 2 := rfl
  have w3 : IntKind.wrap IntKind.i64 ((2 : Int) + 1) = 3 := rfl
  have w4 : IntKind.wrap IntKind.i64 ((3 : Int) + 1) = 4 := rfl
  have n0 : nth [s.d] (Int.toNat 0) = s.d := rfl
  have c16 : nth (D.cells s.d) 16 = D.sl 2 (s.objects.map Obj.d) := rfl
  have c18 : nth (D.cells s.d) 18 = D.sl 1 s.server := rfl
  have k0 : nth (D.cells s.d) (3 + Int.toNat 0 * 3 + 1) = D.sl 2 (s.t0.rd.map Rng.d) := rfl
  have k1 : nth (D.cells s.d) (3 + Int.toNat 1 * 3 + 1) = D.sl 2 (s.t1.rd.map Rng.d) := rfl
  have k2 : nth (D.cells s.d) (3 + Int.toNat 2 * 3 + 1) = D.sl 2 (s.t2.rd.map Rng.d) := rfl
  have k3 : nth (D.cells s.d) (3 + Int.toNat 3 * 3 + 1) = D.sl 2 (s.t3.rd.map Rng.d) := rfl
  have b22 : Nat.beq 2 2 = true := rfl
  have dd : decide ((0 : Int) < ((([s.d].length : Nat)) : Int)) = true := rfl
  have d0 : decide ((0 : Int) ≤ 0) = true := rfl
  rw [dd, d0, n0, c16, c18, isL_, isL_, dl, dl, b22, b11, pre23 hs.osh, val23, isB_, b_]
  simp only [Bool.and_self, Bool.true_or, cond_true, chk_true]
  cases (bif !objsSmall s.objects then true else decide ((80 : Int) < ((s.server.length : Nat) : Int)))
  case true => exact ⟨false, rfl⟩
  simp only [cond_false]
  rw [f10l7, n0, k0, isL_, dl, w1]
  refine l7 rfl rfl rfl rfl rfl rfl ?_
  rw [f10l7, n0, k1, isL_, dl, w2]
  refine l7 rfl rfl rfl rfl rfl rfl ?_
  rw [f10l7, n0, k2, isL_, dl, w3]
  refine l7 rfl rfl rfl rfl rfl rfl ?_
  rw [f10l7, n0, k3, isL_, dl, w4]
  refine l7 rfl rfl rfl rfl rfl rfl ?_
  rw [f10l7]
  refine l7e rfl ?_
  rw [w1, f10l2]
  exact l7e rfl ⟨_, rfl⟩
theorem snd10 : Sound Try.prog 10 sp10 := by
  refine snd (f10c sp23) (told1 _ _) Try.func10 (by kernel_rfl) (by kernel_rfl) (calling_cons snd23 (nocall _)) fun ds h => ⟨6, ?_⟩
  have h : (okZip [.sl 19 shSlave, .num .i64] ds && decide ((nth ds 0).l.length = 1)) = true := h
  simp only [Bool.and_eq_true, decide_eq_true_eq] at h
  obtain ⟨h1, h2⟩ := h
  obtain ⟨x, y, rfl, q1, q2⟩ := two_of h1
  obtain ⟨xs, rfl, _, hx⟩ := ok_sl q1
  obtain ⟨n, rfl⟩ := ok_num q2
  have h2 : xs.length = 1 := h2
  obtain ⟨z, rfl⟩ := List.length_eq_one_iff.1 h2
  obtain ⟨s, rfl, hs⟩ := slave_of (okAll_mem hx z (by simp))
  exact (getS_sp (tot10 hs n)).1

end Go.Pl
