/- What the small functions of the profile package and of its reference return. -/
import Derived.Test.YtollfgfhepjfkaaDoorPa
import Derived.Test.YtollfgfhepjfkaaDoorPb
namespace Go.Pl
open Go Go.Ev Go.Proofs

theorem mixed : Tryd.prog.follows .mixedOrders = true := by kernel_rfl
theorem tyOk : typesOk Tryd.prog = true := by kernel_rfl
theorem eqOk : ([40] : List Nat).all (eqOkP Tryd.prog) = true := by kernel_rfl
theorem setOk : ([74] : List Nat).all (setOkP Tryd.prog) = true := by kernel_rfl
theorem told1 (calls : List (Nat × Spc)) (a : Ann) : Go.Ev.Told Tryd.prog (cfg Tryd.prog [40] [74] calls a) := told _ _ _ _ _ tyOk eqOk setOk
theorem nocall (a : Ann) : Go.Ev.Calling Tryd.prog (cfg Tryd.prog [40] [74] [] a) := calling_nil _ _ _ _

theorem snd (C : Cfg) (hT : Go.Ev.Told Tryd.prog C) {f : Nat} {fn : Func} {sp : Spc} (hf : Tryd.prog.funcs[f]? = some fn) (hb : fn.body = some (bodyOf fn)) (hn : (fn.name == "runtime.NumGoroutine") = false)
    (hC : Go.Ev.Calling Tryd.prog C) (hsp : ∀ ds, sp.pre ds = true → ∃ fuel, evF C std fuel fn ds = some (sp.val ds)) : Sound Tryd.prog f sp :=
  fun_sound mixed hT hC hf hb hn hsp

/-! within, isTable -/
def sp29 : Spc := mkS [.num .i64, .num .i64, .num .i64] fun ds => .bool (decide ((nth ds 1).i ≤ (nth ds 0).i) && decide ((nth ds 0).i ≤ (nth ds 2).i))
theorem snd29 : Sound Tryd.prog 29 sp29 := by
  refine snd (f29c) (told1 _ _) Tryd.func29 (by kernel_rfl) (by kernel_rfl) (nocall _) fun ds h => ⟨1, ?_⟩
  obtain ⟨d, e, x, rfl, h1, h2, h3⟩ := three_of h
  obtain ⟨a, rfl⟩ := ok_num h1
  obtain ⟨b, rfl⟩ := ok_num h2
  obtain ⟨c, rfl⟩ := ok_num h3
  refine (e29 a b c 1).trans ?_
  simp only [sp29, mkS, nth, D.i, cond_and]
  rfl
def sp44 : Spc := mkS [.num .i64] fun ds => .bool (decide (1 ≤ (nth ds 0).i) && decide ((nth ds 0).i ≤ 4))
theorem snd44 : Sound Tryd.prog 44 sp44 := by
  refine snd (f44c sp29) (told1 _ _) Tryd.func44 (by kernel_rfl) (by kernel_rfl) (calling_cons snd29 (nocall _)) fun ds h => ⟨1, ?_⟩
  obtain ⟨d, rfl, h1⟩ := one_of h
  obtain ⟨a, rfl⟩ := ok_num h1
  exact e44 sp29 a 1
def sp26 : Spc := mkS [.agg [shInt, shInt]] fun ds => .bool (decide (0 ≤ (nth (nth ds 0).cells 0).i) && decide (1 ≤ (nth (nth ds 0).cells 1).i) && decide ((nth (nth ds 0).cells 0).i + (nth (nth ds 0).cells 1).i ≤ 65536))
theorem snd26 : Sound Tryd.prog 26 sp26 := by
  refine snd (f26c) (told1 _ _) Tryd.func26 (by kernel_rfl) (by kernel_rfl) (nocall _) fun ds h => ⟨1, ?_⟩
  obtain ⟨d, rfl, h0⟩ := one_of h
  obtain ⟨cs, rfl, h5⟩ := ok_agg h0
  obtain ⟨x, y, rfl, h1, h2⟩ := two_of h5
  obtain ⟨a, rfl, ha⟩ := ok_int h1
  obtain ⟨b, rfl, hb⟩ := ok_int h2
  refine (e26 a b 1).trans ?_
  simp only [sp26, mkS, nth, D.cells, D.i]
  have ha := inR64 ha
  have hb := inR64 hb
  by_cases q1 : 0 ≤ a
  · by_cases q2 : a < 65536
    · rw [wrap_in (by omega) (by omega)]
      refine congrArg some (congrArg D.bool ?_)
      rw [Bool.eq_iff_iff]
      simp
      omega
    · have : ¬ (1 ≤ b ∧ a + b ≤ 65536) := by omega
      refine congrArg some (congrArg D.bool ?_)
      rw [Bool.eq_iff_iff]
      simp
      omega
  · congr 2
    rw [Bool.eq_iff_iff]
    simp
    omega
theorem allU8_of {xs : List D} (h : okAll (.int .u8) xs = true) : allU8 xs = true := by
  induction xs with
  | nil => rfl
  | cons x r ih =>
    simp only [okAll, Bool.and_eq_true] at h
    obtain ⟨n, rfl, _⟩ := ok_int h.1
    exact ih h.2
def sp43 : Spc := mkS [shBytes, shBytes] fun ds => .bool (decide (bytesOf (nth ds 0).l = bytesOf (nth ds 1).l))
theorem snd43 : Sound Tryd.prog 43 sp43 := by
  refine snd (f43c) (told1 _ _) Tryd.func43 (by kernel_rfl) (by kernel_rfl) (nocall _) fun ds h => ⟨1, ?_⟩
  obtain ⟨d, e, rfl, h1, h2⟩ := two_of h
  obtain ⟨x, rfl, _, hx⟩ := ok_sl h1
  obtain ⟨y, rfl, _, hy⟩ := ok_sl h2
  refine (e43 x y 1).trans ?_
  rw [allU8_of hx, allU8_of hy]
  rfl

/-! names -/
def low (c : UInt8) : Bool := decide (97 ≤ c.toNat) && decide (c.toNat ≤ 122)
def chr (c : UInt8) : Bool := low c || (decide (48 ≤ c.toNat) && decide (c.toNat ≤ 57)) || decide (c.toNat = 45)
def nameOk : List UInt8 → Bool
  | [] => false
  | c :: r => low c && r.all chr && decide (r.length < 32)
def sp28 : Spc := mkS [.str] fun ds => .bool (nameOk (nth ds 0).s)
theorem l19 (k : Nat) : ∀ (r pre : List UInt8) (n : Nat), (pre ++ r).length ≤ 9223372036854775807 → r.length < n → f28L4 k n (f28s4 (pre ++ r) (((pre ++ r).length : Nat) : Int) ((pre.length : Nat) : Int)) = some (.bool (r.all chr))
  | r, pre, 0, _, h => by omega
  | [], pre, n + 1, _, _ => by
    rw [f28l4, ltS_end]; rfl
  | c :: r, pre, n + 1, hl, h => by
    rw [f28l4, ltS_mid, ge0, getD_mid]
    simp only [Bool.true_and, cond_true, chk_true]
    have e : pre ++ c :: r = (pre ++ [c]) ++ r := by simp
    have hl' : pre.length < 9223372036854775807 := by simp at hl; omega
    rw [wrap_add1 hl', e, show pre.length + 1 = (pre ++ [c]).length by simp, l19 k r (pre ++ [c]) n (by simpa using hl) (by simpa using h), ite_some]
    refine congrArg some (congrArg D.bool ?_)
    simp only [List.all_cons]
    cases r.all chr
    · simp
    · rw [Bool.eq_iff_iff]
      simp [chr, low]
      omega
theorem snd28 : Sound Tryd.prog 28 sp28 := by
  refine snd (f28c) (told1 _ _) Tryd.func28 (by kernel_rfl) (by kernel_rfl) (nocall _) fun ds h => ?_
  obtain ⟨d, rfl, h1⟩ := one_of h
  obtain ⟨l, rfl, hl⟩ := ok_str h1
  refine ⟨l.length + 1, (e28 l (l.length + 1)).trans ?_⟩
  have hl := len_lt hl
  cases l with
  | nil => rfl
  | cons c r =>
    have := l19 ((c :: r).length + 1) (c :: r) [] ((c :: r).length + 1) hl (by simp)
    simp only [List.nil_append, List.length_nil] at this
    rw [show ((0 : Nat) : Int) = (0 : Int) from rfl] at this
    rw [this]
    simp only [sp28, mkS, nth, D.s, nameOk]
    have e1 : decide ((0 : Int) < ((((c :: r).length : Nat)) : Int)) = true := by simp
    rw [e1]
    simp only [Bool.true_or, chk_true, ite_some]
    refine congrArg some (congrArg D.bool ?_)
    simp only [List.all_cons]
    cases r.all chr
    · rw [Bool.eq_iff_iff]; simp
    · rw [Bool.eq_iff_iff]
      simp [chr, low]
      omega
def sp14 : Spc := mkS [.str] fun ds => .bool (nameOk (nth ds 0).s)
theorem l22 (k : Nat) : ∀ (r pre : List UInt8) (n : Nat), (pre ++ r).length ≤ 9223372036854775807 → r.length < n → f14L2 k n (f14s2 (pre ++ r) ((pre.length : Nat) : Int)) =
    some (.bool ((match pre with | [] => (match r with | [] => true | c :: t => low c && t.all chr) | _ => r.all chr) && (decide (1 ≤ (pre ++ r).length) && decide ((pre ++ r).length ≤ 32))))
  | r, pre, 0, _, h => by omega
  | [], pre, n + 1, _, _ => by
    rw [f14l2, ltS_end]
    simp only [cond_false]
    refine congrArg some (congrArg D.bool ?_)
    rw [Bool.eq_iff_iff]
    cases pre <;> simp
    omega
  | c :: r, pre, n + 1, hl, h => by
    rw [f14l2, ltS_mid, ge0, getD_mid]
    simp only [Bool.true_and, Bool.true_or, cond_true, chk_true]
    have e : pre ++ c :: r = (pre ++ [c]) ++ r := by simp
    have hl' : pre.length < 9223372036854775807 := by simp at hl; omega
    rw [wrap_add1 hl', e, show pre.length + 1 = (pre ++ [c]).length by simp, l22 k r (pre ++ [c]) n (by simpa using hl) (by simpa using h), ite_some]
    refine congrArg some (congrArg D.bool ?_)
    cases pre with
    | nil =>
      simp only [List.nil_append, List.length_nil]
      rw [Bool.eq_iff_iff]
      cases r.all chr
      · simp
      · simp [low]
        omega
    | cons p q =>
      simp only [List.cons_append, List.all_cons]
      rw [Bool.eq_iff_iff]
      cases r.all chr
      · simp
      · simp [chr, low]
        omega
theorem snd14 : Sound Tryd.prog 14 sp14 := by
  refine snd (f14c) (told1 _ _) Tryd.func14 (by kernel_rfl) (by kernel_rfl) (nocall _) fun ds h => ?_
  obtain ⟨d, rfl, h1⟩ := one_of h
  obtain ⟨l, rfl, hl⟩ := ok_str h1
  refine ⟨l.length + 1, (e14 l (l.length + 1)).trans ?_⟩
  have hl := len_lt hl
  have := l22 (l.length + 1) l [] (l.length + 1) hl (by simp)
  simp only [List.nil_append, List.length_nil] at this
  rw [show ((0 : Nat) : Int) = (0 : Int) from rfl] at this
  rw [this]
  simp only [sp14, mkS, nth, D.s]
  refine congrArg some (congrArg D.bool ?_)
  cases l with
  | nil => rfl
  | cons c r =>
    simp only [nameOk]
    rw [Bool.eq_iff_iff]
    cases r.all chr
    · simp
    · simp; omega

end Go.Pl
