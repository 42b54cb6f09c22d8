/- What the functions of package text return: decimals, hexadecimals, quoted strings. -/
import Derived.Test.YtollfgfhepjfkaaDoorTe
import Derived.Test.YtollfgfhepjfkaaDoorPe
namespace Go.Pl
open Go Go.Ev Go.Proofs

theorem sndX (C : Cfg) (hT : Go.Ev.Told Tryd.prog C) {f : Nat} {fn : Func} {sp : Spc} (hf : Tryd.prog.funcs[f]? = some fn) (hb : fn.body = some (bodyOf fn)) (hn : (fn.name == "runtime.NumGoroutine") = false)
    (hC : Go.Ev.Calling Tryd.prog C) (hsp : ∀ ds, sp.pre ds = true → ∃ fuel, evF C std fuel fn ds = some (sp.val ds)) : Sound Tryd.prog f sp :=
  fun_sound mixedH hT hC hf hb hn hsp
theorem wrapU8 {n : Int} (h : 0 ≤ n) (h' : n < 256) : IntKind.wrap IntKind.u8 n = n := by
  simp only [IntKind.wrap, IntKind.bits, IntKind.signed]
  simp
  omega

/-! ### decimals -/
def decimal (n : Int) : List UInt8 := bif (bif decide (n < (0 : Int)) then true else decide ((999999999 : Int) < n)) then [] else Lib.itoa n
def sp36 : Spc := mkS [shInt] fun ds => .str (decimal (nth ds 0).i)
theorem val54 (n : Int) : sp54.val [.int .i64 n] = .str (Lib.itoa n) := rfl
theorem snd36 : Sound Tryd.prog 36 sp36 := by
  refine sndX (f36c sp54) (toldX _ _ _) Tryd.func36 (by kernel_rfl) (by kernel_rfl) (callingH_nil (calling_cons snd54 (calling_nil _ _ _ _))) fun ds h => ⟨1, ?_⟩
  obtain ⟨d, rfl, h1⟩ := one_of h
  obtain ⟨n, rfl, hn⟩ := ok_int h1
  obtain ⟨r1, r2⟩ := inR64 hn
  refine (e36 sp54 n 1).trans ?_
  have hp : sp54.pre [.int .i64 n] = true := by simp [sp54, r1, r2]
  rw [val54, hp]
  show _ = some (D.str (decimal n))
  unfold decimal
  cases (bif decide (n < (0 : Int)) then true else decide ((999999999 : Int) < n)) <;> rfl

def pdGo : List UInt8 → Int → Option Int
  | [], n => some n
  | c :: r, n => bif decide ((c.toNat : Int) < 48) || decide (57 < (c.toNat : Int)) then none else pdGo r (10 * n + ((c.toNat : Int) - 48))
def parseDec (s : List UInt8) : Int × Bool := bif (bif decide (s = []) then true else decide ((9 : Int) < ((s.length : Nat) : Int))) then (0, false) else match pdGo s 0 with
  | none => (0, false)
  | some n => bif decide (decimal n = s) then (n, true) else (0, false)
def pdD (p : Int × Bool) : D := .tup [.int .i64 p.1, .bool p.2]
def sp61 : Spc := mkS [.str] fun ds => pdD (parseDec (nth ds 0).s)
theorem val36 (n : Int) : sp36.val [.int .i64 n] = .str (decimal n) := rfl
theorem pre36 {n : Int} (h : -9223372036854775808 ≤ n) (h' : n ≤ 9223372036854775807) : sp36.pre [.int .i64 n] = true := by
  simp [sp36, mkS, okZip, okS, shInt, inR, h, h']; rfl
theorem l61 (k : Nat) (s : List UInt8) : ∀ (r pre : List UInt8) (n : Nat) (m : Int), pre ++ r = s → s.length ≤ 9 → 0 ≤ m → m < 10 ^ pre.length → r.length < n →
    f61L5 sp36 k n (f61s5 s m ((s.length : Nat) : Int) ((pre.length : Nat) : Int)) = some (pdD (match pdGo r m with | none => (0, false) | some n => bif decide (decimal n = s) then (n, true) else (0, false)))
  | r, pre, 0, m, _, _, _, _, h => by omega
  | [], pre, n + 1, m, hs, hl, h0, hm, h => by
    subst hs
    have hp9 : pre.length ≤ 9 := by simpa using hl
    have hpow : (10 : Int) ^ pre.length ≤ 10 ^ 9 := by
      have : (10 : Nat) ^ pre.length ≤ 10 ^ 9 := Nat.pow_le_pow_right (by omega) hp9
      exact_mod_cast this
    rw [f61l5, ltS_end, val36, pre36 (by omega) (by omega)]
    simp only [cond_false, pdGo]
    rw [show (D.isS (.str (decimal m)) && true) = true from rfl, chk_true]
    simp only [List.append_nil]
    show (bif !(decide (decimal m = pre)) then some (pdD (0, false)) else some (pdD (m, true))) = _
    cases decide (decimal m = pre) <;> rfl
  | c :: r, pre, n + 1, m, hs, hl, h0, hm, h => by
    subst hs
    have hlen : (pre ++ c :: r).length = pre.length + r.length + 1 := by simp; omega
    have hpow : (10 : Int) ^ pre.length ≤ 10 ^ 8 := by
      have : (10 : Nat) ^ pre.length ≤ 10 ^ 8 := Nat.pow_le_pow_right (by omega) (by omega)
      exact_mod_cast this
    rw [f61l5, ltS_mid, ge0, getD_mid]
    simp only [Bool.true_and, cond_true, chk_true, Bool.true_or, cond_or]
    simp only [pdGo]
    cases hc : (decide ((c.toNat : Int) < 48) || decide (57 < (c.toNat : Int))) with
    | true => rfl
    | false =>
      simp only [Bool.or_eq_false_iff, decide_eq_false_iff_not] at hc
      simp only [cond_false]
      have e : pre ++ c :: r = (pre ++ [c]) ++ r := by simp
      rw [wrapU8 (by omega) (by omega), wrap_in (n := (c.toNat : Int) - 48) (by omega) (by omega), wrap_in (n := 10 * m) (by omega) (by omega), wrap_in (by omega) (by omega), wrap_add1 (by omega), show pre.length + 1 = (pre ++ [c]).length by simp]
      refine l61 k (pre ++ c :: r) r (pre ++ [c]) n _ (by simp) hl (by omega) ?_ (by simpa using h)
      rw [List.length_append, List.length_singleton, Int.pow_succ]
      omega
theorem snd61 : Sound Tryd.prog 61 sp61 := by
  refine sndX (f61c sp36) (toldX _ _ _) Tryd.func61 (by kernel_rfl) (by kernel_rfl) (callingH_nil (calling_cons snd36 (calling_nil _ _ _ _))) fun ds h => ?_
  obtain ⟨d, rfl, h1⟩ := one_of h
  obtain ⟨l, rfl, hl⟩ := ok_str h1
  refine ⟨l.length + 1, (e61 sp36 l (l.length + 1)).trans ?_⟩
  show _ = some (pdD (parseDec l))
  unfold parseDec
  cases hc : (bif decide (l = []) then true else decide ((9 : Int) < ((l.length : Nat) : Int))) with
  | true => rfl
  | false =>
    rw [cond_or] at hc
    simp only [Bool.or_eq_false_iff, decide_eq_false_iff_not] at hc
    simp only [cond_false]
    exact l61 (l.length + 1) l l [] (l.length + 1) 0 rfl (by omega) (by omega) (by simp) (by omega)
end Go.Pl
