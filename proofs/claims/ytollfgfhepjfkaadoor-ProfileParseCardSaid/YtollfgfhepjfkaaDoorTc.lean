/- What the functions of package text return: what is quoted is read. -/
import Derived.Test.YtollfgfhepjfkaaDoorTb
namespace Go.Pl
open Go Go.Ev Go.Proofs

def ofU8 (n : Int) : UInt8 := UInt8.ofNat (IntKind.wrap IntKind.u8 n).toNat
theorem ofU8_d (n : Int) : D.int IntKind.u8 (IntKind.wrap IntKind.u8 n) = byteD (ofU8 n) := by
  have h : 0 ≤ IntKind.wrap IntKind.u8 n ∧ IntKind.wrap IntKind.u8 n < 256 := by
    simp only [IntKind.wrap, IntKind.bits, IntKind.signed]
    simp
    omega
  unfold byteD ofU8
  congr 1
  simp only [UInt8.toNat_ofNat']
  omega
def uqGo : Nat → List UInt8 → List UInt8 → Option (List UInt8)
  | n + 1, c :: d :: r, out => bif !(decide (((c.toNat : Nat) : Int) = (92 : Int))) then uqGo n (d :: r) (out ++ [c]) else match r with
    | y :: z :: t => bif (parseHex [d, y]).2 then uqGo n (z :: t) (out ++ [ofU8 (parseHex [d, y]).1]) else none
    | _ => none
  | _, _, out => some out
theorem uqGo_cons (n : Nat) (c d : UInt8) (r out : List UInt8) : uqGo (n + 1) (c :: d :: r) out = (bif !(decide (((c.toNat : Nat) : Int) = (92 : Int))) then uqGo n (d :: r) (out ++ [c]) else match r with
    | y :: z :: t => bif (parseHex [d, y]).2 then uqGo n (z :: t) (out ++ [ofU8 (parseHex [d, y]).1]) else none
    | _ => none) := rfl
def unquote (s : List UInt8) : Option (List UInt8) := bif decide (((s.length : Nat) : Int) < (2 : Int)) then none else match uqGo s.length (s.drop 1) [] with
  | none => none
  | some o => bif decide (quote o = s) then some o else none
def uqD : Option (List UInt8) → D
  | none => .tup [.sl 1 [], .bool false]
  | some l => .tup [.sl 1 (l.map byteD), .bool true]
def sp60 : Spc where
  pre ds := okZip [.str] ds && Nat.ble (nth ds 0).s.length mostQ
  val ds := uqD (unquote (nth ds 0).s)
theorem val65 (s : List UInt8) : sp65.val [.str s] = pdD (parseHex s) := rfl
theorem pre65 {s : List UInt8} (h : s.length ≤ 9223372036854775807) : sp65.pre [.str s] = true := by
  simp [sp65, mkS, okZip, okS, lenOk, Nat.ble_eq_true_of_le h]
theorem val37 (l : List UInt8) : sp37.val [.sl 1 (l.map byteD)] = .str (quote l) := by
  simp [sp37, nth, D.l, bytesOf_map]
theorem pre37 {l : List UInt8} (h : l.length ≤ mostQ) : sp37.pre [.sl 1 (l.map byteD)] = true := by
  have h1 : Nat.ble l.length 9223372036854775807 = true := Nat.ble_eq_true_of_le (by unfold mostQ at h; omega)
  have h2 : Nat.ble l.length mostQ = true := Nat.ble_eq_true_of_le h
  simp [sp37, okZip, okS, shBytes, lenOk, bytes_ok, h1, h2, nth, D.l]
theorem pd_isT (p : Int × Bool) : (D.isT 2 (pdD p) && (D.isI IntKind.i64 (nth (D.t (pdD p)) 0) && (D.isB (nth (D.t (pdD p)) 1) && true))) = true := rfl
theorem pd_i (p : Int × Bool) : D.i (nth (D.t (pdD p)) 0) = p.1 := rfl
theorem pd_b (p : Int × Bool) : D.b (nth (D.t (pdD p)) 1) = p.2 := rfl
theorem l60 (k : Nat) (s : List UInt8) : ∀ (n m : Nat) (r pre out : List UInt8), pre ++ r = s → s.length ≤ mostQ → out.length + r.length ≤ s.length → r.length < n → r.length ≤ m →
    f60L5 sp65 sp37 k n (f60s5 s ((pre.length : Nat) : Int) (out.map byteD)) = some (uqD (match uqGo m r out with | none => none | some o => bif decide (quote o = s) then some o else none))
  | 0, m, r, pre, out, _, _, _, h, _ => by omega
  | n + 1, m, r, pre, out, hs, hl, ho, h, hm => by
    have hl' := hl
    unfold mostQ at hl'
    have hlen : s.length = pre.length + r.length := by rw [← hs]; simp
    have stop : r.length ≤ 1 → uqGo m r out = some out → f60L5 sp65 sp37 k (n + 1) (f60s5 s ((pre.length : Nat) : Int) (out.map byteD)) = some (uqD (match uqGo m r out with | none => none | some o => bif decide (quote o = s) then some o else none)) := by
      intro hr hu
      rw [f60l5, hu, wrap_in (by omega) (by omega)]
      have h1 : decide (((pre.length : Nat) : Int) < ((s.length : Nat) : Int) - (1 : Int)) = false := by simp; omega
      rw [h1, val37, pre37 (by omega)]
      simp only [cond_false]
      show (bif !(decide (quote out = s)) then _ else _) = _
      cases decide (quote out = s) <;> rfl
    match r, m, hm with
    | [], m, _ => exact stop (by simp) (by cases m <;> rfl)
    | [c], m, _ => exact stop (by simp) (by cases m <;> rfl)
    | c :: d :: r, 0, hm => simp at hm
    | c :: d :: r, m + 1, hm =>
      simp only [List.length_cons] at hlen ho h hm
      subst hs
      have hcl := c.toNat_lt
      rw [f60l5, ltS_mid, ge0, getD_mid, wrap_in (n := ((((pre ++ c :: d :: r).length : Nat) : Int) - (1 : Int))) (by omega) (by omega)]
      have h1 : decide (((pre.length : Nat) : Int) < (((pre ++ c :: d :: r).length : Nat) : Int) - (1 : Int)) = true := by simp; omega
      have h2 : decide ((out.map byteD).length + 1 ≤ 4294967296) = true := by simp; omega
      rw [h1, h2, wrap_add1 (by omega)]
      have i1 := l60 k (pre ++ c :: d :: r) n m (d :: r) (pre ++ [c]) (out ++ [c]) (by simp) hl (by simp at ho ⊢; omega) (by simp; omega) (by simp; omega)
      rw [map_sg, ← List.map_append, show pre.length + 1 = (pre ++ [c]).length by simp, i1]
      simp only [Bool.and_self, chk_true, cond_true]
      rw [uqGo_cons]
      cases hc : decide (((c.toNat : Nat) : Int) = (92 : Int)) with
      | false => rfl
      | true =>
        simp only [Bool.not_true, cond_false]
        rw [wrap_in (n := ((pre.length : Nat) : Int) + (3 : Int)) (by omega) (by omega), wrap_in (n := ((pre.length : Nat) : Int) + (2 : Int)) (by omega) (by omega)]
        match r with
        | [] =>
          have h3 : decide ((((pre ++ [c, d]).length : Nat) : Int) - (1 : Int) < ((pre.length : Nat) : Int) + (3 : Int)) = true := by simp; omega
          rw [h3]; rfl
        | [y] =>
          have h3 : decide ((((pre ++ [c, d, y]).length : Nat) : Int) - (1 : Int) < ((pre.length : Nat) : Int) + (3 : Int)) = true := by simp; omega
          rw [h3]; rfl
        | y :: z :: t =>
          have h3 : decide ((((pre ++ c :: d :: y :: z :: t).length : Nat) : Int) - (1 : Int) < ((pre.length : Nat) : Int) + (3 : Int)) = false := by simp; omega
          have h4 : decide ((0 : Int) ≤ (((pre ++ [c]).length : Nat) : Int)) = true := ge0 _
          have h5 : decide ((((pre ++ [c]).length : Nat) : Int) ≤ ((pre.length : Nat) : Int) + (3 : Int)) = true := by simp
          have h6 : decide (((pre.length : Nat) : Int) + (3 : Int) ≤ (((pre ++ c :: d :: y :: z :: t).length : Nat) : Int)) = true := by simp; omega
          have h7 : List.drop (Int.toNat (((pre ++ [c]).length : Nat) : Int)) (List.take (Int.toNat (((pre.length : Nat) : Int) + (3 : Int))) (pre ++ c :: d :: y :: z :: t)) = [d, y] := by
            rw [show Int.toNat (((pre.length : Nat) : Int) + (3 : Int)) = pre.length + 3 by omega, Int.toNat_natCast, List.take_append, List.take_of_length_le (by omega)]
            simp
          rw [h3, h4, h5, h6, h7, val65, pre65 (by simp), pd_isT, pd_i, pd_b]
          simp only [Bool.and_self, chk_true, cond_false]
          simp only [List.length_cons] at hlen ho h hm
          have e3 : pre ++ c :: d :: y :: z :: t = (pre ++ [c, d, y]) ++ z :: t := by simp
          have hw : IntKind.wrap IntKind.i64 (((pre.length : Nat) : Int) + (2 : Int) + (1 : Int)) = (((pre ++ [c, d, y]).length : Nat) : Int) := by
            rw [wrap_in (by omega) (by omega)]; simp; omega
          have i2 := l60 k (pre ++ c :: d :: y :: z :: t) n m (z :: t) (pre ++ [c, d, y]) (out ++ [ofU8 (parseHex [d, y]).1]) (by simp) hl (by simp at ho ⊢; omega) (by simp; omega) (by simp; omega)
          rw [hw, ofU8_d, show [byteD (ofU8 (parseHex [d, y]).1)] = [ofU8 (parseHex [d, y]).1].map byteD from rfl, ← List.map_append, i2]
          cases (parseHex [d, y]).2 <;> rfl
theorem snd60 : Sound Tryd.prog 60 sp60 := by
  refine sndX (f60c sp65 sp37) (toldX _ _ _) Tryd.func60 (by kernel_rfl) (by kernel_rfl) (callingH_nil (calling_cons snd65 (calling_cons snd37 (calling_nil _ _ _ _)))) fun ds h => ?_
  simp only [sp60, Bool.and_eq_true] at h
  obtain ⟨h, hm⟩ := h
  obtain ⟨d, rfl, h1⟩ := one_of h
  obtain ⟨s, rfl, hl⟩ := ok_str h1
  have hm := Nat.le_of_ble_eq_true hm
  simp only [nth, D.s] at hm
  refine ⟨s.length + 1, (e60 sp65 sp37 s (s.length + 1)).trans ?_⟩
  show _ = some (uqD (unquote s))
  unfold unquote
  cases hc : decide (((s.length : Nat) : Int) < (2 : Int)) with
  | true => rfl
  | false =>
    simp only [cond_false]
    match s, hc, hm with
    | [], hc, _ => simp at hc
    | c :: s, hc, hm =>
      have := l60 ((c :: s).length + 1) (c :: s) ((c :: s).length + 1) (c :: s).length s [c] [] rfl hm (by simp) (by simp; omega) (by simp)
      exact this
end Go.Pl
