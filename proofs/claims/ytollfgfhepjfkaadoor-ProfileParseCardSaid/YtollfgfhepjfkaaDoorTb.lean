/- What the functions of package text return: hexadecimals, quoted strings. -/
import Derived.Test.YtollfgfhepjfkaaDoorTa
namespace Go.Pl
open Go Go.Ev Go.Proofs

def hexDig : List UInt8 := [48, 49, 50, 51, 52, 53, 54, 55, 56, 57, 65, 66, 67, 68, 69, 70]
def hex2 (n : Nat) : List UInt8 := [hexDig.getD (n / 16) 0, hexDig.getD (n % 16) 0]
/-- two digits of a byte -/
def sp56 : Spc where
  pre ds := match ds with | [.int .i64 n, .int .i64 m] => decide (0 ≤ n) && decide (n < 256) && decide (m = 2) | _ => false
  val ds := .str (hex2 (nth ds 0).i.toNat)
theorem hex_all : (List.range 256).map (fun m => evF f56c std 5 Tryd.f56 [.int .i64 ((m : Nat) : Int), .int .i64 2]) = (List.range 256).map (fun m => some (D.str (hex2 m))) := by kernel_rfl
theorem snd56 : Sound Tryd.prog 56 sp56 := by
  refine sndX f56c (toldX _ _ _) Tryd.func56 (by kernel_rfl) (by kernel_rfl) (nocallX _) fun ds h => ⟨5, ?_⟩
  unfold sp56 at h ⊢
  simp only at h ⊢
  split at h
  · rename_i n m
    simp only [Bool.and_eq_true, decide_eq_true_eq] at h
    obtain ⟨⟨h0, h1⟩, rfl⟩ := h
    obtain ⟨j, rfl⟩ : ∃ j : Nat, n = j := ⟨n.toNat, by omega⟩
    have := congrArg (fun l => l[j]?) hex_all
    simp only [List.getElem?_map] at this
    have hj : j < 256 := by omega
    rw [List.getElem?_range hj] at this
    simp only [Option.map_some, Option.some.injEq] at this
    exact this
  · cases h
end Go.Pl
namespace Go.Pl
open Go Go.Ev Go.Proofs

/-! ### hexadecimals -/
def phGo : List UInt8 → Int → Option Int
  | [], n => some n
  | c :: r, n => bif decide (Lib.indexByte hexDig c < 0) then none else phGo r (bitsI BinOp.or IntKind.i64 (IntKind.wrap IntKind.i64 (n * (16 : Int))) (Lib.indexByte hexDig c))
def parseHex (s : List UInt8) : Int × Bool := bif (bif decide (s = []) then true else decide ((8 : Int) < ((s.length : Nat) : Int))) then (0, false) else match phGo s 0 with
  | none => (0, false)
  | some n => (n, true)
def sp65 : Spc := mkS [.str] fun ds => pdD (parseHex (nth ds 0).s)
theorem val59 (l : List UInt8) (c : UInt8) : sp59.val [.str l, .int .u8 ((c.toNat : Nat) : Int)] = .int .i64 (Lib.indexByte l c) := by
  have : (((c.toNat : Nat) : Int)).toNat.toUInt8 = c := by simp
  simp only [sp59, this]
theorem pre59 (l : List UInt8) (c : Int) : sp59.pre [.str l, .int .u8 c] = true := rfl
theorem isI_ (k : IntKind) (n : Int) : D.isI k (.int k n) = true := by cases k <;> rfl
theorem l65 (k : Nat) (s : List UInt8) : ∀ (r pre : List UInt8) (n : Nat) (m : Int), pre ++ r = s → s.length ≤ 8 → r.length < n →
    f65L5 sp59 k n (f65s5 s m ((s.length : Nat) : Int) ((pre.length : Nat) : Int)) = some (pdD (match phGo r m with | none => (0, false) | some n => (n, true)))
  | r, pre, 0, m, _, _, h => by omega
  | [], pre, n + 1, m, hs, hl, h => by
    subst hs
    rw [f65l5, ltS_end]
    rfl
  | c :: r, pre, n + 1, m, hs, hl, h => by
    subst hs
    have hlen : (pre ++ c :: r).length = pre.length + r.length + 1 := by simp; omega
    rw [f65l5, ltS_mid, ge0, getD_mid]
    have hv := val59 hexDig c
    have hp := pre59 hexDig ((c.toNat : Nat) : Int)
    unfold hexDig at hv hp
    rw [hv, hp, isI_]
    simp only [Bool.true_and, cond_true, chk_true]
    have e : pre ++ c :: r = (pre ++ [c]) ++ r := by simp
    rw [wrap_add1 (by omega), show pre.length + 1 = (pre ++ [c]).length by simp]
    have ih := l65 k (pre ++ c :: r) r (pre ++ [c]) n (bitsI BinOp.or IntKind.i64 (IntKind.wrap IntKind.i64 (m * (16 : Int))) (Lib.indexByte hexDig c)) (by simp) hl (by simpa using h)
    show (bif decide (Lib.indexByte hexDig c < 0) then some (pdD (0, false)) else f65L5 sp59 k n (f65s5 (pre ++ c :: r) (bitsI BinOp.or IntKind.i64 (IntKind.wrap IntKind.i64 (m * (16 : Int))) (Lib.indexByte hexDig c)) (((pre ++ c :: r).length : Nat) : Int) (((pre ++ [c]).length : Nat) : Int))) = _
    rw [ih, phGo]
    cases decide (Lib.indexByte hexDig c < 0) <;> rfl
theorem snd65 : Sound Tryd.prog 65 sp65 := by
  refine sndX (f65c sp59) (toldX _ _ _) Tryd.func65 (by kernel_rfl) (by kernel_rfl) (callingH_nil (calling_cons snd59 (calling_nil _ _ _ _))) fun ds h => ?_
  obtain ⟨d, rfl, h1⟩ := one_of h
  obtain ⟨l, rfl, hl⟩ := ok_str h1
  refine ⟨l.length + 1, (e65 sp59 l (l.length + 1)).trans ?_⟩
  show _ = some (pdD (parseHex l))
  unfold parseHex
  cases hc : (bif decide (l = []) then true else decide ((8 : Int) < ((l.length : Nat) : Int))) with
  | true => rfl
  | false =>
    rw [cond_or] at hc
    simp only [Bool.or_eq_false_iff, decide_eq_false_iff_not] at hc
    simp only [cond_false]
    exact l65 (l.length + 1) l l [] (l.length + 1) 0 rfl (by omega) (by omega)

/-! ### quoted strings -/
theorem bytes_map {xs : List D} (h : okAll (.int .u8) xs = true) : xs = (bytesOf xs).map byteD := by
  induction xs with
  | nil => rfl
  | cons x r ih =>
    simp only [okAll, Bool.and_eq_true] at h
    obtain ⟨n, rfl, hn⟩ := ok_int h.1
    simp only [bytesOf, List.map_cons, List.map_map] at ih ⊢
    rw [List.cons.injEq]
    refine ⟨?_, by simpa using ih h.2⟩
    simp only [inR, Bool.and_eq_true, decide_eq_true_eq] at hn
    simp only [D.i, byteD]
    congr 1
    simp only [UInt8.toNat_ofNat']
    omega
theorem bytesOf_map (l : List UInt8) : bytesOf (l.map byteD) = l := by
  induction l with
  | nil => rfl
  | cons c r ih =>
    simp only [bytesOf, List.map_cons, List.map_map] at ih ⊢
    rw [List.cons.injEq]
    exact ⟨by simp [byteD, D.i], by simpa using ih⟩
theorem bytes_ok (l : List UInt8) : okAll (.int .u8) (l.map byteD) = true := okAll_of fun x hx => by
  obtain ⟨c, _, rfl⟩ := List.mem_map.1 hx
  have := c.toNat_lt
  simp [byteD, okS, inR]
  refine ⟨rfl, by omega⟩
theorem allB_map (l : List UInt8) : allB (l.map byteD) = true := by
  induction l with
  | nil => rfl
  | cons c r ih =>
    have := c.toNat_lt
    simp only [List.map_cons, byteD, allB, ih, Bool.and_true, Bool.and_eq_true, decide_eq_true_eq]
    omega
/-- how a byte is written -/
def qByte (x : UInt8) : List UInt8 := bif (bif (bif (bif decide (((x.toNat : Nat) : Int) < (32 : Int)) then true else decide ((126 : Int) < ((x.toNat : Nat) : Int))) then true else decide (((x.toNat : Nat) : Int) = (34 : Int))) then true else decide (((x.toNat : Nat) : Int) = (92 : Int))) then 92 :: hex2 x.toNat else [x]
def quote (bs : List UInt8) : List UInt8 := 34 :: (bs.flatMap qByte ++ [34])
theorem qByte_len (x : UInt8) : (qByte x).length ≤ 3 := by
  unfold qByte
  cases (bif (bif (bif decide (((x.toNat : Nat) : Int) < (32 : Int)) then true else decide ((126 : Int) < ((x.toNat : Nat) : Int))) then true else decide (((x.toNat : Nat) : Int) = (34 : Int))) then true else decide (((x.toNat : Nat) : Int) = (92 : Int))) <;> simp [hex2]
theorem quote_len (bs : List UInt8) : (bs.flatMap qByte).length ≤ 3 * bs.length := by
  induction bs with
  | nil => simp
  | cons c r ih => have := qByte_len c; simp only [List.flatMap_cons, List.length_append, List.length_cons]; omega
def mostQ : Nat := 268435456
def sp37 : Spc where
  pre ds := okZip [shBytes] ds && Nat.ble (nth ds 0).l.length mostQ
  val ds := .str (quote (bytesOf (nth ds 0).l))
theorem val56 (c : UInt8) : sp56.val [.int .i64 ((c.toNat : Nat) : Int), .int .i64 2] = .str (hex2 c.toNat) := by simp [sp56, nth, D.i]
theorem pre56 (c : UInt8) : sp56.pre [.int .i64 ((c.toNat : Nat) : Int), .int .i64 2] = true := by
  have := c.toNat_lt
  simp [sp56]; omega
theorem map_sg (c : UInt8) : [D.int IntKind.u8 ((c.toNat : Nat) : Int)] = [c].map byteD := rfl
theorem l37 (k : Nat) (l : List UInt8) : ∀ (r pre out : List UInt8) (n : Nat), pre ++ r = l → l.length ≤ mostQ → out.length + 3 * r.length + 1 ≤ 4294967296 → r.length < n →
    f37L4 sp56 k n (f37s4 (l.map byteD) ((l.length : Nat) : Int) ((pre.length : Nat) : Int) (out.map byteD)) = some (.str (out ++ r.flatMap qByte ++ [34]))
  | r, pre, out, 0, _, _, _, h => by omega
  | [], pre, out, n + 1, hs, hl, ho, h => by
    subst hs
    rw [f37l4, ltS_end]
    simp only [cond_false]
    have h34 : (D.int IntKind.u8 (34 : Int)) = byteD 34 := rfl
    rw [h34, show (out.map byteD ++ [byteD 34]) = (out ++ [34]).map byteD by simp, allB_map, bytesOf_map]
    have h1 : decide ((out.map byteD).length + 1 ≤ 4294967296) = true := by simp at ho ⊢; omega
    have h2 : decide (((out ++ [34]).map byteD).length ≤ 4294967296) = true := by simp at ho ⊢; omega
    rw [h1, h2]
    simp [chk]
  | c :: r, pre, out, n + 1, hs, hl, ho, h => by
    subst hs
    have hlen : (pre ++ c :: r).length = pre.length + r.length + 1 := by simp; omega
    unfold mostQ at hl
    have hcl := c.toNat_lt
    rw [f37l4, ltS_mid, ge0, nth_mid]
    have hb : decide (((pre.length : Nat) : Int) < ((((pre ++ c :: r).map byteD).length : Nat) : Int)) = true := lt_mid pre c r
    rw [hb]
    have hc1 : nth (D.cells (byteD c)) 0 = byteD c := rfl
    have hc2 : D.i (byteD c) = ((c.toNat : Nat) : Int) := rfl
    have hc3 : D.isI IntKind.u8 (byteD c) = true := rfl
    rw [hc1, hc2, hc3, wrap_in (n := ((c.toNat : Nat) : Int)) (by omega) (by omega), val56, pre56]
    rw [wrap_add1 (by omega), show pre.length + 1 = (pre ++ [c]).length by simp]
    have hs1 : D.s (.str (hex2 c.toNat)) = hex2 c.toNat := rfl
    have hs2 : D.isS (.str (hex2 c.toNat)) = true := rfl
    rw [hs1, hs2, map_sg, ← List.map_append, ← List.map_append]
    simp only [List.length_cons] at ho
    have hq : ([92] ++ hex2 c.toNat).length = 3 := by simp [hex2]
    have h1 : decide (1 + (hex2 c.toNat).length ≤ 4611686018427387904) = true := by simp [hex2]
    have h2 : decide ((out.map byteD).length + ([92] ++ hex2 c.toNat).length ≤ 4294967296) = true := by rw [hq]; simp; omega
    have h3 : decide ((out.map byteD).length + 1 ≤ 4294967296) = true := by simp; omega
    rw [h1, h2, h3]
    have i1 := l37 k (pre ++ c :: r) r (pre ++ [c]) (out ++ ([92] ++ hex2 c.toNat)) n (by simp) (by unfold mostQ; omega) (by rw [List.length_append, hq]; omega) (by simpa using h)
    have i2 := l37 k (pre ++ c :: r) r (pre ++ [c]) (out ++ [c]) n (by simp) (by unfold mostQ; omega) (by rw [List.length_append, List.length_singleton]; omega) (by simpa using h)
    rw [i1, i2]
    rw [List.flatMap_cons, qByte]
    cases (bif (bif (bif decide (((c.toNat : Nat) : Int) < (32 : Int)) then true else decide ((126 : Int) < ((c.toNat : Nat) : Int))) then true else decide (((c.toNat : Nat) : Int) = (34 : Int))) then true else decide (((c.toNat : Nat) : Int) = (92 : Int))) <;> simp [chk]
theorem snd37 : Sound Tryd.prog 37 sp37 := by
  refine sndX (f37c sp56) (toldX _ _ _) Tryd.func37 (by kernel_rfl) (by kernel_rfl) (callingH_cons hsnd55 (callingH_cons hsnd22 (callingH_cons hsnd24 (callingH_nil (calling_cons snd56 (calling_nil _ _ _ _)))))) fun ds h => ?_
  simp only [sp37, Bool.and_eq_true] at h
  obtain ⟨h, hm⟩ := h
  obtain ⟨d, rfl, h1⟩ := one_of h
  obtain ⟨xs, rfl, hl, ho⟩ := ok_sl h1
  have hm := Nat.le_of_ble_eq_true hm
  simp only [nth, D.l] at hm
  have hb := bytes_map ho
  generalize bytesOf xs = l at hb
  subst hb
  simp only [List.length_map] at hm
  refine ⟨l.length + 1, (e37 sp56 (l.map byteD) (l.length + 1)).trans ?_⟩
  have := l37 (l.length + 1) l l [] [34] (l.length + 1) rfl hm (by unfold mostQ at hm; simp; omega) (by omega)
  simp only [sp37, nth, D.l, bytesOf_map]
  simpa [quote, byteD] using this
end Go.Pl
