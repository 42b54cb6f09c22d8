/- What the functions of the reference package for texts return: quoted strings, lines. -/
import Derived.Test.YtollfgfhepjfkaaDoorTh
namespace Go.Pl
open Go Go.Ev Go.Proofs

theorem plain_not (c : UInt8) : (bif (bif (bif (decide ((32 : Int) ≤ ((c.toNat : Nat) : Int))) then (decide (((c.toNat : Nat) : Int) ≤ (126 : Int))) else false) then (!(decide (((c.toNat : Nat) : Int) = (34 : Int)))) else false) then (!(decide (((c.toNat : Nat) : Int) = (92 : Int)))) else false) = !(bif (bif (bif decide (((c.toNat : Nat) : Int) < (32 : Int)) then true else decide ((126 : Int) < ((c.toNat : Nat) : Int))) then true else decide (((c.toNat : Nat) : Int) = (34 : Int))) then true else decide (((c.toNat : Nat) : Int) = (92 : Int))) := by
  have e1 : decide ((32 : Int) ≤ ((c.toNat : Nat) : Int)) = !(decide (((c.toNat : Nat) : Int) < (32 : Int))) := by
    rw [Bool.eq_iff_iff]; simp
  have e2 : decide (((c.toNat : Nat) : Int) ≤ (126 : Int)) = !(decide ((126 : Int) < ((c.toNat : Nat) : Int))) := by
    rw [Bool.eq_iff_iff]; simp
  rw [e1, e2]
  cases decide (((c.toNat : Nat) : Int) < (32 : Int)) <;> cases decide ((126 : Int) < ((c.toNat : Nat) : Int)) <;> cases decide (((c.toNat : Nat) : Int) = (34 : Int)) <;> cases decide (((c.toNat : Nat) : Int) = (92 : Int)) <;> rfl
def esc (x : UInt8) : Bool := (bif (bif (bif decide (((x.toNat : Nat) : Int) < (32 : Int)) then true else decide ((126 : Int) < ((x.toNat : Nat) : Int))) then true else decide (((x.toNat : Nat) : Int) = (34 : Int))) then true else decide (((x.toNat : Nat) : Int) = (92 : Int)))
theorem qByte_esc (x : UInt8) : qByte x = bif esc x then 92 :: hex2 x.toNat else [x] := rfl
theorem val47 (c : UInt8) : sp47.val [.int .u8 ((c.toNat : Nat) : Int)] = .bool (!(esc c)) := by
  show D.bool _ = _
  rw [show (nth [D.int .u8 ((c.toNat : Nat) : Int)] 0).i = ((c.toNat : Nat) : Int) from rfl, plain_not]
  rfl
theorem pre47 (c : UInt8) : sp47.pre [.int .u8 ((c.toNat : Nat) : Int)] = true := by
  have := c.toNat_lt
  have h : inR .u8 ((c.toNat : Nat) : Int) = true := by simp [inR]; omega
  simp only [sp47, mkS, okZip, okS, h, Bool.and_true]
  rfl
theorem val48 (c : UInt8) : sp48.val [.int .i64 ((c.toNat : Nat) : Int), .int .i64 2] = .str (hex2 c.toNat) := by simp [sp48, nth, D.i]
theorem pre48 (c : UInt8) : sp48.pre [.int .i64 ((c.toNat : Nat) : Int), .int .i64 2] = true := by
  have := c.toNat_lt
  simp [sp48]; omega
theorem l32 (k : Nat) (l : List UInt8) : ∀ (r pre out : List UInt8) (n : Nat), pre ++ r = l → l.length ≤ mostQ → out.length + 3 * r.length + 1 ≤ 4294967296 → r.length < n →
    f32L3 sp47 sp48 k n (f32s3 (l.map byteD) out ((pre.length : Nat) : Int)) = some (.str (out ++ r.flatMap qByte ++ [34]))
  | r, pre, out, 0, _, _, _, h => by omega
  | [], pre, out, n + 1, hs, hl, ho, h => by
    subst hs
    rw [f32l3]
    have hb : decide (((pre.length : Nat) : Int) < ((((pre ++ []).map byteD).length : Nat) : Int)) = false := lt_end pre
    have h1 : decide (out.length + 1 ≤ 4611686018427387904) = true := decide_eq_true (by simp at ho; omega)
    rw [hb, h1]
    simp [chk]
  | c :: r, pre, out, n + 1, hs, hl, ho, h => by
    subst hs
    have hlen : (pre ++ c :: r).length = pre.length + r.length + 1 := by simp; omega
    unfold mostQ at hl
    have hcl := c.toNat_lt
    have hb : decide (((pre.length : Nat) : Int) < ((((pre ++ c :: r).map byteD).length : Nat) : Int)) = true := lt_mid pre c r
    have hc1 : nth (D.cells (byteD c)) 0 = byteD c := rfl
    have hc2 : D.i (byteD c) = ((c.toNat : Nat) : Int) := rfl
    have hc3 : D.isI IntKind.u8 (byteD c) = true := rfl
    rw [f32l3, ge0, nth_mid, hb, hc1, hc2, hc3, wrap_in (n := ((c.toNat : Nat) : Int)) (by omega) (by omega), val47, pre47, val48, pre48]
    rw [wrap_add1 (by omega), show pre.length + 1 = (pre ++ [c]).length by simp]
    have hs1 : D.s (.str (hex2 c.toNat)) = hex2 c.toNat := rfl
    have hs2 : D.isS (.str (hex2 c.toNat)) = true := rfl
    have hs3 : D.b (.bool (!(esc c))) = !(esc c) := rfl
    have hs4 : D.isB (.bool (!(esc c))) = true := rfl
    rw [hs1, hs2, hs3, hs4, map_sg, bytesOf_map]
    simp only [List.length_cons] at ho
    have hq : ([92] ++ hex2 c.toNat).length = 3 := by simp [hex2]
    have hq2 : (hex2 c.toNat).length = 2 := by simp [hex2]
    have h1 : decide (1 + (hex2 c.toNat).length ≤ 4611686018427387904) = true := decide_eq_true (by rw [hq2]; omega)
    have h2 : decide (out.length + ([92] ++ hex2 c.toNat).length ≤ 4611686018427387904) = true := decide_eq_true (by rw [hq]; omega)
    have h3 : decide (out.length + 1 ≤ 4611686018427387904) = true := decide_eq_true (by omega)
    rw [h1, h2, h3]
    have i1 := l32 k (pre ++ c :: r) r (pre ++ [c]) (out ++ ([92] ++ hex2 c.toNat)) n (by simp) (by unfold mostQ; omega) (by rw [List.length_append, hq]; omega) (by simpa using h)
    have i2 := l32 k (pre ++ c :: r) r (pre ++ [c]) (out ++ [c]) n (by simp) (by unfold mostQ; omega) (by rw [List.length_append, List.length_singleton]; omega) (by simpa using h)
    rw [i1, i2, List.flatMap_cons, qByte_esc]
    cases esc c <;> simp [chk]
def sp32 : Spc where
  pre ds := okZip [shBytes] ds && Nat.ble (nth ds 0).l.length mostQ
  val ds := .str (quote (bytesOf (nth ds 0).l))
theorem snd32 : Sound Tryd.prog 32 sp32 := by
  refine sndX (f32c sp47 sp48) (toldX _ _ _) Tryd.func32 (by kernel_rfl) (by kernel_rfl) (callingH_nil (calling_cons snd47 (calling_cons snd48 (calling_nil _ _ _ _)))) fun ds h => ?_
  simp only [sp32, Bool.and_eq_true] at h
  obtain ⟨h, hm⟩ := h
  obtain ⟨d, rfl, h1⟩ := one_of h
  obtain ⟨xs, rfl, hl, ho⟩ := ok_sl h1
  have hm := Nat.le_of_ble_eq_true hm
  simp only [nth, D.l] at hm
  have hb := bytes_map ho
  generalize bytesOf xs = l at hb
  subst hb
  simp only [List.length_map] at hm
  refine ⟨l.length + 1, (e32 sp47 sp48 (l.map byteD) (l.length + 1)).trans ?_⟩
  have := l32 (l.length + 1) l l [] [34] (l.length + 1) rfl hm (by unfold mostQ at hm; simp; omega) (by omega)
  simp only [sp32, nth, D.l, bytesOf_map]
  simpa [quote] using this

/-! ### lines -/
def lnGo (r : List (List UInt8)) : List UInt8 := r.flatMap (fun w => 32 :: w) ++ [10]
def lineT : List (List UInt8) → List UInt8
  | [] => [10]
  | w :: r => w ++ lnGo r
def tot : List (List UInt8) → Nat
  | [] => 0
  | w :: r => w.length + 1 + tot r
def sp18 : Spc where
  pre ds := okZip [.sl 1 .str] ds && Nat.ble (tot ((nth ds 0).l.map D.s)) 4294967296
  val ds := .str (lineT ((nth ds 0).l.map D.s))
theorem tot_app (a b : List (List UInt8)) : tot (a ++ b) = tot a + tot b := by
  induction a with
  | nil => simp [tot]
  | cons w r ih => simp only [List.cons_append, tot, ih]; omega
theorem tot_len (a : List (List UInt8)) : a.length ≤ tot a := by
  induction a with
  | nil => simp
  | cons w r ih => simp only [List.length_cons, tot]; omega
theorem l18 (k : Nat) (ws : List (List UInt8)) : ∀ (r pre : List (List UInt8)) (out : List UInt8) (n : Nat), pre ++ r = ws → tot ws ≤ 4294967296 → out.length + tot r ≤ 8589934592 → r.length < n →
    f18L3 k n (f18s3 (ws.map D.str) out ((pre.length : Nat) : Int)) = some (.str (out ++ (bif decide ((0 : Int) < ((pre.length : Nat) : Int)) then lnGo r else lineT r)))
  | r, pre, out, 0, _, _, _, h => by omega
  | [], pre, out, n + 1, hs, hl, ho, h => by
    subst hs
    rw [f18l3]
    have hb : decide (((pre.length : Nat) : Int) < ((((pre ++ []).map D.str).length : Nat) : Int)) = false := lt_end pre
    have h1 : decide (out.length + 1 ≤ 4611686018427387904) = true := decide_eq_true (by simp [tot] at ho; omega)
    rw [hb, h1]
    cases decide ((0 : Int) < ((pre.length : Nat) : Int)) <;> simp [chk, lnGo, lineT]
  | w :: r, pre, out, n + 1, hs, hl, ho, h => by
    subst hs
    have hlen : (pre ++ w :: r).length = pre.length + r.length + 1 := by simp; omega
    have htl := tot_len (pre ++ w :: r)
    simp only [tot] at ho
    have hb : decide (((pre.length : Nat) : Int) < ((((pre ++ w :: r).map D.str).length : Nat) : Int)) = true := lt_mid pre w r
    have hc1 : nth (D.cells (.str w)) 0 = .str w := rfl
    have hc2 : D.s (.str w) = w := rfl
    have hc3 : D.isS (.str w) = true := rfl
    rw [f18l3, ge0, nth_mid, hb, hc1, hc2, hc3, wrap_add1 (by omega), show pre.length + 1 = (pre ++ [w]).length by simp]
    have h1 : decide (out.length + 1 ≤ 4611686018427387904) = true := decide_eq_true (by omega)
    have h2 : decide ((out ++ [32]).length + w.length ≤ 4611686018427387904) = true := decide_eq_true (by rw [List.length_append, List.length_singleton]; omega)
    have h3 : decide (out.length + w.length ≤ 4611686018427387904) = true := decide_eq_true (by omega)
    rw [h1, h2, h3]
    have i1 := l18 k (pre ++ w :: r) r (pre ++ [w]) ((out ++ [32]) ++ w) n (by simp) hl (by simp only [List.length_append, List.length_singleton]; omega) (by simpa using h)
    have i2 := l18 k (pre ++ w :: r) r (pre ++ [w]) (out ++ w) n (by simp) hl (by simp only [List.length_append]; omega) (by simpa using h)
    have hp : decide ((0 : Int) < (((pre ++ [w]).length : Nat) : Int)) = true := decide_eq_true (by simp)
    rw [i1, i2, hp]
    cases decide ((0 : Int) < ((pre.length : Nat) : Int)) <;> simp [chk, lnGo, lineT]
theorem snd18 : Sound Tryd.prog 18 sp18 := by
  refine sndX f18c (toldX _ _ _) Tryd.func18 (by kernel_rfl) (by kernel_rfl) (nocallX _) fun ds h => ?_
  simp only [sp18, Bool.and_eq_true] at h
  obtain ⟨h, hm⟩ := h
  obtain ⟨d, rfl, h1⟩ := one_of h
  obtain ⟨xs, rfl, hl, ho⟩ := ok_sl h1
  have hm := Nat.le_of_ble_eq_true hm
  simp only [nth, D.l] at hm
  obtain ⟨ws, rfl, _⟩ := map_of (f := D.str) (p := fun _ => True) (fun x hx => by obtain ⟨l, rfl, _⟩ := ok_str hx; exact ⟨l, rfl, trivial⟩) ho
  have hid : (ws.map D.str).map D.s = ws := by
    rw [List.map_map]
    exact (List.map_congr_left (g := id) fun _ _ => rfl).trans (List.map_id ws)
  rw [hid] at hm
  refine ⟨ws.length + 1, (e18 (ws.map D.str) (ws.length + 1)).trans ?_⟩
  have := l18 (ws.length + 1) ws ws [] [] (ws.length + 1) rfl hm (by simp; omega) (by omega)
  simp only [sp18, nth, D.l, hid]
  simpa using this
end Go.Pl
