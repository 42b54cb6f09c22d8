/- What the functions of package text return: words, lines. -/
import Derived.Test.YtollfgfhepjfkaaDoorTc
namespace Go.Pl
open Go Go.Ev Go.Proofs

theorem indexByte_range (l : List UInt8) (c : UInt8) : -1 ≤ Lib.indexByte l c ∧ Lib.indexByte l c < l.length := by
  induction l with
  | nil => simp [Lib.indexByte]
  | cons b r ih =>
    simp only [Lib.indexByte, List.length_cons]
    split
    · omega
    · split
      · omega
      · rename_i h1
        simp at h1
        omega
/-! ### words -/
def plainC (c : UInt8) : Bool := bif (bif (bif true then decide ((33 : Int) ≤ ((c.toNat : Nat) : Int)) else false) then decide (((c.toNat : Nat) : Int) ≤ (126 : Int)) else false) then !(decide (((c.toNat : Nat) : Int) = (34 : Int))) else false
def wlGo : List UInt8 → Nat
  | [] => 0
  | c :: r => bif plainC c then wlGo r + 1 else 0
theorem wlGo_le : ∀ s, wlGo s ≤ s.length
  | [] => Nat.le_refl _
  | c :: r => by
    have := wlGo_le r
    simp only [wlGo, List.length_cons]
    cases plainC c <;> simp <;> omega
theorem l49 (s59 s60 : Spc) (k : Nat) (s : List UInt8) : ∀ (r pre : List UInt8) (n : Nat), pre ++ r = s → s.length ≤ 9223372036854775806 → r.length < n →
    f49L10 s59 s60 k n (f49s10 s ((pre.length : Nat) : Int)) = some (.int .i64 (((pre.length + wlGo r : Nat)) : Int))
  | r, pre, 0, _, _, h => by omega
  | [], pre, n + 1, hs, hl, h => by
    subst hs
    rw [f49l10, ltS_end, ge0]
    rfl
  | c :: r, pre, n + 1, hs, hl, h => by
    subst hs
    have hlen : (pre ++ c :: r).length = pre.length + r.length + 1 := by simp; omega
    rw [f49l10, ltS_mid, ge0, getD_mid]
    simp only [Bool.and_self, Bool.true_or, chk_true]
    have e : pre ++ c :: r = (pre ++ [c]) ++ r := by simp
    have ih := l49 s59 s60 k (pre ++ c :: r) r (pre ++ [c]) n (by simp) hl (by simpa using h)
    rw [wrap_add1 (by omega), show pre.length + 1 = (pre ++ [c]).length by simp, ih]
    show (bif plainC c then some (D.int .i64 ((((pre ++ [c]).length + wlGo r : Nat)) : Int)) else some (D.int .i64 ((pre.length : Nat) : Int))) = _
    rw [wlGo]
    cases plainC c with
    | true => simp; omega
    | false => rfl
def wordLen (s : List UInt8) : Int := bif decide ((((s.getD 0 0).toNat : Nat) : Int) = (34 : Int)) then (bif decide (Lib.indexByte (s.drop 1) 34 < (0 : Int)) then 0 else bif (unquote (s.take (Lib.indexByte (s.drop 1) 34 + (2 : Int)).toNat)).isSome then Lib.indexByte (s.drop 1) 34 + (2 : Int) else 0) else ((wlGo s : Nat) : Int)
theorem wordLen_range (s : List UInt8) : 0 ≤ wordLen s ∧ wordLen s ≤ s.length := by
  unfold wordLen
  obtain ⟨h1, h2⟩ := indexByte_range (s.drop 1) 34
  have h3 := wlGo_le s
  simp only [List.length_drop] at h2
  cases decide ((((s.getD 0 0).toNat : Nat) : Int) = (34 : Int)) with
  | false => simp only [cond_false]; omega
  | true =>
    simp only [cond_true]
    cases hc : decide (Lib.indexByte (s.drop 1) 34 < (0 : Int)) with
    | true => simp
    | false =>
      simp only [decide_eq_false_iff_not] at hc
      simp only [cond_false]
      cases (unquote (s.take (Lib.indexByte (s.drop 1) 34 + (2 : Int)).toNat)).isSome with
      | true => simp only [cond_true]; omega
      | false => simp
def sp49 : Spc where
  pre ds := okZip [.str] ds && Nat.ble (nth ds 0).s.length mostQ && Nat.ble 1 (nth ds 0).s.length
  val ds := .int .i64 (wordLen (nth ds 0).s)
theorem uq_isT (o : Option (List UInt8)) : (D.isT 2 (uqD o) && (D.isL 1 (nth (D.t (uqD o)) 0) && (D.isB (nth (D.t (uqD o)) 1) && true))) = true := by cases o <;> rfl
theorem uq_b (o : Option (List UInt8)) : D.b (nth (D.t (uqD o)) 1) = o.isSome := by cases o <;> rfl
theorem val60 (s : List UInt8) : sp60.val [.str s] = uqD (unquote s) := rfl
theorem pre60 {s : List UInt8} (h : s.length ≤ mostQ) : sp60.pre [.str s] = true := by
  have h1 : Nat.ble s.length 9223372036854775807 = true := Nat.ble_eq_true_of_le (by unfold mostQ at h; omega)
  have h2 : Nat.ble s.length mostQ = true := Nat.ble_eq_true_of_le h
  simp [sp60, okZip, okS, lenOk, h1, h2, nth, D.s]
theorem take_len (s : List UInt8) : List.take (Int.toNat ((s.length : Nat) : Int)) s = s := by simp
theorem snd49 : Sound Tryd.prog 49 sp49 := by
  refine sndX (f49c sp59 sp60) (toldX _ _ _) Tryd.func49 (by kernel_rfl) (by kernel_rfl) (callingH_nil (calling_cons snd59 (calling_cons snd60 (calling_nil _ _ _ _)))) fun ds h => ?_
  simp only [sp49, Bool.and_eq_true] at h
  obtain ⟨⟨h, hm⟩, h1⟩ := h
  obtain ⟨d, rfl, h0⟩ := one_of h
  obtain ⟨s, rfl, hl⟩ := ok_str h0
  have hm := Nat.le_of_ble_eq_true hm
  have h1 := Nat.le_of_ble_eq_true h1
  simp only [nth, D.s] at hm h1
  have hm' := hm
  unfold mostQ at hm'
  refine ⟨s.length + 1, (e49 sp59 sp60 s (s.length + 1)).trans ?_⟩
  show _ = some (D.int .i64 (wordLen s))
  obtain ⟨q1, q2⟩ := indexByte_range (s.drop 1) 34
  simp only [List.length_drop] at q2
  have hv : sp59.val [.str (s.drop 1), .int .u8 (34 : Int)] = .int .i64 (Lib.indexByte (s.drop 1) 34) := rfl
  have c0 : decide ((0 : Int) < ((s.length : Nat) : Int)) = true := by simp; omega
  have c1 : decide ((1 : Int) ≤ ((s.length : Nat) : Int)) = true := by simp; omega
  have c2 : decide (((s.length : Nat) : Int) ≤ ((s.length : Nat) : Int)) = true := by simp
  have hl49 := l49 sp59 sp60 (s.length + 1) s s [] (s.length + 1) rfl (by omega) (by omega)
  simp only [List.length_nil, Nat.zero_add] at hl49
  rw [take_len, hv, pre59, isI_, c0, c1, c2, show D.i (.int .i64 (Lib.indexByte (s.drop 1) 34)) = Lib.indexByte (s.drop 1) 34 from rfl]
  rw [wrap_in (n := Lib.indexByte (s.drop 1) 34 + (2 : Int)) (by omega) (by omega)]
  simp only [Bool.and_self, chk_true, List.drop_zero]
  rw [val60, uq_isT, uq_b, pre60 (by simp; omega)]
  unfold wordLen
  cases decide ((((s.getD 0 0).toNat : Nat) : Int) = (34 : Int)) with
  | false => simp only [cond_false]; exact hl49
  | true =>
    simp only [cond_true]
    cases hc : decide (Lib.indexByte (s.drop 1) 34 < (0 : Int)) with
    | true => rfl
    | false =>
      simp only [decide_eq_false_iff_not] at hc
      simp only [cond_false]
      have c3 : decide ((0 : Int) ≤ Lib.indexByte (s.drop 1) 34 + (2 : Int)) = true := decide_eq_true (by omega)
      have c4 : decide (Lib.indexByte (s.drop 1) 34 + (2 : Int) ≤ ((s.length : Nat) : Int)) = true := decide_eq_true (by omega)
      rw [c3, c4]
      simp only [Bool.and_self, chk_true]
      cases (unquote (s.take (Lib.indexByte (s.drop 1) 34 + (2 : Int)).toNat)).isSome <;> rfl

def wordsGo : Nat → List UInt8 → List (List UInt8) → Option (List (List UInt8))
  | 0, _, _ => none
  | n + 1, s, acc => match s with
    | [] => some acc
    | _ :: _ => bif decide (wordLen s = 0) then none else
      bif decide (s.drop (wordLen s).toNat = []) then some (acc ++ [s.take (wordLen s).toNat]) else
      bif (bif !(decide (((((s.drop (wordLen s).toNat).getD 0 0).toNat : Nat) : Int) = (32 : Int))) then true else decide ((((s.drop (wordLen s).toNat).length : Nat) : Int) = (1 : Int))) then none else
      wordsGo n ((s.drop (wordLen s).toNat).drop 1) (acc ++ [s.take (wordLen s).toNat])
def words (s : List UInt8) : Option (List (List UInt8)) := wordsGo (s.length + 1) s []
def wsD : Option (List (List UInt8)) → D
  | none => .tup [.sl 1 [], .bool false]
  | some ws => .tup [.sl 1 (ws.map D.str), .bool true]
def sp33 : Spc where
  pre ds := okZip [.str] ds && Nat.ble (nth ds 0).s.length mostQ
  val ds := wsD (words (nth ds 0).s)
theorem val49 (s : List UInt8) : sp49.val [.str s] = .int .i64 (wordLen s) := rfl
theorem pre49 {s : List UInt8} (h : s.length ≤ mostQ) (h1 : 1 ≤ s.length) : sp49.pre [.str s] = true := by
  have h3 : Nat.ble s.length 9223372036854775807 = true := Nat.ble_eq_true_of_le (by unfold mostQ at h; omega)
  have h2 : Nat.ble s.length mostQ = true := Nat.ble_eq_true_of_le h
  have h4 : Nat.ble 1 s.length = true := Nat.ble_eq_true_of_le h1
  simp [sp49, okZip, okS, lenOk, h3, h2, nth, D.s, h4]
theorem l33 (k : Nat) : ∀ (n m : Nat) (s : List UInt8) (acc : List (List UInt8)), s.length ≤ mostQ → acc.length + s.length ≤ mostQ → s.length < n → s.length < m →
    f33L2 sp49 k n (f33s2 s (acc.map D.str)) = some (wsD (wordsGo m s acc))
  | 0, m, s, acc, _, _, h, _ => by omega
  | n + 1, 0, s, acc, _, _, h, hm => by omega
  | n + 1, m + 1, s, acc, hl, ha, h, hm => by
    rw [f33l2]
    cases s with
    | nil => rfl
    | cons c s' =>
      generalize hs : c :: s' = s at *
      have h1 : 1 ≤ s.length := by rw [← hs]; simp
      have hne : decide (s = []) = false := by rw [← hs]; rfl
      obtain ⟨r0, r1⟩ := wordLen_range s
      have hmq := hl
      unfold mostQ at hmq ha
      rw [hne, val49, pre49 hl h1, isI_, show D.i (.int .i64 (wordLen s)) = wordLen s from rfl, take_len]
      have hgo : wordsGo (m + 1) s acc = (bif decide (wordLen s = 0) then none else
        bif decide (s.drop (wordLen s).toNat = []) then some (acc ++ [s.take (wordLen s).toNat]) else
        bif (bif !(decide (((((s.drop (wordLen s).toNat).getD 0 0).toNat : Nat) : Int) = (32 : Int))) then true else decide ((((s.drop (wordLen s).toNat).length : Nat) : Int) = (1 : Int))) then none else
        wordsGo m ((s.drop (wordLen s).toNat).drop 1) (acc ++ [s.take (wordLen s).toNat])) := by rw [← hs]; rfl
      rw [hgo]
      simp only [Bool.not_false, cond_true, Bool.and_self, chk_true]
      cases hw : decide (wordLen s = 0) with
      | true => rfl
      | false =>
        simp only [decide_eq_false_iff_not] at hw
        have c1 : decide ((0 : Int) ≤ wordLen s) = true := decide_eq_true r0
        have c2 : decide (wordLen s ≤ ((s.length : Nat) : Int)) = true := decide_eq_true r1
        have c3 : decide (((s.length : Nat) : Int) ≤ ((s.length : Nat) : Int)) = true := decide_eq_true (by omega)
        have c4 : decide ((acc.map D.str).length + 1 ≤ 4294967296) = true := decide_eq_true (by rw [List.length_map]; omega)
        rw [c1, c2, c3, c4]
        simp only [cond_false, Bool.and_self, chk_true, List.drop_zero]
        rw [show [D.str (s.take (wordLen s).toNat)] = [s.take (wordLen s).toNat].map D.str from rfl, ← List.map_append]
        cases hd : decide (s.drop (wordLen s).toNat = []) with
        | true => rfl
        | false =>
          simp only [decide_eq_false_iff_not] at hd
          generalize ht : s.drop (wordLen s).toNat = t at *
          have htl : t.length = s.length - (wordLen s).toNat := by rw [← ht]; simp
          have ht1 : 1 ≤ t.length := by cases t with | nil => exact absurd rfl hd | cons _ _ => simp
          have c5 : decide ((0 : Int) < ((t.length : Nat) : Int)) = true := decide_eq_true (by omega)
          have c6 : decide ((1 : Int) ≤ ((t.length : Nat) : Int)) = true := decide_eq_true (by omega)
          have c7 : decide (((t.length : Nat) : Int) ≤ ((t.length : Nat) : Int)) = true := decide_eq_true (by omega)
          have ih := l33 k n m (t.drop 1) (acc ++ [s.take (wordLen s).toNat]) (by simp only [List.length_drop]; unfold mostQ; omega) (by simp only [List.length_append, List.length_drop, List.length_singleton]; unfold mostQ; omega) (by simp only [List.length_drop]; omega) (by simp only [List.length_drop]; omega)
          rw [c5, c6, c7, take_len, ih]
          simp only [cond_false, Bool.and_self, chk_true]
          cases (bif !(decide ((((t.getD 0 0).toNat : Nat) : Int) = (32 : Int))) then true else decide (((t.length : Nat) : Int) = (1 : Int))) <;> rfl
theorem snd33 : Sound Tryd.prog 33 sp33 := by
  refine sndX (f33c sp49) (toldX _ _ _) Tryd.func33 (by kernel_rfl) (by kernel_rfl) (callingH_nil (calling_cons snd49 (calling_nil _ _ _ _))) fun ds h => ?_
  simp only [sp33, Bool.and_eq_true] at h
  obtain ⟨h, hm⟩ := h
  obtain ⟨d, rfl, h0⟩ := one_of h
  obtain ⟨s, rfl, hl⟩ := ok_str h0
  have hm := Nat.le_of_ble_eq_true hm
  simp only [nth, D.s] at hm
  refine ⟨s.length + 1, (e33 sp49 s (s.length + 1)).trans ?_⟩
  exact l33 (s.length + 1) (s.length + 1) (s.length + 1) s [] hm (by simpa using hm) (by omega) (by omega)

/-! ### lines -/
def linesGo : List UInt8 → List UInt8 → List (List UInt8) → Option (List (List UInt8))
  | [], _, acc => some acc
  | c :: r, cur, acc => bif decide (((c.toNat : Nat) : Int) = (10 : Int)) then linesGo r [] (acc ++ [cur]) else
    bif (bif decide (((c.toNat : Nat) : Int) < (32 : Int)) then true else decide ((126 : Int) < ((c.toNat : Nat) : Int))) then none else linesGo r (cur ++ [c]) acc
def lastOk (l : List UInt8) : Bool := bif decide ((0 : Int) < ((l.length : Nat) : Int)) then !(decide ((((l.getD (l.length - 1) 0).toNat : Nat) : Int) = (10 : Int))) else false
def lines (l : List UInt8) : Option (List (List UInt8)) := bif lastOk l then none else linesGo l [] []
def sp20 : Spc where
  pre ds := okZip [shBytes] ds && Nat.ble (nth ds 0).l.length mostQ
  val ds := wsD (lines (bytesOf (nth ds 0).l))
theorem allU8_map (l : List UInt8) : allU8 (l.map byteD) = true := allU8_of (bytes_ok l)
theorem l20 (k : Nat) (l : List UInt8) : ∀ (r pre cur : List UInt8) (acc : List (List UInt8)) (n : Nat), pre ++ cur ++ r = l → l.length ≤ mostQ → acc.length + r.length ≤ mostQ → r.length < n →
    f20L6 k n (f20s6 (l.map byteD) ((pre.length : Nat) : Int) (l.map byteD) ((l.length : Nat) : Int) (((pre ++ cur).length : Nat) : Int) (acc.map D.str)) = some (wsD (linesGo r cur acc))
  | r, pre, cur, acc, 0, _, _, _, h => by omega
  | [], pre, cur, acc, n + 1, hs, hl, ha, h => by
    subst hs
    rw [f20l6, ltS_end]
    rfl
  | c :: r, pre, cur, acc, n + 1, hs, hl, ha, h => by
    have hb : decide ((((pre ++ cur).length : Nat) : Int) < (((l.map byteD).length : Nat) : Int)) = true := by rw [← hs]; exact lt_mid (pre ++ cur) c r
    have hn : nth (l.map byteD) (Int.toNat (((pre ++ cur).length : Nat) : Int)) = byteD c := by rw [← hs]; exact nth_mid (pre ++ cur) c r
    have hb2 : decide ((((pre ++ cur).length : Nat) : Int) < ((l.length : Nat) : Int)) = true := by rw [← hs]; exact ltS_mid (pre ++ cur) c r
    have hlen : l.length = pre.length + cur.length + r.length + 1 := by rw [← hs]; simp; omega
    unfold mostQ at ha
    have hl' := hl
    unfold mostQ at hl'
    simp only [List.length_cons] at ha h
    have hc1 : nth (D.cells (byteD c)) 0 = byteD c := rfl
    have hc2 : D.i (byteD c) = ((c.toNat : Nat) : Int) := rfl
    have hc3 : D.isI IntKind.u8 (byteD c) = true := rfl
    rw [f20l6, hb2, hb, ge0, hn, hc1, hc2, hc3, ge0]
    have h5 : decide (((pre.length : Nat) : Int) ≤ (((pre ++ cur).length : Nat) : Int)) = true := decide_eq_true (by rw [List.length_append]; omega)
    have h6 : decide ((((pre ++ cur).length : Nat) : Int) ≤ (((l.map byteD).length : Nat) : Int)) = true := by simp; omega
    have h7 : List.drop (Int.toNat ((pre.length : Nat) : Int)) (List.take (Int.toNat (((pre ++ cur).length : Nat) : Int)) (l.map byteD)) = cur.map byteD := by
      rw [← hs, Int.toNat_natCast, Int.toNat_natCast, ← List.map_take, ← List.map_drop, List.take_left, List.drop_left]
    have h8 : decide ((acc.map D.str).length + 1 ≤ 4294967296) = true := by simp; omega
    rw [h5, h6, h7, h8, allU8_map, bytesOf_map, wrap_add1 (by simp; omega)]
    simp only [Bool.and_self, chk_true, cond_true]
    rw [show [D.str cur] = [cur].map D.str from rfl, ← List.map_append]
    have i1 := l20 k l r (pre ++ cur ++ [c]) [] (acc ++ [cur]) n (by rw [← hs]; simp) hl (by simp; unfold mostQ; omega) (by omega)
    have i2 := l20 k l r pre (cur ++ [c]) acc n (by rw [← hs]; simp) hl (by unfold mostQ; omega) (by omega)
    have e1 : (pre ++ cur).length + 1 = (pre ++ cur ++ [c]).length := by simp; omega
    have e2 : (pre ++ (cur ++ [c])).length = (pre ++ cur ++ [c]).length := by simp
    rw [List.append_nil] at i1
    rw [e2] at i2
    rw [e1, i1, i2, linesGo]
    cases decide (((c.toNat : Nat) : Int) = (10 : Int)) with
    | true => rfl
    | false =>
      simp only [cond_false]
      cases (bif decide (((c.toNat : Nat) : Int) < (32 : Int)) then true else decide ((126 : Int) < ((c.toNat : Nat) : Int))) <;> rfl
theorem snd20 : Sound Tryd.prog 20 sp20 := by
  refine sndX f20c (toldX _ _ _) Tryd.func20 (by kernel_rfl) (by kernel_rfl) (nocallX _) fun ds h => ?_
  simp only [sp20, Bool.and_eq_true] at h
  obtain ⟨h, hm⟩ := h
  obtain ⟨d, rfl, h1⟩ := one_of h
  obtain ⟨xs, rfl, hl, ho⟩ := ok_sl h1
  have hm := Nat.le_of_ble_eq_true hm
  simp only [nth, D.l] at hm
  have hb := bytes_map ho
  generalize bytesOf xs = l at hb
  subst hb
  simp only [List.length_map] at hm
  refine ⟨l.length + 1, (e20 (l.map byteD) (l.length + 1)).trans ?_⟩
  have hl20 := l20 (l.length + 1) l l [] [] [] (l.length + 1) rfl hm (by simpa using hm) (by omega)
  simp only [sp20, nth, D.l, bytesOf_map]
  unfold mostQ at hm
  cases l with
  | nil => exact hl20
  | cons c r =>
    have hw : IntKind.wrap IntKind.i64 (((((c :: r).map byteD).length : Nat) : Int) - (1 : Int)) = ((r.length : Nat) : Int) := by
      rw [wrap_in (by simp) (by simp at hm ⊢; omega)]; simp
    have hn : nth ((c :: r).map byteD) (Int.toNat ((r.length : Nat) : Int)) = byteD ((c :: r).getD r.length 0) := by
      rw [Int.toNat_natCast, nth_eq, List.getElem?_map, List.getD_eq_getElem?_getD, List.getElem?_eq_getElem (by simp)]
      rfl
    rw [hw, hn]
    have c0 : decide ((0 : Int) ≤ ((r.length : Nat) : Int)) = true := ge0 _
    have c1 : decide (((r.length : Nat) : Int) < ((((c :: r).map byteD).length : Nat) : Int)) = true := decide_eq_true (by rw [List.length_map, List.length_cons]; omega)
    have hc3 : D.isI IntKind.u8 (nth (D.cells (byteD ((c :: r).getD r.length 0))) 0) = true := rfl
    have hc2 : D.i (nth (D.cells (byteD ((c :: r).getD r.length 0))) 0) = ((((c :: r).getD r.length 0).toNat : Nat) : Int) := rfl
    rw [c0, c1, hc3, hc2]
    simp only [Bool.and_self, Bool.true_or, chk_true]
    have hd : (bif decide ((0 : Int) < ((((c :: r).map byteD).length : Nat) : Int)) then !(decide (((((c :: r).getD r.length 0).toNat : Nat) : Int) = (10 : Int))) else false) = lastOk (c :: r) := by
      unfold lastOk
      rw [List.length_map]
      rfl
    rw [hd]
    unfold lines
    cases lastOk (c :: r) with
    | true => rfl
    | false =>
      simp only [cond_false]
      have hlm : (((((c :: r).map byteD).length : Nat)) : Int) = (((c :: r).length : Nat) : Int) := by rw [List.length_map]
      rw [hlm]
      exact hl20
end Go.Pl
