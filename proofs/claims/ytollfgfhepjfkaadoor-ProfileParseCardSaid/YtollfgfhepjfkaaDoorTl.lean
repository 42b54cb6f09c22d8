/- A database is read off lines. -/
import Derived.Test.YtollfgfhepjfkaaDoorTk
namespace Go.Pl
open Go Go.Ev Go.Proofs

theorem val33 (s : List UInt8) : sp33.val [.str s] = wsD (words s) := rfl
theorem pre33 {s : List UInt8} (h : s.length ≤ mostQ) : sp33.pre [.str s] = true := by
  have h1 : Nat.ble s.length 9223372036854775807 = true := Nat.ble_eq_true_of_le (by unfold mostQ at h; omega)
  have h2 : Nat.ble s.length mostQ = true := Nat.ble_eq_true_of_le h
  simp [sp33, okZip, okS, lenOk, h1, h2, nth, D.s]
theorem ws_isT (o : Option (List (List UInt8))) : (D.isT 2 (wsD o) && (D.isL 1 (nth (D.t (wsD o)) 0) && (D.isB (nth (D.t (wsD o)) 1) && true))) = true := by cases o <;> rfl
theorem ws_b0 : D.b (nth (D.t (wsD none)) 1) = false := rfl
theorem ws_b1 (ws : List (List UInt8)) : D.b (nth (D.t (wsD (some ws))) 1) = true := rfl
theorem ws_l (ws : List (List UInt8)) : D.l (nth (D.t (wsD (some ws))) 0) = ws.map D.str := rfl
theorem val34 (ws : List (List UInt8)) : sp34.val [.sl 1 (ws.map D.str)] = pdC (condP ws) := by
  simp only [sp34, nth, D.l, strs_id]
theorem pre34 {ws : List (List UInt8)} (hl : ws.length ≤ mostQ) (h : ∀ w ∈ ws, w.length ≤ mostQ) : sp34.pre [.sl 1 (ws.map D.str)] = true := by
  have h1 : Nat.ble ws.length 9223372036854775807 = true := Nat.ble_eq_true_of_le (by unfold mostQ at hl; omega)
  have h2 : ws.all (fun w => Nat.ble w.length mostQ) = true := List.all_eq_true.2 fun w hw => Nat.ble_eq_true_of_le (h w hw)
  have h3 : okAll .str (ws.map D.str) = true := okAll_of fun x hx => by
    obtain ⟨w, hw, rfl⟩ := List.mem_map.1 hx
    have := h w hw
    unfold mostQ at this
    exact Nat.ble_eq_true_of_le (by omega)
  simp only [sp34, nth, D.l, strs_id, h2, Bool.and_true]
  simp [okZip, okS, lenOk, h1, h3]
theorem pc_isT (p : Cond × Bool) : (D.isT 2 (pdC p) && (D.isA 7 (nth (D.t (pdC p)) 0) && (D.isB (nth (D.t (pdC p)) 1) && true))) = true := rfl
theorem pc_c (p : Cond × Bool) : nth (D.t (pdC p)) 0 = p.1.d := rfl
theorem pc_b (p : Cond × Bool) : D.b (nth (D.t (pdC p)) 1) = p.2 := rfl
def isHdr (ws : List (List UInt8)) : Bool := match ws with | [a, _] => decide (a = wProfile) | _ => false
def isEnd (ws : List (List UInt8)) : Bool := match ws with | [a] => decide (a = wEnd) | _ => false
theorem w0_ (n : Nat) (h : n + 1 ≤ 4294967296) : IntKind.wrap IntKind.i64 ((((n + 1 : Nat)) : Int) - (1 : Int)) = ((n : Nat) : Int) := by
  rw [wrap_in (by omega) (by omega)]; omega
theorem m0 : (([] : List (List UInt8)).map D.str) = [] := rfl
theorem mc (a : List UInt8) (r : List (List UInt8)) : ((a :: r).map D.str) = .str a :: r.map D.str := rfl
theorem og1 (c : Bool) : oneG (c, true) = c := by cases c <;> rfl
theorem n1 {x y : D} {r : List D} : nth (x :: y :: r) 1 = y := rfl
theorem e2a : decide ((((List.length ([] : List D)) : Nat) : Int) = (2 : Int)) = false := rfl
theorem e1a : decide ((((List.length ([] : List D)) : Nat) : Int) = (1 : Int)) = false := rfl
theorem e2b (x : D) : decide ((((List.length [x]) : Nat) : Int) = (2 : Int)) = false := rfl
theorem e1b (x : D) : decide ((((List.length [x]) : Nat) : Int) = (1 : Int)) = true := rfl
theorem e2c (x y : D) : decide ((((List.length [x, y]) : Nat) : Int) = (2 : Int)) = true := rfl
theorem e1c (x y : D) (r : List D) : decide ((((List.length (x :: y :: r)) : Nat) : Int) = (1 : Int)) = false := decide_eq_false (by simp only [List.length_cons]; omega)
theorem e2d (x y z : D) (r : List D) : decide ((((List.length (x :: y :: z :: r)) : Nat) : Int) = (2 : Int)) = false := decide_eq_false (by simp only [List.length_cons]; omega)
theorem e3c (x y : D) (r : List D) : decide ((1 : Int) < (((List.length (x :: y :: r)) : Nat) : Int)) = true := decide_eq_true (by simp only [List.length_cons]; omega)
noncomputable abbrev L21 := f21L4 sp33 sp34
theorem no21 : (D.tup [(D.sl 2 []), (D.bool false)]) = D.tup [D.sl 2 [], D.bool false] := rfl
/-- one round, a profile having been read. -/
theorem r21b (k n : Nat) (op : Bool) (ls : List (List UInt8)) (pre r : List (List UInt8)) (l : List UInt8) (ws : List (List UInt8)) (hs : ls = pre ++ l :: r) (hl : l.length ≤ mostQ) (hn : ls.length ≤ mostQ) (hw : words l = some ws) (hwl : ws.length ≤ mostQ) (hwb : ∀ w ∈ ws, w.length ≤ mostQ)
    (o4 : List D) (nm : List UInt8) (cs : List D) (ho : o4.length + 2 ≤ 4294967296) (hc : cs.length + 1 ≤ 4294967296) :
    L21 k (n + 1) (f21s4b op (ls.map D.str) ((ls.length : Nat) : Int) ((pre.length : Nat) : Int) o4 nm cs) =
      bif !op && isHdr ws then L21 k n (f21s4b true (ls.map D.str) ((ls.length : Nat) : Int) (((pre ++ [l]).length : Nat) : Int) (o4 ++ [.agg [.str nm, .sl 7 cs]]) (ws.getD 1 []) []) else
      bif op && isEnd ws then L21 k n (f21s4b false (ls.map D.str) ((ls.length : Nat) : Int) (((pre ++ [l]).length : Nat) : Int) o4 nm cs) else
      bif op then (bif (condP ws).2 then L21 k n (f21s4b true (ls.map D.str) ((ls.length : Nat) : Int) (((pre ++ [l]).length : Nat) : Int) o4 nm (cs ++ [(condP ws).1.d])) else some (.tup [.sl 2 [], .bool false])) else
      some (.tup [.sl 2 [], .bool false]) := by
  have hlen : ls.length = pre.length + r.length + 1 := by rw [hs]; simp; omega
  have hb : decide (((pre.length : Nat) : Int) < (((ls.map D.str).length : Nat) : Int)) = true := by rw [hs]; exact lt_mid pre l r
  have hnth : nth (ls.map D.str) (Int.toNat ((pre.length : Nat) : Int)) = .str l := by rw [hs]; exact nth_mid pre l r
  have hb2 : decide (((pre.length : Nat) : Int) < ((ls.length : Nat) : Int)) = true := decide_eq_true (by omega)
  unfold mostQ at hn
  have c1 : decide ((o4 ++ [D.agg [.str nm, .sl 7 cs]]).length + 1 ≤ 4294967296) = true := decide_eq_true (by rw [List.length_append, List.length_singleton]; omega)
  have c2 : decide (cs.length + 1 ≤ 4294967296) = true := decide_eq_true hc
  have c3 : decide ((0 : Int) ≤ ((o4.length : Nat) : Int)) = true := ge0 _
  have c4 : decide (((o4.length : Nat) : Int) < ((o4.length + 1 : Nat) : Int)) = true := decide_eq_true (by omega)
  have c5 : Nat.beq (Int.toNat ((o4.length : Nat) : Int)) o4.length = true := by simp
  unfold L21
  rw [f21l4b, hb2, hb, ge0, hnth, q8, show nth [D.str l] 0 = .str l from rfl, isS_, dsE, val33, pre33 hl, ws_isT, hw, ws_b1, ws_l, wrap_add1 (by omega), show pre.length + 1 = (pre ++ [l]).length by simp]
  rw [w0_ o4.length (by omega), val34, pre34 hwl hwb, pc_isT, pc_c, pc_b, cells_c, c1, c2, c3, c4, c5]
  simp only [Bool.and_self, chk_true, cond_true, cond_false, Bool.not_true, og1]
  match ws with
  | [] =>
    rw [m0]
    simp only [e2a, e1a, isHdr, isEnd, Bool.and_false, cond_false]
    cases op <;> cases (condP []).2 <;> rfl
  | [a] =>
    rw [mc, m0]
    generalize g1 : decide (D.s (nth (D.cells (nth [D.str a] 0)) 0) = [112, 114, 111, 102, 105, 108, 101]) = u1
    generalize g2 : decide (D.s (nth (D.cells (nth [D.str a] 0)) 0) = [101, 110, 100]) = u2
    replace g2 : decide (a = wEnd) = u2 := g2
    simp only [e2b, e1b, q2, isHdr, isEnd, g2, Bool.and_false, cond_false, Bool.true_or, chk_true]
    cases op <;> cases u1 <;> cases u2 <;> cases (condP [a]).2 <;> rfl
  | [a, b] =>
    rw [mc, mc, m0]
    generalize g1 : decide (D.s (nth (D.cells (nth [D.str a, D.str b] 0)) 0) = [112, 114, 111, 102, 105, 108, 101]) = u1
    generalize g2 : decide (D.s (nth (D.cells (nth [D.str a, D.str b] 0)) 0) = [101, 110, 100]) = u2
    replace g1 : decide (a = wProfile) = u1 := g1
    simp only [e2c, e1c, e3c, q2, n1, q8, isHdr, isEnd, g1, Bool.and_false, cond_false, Bool.true_or, chk_true]
    cases op <;> cases u1 <;> cases u2 <;> cases (condP [a, b]).2 <;> rfl
  | a :: b :: c :: r' =>
    rw [mc, mc, mc]
    generalize g1 : decide (D.s (nth (D.cells (nth (D.str a :: D.str b :: D.str c :: r'.map D.str) 0)) 0) = [112, 114, 111, 102, 105, 108, 101]) = u1
    generalize g2 : decide (D.s (nth (D.cells (nth (D.str a :: D.str b :: D.str c :: r'.map D.str) 0)) 0) = [101, 110, 100]) = u2
    simp only [e2d, e1c, e3c, q2, isHdr, isEnd, Bool.and_false, cond_false, Bool.true_or, chk_true]
    cases op <;> cases u1 <;> cases u2 <;> cases (condP (a :: b :: c :: r')).2 <;> rfl
/-- one round, no profile having been read. -/
theorem r21a (k n : Nat) (ls : List (List UInt8)) (pre r : List (List UInt8)) (l : List UInt8) (ws : List (List UInt8)) (hs : ls = pre ++ l :: r) (hl : l.length ≤ mostQ) (hn : ls.length ≤ mostQ) (hw : words l = some ws) :
    L21 k (n + 1) (f21s4 false (ls.map D.str) ((ls.length : Nat) : Int) ((pre.length : Nat) : Int) []) =
      bif isHdr ws then L21 k n (f21s4b true (ls.map D.str) ((ls.length : Nat) : Int) (((pre ++ [l]).length : Nat) : Int) [] (ws.getD 1 []) []) else
      some (.tup [.sl 2 [], .bool false]) := by
  have hlen : ls.length = pre.length + r.length + 1 := by rw [hs]; simp; omega
  have hb : decide (((pre.length : Nat) : Int) < (((ls.map D.str).length : Nat) : Int)) = true := by rw [hs]; exact lt_mid pre l r
  have hnth : nth (ls.map D.str) (Int.toNat ((pre.length : Nat) : Int)) = .str l := by rw [hs]; exact nth_mid pre l r
  have hb2 : decide (((pre.length : Nat) : Int) < ((ls.length : Nat) : Int)) = true := decide_eq_true (by omega)
  unfold mostQ at hn
  unfold L21
  rw [f21l4, hb2, hb, ge0, hnth, q8, show nth [D.str l] 0 = .str l from rfl, isS_, dsE, val33, pre33 hl, ws_isT, hw, ws_b1, ws_l, wrap_add1 (by omega), show pre.length + 1 = (pre ++ [l]).length by simp]
  simp only [Bool.and_self, chk_true, cond_true, cond_false, Bool.not_true, Bool.not_false, og1]
  match ws with
  | [] =>
    rw [m0]
    simp only [e2a, isHdr, cond_false]
    rfl
  | [a] =>
    rw [mc, m0]
    simp only [e2b, q2, isHdr, cond_false, Bool.true_or, chk_true]
    rfl
  | [a, b] =>
    rw [mc, mc, m0]
    generalize g1 : decide (D.s (nth (D.cells (nth [D.str a, D.str b] 0)) 0) = [112, 114, 111, 102, 105, 108, 101]) = u1
    replace g1 : decide (a = wProfile) = u1 := g1
    simp only [e2c, e3c, q2, n1, q8, isHdr, g1, Bool.true_or, chk_true]
    cases u1 <;> rfl
  | a :: b :: c :: r' =>
    rw [mc, mc, mc]
    simp only [e2d, q2, isHdr, cond_false, Bool.true_or, chk_true]
    rfl
theorem f21n (k n : Nat) (op : Bool) (ls pre r : List (List UInt8)) (l : List UInt8) (hs : ls = pre ++ l :: r) (hl : l.length ≤ mostQ) (hw : words l = none) (o4 : List D) (nm : List UInt8) (cs : List D) :
    L21 k (n + 1) (f21s4b op (ls.map D.str) ((ls.length : Nat) : Int) ((pre.length : Nat) : Int) o4 nm cs) = some (.tup [.sl 2 [], .bool false]) ∧ L21 k (n + 1) (f21s4 op (ls.map D.str) ((ls.length : Nat) : Int) ((pre.length : Nat) : Int) o4) = some (.tup [.sl 2 [], .bool false]) := by
  have hlen : ls.length = pre.length + r.length + 1 := by rw [hs]; simp; omega
  have hb : decide (((pre.length : Nat) : Int) < (((ls.map D.str).length : Nat) : Int)) = true := by rw [hs]; exact lt_mid pre l r
  have hnth : nth (ls.map D.str) (Int.toNat ((pre.length : Nat) : Int)) = .str l := by rw [hs]; exact nth_mid pre l r
  have hb2 : decide (((pre.length : Nat) : Int) < ((ls.length : Nat) : Int)) = true := decide_eq_true (by omega)
  unfold L21
  constructor
  · rw [f21l4b, hb2, hb, ge0, hnth, q8, show nth [D.str l] 0 = .str l from rfl, isS_, dsE, val33, pre33 hl, ws_isT, hw, ws_b0]; rfl
  · rw [f21l4, hb2, hb, ge0, hnth, q8, show nth [D.str l] 0 = .str l from rfl, isS_, dsE, val33, pre33 hl, ws_isT, hw, ws_b0]; rfl

/-! ### words and lines are what was read -/
theorem lnGo_ne {t : List (List UInt8)} (h : t ≠ []) : lnGo t = 32 :: lineT t := by
  cases t with
  | nil => exact absurd rfl h
  | cons w r => simp [lnGo, lineT]
theorem wordsGo_inv : ∀ (n : Nat) (s : List UInt8) (acc ws : List (List UInt8)), wordsGo n s acc = some ws → ∃ t, ws = acc ++ t ∧ (s = [] ∧ t = [] ∨ s ≠ [] ∧ t ≠ [] ∧ lineT t = s ++ [10]) ∧ t.length ≤ s.length ∧ ∀ w ∈ t, w.length ≤ s.length
  | 0, s, acc, ws, h => by simp [wordsGo] at h
  | n + 1, [], acc, ws, h => by
    simp only [wordsGo, Option.some.injEq] at h
    exact ⟨[], by simp [h], .inl ⟨rfl, rfl⟩, Nat.le_refl _, fun w hw => by cases hw⟩
  | n + 1, c :: s', acc, ws, h => by
    obtain ⟨r0, r1⟩ := wordLen_range (c :: s')
    generalize hs : c :: s' = s at *
    have hne : s ≠ [] := by rw [← hs]; simp
    have hgo : wordsGo (n + 1) s acc = (bif decide (wordLen s = 0) then none else
        bif decide (s.drop (wordLen s).toNat = []) then some (acc ++ [s.take (wordLen s).toNat]) else
        bif (bif !(decide (((((s.drop (wordLen s).toNat).getD 0 0).toNat : Nat) : Int) = (32 : Int))) then true else decide ((((s.drop (wordLen s).toNat).length : Nat) : Int) = (1 : Int))) then none else
        wordsGo n ((s.drop (wordLen s).toNat).drop 1) (acc ++ [s.take (wordLen s).toNat])) := by rw [← hs]; rfl
    rw [hgo] at h
    cases hw : decide (wordLen s = 0) with
    | true => rw [hw] at h; simp at h
    | false =>
      simp only [decide_eq_false_iff_not] at hw
      rw [decide_eq_false hw] at h
      simp only [cond_false] at h
      generalize hm : (wordLen s).toNat = m at h
      have hm1 : 1 ≤ m := by omega
      have hm2 : m ≤ s.length := by omega
      have htd := List.take_append_drop m s
      cases hd : decide (s.drop m = []) with
      | true =>
        rw [hd] at h
        simp only [decide_eq_true_eq] at hd
        simp only [cond_true, Option.some.injEq] at h
        rw [hd, List.append_nil] at htd
        rw [htd] at h
        refine ⟨[s], h.symm, .inr ⟨hne, by simp, by simp [lineT, lnGo]⟩, by simp; omega, fun w hw => by simp at hw; subst hw; omega⟩
      | false =>
        rw [hd] at h
        simp only [decide_eq_false_iff_not] at hd
        simp only [cond_false] at h
        cases hc : (bif !(decide (((((s.drop m).getD 0 0).toNat : Nat) : Int) = (32 : Int))) then true else decide ((((s.drop m).length : Nat) : Int) = (1 : Int))) with
        | true => rw [hc] at h; simp at h
        | false =>
          rw [hc] at h
          simp only [cond_false] at h
          rw [cond_or] at hc
          simp only [Bool.or_eq_false_iff, Bool.not_eq_false', decide_eq_true_eq, decide_eq_false_iff_not] at hc
          obtain ⟨h32, hl1⟩ := hc
          obtain ⟨t, ht, hcase, htl, htw⟩ := wordsGo_inv n _ _ _ h
          match hdm : s.drop m, hd with
          | x :: rest, _ =>
            rw [hdm] at h32 hl1 hcase htl htw htd
            simp only [List.getD_cons_zero, List.length_cons, List.drop_succ_cons, List.drop_zero] at h32 hl1 hcase htl htw
            have hx : x = 32 := by
              apply UInt8.toNat_inj.1
              have : x.toNat = 32 := by omega
              exact this
            have hrest : rest ≠ [] := fun e => by rw [e] at hl1; simp at hl1
            rcases hcase with ⟨h1, _⟩ | ⟨_, h2, h3⟩
            · exact absurd h1 hrest
            · have hsl : s.length = (s.take m).length + (rest.length + 1) := by
                have := congrArg List.length htd
                simp only [List.length_append, List.length_cons] at this
                omega
              refine ⟨s.take m :: t, by rw [ht, List.append_assoc]; rfl, .inr ⟨hne, by simp, ?_⟩, ?_, fun w hw => ?_⟩
              · rw [lineT, lnGo_ne h2, h3]
                rw [hx] at htd
                rw [show (32 :: (rest ++ [10])) = (32 :: rest) ++ [10] from rfl, ← List.append_assoc, htd]
              · have : 1 ≤ (s.take m).length := by rw [List.length_take]; omega
                simp only [List.length_cons]; omega
              · rcases List.mem_cons.1 hw with rfl | hw
                · rw [List.length_take]; omega
                · have := htw w hw; omega
theorem words_inv {s : List UInt8} {ws : List (List UInt8)} (h : words s = some ws) : (ws ≠ [] → lineT ws = s ++ [10]) ∧ ws.length ≤ s.length ∧ ∀ w ∈ ws, w.length ≤ s.length := by
  obtain ⟨t, ht, hcase, h1, h2⟩ := wordsGo_inv _ _ _ _ h
  simp only [List.nil_append] at ht
  subst ht
  refine ⟨fun hne => ?_, h1, h2⟩
  rcases hcase with ⟨_, h3⟩ | ⟨_, _, h3⟩
  · exact absurd h3 hne
  · exact h3

/-! ### databases -/
def pgoB : List (List UInt8) → List Prof → Prof → Bool → List Prof × Bool
  | [], db, p, op => (db ++ [p], !op)
  | l :: r, db, p, op => match words l with
    | none => ([], false)
    | some ws => bif !op && isHdr ws then pgoB r (db ++ [p]) ⟨ws.getD 1 [], []⟩ true else
      bif op && isEnd ws then pgoB r db p false else
      bif op then (bif (condP ws).2 then pgoB r db ⟨p.name, p.conds ++ [(condP ws).1]⟩ true else ([], false)) else ([], false)
def pgoA : List (List UInt8) → List Prof × Bool
  | [] => ([], true)
  | l :: r => match words l with
    | none => ([], false)
    | some ws => bif isHdr ws then pgoB r [] ⟨ws.getD 1 [], []⟩ true else ([], false)
def dbD (p : List Prof × Bool) : D := .tup [.sl 2 (p.1.map Prof.d), .bool p.2]
theorem l21b (k : Nat) (ls : List (List UInt8)) (hls : ∀ l ∈ ls, l.length ≤ mostQ) (hn : ls.length ≤ mostQ) : ∀ (r pre : List (List UInt8)) (db : List Prof) (p : Prof) (op : Bool) (n : Nat), ls = pre ++ r → r.length < n → db.length + r.length ≤ mostQ → p.conds.length + r.length ≤ mostQ →
    L21 k n (f21s4b op (ls.map D.str) ((ls.length : Nat) : Int) ((pre.length : Nat) : Int) (db.map Prof.d) p.name (p.conds.map Cond.d)) = some (dbD (pgoB r db p op))
  | r, pre, db, p, op, 0, _, h, _, _ => by omega
  | [], pre, db, p, op, n + 1, hs, h, _, _ => by
    have hb : decide (((pre.length : Nat) : Int) < ((ls.length : Nat) : Int)) = false := by rw [hs]; exact ltS_end pre
    unfold L21
    rw [f21l4b, hb]
    simp only [cond_false, pgoB, dbD, List.map_append, List.map_cons, List.map_nil]
    rfl
  | l :: r, pre, db, p, op, n + 1, hs, h, hd, hc => by
    have hl : l.length ≤ mostQ := hls l (by rw [hs]; simp)
    simp only [List.length_cons] at h hd hc
    cases hw : words l with
    | none => rw [(f21n k n op ls pre r l hs hl hw _ _ _).1, pgoB, hw]; rfl
    | some ws =>
      obtain ⟨_, hwl, hwb⟩ := words_inv hw
      have hmq : mostQ = 268435456 := rfl
      rw [r21b k n op ls pre r l ws hs hl hn hw (by omega) (fun w hw => by have := hwb w hw; omega) _ _ _ (by rw [List.length_map]; omega) (by rw [List.length_map]; omega)]
      have hs' : ls = (pre ++ [l]) ++ r := by rw [hs]; simp
      have i1 := l21b k ls hls hn r (pre ++ [l]) (db ++ [p]) ⟨ws.getD 1 [], []⟩ true n hs' (by omega) (by simp; omega) (by simp; omega)
      have i2 := l21b k ls hls hn r (pre ++ [l]) db p false n hs' (by omega) (by omega) (by omega)
      have i3 := l21b k ls hls hn r (pre ++ [l]) db ⟨p.name, p.conds ++ [(condP ws).1]⟩ true n hs' (by omega) (by omega) (by simp; omega)
      simp only [List.map_append, List.map_cons, List.map_nil] at i1 i3
      rw [show (D.agg [.str p.name, .sl 7 (p.conds.map Cond.d)]) = p.d from rfl, i1, i2, i3, pgoB, hw]
      simp only
      cases op <;> cases isHdr ws <;> cases isEnd ws <;> cases (condP ws).2 <;> rfl
def sp21 : Spc where
  pre ds := okZip [.sl 1 .str] ds && ((nth ds 0).l.map D.s).all (fun w => Nat.ble w.length mostQ) && Nat.ble (nth ds 0).l.length mostQ
  val ds := dbD (pgoA ((nth ds 0).l.map D.s))
theorem snd21 : Sound Tryd.prog 21 sp21 := by
  refine sndX (f21c sp33 sp34) (toldX _ _ _) Tryd.func21 (by kernel_rfl) (by kernel_rfl) (callingH_nil (calling_cons snd33 (calling_cons snd34 (calling_nil _ _ _ _)))) fun ds h => ?_
  simp only [sp21, Bool.and_eq_true] at h
  obtain ⟨⟨h, hm⟩, hq⟩ := h
  obtain ⟨d, rfl, h1⟩ := one_of h
  obtain ⟨xs, rfl, hl, ho⟩ := ok_sl h1
  simp only [nth, D.l] at hm hq
  obtain ⟨ls, rfl, _⟩ := map_of (f := D.str) (p := fun _ => True) (fun x hx => by obtain ⟨l, rfl, _⟩ := ok_str hx; exact ⟨l, rfl, trivial⟩) ho
  rw [strs_id] at hm
  have hb : ∀ w ∈ ls, w.length ≤ mostQ := fun w hw => Nat.le_of_ble_eq_true (List.all_eq_true.1 hm w hw)
  have hn := Nat.le_of_ble_eq_true hq
  rw [List.length_map] at hn
  refine ⟨ls.length + 1, (e21 sp33 sp34 (ls.map D.str) (ls.length + 1)).trans ?_⟩
  show _ = some (dbD (pgoA ((ls.map D.str).map D.s)))
  rw [strs_id, List.length_map]
  cases ls with
  | nil => exact (f21l4 sp33 sp34 _ _ _ _ _ _ _).trans rfl
  | cons l r =>
    have hl := hb l (by simp)
    cases hw : words l with
    | none =>
      rw [pgoA, hw]
      exact (f21n _ _ false (l :: r) [] r l rfl hl hw [] [] []).2
    | some ws =>
      have i1 := l21b ((l :: r).length + 1) (l :: r) hb hn r ([] ++ [l]) [] ⟨ws.getD 1 [], []⟩ true (l :: r).length rfl (by simp) (by simp at hn ⊢; omega) (by simp at hn ⊢; omega)
      have := r21a ((l :: r).length + 1) (l :: r).length (l :: r) [] r l ws rfl hl hn hw
      refine this.trans ?_
      rw [pgoA, hw]
      have i1' : L21 ((l :: r).length + 1) (l :: r).length (f21s4b true ((l :: r).map D.str) (((l :: r).length : Nat) : Int) ((([] ++ [l] : List (List UInt8)).length : Nat) : Int) [] (ws.getD 1 []) []) = some (dbD (pgoB r [] ⟨ws.getD 1 [], []⟩ true)) := i1
      rw [i1']
      show _ = some (dbD (bif isHdr ws then pgoB r [] ⟨ws.getD 1 [], []⟩ true else ([], false)))
      cases isHdr ws <;> rfl
end Go.Pl
