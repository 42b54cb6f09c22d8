/- What is read off a text is what was written: the pure law. -/
import Derived.Test.YtollfgfhepjfkaaDoorTl
namespace Go.Pl
open Go Go.Ev Go.Proofs

theorem parseDec_inv {b : List UInt8} (h : (parseDec b).2 = true) : b = decimal (parseDec b).1 ∧ 0 ≤ (parseDec b).1 ∧ (parseDec b).1 ≤ 999999999 := by
  unfold parseDec at h ⊢
  cases hc : (bif decide (b = []) then true else decide ((9 : Int) < ((b.length : Nat) : Int))) with
  | true => rw [hc] at h; simp at h
  | false =>
    rw [hc] at h
    rw [cond_or] at hc
    simp only [Bool.or_eq_false_iff, decide_eq_false_iff_not] at hc
    simp only [cond_false] at h ⊢
    cases hg : pdGo b 0 with
    | none => rw [hg] at h; simp at h
    | some n =>
      rw [hg] at h
      simp only at h ⊢
      cases hd : decide (decimal n = b) with
      | false => rw [hd] at h; simp at h
      | true =>
        simp only [decide_eq_true_eq] at hd
        simp only [cond_true]
        refine ⟨hd.symm, ?_⟩
        unfold decimal at hd
        cases hr : (bif decide (n < (0 : Int)) then true else decide ((999999999 : Int) < n)) with
        | true => rw [hr] at hd; exact absurd hd.symm hc.1
        | false =>
          rw [cond_or] at hr
          simp only [Bool.or_eq_false_iff, decide_eq_false_iff_not] at hr
          omega
theorem qByte_pos (x : UInt8) : 1 ≤ (qByte x).length := by
  rw [qByte_esc]
  cases esc x <;> simp
theorem quote_ge (bs : List UInt8) : bs.length ≤ (quote bs).length := by
  have : bs.length ≤ (bs.flatMap qByte).length := by
    induction bs with
    | nil => simp
    | cons c r ih => have := qByte_pos c; simp only [List.flatMap_cons, List.length_append, List.length_cons]; omega
  simp only [quote, List.length_cons, List.length_append]
  omega
theorem unquote_inv {s o : List UInt8} (h : unquote s = some o) : s = quote o ∧ o.length ≤ s.length := by
  unfold unquote at h
  cases hc : decide (((s.length : Nat) : Int) < (2 : Int)) with
  | true => rw [hc] at h; simp at h
  | false =>
    rw [hc] at h
    simp only [cond_false] at h
    cases hg : uqGo s.length (s.drop 1) [] with
    | none => rw [hg] at h; simp at h
    | some o' =>
      rw [hg] at h
      simp only at h
      cases hd : decide (quote o' = s) with
      | false => rw [hd] at h; simp at h
      | true =>
        rw [hd] at h
        simp only [cond_true, Option.some.injEq] at h
        subst h
        simp only [decide_eq_true_eq] at hd
        refine ⟨hd.symm, ?_⟩
        have := quote_ge o'
        rw [hd] at this
        exact this
theorem cond_ok {c : Cond} (h : okS shCond c.d = true) : c.ok := by
  obtain ⟨c', e, h'⟩ := cond_of h
  have : c = c' := by rw [← toC_d c, e, toC_d]
  exact this ▸ h'
theorem okI {n : Int} (h : -9223372036854775808 ≤ n) (h' : n ≤ 9223372036854775807) : okS shInt (.int .i64 n) = true := by
  simp [okS, shInt, inR, h, h']; rfl
theorem zipE (f : Sh) (fs : List Sh) (c : D) (r : List D) : okZip (f :: fs) (c :: r) = (okS f c && okZip fs r) := by simp [okZip]
theorem zip0 : okZip [] [] = true := by simp [okZip]
theorem aggE (fs : List Sh) (cs : List D) : okS (.agg fs) (.agg cs) = okZip fs cs := by simp [okS]
theorem cond_mk {c : Cond} (h1 : okS shInt (.int .i64 c.kind) = true) (h2 : okS shInt (.int .i64 c.id) = true) (h3 : okAll (.int .u8) c.value = true) (h3' : c.value.length ≤ mostQ) (h4 : okS shInt (.int .i64 c.table) = true) (h5 : okS shInt (.int .i64 c.first) = true) (h6 : okS shInt (.int .i64 c.count) = true) (h7 : okS shInt (.int .i64 c.n) = true) : c.ok := by
  have hb : okS shBytes (.sl 1 c.value) = true := by
    have : lenOk c.value.length = true := Nat.ble_eq_true_of_le (by unfold mostQ at h3'; omega)
    simp [okS, shBytes, this, h3]
  exact cond_ok (by rw [shCond, Cond.d, aggE, zipE, zipE, zipE, zipE, zipE, zipE, zipE, zip0, h1, h2, hb, h4, h5, h6, h7]; rfl)
theorem ok0 : okS shInt (.int .i64 0) = true := okI (by omega) (by omega)
theorem okN {b : List UInt8} (h : (parseDec b).2 = true) : okS shInt (.int .i64 (parseDec b).1) = true := by
  obtain ⟨_, h1, h2⟩ := parseDec_inv h
  exact okI (by omega) (by omega)
theorem some_of {α : Type} {o : Option α} (h : o.isSome = true) : ∃ x, o = some x := Option.isSome_iff_exists.1 h
theorem bytes_uq (o : List UInt8) : bytesOf (uqL (some o)) = o := bytesOf_map o
/-- words that are a condition are its words. -/
theorem condP_inv {ws : List (List UInt8)} (hb : ∀ w ∈ ws, w.length ≤ mostQ) (h : (condP ws).2 = true) : ws = condW (condP ws).1 ∧ (condP ws).1.ok := by
  have val_ok : ∀ {w o : List UInt8}, w.length ≤ mostQ → unquote w = some o → okAll (.int .u8) (uqL (some o)) = true ∧ (uqL (some o)).length ≤ mostQ := fun hw ho => by
    obtain ⟨_, h2⟩ := unquote_inv ho
    exact ⟨bytes_ok _, by simp only [uqL, List.length_map]; omega⟩
  unfold condP at h ⊢
  match ws, hb, h with
  | [], _, h => exact absurd h (by decide)
  | a :: r, hb, h =>
    simp only [List.getD_cons_zero] at h ⊢
    unfold condK at h ⊢
    cases k1 : decide (a = wObject) with
    | true =>
      rw [k1] at h
      simp only [decide_eq_true_eq] at k1
      simp only [cond_true, Bool.and_eq_true, decide_eq_true_eq] at h ⊢
      obtain ⟨⟨h1, h2⟩, h3⟩ := h
      match r, h3 with
      | [b, c], _ =>
        simp only [List.getD_cons_succ, List.getD_cons_zero] at h1 h2 ⊢
        obtain ⟨o, ho⟩ := some_of h2
        have hv := val_ok (hb c (by simp)) ho
        refine ⟨?_, cond_mk (okI (n := 1) (by omega) (by omega)) (okN h1) (by rw [ho]; exact hv.1) (by rw [ho]; exact hv.2) ok0 ok0 ok0 ok0⟩
        show _ = [wObject, decimal _, quote (bytesOf _)]
        rw [ho, bytes_uq, ← (parseDec_inv h1).1, ← (unquote_inv ho).1, k1]
    | false =>
    rw [k1] at h
    simp only [cond_false] at h ⊢
    cases k2 : decide (a = wPrefix) with
    | true =>
      rw [k2] at h
      simp only [decide_eq_true_eq] at k2
      simp only [cond_true, Bool.and_eq_true, decide_eq_true_eq] at h ⊢
      obtain ⟨⟨h1, h2⟩, h3⟩ := h
      match r, h3 with
      | [b, c], _ =>
        simp only [List.getD_cons_succ, List.getD_cons_zero] at h1 h2 ⊢
        obtain ⟨o, ho⟩ := some_of h2
        have hv := val_ok (hb c (by simp)) ho
        refine ⟨?_, cond_mk (okI (n := 2) (by omega) (by omega)) (okN h1) (by rw [ho]; exact hv.1) (by rw [ho]; exact hv.2) ok0 ok0 ok0 ok0⟩
        show _ = [wPrefix, decimal _, quote (bytesOf _)]
        rw [ho, bytes_uq, ← (parseDec_inv h1).1, ← (unquote_inv ho).1, k2]
    | false =>
    rw [k2] at h
    simp only [cond_false] at h ⊢
    cases k3 : decide (a = wServer) with
    | true =>
      rw [k3] at h
      simp only [decide_eq_true_eq] at k3
      simp only [cond_true, Bool.and_eq_true, decide_eq_true_eq] at h ⊢
      obtain ⟨h2, h3⟩ := h
      match r, h3 with
      | [c], _ =>
        simp only [List.getD_cons_succ, List.getD_cons_zero] at h2 ⊢
        obtain ⟨o, ho⟩ := some_of h2
        have hv := val_ok (hb c (by simp)) ho
        refine ⟨?_, cond_mk (okI (n := 3) (by omega) (by omega)) ok0 (by rw [ho]; exact hv.1) (by rw [ho]; exact hv.2) ok0 ok0 ok0 ok0⟩
        show _ = [wServer, quote (bytesOf _)]
        rw [ho, bytes_uq, ← (unquote_inv ho).1, k3]
    | false =>
    rw [k3] at h
    simp only [cond_false] at h ⊢
    cases k4 : decide (a = wReadable) with
    | true =>
      rw [k4] at h
      simp only [decide_eq_true_eq] at k4
      simp only [cond_true, Bool.and_eq_true, decide_eq_true_eq] at h ⊢
      obtain ⟨⟨⟨h1, h2⟩, h4⟩, h3⟩ := h
      match r, h3 with
      | [b, c, d], _ =>
        simp only [List.getD_cons_succ, List.getD_cons_zero] at h1 h2 h4 ⊢
        refine ⟨?_, cond_mk (okI (n := 4) (by omega) (by omega)) ok0 rfl (Nat.zero_le _) (okN h1) (okN h2) (okN h4) ok0⟩
        show _ = [wReadable, decimal _, decimal _, decimal _]
        rw [← (parseDec_inv h1).1, ← (parseDec_inv h2).1, ← (parseDec_inv h4).1, k4]
    | false =>
    rw [k4] at h
    simp only [cond_false] at h ⊢
    cases k5 : decide (a = wMost) with
    | true =>
      rw [k5] at h
      simp only [decide_eq_true_eq] at k5
      simp only [cond_true, Bool.and_eq_true, decide_eq_true_eq] at h ⊢
      obtain ⟨⟨h1, h2⟩, h3⟩ := h
      match r, h3 with
      | [b, c], _ =>
        simp only [List.getD_cons_succ, List.getD_cons_zero] at h1 h2 ⊢
        refine ⟨?_, cond_mk (okI (n := 5) (by omega) (by omega)) ok0 rfl (Nat.zero_le _) (okN h1) ok0 ok0 (okN h2)⟩
        show _ = [wMost, decimal _, decimal _]
        rw [← (parseDec_inv h1).1, ← (parseDec_inv h2).1, k5]
    | false => rw [k5] at h; simp at h

def nl (ls : List (List UInt8)) : List UInt8 := ls.flatMap (fun l => l ++ [10])
theorem isHdr_inv {ws : List (List UInt8)} (h : isHdr ws = true) : ws = [wProfile, ws.getD 1 []] := by
  match ws, h with
  | [a, b], h => simp only [isHdr, decide_eq_true_eq] at h; subst h; rfl
theorem isEnd_inv {ws : List (List UInt8)} (h : isEnd ws = true) : ws = [wEnd] := by
  match ws, h with
  | [a], h => simp only [isEnd, decide_eq_true_eq] at h; subst h; rfl
def headT (p : Prof) : List UInt8 := lineT [wProfile, p.name] ++ p.conds.flatMap condT
theorem profT_head (p : Prof) : profT p = headT p ++ [101, 110, 100, 10] := rfl
theorem pgoB_inv : ∀ (r : List (List UInt8)) (db : List Prof) (p : Prof) (op : Bool) (res : List Prof), (∀ l ∈ r, l.length ≤ mostQ) → (∀ q ∈ db, q.ok) → p.ok → db.length + r.length ≤ mostQ → p.conds.length + r.length ≤ mostQ → pgoB r db p op = (res, true) →
    textT res = textT db ++ (bif op then headT p else profT p) ++ nl r ∧ (∀ q ∈ res, q.ok) ∧ res.length ≤ mostQ + 1
  | [], db, p, op, res, _, hdb, hp, hl, hcl, h => by
    simp only [pgoB, Prod.mk.injEq, Bool.not_eq_true'] at h
    obtain ⟨rfl, rfl⟩ := h
    refine ⟨by simp [textT, nl], fun q hq => ?_, by simp at hl ⊢; omega⟩
    rcases List.mem_append.1 hq with h | h
    · exact hdb q h
    · simp at h; subst h; exact hp
  | l :: r, db, p, op, res, hr, hdb, hp, hl, hcl, h => by
    simp only [List.length_cons] at hl hcl
    have hll := hr l (by simp)
    have hr' : ∀ l ∈ r, l.length ≤ mostQ := fun l hl => hr l (by simp [hl])
    rw [pgoB] at h
    cases hw : words l with
    | none => rw [hw] at h; simp at h
    | some ws =>
      rw [hw] at h
      simp only at h
      obtain ⟨hline, hwl, hwb⟩ := words_inv hw
      have hnl : nl (l :: r) = (l ++ [10]) ++ nl r := rfl
      have mkP : ∀ (nm : List UInt8) (cs : List Cond), nm.length ≤ mostQ → cs.length ≤ mostQ → (∀ c ∈ cs, c.ok) → (⟨nm, cs⟩ : Prof).ok := fun nm cs h1 h2 h3 => by
        unfold mostQ at h1 h2
        have e1 : lenOk nm.length = true := Nat.ble_eq_true_of_le (by omega)
        have e2 : lenOk cs.length = true := Nat.ble_eq_true_of_le (by omega)
        have e3 : okAll shCond (cs.map Cond.d) = true := okAll_of fun x hx => by
          obtain ⟨c, hc, rfl⟩ := List.mem_map.1 hx
          exact (h3 c hc).s
        exact ⟨by simp [shProf, Prof.d, okS, okZip, e1, e2, e3], by simp; omega, by simp; omega, h3⟩
      cases op with
      | false =>
        simp only [Bool.not_false, Bool.true_and, Bool.false_and, cond_false] at h
        cases hh : isHdr ws with
        | false => rw [hh] at h; simp at h
        | true =>
          rw [hh] at h
          simp only [cond_true] at h
          have hws := isHdr_inv hh
          have hnm : (ws.getD 1 []).length ≤ mostQ := by
            have := hwb (ws.getD 1 []) (by rw [hws]; simp)
            omega
          obtain ⟨h1, h2, h3⟩ := pgoB_inv r (db ++ [p]) ⟨ws.getD 1 [], []⟩ true res hr' (fun q hq => by
            rcases List.mem_append.1 hq with h | h
            · exact hdb q h
            · simp at h; subst h; exact hp) (mkP _ _ hnm (Nat.zero_le _) (fun c hc => by cases hc)) (by simp; omega) (by simp; omega) h
          refine ⟨?_, h2, h3⟩
          have e : lineT ws = lineT [wProfile, ws.getD 1 []] := congrArg lineT hws
          rw [h1, hnl, ← hline (by rw [hws]; simp), e]
          simp [textT, headT, List.append_assoc]
      | true =>
        simp only [Bool.not_true, Bool.false_and, Bool.true_and, cond_false, cond_true] at h
        cases he : isEnd ws with
        | true =>
          rw [he] at h
          simp only [cond_true] at h
          have hws := isEnd_inv he
          obtain ⟨h1, h2, h3⟩ := pgoB_inv r db p false res hr' hdb hp (by omega) (by omega) h
          refine ⟨?_, h2, h3⟩
          rw [h1, hnl, ← hline (by rw [hws]; simp), hws]
          simp [profT_head, lineT, lnGo, wEnd, List.append_assoc]
        | false =>
          rw [he] at h
          simp only [cond_false] at h
          cases hc : (condP ws).2 with
          | false => rw [hc] at h; simp at h
          | true =>
            rw [hc] at h
            simp only [cond_true] at h
            obtain ⟨hcw, hok⟩ := condP_inv (fun w hw => by have := hwb w hw; omega) hc
            have hpl : p.name.length ≤ 9223372036854775807 := hp.name
            obtain ⟨h1, h2, h3⟩ := pgoB_inv r db ⟨p.name, p.conds ++ [(condP ws).1]⟩ true res hr' hdb (by
              have e2 : lenOk (p.conds ++ [(condP ws).1]).length = true := Nat.ble_eq_true_of_le (by simp; unfold mostQ at hcl; omega)
              have e1 : lenOk p.name.length = true := Nat.ble_eq_true_of_le hpl
              have hall : ∀ c ∈ p.conds ++ [(condP ws).1], c.ok := fun c hc => by
                rcases List.mem_append.1 hc with h | h
                · exact hp.conds c h
                · simp at h; subst h; exact hok
              have e3 : okAll shCond ((p.conds ++ [(condP ws).1]).map Cond.d) = true := okAll_of fun x hx => by
                obtain ⟨c, hc, rfl⟩ := List.mem_map.1 hx
                exact (hall c hc).s
              exact ⟨by simp only [shProf, Prof.d, okS, okZip, e1, Bool.true_and, Bool.and_true, List.length_map, e2, e3]; rfl, hpl, by simp; unfold mostQ at hcl; omega, hall⟩) (by omega) (by simp; omega) h
            refine ⟨?_, h2, h3⟩
            have hne : ws ≠ [] := fun e => by rw [e] at hc; exact absurd hc (by decide)
            have e : lineT ws = condT (condP ws).1 := congrArg lineT hcw
            rw [h1, hnl, ← hline hne, e]
            simp [headT, List.append_assoc]
end Go.Pl
