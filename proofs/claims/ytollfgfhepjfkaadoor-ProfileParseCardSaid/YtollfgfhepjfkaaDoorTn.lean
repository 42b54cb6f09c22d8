/- profile.Parse; lines are what was read. -/
import Derived.Test.YtollfgfhepjfkaaDoorTm
namespace Go.Pl
open Go Go.Ev Go.Proofs

theorem linesGo_inv : ∀ (r cur : List UInt8) (acc ls : List (List UInt8)), linesGo r cur acc = some ls → (10 : UInt8) ∉ cur → ∃ t e, ls = acc ++ t ∧ cur ++ r = nl t ++ e ∧ (10 : UInt8) ∉ e ∧ t.length ≤ r.length ∧ ∀ l ∈ t, l.length ≤ cur.length + r.length
  | [], cur, acc, ls, h, hc => by
    simp only [linesGo, Option.some.injEq] at h
    exact ⟨[], cur, by simp [h], by simp [nl], hc, Nat.le_refl _, fun l hl => by cases hl⟩
  | c :: r, cur, acc, ls, h, hc => by
    rw [linesGo] at h
    cases h1 : decide (((c.toNat : Nat) : Int) = (10 : Int)) with
    | true =>
      rw [h1] at h
      simp only [cond_true] at h
      simp only [decide_eq_true_eq] at h1
      have hx : c = 10 := by
        apply UInt8.toNat_inj.1
        have : c.toNat = 10 := by omega
        exact this
      obtain ⟨t, e, h2, h3, h4, h5, h6⟩ := linesGo_inv r [] (acc ++ [cur]) ls h (by simp)
      refine ⟨cur :: t, e, by simp [h2], ?_, h4, by simp; omega, fun l hl => ?_⟩
      · simp only [List.nil_append] at h3
        rw [h3, hx]; simp [nl]
      · rcases List.mem_cons.1 hl with rfl | hl
        · omega
        · have := h6 l hl
          simp at this ⊢; omega
    | false =>
      rw [h1] at h
      simp only [cond_false] at h
      simp only [decide_eq_false_iff_not] at h1
      cases h7 : (bif decide (((c.toNat : Nat) : Int) < (32 : Int)) then true else decide ((126 : Int) < ((c.toNat : Nat) : Int))) with
      | true => rw [h7] at h; simp at h
      | false =>
        rw [h7] at h
        simp only [cond_false] at h
        have hne : c ≠ 10 := fun e => h1 (by rw [e]; rfl)
        obtain ⟨t, e, h2, h3, h4, h5, h6⟩ := linesGo_inv r (cur ++ [c]) acc ls h (by simp [hc]; exact fun e => hne e.symm)
        refine ⟨t, e, h2, by simpa using h3, h4, by simp; omega, fun l hl => ?_⟩
        have := h6 l hl
        simp at this ⊢; omega
theorem lines_inv {l : List UInt8} {ls : List (List UInt8)} (h : lines l = some ls) : l = nl ls ∧ ls.length ≤ l.length ∧ ∀ x ∈ ls, x.length ≤ l.length := by
  unfold lines at h
  cases h1 : lastOk l with
  | true => rw [h1] at h; simp at h
  | false =>
    rw [h1] at h
    simp only [cond_false] at h
    obtain ⟨t, e, h2, h3, h4, h5, h6⟩ := linesGo_inv l [] [] ls h (by simp)
    simp only [List.nil_append] at h2 h3
    subst h2
    refine ⟨?_, h5, fun x hx => by have := h6 x hx; simpa using this⟩
    rcases List.eq_nil_or_concat e with rfl | ⟨e', c, rfl⟩
    · simpa using h3
    · exfalso
      have hlast : l.getD (l.length - 1) 0 = c := by
        rw [h3]
        have : (nl ls ++ e'.concat c) = (nl ls ++ e') ++ [c] := by simp [List.concat_eq_append]
        rw [this]
        simp [List.getD_eq_getElem?_getD]
      have hpos : decide ((0 : Int) < ((l.length : Nat) : Int)) = true := decide_eq_true (by rw [h3]; simp; omega)
      unfold lastOk at h1
      rw [hpos, hlast] at h1
      simp only [cond_true, Bool.not_eq_false', decide_eq_true_eq] at h1
      have hx : c = 10 := by
        apply UInt8.toNat_inj.1
        have : c.toNat = 10 := by omega
        exact this
      exact h4 (by rw [hx]; simp)
theorem pgoA_inv {ls : List (List UInt8)} {res : List Prof} (hls : ∀ l ∈ ls, l.length ≤ mostQ) (hn : ls.length ≤ mostQ) (h : pgoA ls = (res, true)) : textT res = nl ls ∧ (∀ q ∈ res, q.ok) ∧ res.length ≤ mostQ + 1 := by
  cases ls with
  | nil =>
    simp only [pgoA, Prod.mk.injEq] at h
    obtain ⟨rfl, _⟩ := h
    exact ⟨rfl, (fun q hq => by cases hq), Nat.zero_le _⟩
  | cons l r =>
    rw [pgoA] at h
    cases hw : words l with
    | none => rw [hw] at h; simp at h
    | some ws =>
      rw [hw] at h
      simp only at h
      cases hh : isHdr ws with
      | false => rw [hh] at h; simp at h
      | true =>
        rw [hh] at h
        simp only [cond_true] at h
        obtain ⟨hline, hwl, hwb⟩ := words_inv hw
        have hws := isHdr_inv hh
        have hll := hls l (by simp)
        have hnm : (ws.getD 1 []).length ≤ mostQ := by
          have := hwb (ws.getD 1 []) (by rw [hws]; simp)
          omega
        have hok : (⟨ws.getD 1 [], []⟩ : Prof).ok := by
          unfold mostQ at hnm
          have e1 : lenOk (ws.getD 1 []).length = true := Nat.ble_eq_true_of_le (by omega)
          exact ⟨by simp only [shProf, Prof.d, okS, okZip, e1]; rfl, by show (ws.getD 1 []).length ≤ _; omega, Nat.zero_le _, fun c hc => by cases hc⟩
        obtain ⟨h1, h2, h3⟩ := pgoB_inv r [] ⟨ws.getD 1 [], []⟩ true res (fun l hl => hls l (by simp [hl])) (fun q hq => by cases hq) hok (by simp at hn ⊢; omega) (by simp at hn ⊢; omega) h
        refine ⟨?_, h2, h3⟩
        have e : lineT ws = lineT [wProfile, ws.getD 1 []] := congrArg lineT hws
        have hnl : nl (l :: r) = (l ++ [10]) ++ nl r := rfl
        rw [h1, hnl, ← hline (by rw [hws]; simp), e]
        simp [textT, headT]
def parseP (b : List UInt8) : List Prof × Int := match lines b with
  | none => ([], 1)
  | some ls => bif !(pgoA ls).2 then ([], 1) else bif !(dbValid (pgoA ls).1) then ([], 5) else ((pgoA ls).1, 0)
def ppD (p : List Prof × Int) : D := .tup [.sl 2 (p.1.map Prof.d), .int .i64 p.2]
def sp11 : Spc where
  pre ds := okZip [shBytes] ds && Nat.ble (nth ds 0).l.length mostQ
  val ds := ppD (parseP (bytesOf (nth ds 0).l))
theorem db_ok {db : List Prof} (h : ∀ p ∈ db, p.ok) (hl : db.length ≤ 9223372036854775807) : okZip [shDb] [.sl 2 (db.map Prof.d)] = true := by
  have e2 : lenOk db.length = true := Nat.ble_eq_true_of_le hl
  have e3 : okAll shProf (db.map Prof.d) = true := okAll_of fun x hx => by
    obtain ⟨p, hp, rfl⟩ := List.mem_map.1 hx
    exact (h p hp).s
  simp only [shDb, okZip, okS, e3, List.length_map, e2]
  rfl
theorem val17 (db : List Prof) : sp17.val [.sl 2 (db.map Prof.d)] = .bool (dbValid db) := by
  show D.bool (dbValid (toDb (.sl 2 (db.map Prof.d)))) = _
  rw [toDb_d]
theorem val20 (l : List UInt8) : sp20.val [.sl 1 (l.map byteD)] = wsD (lines l) := by
  simp only [sp20, nth, D.l, bytesOf_map]
theorem pre20 {l : List UInt8} (h : l.length ≤ mostQ) : sp20.pre [.sl 1 (l.map byteD)] = true := pre37 h
theorem val21 (ls : List (List UInt8)) : sp21.val [.sl 1 (ls.map D.str)] = dbD (pgoA ls) := by
  simp only [sp21, nth, D.l, strs_id]
theorem pre21 {ws : List (List UInt8)} (hl : ws.length ≤ mostQ) (h : ∀ w ∈ ws, w.length ≤ mostQ) : sp21.pre [.sl 1 (ws.map D.str)] = true := by
  have h1 := pre34 hl h
  have h2 : Nat.ble (ws.map D.str).length mostQ = true := Nat.ble_eq_true_of_le (by simpa using hl)
  have h3 : sp21.pre [.sl 1 (ws.map D.str)] = (sp34.pre [.sl 1 (ws.map D.str)] && Nat.ble (ws.map D.str).length mostQ) := rfl
  rw [h3, h1, h2]; rfl
theorem dbD_isT (p : List Prof × Bool) : (D.isT 2 (dbD p) && (D.isL 2 (nth (D.t (dbD p)) 0) && (D.isB (nth (D.t (dbD p)) 1) && true))) = true := rfl
theorem dbD_b (p : List Prof × Bool) : D.b (nth (D.t (dbD p)) 1) = p.2 := rfl
theorem dbD_l (p : List Prof × Bool) : D.l (nth (D.t (dbD p)) 0) = p.1.map Prof.d := rfl
theorem calling_lift {f : Nat} {sp : Spc} (h : Sound Tryd.prog f sp) : Sound Tryd.prog f sp := h
theorem snd11 : Sound Tryd.prog 11 sp11 := by
  refine sndX (f11c sp20 sp21 sp17) (toldX _ _ _) Tryd.func11 (by kernel_rfl) (by kernel_rfl) (callingH_nil (calling_cons snd20 (calling_cons snd21 (calling_cons snd17 (calling_nil _ _ _ _))))) fun ds h => ?_
  simp only [sp11, Bool.and_eq_true] at h
  obtain ⟨h, hm⟩ := h
  obtain ⟨d, rfl, h1⟩ := one_of h
  obtain ⟨xs, rfl, hl, ho⟩ := ok_sl h1
  have hm := Nat.le_of_ble_eq_true hm
  simp only [nth, D.l] at hm
  have hb := bytes_map ho
  generalize bytesOf xs = l at hb
  subst hb
  simp only [List.length_map] at hm
  refine ⟨1, (e11 sp20 sp21 sp17 (l.map byteD) 1).trans ?_⟩
  have hgoal : sp11.val [.sl 1 (l.map byteD)] = ppD (parseP l) := by simp only [sp11, nth, D.l, bytesOf_map]
  rw [hgoal, val20, pre20 hm, ws_isT]
  unfold parseP
  cases hlin : lines l with
  | none => rw [ws_b0]; rfl
  | some ls =>
    obtain ⟨_, h2, h3⟩ := lines_inv hlin
    have hls : ∀ x ∈ ls, x.length ≤ mostQ := fun x hx => by have := h3 x hx; omega
    rw [ws_b1, ws_l, val21, pre21 (by omega) hls, dbD_isT, dbD_b, dbD_l, val17]
    show _ = some (ppD (bif !(pgoA ls).2 then ([], 1) else bif !(dbValid (pgoA ls).1) then ([], 5) else ((pgoA ls).1, 0)))
    cases hp : pgoA ls with
    | mk res ok =>
      cases ok with
      | false => rfl
      | true =>
        obtain ⟨_, hq, hr⟩ := pgoA_inv hls (by omega) hp
        have hpre : sp17.pre [.sl 2 (res.map Prof.d)] = true := db_ok hq (by unfold mostQ at hr; omega)
        simp only [hpre]
        cases dbValid res <;> rfl
/-- THE LAW: what Parse accepts is the text of what it returns. -/
theorem parse_law {b : List UInt8} (hb : b.length ≤ mostQ) : ((parseP b).2 ≠ 0 → ((parseP b).2 = 1 ∨ (parseP b).2 = 5) ∧ (parseP b).1 = []) ∧ ((parseP b).2 = 0 → dbValid (parseP b).1 = true ∧ textT (parseP b).1 = b ∧ ∀ q ∈ (parseP b).1, q.ok) := by
  unfold parseP
  cases hlin : lines b with
  | none => exact ⟨fun _ => ⟨.inl rfl, rfl⟩, fun h => absurd h (by simp)⟩
  | some ls =>
    obtain ⟨h1, h2, h3⟩ := lines_inv hlin
    have hls : ∀ x ∈ ls, x.length ≤ mostQ := fun x hx => by have := h3 x hx; omega
    simp only
    cases hp : pgoA ls with
    | mk res ok =>
      cases ok with
      | false => exact ⟨fun _ => ⟨.inl rfl, rfl⟩, fun h => absurd h (by simp)⟩
      | true =>
        obtain ⟨ht, hq, hr⟩ := pgoA_inv hls (by omega) hp
        cases hv : dbValid res with
        | false => exact ⟨fun _ => ⟨.inr rfl, rfl⟩, fun h => absurd h (show ¬ ((5 : Int) = 0) by decide)⟩
        | true => exact ⟨fun h => absurd rfl h, fun _ => ⟨hv, by show textT res = b; rw [ht, ← h1], hq⟩⟩
end Go.Pl
