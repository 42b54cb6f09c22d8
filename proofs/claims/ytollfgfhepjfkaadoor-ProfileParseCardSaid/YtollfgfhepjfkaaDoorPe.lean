/- When a database is valid: the program's and the reference's answers; and whether it is small. -/
import Derived.Test.YtollfgfhepjfkaaDoorPd
namespace Go.Pl
open Go Go.Ev Go.Proofs

def dbGo (prev : List Prof) : List Prof → Bool
  | [] => true
  | p :: r => nameOk p.name && !(prev.any fun q => decide (p.name = q.name)) && decide (1 ≤ p.conds.length) && decide (p.conds.length ≤ 8) && p.conds.all condValid && dbGo (prev ++ [p]) r
def dbValid (db : List Prof) : Bool := dbGo [] db && decide (db.length ≤ 16)
def profSmall (p : Prof) : Bool := decide (p.name.length ≤ 40) && decide (p.conds.length ≤ 10) && p.conds.all fun c => decide (c.value.length ≤ 300)
def dbSmall (db : List Prof) : Bool := db.all profSmall && decide (db.length ≤ 20)

theorem dl (z : Nat) (xs : List D) : D.l (.sl z xs) = xs := rfl
theorem dsE (l : List UInt8) : D.s (.str l) = l := rfl
theorem isL_ (z z' : Nat) (xs : List D) : D.isL z (.sl z' xs) = Nat.beq z z' := rfl
theorem isS_ (l : List UInt8) : D.isS (.str l) = true := rfl
theorem b77 : Nat.beq 7 7 = true := rfl
theorem cells_c (c : Cond) : D.agg [nth (D.cells c.d) 0, nth (D.cells c.d) 1, nth (D.cells c.d) 2, nth (D.cells c.d) 3, nth (D.cells c.d) 4, nth (D.cells c.d) 5, nth (D.cells c.d) 6] = c.d := rfl
theorem pre30 {c : Cond} (hc : c.ok) : sp30.pre [c.d] = true := by
  show okZip [shCond] [c.d] = true
  simp [okZip, hc.s]
theorem val30 (c : Cond) : sp30.val [c.d] = D.bool (condValid c) := rfl
theorem pre15 {c : Cond} (hc : c.ok) : sp15.pre [c.d] = true := pre30 hc
theorem val15 (c : Cond) : sp15.val [c.d] = D.bool (condValid c) := rfl
theorem p0 (p : Prof) : nth (D.cells p.d) 0 = D.str p.name := rfl
theorem p1 (p : Prof) : nth (D.cells p.d) 1 = D.sl 7 (p.conds.map Cond.d) := rfl
theorem pre28 {l : List UInt8} (h : l.length ≤ 9223372036854775807) : sp28.pre [D.str l] = true := by
  simp [sp28, mkS, okZip, okS, lenOk, h]
theorem val28 (l : List UInt8) : sp28.val [D.str l] = D.bool (nameOk l) := rfl
theorem pre14 {l : List UInt8} (h : l.length ≤ 9223372036854775807) : sp14.pre [D.str l] = true := pre28 h
theorem val14 (l : List UInt8) : sp14.val [D.str l] = D.bool (nameOk l) := rfl
theorem len_cells_p (p : Prof) : Nat.ble 2 (D.cells p.d).length = true := rfl
theorem len_cells_c (c : Cond) : Nat.ble 7 (D.cells c.d).length = true := rfl

/-! ### profile.Valid -/
theorem l89 (k : Nat) (X3 : A → Option D) (v0 v9 : List D) (v10 v11 : Int) (a b : D) (o8 : List (List UInt8)) : ∀ (r pre : List Cond) (n : Nat), (∀ c ∈ r, c.ok) → (pre ++ r).length ≤ 9223372036854775807 → r.length < n →
    f17L9 sp28 sp29 sp30 k X3 n (f17s9 v0 v9 v10 v11 ((pre ++ r).map Cond.d) ((((pre ++ r).map Cond.d).length : Nat) : Int) ((pre.length : Nat) : Int) a b o8) =
      bif r.all condValid then X3 (f17s3 v0 v9 v10 (IntKind.wrap IntKind.i64 (v11 + 1)) o8) else some (.bool false)
  | r, pre, 0, _, _, h => by omega
  | [], pre, n + 1, _, _, _ => by
    rw [f17l9, lt_end]; rfl
  | c :: r, pre, n + 1, hok, hl, h => by
    have hc := hok c (by simp)
    rw [f17l9, lt_mid, ge0, nth_mid, cells_c, len_cells_c, pre30 hc, val30]
    simp only [Bool.and_true, cond_true, chk_true, D.isB, D.b]
    have e : pre ++ c :: r = (pre ++ [c]) ++ r := by simp
    have hl' : pre.length < 9223372036854775807 := by simp at hl; omega
    rw [wrap_add1 hl', e, show pre.length + 1 = (pre ++ [c]).length by simp, l89 k X3 v0 v9 v10 v11 a b o8 r (pre ++ [c]) n (fun c hc => hok c (by simp [hc])) (by simpa using hl) (by simpa using h)]
    simp only [List.all_cons]
    cases condValid c <;> rfl
theorem keyB_map (prev : List Prof) (l : List UInt8) : keyB (prev.map Prof.name) l = prev.any fun q => decide (l = q.name) := by
  simp [keyB, List.any_map, Function.comp_def]
theorem l83 (k : Nat) (hk : 9223372036854775807 < k) : ∀ (r prev : List Prof) (n : Nat), (∀ p ∈ r, p.ok) → (prev ++ r).length ≤ 9223372036854775807 → r.length < n →
    f17L3 sp28 sp29 sp30 k n (f17s3 ((prev ++ r).map Prof.d) ((prev ++ r).map Prof.d) ((((prev ++ r).map Prof.d).length : Nat) : Int) ((prev.length : Nat) : Int) (prev.map Prof.name)) =
      some (.bool (dbGo prev r && decide ((prev ++ r).length ≤ 16)))
  | r, prev, 0, _, _, h => by omega
  | [], prev, n + 1, _, _, _ => by
    rw [f17l3, lt_end]
    simp only [cond_false, dbGo, Bool.true_and]
    congr 2
    rw [Bool.eq_iff_iff]
    simp
    omega
  | p :: r, prev, n + 1, hok, hl, h => by
    have hp := hok p (by simp)
    have hl' : prev.length < 9223372036854775807 := by simp at hl; omega
    rw [f17l3, lt_mid, ge0, nth_mid, p0, p1, len_cells_p]
    rw [isS_, isL_, dsE, dl]
    rw [pre28 hp.name, val28, pre29, val29, keyB_map]
    simp only [Bool.true_or, Bool.and_true, cond_true, chk_true, D.isB, D.b, show Nat.beq 7 7 = true from rfl]
    have hin := l89 k (f17L3 sp28 sp29 sp30 k n) ((prev ++ p :: r).map Prof.d) ((prev ++ p :: r).map Prof.d) ((((prev ++ p :: r).map Prof.d).length : Nat) : Int) ((prev.length : Nat) : Int) (D.str p.name) (D.sl 7 (p.conds.map Cond.d))
      (bif prev.any (fun q => decide (p.name = q.name)) then prev.map Prof.name else prev.map Prof.name ++ [p.name]) p.conds [] k hp.conds (by simpa using hp.len) (by have := hp.len; omega)
    simp only [List.nil_append, List.length_nil] at hin
    rw [show ((0 : Nat) : Int) = (0 : Int) from rfl] at hin
    rw [hin]
    have e : prev ++ p :: r = (prev ++ [p]) ++ r := by simp
    cases hany : prev.any (fun q => decide (p.name = q.name)) with
    | true =>
      simp only [dbGo, hany]
      cases nameOk p.name <;> rfl
    | false =>
      simp only [cond_false]
      rw [wrap_add1 hl', e, show prev.length + 1 = (prev ++ [p]).length by simp, show prev.map Prof.name ++ [p.name] = (prev ++ [p]).map Prof.name by simp,
        l83 k hk r (prev ++ [p]) n (fun q hq => hok q (by simp [hq])) (by simpa using hl) (by simpa using h)]
      simp only [dbGo, hany]
      have e1 : decide ((1 : Int) ≤ (((p.conds.map Cond.d).length : Nat) : Int)) = decide (1 ≤ p.conds.length) := decide_eq_decide.2 (by simp; omega)
      have e2 : decide ((((p.conds.map Cond.d).length : Nat) : Int) ≤ (8 : Int)) = decide (p.conds.length ≤ 8) := decide_eq_decide.2 (by simp; omega)
      rw [e1, e2]
      cases nameOk p.name
      · rfl
      · cases decide (1 ≤ p.conds.length)
        · rfl
        · cases decide (p.conds.length ≤ 8)
          · rfl
          · cases p.conds.all condValid <;> rfl
def sp17 : Spc := mkS [shDb] fun ds => .bool (dbValid (toDb (nth ds 0)))
theorem snd17 : Sound Tryd.prog 17 sp17 := by
  refine snd (f17c sp28 sp29 sp30) (told1 _ _) Tryd.func17 (by kernel_rfl) (by kernel_rfl) (calling_cons snd28 (calling_cons snd29 (calling_cons snd30 (nocall _)))) fun ds h => ⟨9223372036854775810, ?_⟩
  obtain ⟨d, rfl, h0⟩ := one_of h
  obtain ⟨db, rfl, hok, hl⟩ := db_of h0
  refine (e17 sp28 sp29 sp30 (db.map Prof.d) 9223372036854775810).trans ?_
  have := l83 9223372036854775810 (by omega) db [] 9223372036854775810 hok hl (by omega)
  simp only [List.nil_append, List.length_nil, List.map_nil] at this
  rw [show ((0 : Nat) : Int) = (0 : Int) from rfl] at this
  rw [this]
  show _ = some (D.bool (dbValid (toDb (.sl 2 (db.map Prof.d)))))
  rw [toDb_d]
  rfl

/-! ### the reference's Valid -/
theorem l913 (k : Nat) (X2 : A → Option D) (v0 : List D) (v3 : Int) (a : D) : ∀ (r pre : List Cond) (n : Nat), (∀ c ∈ r, c.ok) → (pre ++ r).length ≤ 9223372036854775807 → r.length < n →
    f7L13 sp14 sp15 k X2 n (f7s13 v0 v3 ((pre.length : Nat) : Int) a (D.sl 7 ((pre ++ r).map Cond.d))) =
      bif r.all condValid then X2 (f7s2 v0 (IntKind.wrap IntKind.i64 (v3 + 1))) else some (.bool false)
  | r, pre, 0, _, _, h => by omega
  | [], pre, n + 1, _, _, _ => by
    rw [f7l13]
    rw [isL_, dl]
    rw [lt_end]; rfl
  | c :: r, pre, n + 1, hok, hl, h => by
    have hc := hok c (by simp)
    rw [f7l13]
    rw [isL_, dl]
    rw [lt_mid, ge0, nth_mid, cells_c, len_cells_c, pre15 hc, val15]
    simp only [Bool.and_true, cond_true, chk_true, D.isB, D.b, show Nat.beq 7 7 = true from rfl]
    have e : pre ++ c :: r = (pre ++ [c]) ++ r := by simp
    have hl' : pre.length < 9223372036854775807 := by simp at hl; omega
    rw [wrap_add1 hl', e, show pre.length + 1 = (pre ++ [c]).length by simp, l913 k X2 v0 v3 a r (pre ++ [c]) n (fun c hc => hok c (by simp [hc])) (by simpa using hl) (by simpa using h)]
    simp only [List.all_cons]
    cases condValid c <;> rfl
theorem l98 (k : Nat) (X2 : A → Option D) (p : Prof) (tl : List Prof) (b : D) : ∀ (r pre : List Prof) (n : Nat), (pre ++ r).length ≤ 9223372036854775807 → r.length < n →
    f7L8 sp14 sp15 k X2 n (f7s8 ((pre ++ (r ++ tl)).map Prof.d) (((pre ++ r).length : Nat) : Int) ((pre.length : Nat) : Int) (D.str p.name) b) =
      bif r.any (fun q => decide (p.name = q.name)) then some (.bool false) else f7L13 sp14 sp15 k X2 k (f7s13 ((pre ++ (r ++ tl)).map Prof.d) (((pre ++ r).length : Nat) : Int) 0 (D.str p.name) b)
  | r, pre, 0, _, h => by omega
  | [], pre, n + 1, _, _ => by
    rw [f7l8]
    simp
  | q :: r, pre, n + 1, hl, h => by
    rw [f7l8, ltS_mid, ge0, List.cons_append, lt_mid, nth_mid, p0, isS_, isS_, dsE, dsE]
    simp only [Bool.true_and, cond_true, chk_true]
    have e : pre ++ q :: r = (pre ++ [q]) ++ r := by simp
    have e' : pre ++ q :: (r ++ tl) = (pre ++ [q]) ++ (r ++ tl) := by simp
    have hl' : pre.length < 9223372036854775807 := by simp at hl; omega
    rw [wrap_add1 hl', e, e', show pre.length + 1 = (pre ++ [q]).length by simp, l98 k X2 p tl b r (pre ++ [q]) n (by simpa using hl) (by simpa using h)]
    rw [show decide (q.name = p.name) = decide (p.name = q.name) from decide_eq_decide.2 eq_comm]
    simp only [List.any_cons]
    cases decide (p.name = q.name) <;> rfl
theorem l92 (k : Nat) (hk : 9223372036854775807 < k) : ∀ (r prev : List Prof) (n : Nat), (∀ p ∈ r, p.ok) → (prev ++ r).length ≤ 9223372036854775807 → prev.length ≤ 16 → r.length < n →
    f7L2 sp14 sp15 k n (f7s2 ((prev ++ r).map Prof.d) ((prev.length : Nat) : Int)) = some (.bool (dbGo prev r && decide ((prev ++ r).length ≤ 16)))
  | r, prev, 0, _, _, _, h => by omega
  | [], prev, n + 1, _, _, h16, _ => by
    rw [f7l2, lt_end]
    simp [dbGo, h16]
  | p :: r, prev, n + 1, hok, hl, h16, h => by
    have hp := hok p (by simp)
    have hl' : prev.length < 9223372036854775807 := by simp at hl; omega
    rw [f7l2, lt_mid, ge0, nth_mid, p0, p1, len_cells_p]
    rw [isS_, isL_, dsE, dl]
    rw [pre14 hp.name, val14]
    simp only [Bool.true_or, Bool.and_true, cond_true, chk_true, D.isB, D.b, show Nat.beq 7 7 = true from rfl]
    have e1 : decide ((((p.conds.map Cond.d).length : Nat) : Int) < (1 : Int)) = !decide (1 ≤ p.conds.length) := by
      rw [Bool.eq_iff_iff]; simp; rw [← List.length_eq_zero_iff]; omega
    have e2 : decide ((8 : Int) < (((p.conds.map Cond.d).length : Nat) : Int)) = !decide (p.conds.length ≤ 8) := by
      rw [Bool.eq_iff_iff]; simp; omega
    have e3 : decide ((16 : Int) ≤ ((prev.length : Nat) : Int)) = decide (16 ≤ prev.length) := decide_eq_decide.2 (by omega)
    rw [e1, e2, e3]
    by_cases h15 : 16 ≤ prev.length
    · have : ¬ (prev ++ p :: r).length ≤ 16 := by simp; omega
      simp only [decide_eq_true h15, decide_eq_false this, Bool.and_false, cond_true]
    · simp only [decide_eq_false h15, cond_false]
      have hin := l98 k (f7L2 sp14 sp15 k n) p (p :: r) (D.sl 7 (p.conds.map Cond.d)) prev [] k (by simp; omega) (by omega)
      simp only [List.nil_append, List.length_nil] at hin
      rw [show ((0 : Nat) : Int) = (0 : Int) from rfl] at hin
      have hin2 := l913 k (f7L2 sp14 sp15 k n) ((prev ++ p :: r).map Prof.d) ((prev.length : Nat) : Int) (D.str p.name) p.conds [] k hp.conds (by simpa using hp.len) (by have := hp.len; omega)
      simp only [List.nil_append, List.length_nil] at hin2
      rw [show ((0 : Nat) : Int) = (0 : Int) from rfl] at hin2
      rw [hin, hin2]
      have e : prev ++ p :: r = (prev ++ [p]) ++ r := by simp
      rw [wrap_add1 hl', e, show prev.length + 1 = (prev ++ [p]).length by simp,
        l92 k hk r (prev ++ [p]) n (fun q hq => hok q (by simp [hq])) (by simpa using hl) (by simp; omega) (by simpa using h)]
      simp only [dbGo]
      cases nameOk p.name
      · rfl
      · cases decide (1 ≤ p.conds.length)
        · cases prev.any (fun q => decide (p.name = q.name)) <;> rfl
        · cases decide (p.conds.length ≤ 8)
          · cases prev.any (fun q => decide (p.name = q.name)) <;> rfl
          · cases prev.any (fun q => decide (p.name = q.name))
            · cases p.conds.all condValid <;> rfl
            · rfl
def sp7 : Spc := mkS [shDb] fun ds => .bool (dbValid (toDb (nth ds 0)))
theorem snd7 : Sound Tryd.prog 7 sp7 := by
  refine snd (f7c sp14 sp15) (told1 _ _) Tryd.func7 (by kernel_rfl) (by kernel_rfl) (calling_cons snd14 (calling_cons snd15 (nocall _))) fun ds h => ⟨9223372036854775810, ?_⟩
  obtain ⟨d, rfl, h0⟩ := one_of h
  obtain ⟨db, rfl, hok, hl⟩ := db_of h0
  refine (e7 sp14 sp15 (db.map Prof.d) 9223372036854775810).trans ?_
  have := l92 9223372036854775810 (by omega) db [] 9223372036854775810 hok hl (by simp) (by omega)
  simp only [List.nil_append, List.length_nil] at this
  rw [show ((0 : Nat) : Int) = (0 : Int) from rfl] at this
  rw [this]
  show _ = some (D.bool (dbValid (toDb (.sl 2 (db.map Prof.d)))))
  rw [toDb_d]
  rfl

/-! ### whether a database is small -/
theorem l67 (k : Nat) (X2 : A → Option D) (p : Prof) (prev tl : List Prof) : ∀ (r pre : List Cond) (n : Nat), p.conds = pre ++ r → (pre ++ r).length ≤ 9223372036854775807 → r.length < n →
    f6L7 k X2 n (f6s7 ((prev ++ p :: tl).map Prof.d) ((prev.length : Nat) : Int) ((pre.length : Nat) : Int)) =
      bif r.all (fun c => decide (c.value.length ≤ 300)) then X2 (f6s2 ((prev ++ p :: tl).map Prof.d) (IntKind.wrap IntKind.i64 (((prev.length : Nat) : Int) + 1))) else some (.bool false)
  | r, pre, 0, _, _, h => by omega
  | [], pre, n + 1, hp, _, _ => by
    rw [f6l7, lt_mid, ge0, nth_mid, p1]
    rw [isL_, dl]
    rw [hp, lt_end]; rfl
  | c :: r, pre, n + 1, hp, hl, h => by
    rw [f6l7, lt_mid, ge0, nth_mid, p1]
    rw [isL_, dl]
    rw [hp, lt_mid, ge0, nth_mid, show nth (D.cells c.d) 2 = D.sl 1 c.value from rfl, isL_, dl]
    simp only [Bool.true_and, cond_true, chk_true, show Nat.beq 7 7 = true from rfl, show Nat.beq 1 1 = true from rfl]
    have e : pre ++ c :: r = (pre ++ [c]) ++ r := by simp
    have hl' : pre.length < 9223372036854775807 := by simp at hl; omega
    rw [wrap_add1 hl', show pre.length + 1 = (pre ++ [c]).length by simp, l67 k X2 p prev tl r (pre ++ [c]) n (by rw [hp, e]) (by simpa using hl) (by simpa using h)]
    have e1 : decide ((300 : Int) < ((c.value.length : Nat) : Int)) = !decide (c.value.length ≤ 300) := by rw [Bool.eq_iff_iff]; simp; omega
    rw [e1]
    simp only [List.all_cons]
    cases decide (c.value.length ≤ 300) <;> rfl
theorem l62 (k : Nat) (hk : 9223372036854775807 < k) : ∀ (r prev : List Prof) (n : Nat), (∀ p ∈ r, p.ok) → (prev ++ r).length ≤ 9223372036854775807 → r.length < n →
    f6L2 k n (f6s2 ((prev ++ r).map Prof.d) ((prev.length : Nat) : Int)) = some (.bool (r.all profSmall && decide ((prev ++ r).length ≤ 20)))
  | r, prev, 0, _, _, h => by omega
  | [], prev, n + 1, _, _, _ => by
    rw [f6l2, lt_end]
    simp only [cond_false, List.all_nil, Bool.true_and]
    congr 2
    rw [Bool.eq_iff_iff]
    simp
    omega
  | p :: r, prev, n + 1, hok, hl, h => by
    have hp := hok p (by simp)
    have hl' : prev.length < 9223372036854775807 := by simp at hl; omega
    rw [f6l2, lt_mid, ge0, nth_mid, p0, p1]
    rw [isS_, isL_, dsE, dl]
    simp only [Bool.true_and, Bool.true_or, cond_true, chk_true, b77]
    have hin := l67 k (f6L2 k n) p prev r p.conds [] k (by simp) (by simpa using hp.len) (by have := hp.len; omega)
    simp only [List.length_nil] at hin
    rw [show ((0 : Nat) : Int) = (0 : Int) from rfl] at hin
    rw [hin]
    have e : prev ++ p :: r = (prev ++ [p]) ++ r := by simp
    rw [wrap_add1 hl', e, show prev.length + 1 = (prev ++ [p]).length by simp, l62 k hk r (prev ++ [p]) n (fun q hq => hok q (by simp [hq])) (by simpa using hl) (by simpa using h)]
    have e1 : decide ((40 : Int) < ((p.name.length : Nat) : Int)) = !decide (p.name.length ≤ 40) := by rw [Bool.eq_iff_iff]; simp; omega
    have e2 : decide ((10 : Int) < (((p.conds.map Cond.d).length : Nat) : Int)) = !decide (p.conds.length ≤ 10) := by rw [Bool.eq_iff_iff]; simp; omega
    rw [e1, e2]
    simp only [List.all_cons, profSmall]
    cases decide (p.name.length ≤ 40)
    · rfl
    · cases decide (p.conds.length ≤ 10)
      · rfl
      · cases p.conds.all (fun c => decide (c.value.length ≤ 300)) <;> rfl
def sp6 : Spc := mkS [shDb] fun ds => .bool (dbSmall (toDb (nth ds 0)))
theorem snd6 : Sound Tryd.prog 6 sp6 := by
  refine snd f6c (told1 _ _) Tryd.func6 (by kernel_rfl) (by kernel_rfl) (nocall _) fun ds h => ⟨9223372036854775810, ?_⟩
  obtain ⟨d, rfl, h0⟩ := one_of h
  obtain ⟨db, rfl, hok, hl⟩ := db_of h0
  refine (e6 (db.map Prof.d) 9223372036854775810).trans ?_
  have := l62 9223372036854775810 (by omega) db [] 9223372036854775810 hok hl (by omega)
  simp only [List.nil_append, List.length_nil] at this
  rw [show ((0 : Nat) : Int) = (0 : Int) from rfl] at this
  rw [this]
  show _ = some (D.bool (dbSmall (toDb (.sl 2 (db.map Prof.d)))))
  rw [toDb_d]
  rfl

end Go.Pl
