/- Which profile is chosen; whether a device is small: what the functions return. -/
import Derived.Test.YtollfgfhepjfkaaPi
namespace Go.Pl
open Go Go.Ev Go.Proofs

def chooseGo (w : Win) (d : Dev) (name : List UInt8) (most : Nat) : List Prof → List UInt8
  | [] => name
  | p :: r => bif (p.conds.all fun c => holds c w d) && decide (most < p.conds.length) then chooseGo w d p.name p.conds.length r else chooseGo w d name most r
def choose (db : List Prof) (w : Win) (d : Dev) : List UInt8 := bif dbValid db then chooseGo w d [] 0 db else []

theorem pre13 {c : Cond} (hc : c.ok) {w : Win} (hw : w.ok) {d : Dev} (hd : d.ok) : sp13.pre [c.d, w.d, d.d] = true := by
  show okZip [shCond, shWin, shDev] _ = true
  simp only [okZip, hc.s, hw.s, hd.s, Bool.and_self]
theorem val13 (c : Cond) (w : Win) (d : Dev) : sp13.val [c.d, w.d, d.d] = D.bool (holds c w d) := by
  show D.bool (holds c w (toDev d.d)) = _
  rw [toDev_d]

def st5 (v7 : List UInt8) (v8 : Int) (v17 : List D) (v18 v19 : Int) (w : Win) (d : Dev) : A :=
  f18s5 v7 v8 v17 v18 v19 w.f0 w.c0 w.f1 w.c1 w.f2 w.c2 w.f3 w.c3 d.setting d.unit d.state d.identity d.level (d.objects.map Obj.d) d.server d.data
    d.t0.state d.t0.most (d.t0.map.map Span.d) d.t1.state d.t1.most (d.t1.map.map Span.d) d.t2.state d.t2.most (d.t2.map.map Span.d) d.t3.state d.t3.most (d.t3.map.map Span.d) d.profile
def st9 (v7 : List UInt8) (v8 : Int) (v11 : Bool) (v17 : List D) (v18 v19 : Int) (v24 : List D) (v25 v26 : Int) (w : Win) (d : Dev) (a b : D) : A :=
  f18s9 v7 v8 v11 v17 v18 v19 v24 v25 v26 w.f0 w.c0 w.f1 w.c1 w.f2 w.c2 w.f3 w.c3 d.setting d.unit d.state d.identity d.level (d.objects.map Obj.d) d.server d.data
    d.t0.state d.t0.most (d.t0.map.map Span.d) d.t1.state d.t1.most (d.t1.map.map Span.d) d.t2.state d.t2.most (d.t2.map.map Span.d) d.t3.state d.t3.most (d.t3.map.map Span.d) d.profile a b

theorem l189 (k : Nat) (X5 : A → Option D) (v7 : List UInt8) (v8 : Nat) (v17 : List D) (v18 v19 : Int) (w : Win) (hw : w.ok) (d : Dev) (hd : d.ok) (nm : List UInt8) (cs : List Cond) : ∀ (r pre : List Cond) (n : Nat) (v11 : Bool), (∀ c ∈ r, c.ok) → (pre ++ r).length ≤ 9223372036854775807 → r.length < n →
    f18L9 sp8 sp13 k X5 n (st9 v7 ((v8 : Nat) : Int) v11 v17 v18 v19 ((pre ++ r).map Cond.d) ((((pre ++ r).map Cond.d).length : Nat) : Int) ((pre.length : Nat) : Int) w d (.str nm) (.sl 7 (cs.map Cond.d))) =
      bif v11 && (r.all fun c => holds c w d) && decide (v8 < cs.length) then X5 (st5 nm ((cs.length : Nat) : Int) v17 v18 (IntKind.wrap .i64 (v19 + 1)) w d) else X5 (st5 v7 ((v8 : Nat) : Int) v17 v18 (IntKind.wrap .i64 (v19 + 1)) w d)
  | r, pre, 0, _, _, _, h => by omega
  | [], pre, n + 1, v11, _, _, _ => by
    rw [st9, f18l9, lt_end, isL_, isS_, dsE, dl, b77]
    have e1 : decide (((v8 : Nat) : Int) < (((cs.map Cond.d).length : Nat) : Int)) = decide (v8 < cs.length) := decide_eq_decide.2 (by simp)
    rw [e1]
    simp only [Bool.true_or, chk_true, cond_false, cond_and, List.all_nil, Bool.and_true, List.length_map]
    rfl
  | c :: r, pre, n + 1, v11, hok, hl, h => by
    have hc := hok c (by simp)
    rw [st9, f18l9, lt_mid, ge0, nth_mid, cells_c, len_cells_c, foldD, foldW, pre13 hc hw hd, val13]
    have hl' : pre.length < 9223372036854775807 := by simp at hl; omega
    have e : pre ++ c :: r = (pre ++ [c]) ++ r := by simp
    simp only [isB_, b_, Bool.and_self, Bool.true_or, cond_true, chk_true]
    have ih := l189 k X5 v7 v8 v17 v18 v19 w hw d hd nm cs r (pre ++ [c]) n (bif v11 then holds c w d else false) (fun c hc => hok c (by simp [hc])) (by simpa using hl) (by simpa using h)
    rw [st9] at ih
    rw [wrap_add1 hl', e, show pre.length + 1 = (pre ++ [c]).length by simp, ih]
    simp only [List.all_cons, cond_and, Bool.and_assoc]
theorem l185 (k : Nat) (hk : 9223372036854775807 < k) (w : Win) (hw : w.ok) (d : Dev) (hd : d.ok) : ∀ (r prev : List Prof) (n : Nat) (v7 : List UInt8) (v8 : Nat), (∀ p ∈ r, p.ok) → (prev ++ r).length ≤ 9223372036854775807 → r.length < n →
    f18L5 sp8 sp13 k n (st5 v7 ((v8 : Nat) : Int) ((prev ++ r).map Prof.d) ((((prev ++ r).map Prof.d).length : Nat) : Int) ((prev.length : Nat) : Int) w d) = some (.str (chooseGo w d v7 v8 r))
  | r, prev, 0, _, _, _, _, h => by omega
  | [], prev, n + 1, v7, v8, _, _, _ => by
    rw [st5, f18l5, lt_end]; rfl
  | p :: r, prev, n + 1, v7, v8, hok, hl, h => by
    have hp := hok p (by simp)
    have hl' : prev.length < 9223372036854775807 := by simp at hl; omega
    rw [st5, f18l5, lt_mid, ge0, nth_mid, p0, p1, len_cells_p, isL_, dl, b77]
    simp only [Bool.and_self, cond_true, chk_true]
    have hin := l189 k (f18L5 sp8 sp13 k n) v7 v8 ((prev ++ p :: r).map Prof.d) ((((prev ++ p :: r).map Prof.d).length : Nat) : Int) ((prev.length : Nat) : Int) w hw d hd p.name p.conds p.conds [] k true hp.conds (by simpa using hp.len) (by have := hp.len; omega)
    simp only [List.nil_append, List.length_nil] at hin
    rw [show ((0 : Nat) : Int) = (0 : Int) from rfl, st9] at hin
    rw [hin]
    have e : prev ++ p :: r = (prev ++ [p]) ++ r := by simp
    rw [wrap_add1 hl', e, show prev.length + 1 = (prev ++ [p]).length by simp,
      l185 k hk w hw d hd r (prev ++ [p]) n p.name p.conds.length (fun q hq => hok q (by simp [hq])) (by simpa using hl) (by simpa using h),
      l185 k hk w hw d hd r (prev ++ [p]) n v7 v8 (fun q hq => hok q (by simp [hq])) (by simpa using hl) (by simpa using h)]
    simp only [Bool.true_and, chooseGo]
    cases (p.conds.all fun c => holds c w d) && decide (v8 < p.conds.length) <;> rfl
def sp18 : Spc := mkS [shDb, shWin, shDev] fun ds => .str (choose (toDb (nth ds 0)) (toW (nth ds 1)) (toDev (nth ds 2)))
theorem pre8 {db : List Prof} (h : okS shDb (.sl 2 (db.map Prof.d)) = true) : sp8.pre [D.sl 2 (db.map Prof.d)] = true := by
  show okZip [shDb] _ = true
  simp only [okZip, h, Bool.and_self]
theorem val8 (db : List Prof) : sp8.val [D.sl 2 (db.map Prof.d)] = D.bool (dbValid db) := by
  show D.bool (dbValid (toDb (.sl 2 (db.map Prof.d)))) = _
  rw [toDb_d]
theorem snd18 : Sound Try.prog 18 sp18 := by
  refine snd (f18c sp8 sp13) (told1 _ _) Try.func18 (by kernel_rfl) (by kernel_rfl) (calling_cons snd8 (calling_cons snd13 (nocall _))) fun ds h => ⟨9223372036854775810, ?_⟩
  obtain ⟨x, y, z, rfl, h1, h2, h3⟩ := three_of h
  have k1 := h1
  obtain ⟨db, rfl, hok, hl⟩ := db_of h1
  obtain ⟨w, rfl, hw⟩ := win_of h2
  obtain ⟨d, rfl, hd⟩ := dev_of h3
  refine (e18 sp8 sp13 (db.map Prof.d) w.f0 w.c0 w.f1 w.c1 w.f2 w.c2 w.f3 w.c3 d.setting d.unit d.state d.identity d.level (d.objects.map Obj.d) d.server d.data
    d.t0.state d.t0.most (d.t0.map.map Span.d) d.t1.state d.t1.most (d.t1.map.map Span.d) d.t2.state d.t2.most (d.t2.map.map Span.d) d.t3.state d.t3.most (d.t3.map.map Span.d) d.profile 9223372036854775810).trans ?_
  show _ = some (D.str (choose (toDb (.sl 2 (db.map Prof.d))) w (toDev d.d)))
  rw [toDb_d, toDev_d, pre8 k1, val8]
  have := l185 9223372036854775810 (by omega) w hw d hd db [] 9223372036854775810 [] 0 hok hl (by omega)
  simp only [List.nil_append, List.length_nil] at this
  rw [show ((0 : Nat) : Int) = (0 : Int) from rfl, st5] at this
  rw [this]
  simp only [isB_, b_, Bool.and_self, chk_true, choose]
  cases dbValid db <;> rfl

/-! ### small devices -/
def objsSmall (l : List Obj) : Bool := (l.all fun o => decide (o.value.length ≤ 300)) && decide (l.length ≤ 40)
theorem l23 (k : Nat) : ∀ (r pre : List Obj) (n : Nat), (pre ++ r).length ≤ 9223372036854775807 → r.length < n →
    f23L2 k n (f23s2 ((pre ++ r).map Obj.d) ((pre.length : Nat) : Int)) = some (.bool ((r.all fun o => decide (o.value.length ≤ 300)) && decide ((pre ++ r).length ≤ 40)))
  | r, pre, 0, _, h => by omega
  | [], pre, n + 1, _, _ => by
    rw [f23l2, lt_end]
    simp only [cond_false, List.all_nil, Bool.true_and]
    congr 2
    rw [Bool.eq_iff_iff]
    simp
    omega
  | o :: r, pre, n + 1, hl, h => by
    rw [f23l2, lt_mid, ge0, nth_mid, o1, isL_, dl, b11]
    have hl' : pre.length < 9223372036854775807 := by simp at hl; omega
    have e : pre ++ o :: r = (pre ++ [o]) ++ r := by simp
    rw [wrap_add1 hl', e, show pre.length + 1 = (pre ++ [o]).length by simp, l23 k r (pre ++ [o]) n (by simpa using hl) (by simpa using h)]
    have e1 : decide ((300 : Int) < ((o.value.length : Nat) : Int)) = !decide (o.value.length ≤ 300) := by rw [Bool.eq_iff_iff]; simp; omega
    rw [e1]
    simp only [Bool.and_self, cond_true, chk_true, List.all_cons]
    cases decide (o.value.length ≤ 300) <;> rfl
def sp23 : Spc := mkS [shObjs] fun ds => .bool (objsSmall ((nth ds 0).l.map toO))
theorem map_toO (l : List Obj) : (l.map Obj.d).map toO = l := by
  rw [List.map_map]
  exact List.map_id'' (fun p => toO_d p) l
theorem snd23 : Sound Try.prog 23 sp23 := by
  refine snd f23c (told1 _ _) Try.func23 (by kernel_rfl) (by kernel_rfl) (nocall _) fun ds h => ⟨9223372036854775810, ?_⟩
  obtain ⟨x, rfl, h1⟩ := one_of h
  obtain ⟨l, rfl, _, hl⟩ := objs_of h1
  refine (e23 (l.map Obj.d) 9223372036854775810).trans ?_
  show _ = some (D.bool (objsSmall ((l.map Obj.d).map toO)))
  have := l23 9223372036854775810 l [] 9223372036854775810 hl (by omega)
  simp only [List.nil_append, List.length_nil] at this
  rw [show ((0 : Nat) : Int) = (0 : Int) from rfl] at this
  rw [this, map_toO]
  rfl
def devSmall (d : Dev) : Bool := decide (d.t0.map.length ≤ 40) && (decide (d.t1.map.length ≤ 40) && (decide (d.t2.map.length ≤ 40) && (decide (d.t3.map.length ≤ 40) && (objsSmall d.objects && decide (d.data.length ≤ 300) && decide (d.profile.length ≤ 40)))))
def sp17 : Spc := mkS [shDev] fun ds => .bool (devSmall (toDev (nth ds 0)))
theorem snd17 : Sound Try.prog 17 sp17 := by
  refine snd (f17c sp23) (told1 _ _) Try.func17 (by kernel_rfl) (by kernel_rfl) (calling_cons snd23 (nocall _)) fun ds h => ⟨5, ?_⟩
  obtain ⟨x, rfl, h1⟩ := one_of h
  obtain ⟨d, rfl, hd⟩ := dev_of h1
  refine (e17 sp23 d.setting d.unit d.state d.identity d.level (d.objects.map Obj.d) d.server d.data
    d.t0.state d.t0.most (d.t0.map.map Span.d) d.t1.state d.t1.most (d.t1.map.map Span.d) d.t2.state d.t2.most (d.t2.map.map Span.d) d.t3.state d.t3.most (d.t3.map.map Span.d) d.profile 5).trans ?_
  show _ = some (D.bool (devSmall (toDev d.d)))
  have hp : sp23.pre [D.sl 2 (d.objects.map Obj.d)] = true := by
    show okZip [shObjs] _ = true
    simp only [okZip, hd.osh, Bool.and_self]
  have hv : sp23.val [D.sl 2 (d.objects.map Obj.d)] = D.bool (objsSmall d.objects) := by
    show D.bool (objsSmall ((d.objects.map Obj.d).map toO)) = _
    rw [map_toO]
  have b22 : Nat.beq 2 2 = true := rfl
  have w1 : IntKind.wrap IntKind.i64 ((0 : Int) + 1) = 1 := rfl
  have w2 : IntKind.wrap IntKind.i64 ((1 : Int) + 1) = 2 := rfl
  have w3 : IntKind.wrap IntKind.i64 ((2 : Int) + 1) = 3 := rfl
  have w4 : IntKind.wrap IntKind.i64 ((3 : Int) + 1) = 4 := rfl
  have ee : ∀ l : List Span, decide ((40 : Int) < (((l.map Span.d).length : Nat) : Int)) = !decide (l.length ≤ 40) := fun l => by rw [Bool.eq_iff_iff]; simp; omega
  rw [toDev_d, f17l2, w1, f17l2, w2, f17l2, w3, f17l2, w4, f17l2, hp, hv]
  simp only [show Int.toNat 0 = 0 from rfl, show Int.toNat 1 = 1 from rfl, show Int.toNat 2 = 2 from rfl, show Int.toNat 3 = 3 from rfl, nth]
  rw [isL_, isL_, isL_, isL_, dl, dl, dl, dl, ee, ee, ee, ee, b22]
  have e1 : decide (((d.data.length : Nat) : Int) ≤ (300 : Int)) = decide (d.data.length ≤ 300) := decide_eq_decide.2 (by omega)
  have e2 : decide (((d.profile.length : Nat) : Int) ≤ (40 : Int)) = decide (d.profile.length ≤ 40) := decide_eq_decide.2 (by omega)
  rw [e1, e2]
  simp only [isB_, b_, Bool.and_self, chk_true, cond_and, devSmall]
  cases decide (d.t0.map.length ≤ 40)
  · rfl
  cases decide (d.t1.map.length ≤ 40)
  · rfl
  cases decide (d.t2.map.length ≤ 40)
  · rfl
  cases decide (d.t3.map.length ≤ 40)
  · rfl
  rfl

end Go.Pl
