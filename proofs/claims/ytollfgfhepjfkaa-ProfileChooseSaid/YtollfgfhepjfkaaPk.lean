/- ProfileChoose: for every input, the call returns true, and the arguments read as they did. No conditions. -/
import Derived.Test.YtollfgfhepjfkaaRows
import Derived.Test.YtollfgfhepjfkaaPf
import Derived.Test.YtollfgfhepjfkaaPj
import Derived.Test.YtollfgfhepjfkaaPb5
import Derived.Test.YtollfgfhepjfkaaFr
namespace Go.Pl
open Go Go.Ev Go.Proofs

/-! ### the plain law -/
def meets_ (w : Win) (d : Dev) (p : Prof) : Bool := p.conds.all fun c => holds c w d
theorem chooseGo_spec (w : Win) (d : Dev) : ∀ (r : List Prof) (nm : List UInt8) (most : Nat),
    (chooseGo w d nm most r = nm ∧ ∀ q ∈ r, meets_ w d q = true → q.conds.length ≤ most) ∨
    ∃ pre p post, r = pre ++ p :: post ∧ meets_ w d p = true ∧ most < p.conds.length ∧ chooseGo w d nm most r = p.name ∧ (∀ q ∈ pre, meets_ w d q = true → q.conds.length < p.conds.length) ∧ ∀ q ∈ post, meets_ w d q = true → q.conds.length ≤ p.conds.length
  | [], nm, most => .inl ⟨rfl, fun q h => by cases h⟩
  | p :: r, nm, most => by
    simp only [chooseGo]
    cases hb : ((p.conds.all fun c => holds c w d) && decide (most < p.conds.length)) with
    | true =>
      simp only [Bool.and_eq_true, decide_eq_true_eq] at hb
      simp only [cond_true]
      rcases chooseGo_spec w d r p.name p.conds.length with ⟨h1, h2⟩ | ⟨pre, q, post, rfl, h2, h3, h4, h5, h6⟩
      · exact .inr ⟨[], p, r, rfl, hb.1, hb.2, h1, (fun q h => by cases h), h2⟩
      · refine .inr ⟨p :: pre, q, post, rfl, h2, by omega, h4, fun x hx hm => ?_, h6⟩
        rcases List.mem_cons.1 hx with rfl | hx
        · exact h3
        · exact h5 x hx hm
    | false =>
      simp only [cond_false]
      have hp : meets_ w d p = true → p.conds.length ≤ most := fun hm => by
        unfold meets_ at hm
        rw [hm] at hb
        simpa using hb
      rcases chooseGo_spec w d r nm most with ⟨h1, h2⟩ | ⟨pre, q, post, rfl, h2, h3, h4, h5, h6⟩
      · refine .inl ⟨h1, fun x hx hm => ?_⟩
        rcases List.mem_cons.1 hx with rfl | hx
        · exact hp hm
        · exact h2 x hx hm
      · refine .inr ⟨p :: pre, q, post, rfl, h2, h3, h4, fun x hx hm => ?_, h6⟩
        rcases List.mem_cons.1 hx with rfl | hx
        · have := hp hm; omega
        · exact h5 x hx hm

theorem dbGo_at : ∀ {r prev : List Prof}, dbGo prev r = true → ∀ (a : List Prof) (p : Prof) (b : List Prof), r = a ++ p :: b → nameOk p.name = true ∧ 1 ≤ p.conds.length ∧ ∀ q ∈ prev ++ a, p.name ≠ q.name
  | [], _, _, a, p, b, h => by simp at h
  | x :: r, prev, hd, a, p, b, h => by
    simp only [dbGo, Bool.and_eq_true, Bool.not_eq_true', decide_eq_true_eq] at hd
    obtain ⟨⟨⟨⟨⟨q1, q2⟩, q3⟩, _⟩, _⟩, q6⟩ := hd
    cases a with
    | nil =>
      simp only [List.nil_append, List.cons.injEq] at h
      obtain ⟨rfl, rfl⟩ := h
      refine ⟨q1, q3, fun q hq he => ?_⟩
      rw [List.append_nil] at hq
      have := List.any_eq_false.1 q2 q hq
      simp [he] at this
    | cons y a =>
      simp only [List.cons_append, List.cons.injEq] at h
      obtain ⟨rfl, rfl⟩ := h
      obtain ⟨h1, h2, h3⟩ := dbGo_at q6 a p b rfl
      exact ⟨h1, h2, fun q hq => h3 q (by simpa using hq)⟩

/-- the last place with a name. -/
def atGo (nm : List UInt8) (at_ : Int) (i : Nat) : List Prof → Int
  | [] => at_
  | p :: r => atGo nm (bif decide (p.name = nm) then ((i : Nat) : Int) else at_) (i + 1) r
theorem atGo_none {nm : List UInt8} : ∀ {r : List Prof} {at_ : Int} {i : Nat}, (∀ q ∈ r, q.name ≠ nm) → atGo nm at_ i r = at_
  | [], _, _, _ => rfl
  | p :: r, at_, i, h => by
    simp only [atGo, decide_eq_false (h p (by simp)), cond_false]
    exact atGo_none fun q hq => h q (by simp [hq])
theorem atGo_one {nm : List UInt8} : ∀ {a : List Prof} {p : Prof} {b : List Prof} {at_ : Int} {i : Nat}, p.name = nm → (∀ q ∈ b, q.name ≠ nm) → atGo nm at_ i (a ++ p :: b) = ((i + a.length : Nat) : Int)
  | [], p, b, at_, i, h, hb => by
    simp only [List.nil_append, atGo, decide_eq_true h, cond_true, List.length_nil, Nat.add_zero]
    exact atGo_none hb
  | x :: a, p, b, at_, i, h, hb => by
    simp only [List.cons_append, atGo]
    rw [atGo_one h hb, List.length_cons]
    congr 1
    omega

/-- what is known of the chosen place. -/
def Chosen (w : Win) (d : Dev) (db : List Prof) (at_ : Int) : Prop :=
  (at_ = -1 ∧ ∀ q ∈ db, meets_ w d q = false) ∨
  ∃ (p : Prof) (a : Nat), at_ = ((a : Nat) : Int) ∧ db[a]? = some p ∧ meets_ w d p = true ∧ ∀ (i : Nat) (q : Prof), db[i]? = some q → meets_ w d q = true → q.conds.length ≤ p.conds.length ∧ (i < a → q.conds.length < p.conds.length)
theorem chosen (w : Win) (d : Dev) (db : List Prof) (h : dbValid db = true) : Chosen w d db (atGo (choose db w d) (-1) 0 db) ∧ (0 ≤ atGo (choose db w d) (-1) 0 db ∨ choose db w d = []) := by
  unfold choose
  rw [h]
  simp only [cond_true]
  unfold dbValid at h
  simp only [Bool.and_eq_true] at h
  rcases chooseGo_spec w d db [] 0 with ⟨h1, h2⟩ | ⟨pre, p, post, rfl, h2, _, h4, h5, h6⟩
  · rw [h1]
    have hn : ∀ q ∈ db, q.name ≠ [] := fun q hq => by
      obtain ⟨a, b, rfl⟩ := List.append_of_mem hq
      obtain ⟨k1, _, _⟩ := dbGo_at h.1 a q b rfl
      intro e; rw [e] at k1; simp [nameOk] at k1
    rw [atGo_none hn]
    refine ⟨.inl ⟨rfl, fun q hq => ?_⟩, .inr rfl⟩
    obtain ⟨a, b, rfl⟩ := List.append_of_mem hq
    obtain ⟨_, k2, _⟩ := dbGo_at h.1 a q b rfl
    cases hm : meets_ w d q with
    | false => rfl
    | true => have := h2 q hq hm; omega
  · rw [h4]
    have hb : ∀ q ∈ post, q.name ≠ p.name := fun q hq => by
      obtain ⟨a, b, rfl⟩ := List.append_of_mem hq
      obtain ⟨_, _, k3⟩ := dbGo_at h.1 (pre ++ p :: a) q b (by simp)
      exact k3 p (by simp)
    rw [atGo_one rfl hb]
    refine ⟨.inr ⟨p, pre.length, by simp, by simp, h2, fun i q hi hm => ?_⟩, .inl (by omega)⟩
    by_cases c1 : i < pre.length
    · rw [List.getElem?_append_left c1] at hi
      have := h5 q (List.mem_of_getElem? hi) hm
      exact ⟨by omega, fun _ => this⟩
    · rw [List.getElem?_append_right (by omega)] at hi
      cases hk : i - pre.length with
      | zero =>
        rw [hk] at hi
        simp only [List.getElem?_cons_zero, Option.some.injEq] at hi
        subst hi
        exact ⟨Nat.le_refl _, fun h => absurd h c1⟩
      | succ m =>
        rw [hk] at hi
        simp only [List.getElem?_cons_succ] at hi
        exact ⟨h6 q (List.mem_of_getElem? hi) hm, fun h => absurd h c1⟩

/-! ### the walk -/
def st56 (v0 : List D) (v7 : List UInt8) (v8 v9 : Int) (w : Win) (d : Dev) : A := f5s6 v0 v7 v8 v9 w.f0 w.c0 w.f1 w.c1 w.f2 w.c2 w.f3 w.c3 d.setting d.unit d.state d.identity d.level (d.objects.map Obj.d) d.server d.data d.t0.state d.t0.most (d.t0.map.map Span.d) d.t1.state d.t1.most (d.t1.map.map Span.d) d.t2.state d.t2.most (d.t2.map.map Span.d) d.t3.state d.t3.most (d.t3.map.map Span.d) d.profile
def st511 (v0 : List D) (v7 : List UInt8) (v8 v10 : Int) (w : Win) (d : Dev) : A := f5s11 v0 v7 v8 v10 w.f0 w.c0 w.f1 w.c1 w.f2 w.c2 w.f3 w.c3 d.setting d.unit d.state d.identity d.level (d.objects.map Obj.d) d.server d.data d.t0.state d.t0.most (d.t0.map.map Span.d) d.t1.state d.t1.most (d.t1.map.map Span.d) d.t2.state d.t2.most (d.t2.map.map Span.d) d.t3.state d.t3.most (d.t3.map.map Span.d) d.profile
def st515 (v0 : List D) (v7 : List UInt8) (v8 v10 : Int) (v11 : Bool) (v12 : Int) (w : Win) (d : Dev) : A := f5s15 v0 v7 v8 v10 v11 v12 w.f0 w.c0 w.f1 w.c1 w.f2 w.c2 w.f3 w.c3 d.setting d.unit d.state d.identity d.level (d.objects.map Obj.d) d.server d.data d.t0.state d.t0.most (d.t0.map.map Span.d) d.t1.state d.t1.most (d.t1.map.map Span.d) d.t2.state d.t2.most (d.t2.map.map Span.d) d.t3.state d.t3.most (d.t3.map.map Span.d) d.profile

theorem oneG_t (b : Bool) : oneG (b, true) = b := rfl
theorem oneG_f (b : Bool) : oneG (b, false) = !b := rfl
theorem l56 (k : Nat) (w : Win) (d : Dev) (nm : List UInt8) : ∀ (r prev : List Prof) (n : Nat) (at_ : Int), (prev ++ r).length ≤ 9223372036854775807 → r.length < n →
    f5L6 sp6 sp17 sp9 sp7 sp18 sp13 k n (st56 ((prev ++ r).map Prof.d) nm at_ ((prev.length : Nat) : Int) w d) = f5L11 sp6 sp17 sp9 sp7 sp18 sp13 k k (st511 ((prev ++ r).map Prof.d) nm (atGo nm at_ prev.length r) 0 w d)
  | r, prev, 0, _, _, h => by omega
  | [], prev, n + 1, at_, _, _ => by
    rw [st56, f5l6, lt_end]; rfl
  | p :: r, prev, n + 1, at_, hl, h => by
    have hl' : prev.length < 9223372036854775807 := by simp at hl; omega
    have e : prev ++ p :: r = (prev ++ [p]) ++ r := by simp
    rw [st56, f5l6, lt_mid, ge0, nth_mid, p0, isS_, dsE]
    have i1 := l56 k w d nm r (prev ++ [p]) n ((prev.length : Nat) : Int) (by simpa using hl) (by simpa using h)
    have i2 := l56 k w d nm r (prev ++ [p]) n at_ (by simpa using hl) (by simpa using h)
    rw [st56] at i1 i2
    rw [wrap_add1 hl', e, show prev.length + 1 = (prev ++ [p]).length by simp, i1, i2]
    simp only [Bool.and_self, cond_true, chk_true, atGo, List.length_append, List.length_cons, List.length_nil]
    cases decide (p.name = nm) <;> rfl

theorem l515 (k : Nat) (X : A → Option D) (w : Win) (hw : w.ok) (d : Dev) (hd : d.ok) (nm : List UInt8) (at_ : Int) (p : Prof) (prev tl : List Prof) (hC : Chosen w d (prev ++ p :: tl) at_) :
    ∀ (r pre : List Cond) (n : Nat) (v11 : Bool), p.conds = pre ++ r → (∀ c ∈ r, c.ok) → (pre ++ r).length ≤ 9223372036854775807 → r.length < n → (v11 && r.all fun c => holds c w d) = meets_ w d p →
    f5L15 sp6 sp17 sp9 sp7 sp18 sp13 k X n (st515 ((prev ++ p :: tl).map Prof.d) nm at_ ((prev.length : Nat) : Int) v11 ((pre.length : Nat) : Int) w d) = X (st511 ((prev ++ p :: tl).map Prof.d) nm at_ (IntKind.wrap .i64 (((prev.length : Nat) : Int) + 1)) w d)
  | r, pre, 0, _, _, _, _, h, _ => by omega
  | c :: r, pre, n + 1, v11, hp, hok, hl, h, hm => by
    have hc := hok c (by simp)
    have hl' : pre.length < 9223372036854775807 := by simp at hl; omega
    have ih := l515 k X w hw d hd nm at_ p prev tl hC r (pre ++ [c]) n (bif v11 then holds c w d else false) (by rw [hp]; simp) (fun c hc => hok c (by simp [hc])) (by simpa using hl) (by simpa using h) (by rw [← hm, cond_and]; simp only [List.all_cons, Bool.and_assoc])
    rw [st515] at ih
    rw [st515, f5l15, lt_mid, ge0, nth_mid, p1, isL_, dl, hp, lt_mid, ge0, nth_mid, cells_c, len_cells_c, foldD, foldW, pre13 hc hw hd, val13, wrap_add1 hl', show pre.length + 1 = (pre ++ [c]).length by simp, b77]
    simp only [isB_, b_, Bool.and_self, Bool.true_or, cond_true, chk_true]
    exact ih
  | [], pre, n + 1, v11, hp, _, hl, _, hm => by
    simp only [List.all_nil, Bool.and_true] at hm
    subst hm
    have hlen : (((p.conds.map Cond.d).length : Nat) : Int) = ((p.conds.length : Nat) : Int) := by simp
    rw [st515, f5l15, lt_mid, ge0, nth_mid, p1, isL_, dl]
    rw [show decide (((pre.length : Nat) : Int) < (((p.conds.map Cond.d).length : Nat) : Int)) = false by rw [hp, lt_end], hlen, b77]
    simp only [Bool.and_self, Bool.true_or, cond_false, chk_true]
    have hat : (prev ++ p :: tl)[prev.length]? = some p := by simp
    rcases hC with ⟨rfl, hno⟩ | ⟨q, a, rfl, ha, hq, hbest⟩
    · have hf := hno p (by simp)
      rw [hf]
      simp only [oneG_t, Bool.and_false, Bool.not_false, Bool.or_true, chk_true, cond_false]
      rw [show decide (((prev.length : Nat) : Int) = -1) = false from decide_eq_false (by omega)]
      rfl
    · have hnth : nth ((prev ++ p :: tl).map Prof.d) (Int.toNat ((a : Nat) : Int)) = q.d := by
        rw [nth_eq, Int.toNat_natCast, List.getElem?_map, ha]; rfl
      have haL : a < (prev ++ p :: tl).length := (List.getElem?_eq_some_iff.1 ha).1
      have hlt : decide (((a : Nat) : Int) < ((((prev ++ p :: tl).map Prof.d).length : Nat) : Int)) = true := decide_eq_true (by rw [List.length_map]; omega)
      have hqlen : (((q.conds.map Cond.d).length : Nat) : Int) = ((q.conds.length : Nat) : Int) := by simp
      rw [hnth, p1, isL_, dl, hqlen, ge0, hlt, b77]
      simp only [Bool.and_self, Bool.true_or, chk_true]
      have e0 : decide (((a : Nat) : Int) < 0) = false := decide_eq_false (by omega)
      rw [e0]
      by_cases hpa : prev.length = a
      · subst hpa
        rw [hat] at ha
        cases ha
        rw [hq]
        have e2 : decide (((p.conds.length : Nat) : Int) < ((p.conds.length : Nat) : Int)) = false := decide_eq_false (by omega)
        have e3 : decide (((prev.length : Nat) : Int) < ((prev.length : Nat) : Int)) = false := decide_eq_false (by omega)
        rw [e2, e3]
        simp only [Bool.not_true, cond_false, cond_true]
        cases decide (((prev.length : Nat) : Int) = ((prev.length : Nat) : Int)) <;> rfl
      · have e1 : decide (((prev.length : Nat) : Int) = ((a : Nat) : Int)) = false := decide_eq_false (by omega)
        rw [e1]
        simp only [cond_false]
        cases hm : meets_ w d p with
        | false => rfl
        | true =>
          have := hbest prev.length p hat hm
          have e2 : decide (((q.conds.length : Nat) : Int) < ((p.conds.length : Nat) : Int)) = false := decide_eq_false (by omega)
          rw [e2]
          by_cases hlt2 : prev.length < a
          · have e3 : decide (((p.conds.length : Nat) : Int) = ((q.conds.length : Nat) : Int)) = false := decide_eq_false (by have := this.2 hlt2; omega)
            rw [e3]
            cases decide (((prev.length : Nat) : Int) < ((a : Nat) : Int)) <;> rfl
          · have e3 : decide (((prev.length : Nat) : Int) < ((a : Nat) : Int)) = false := decide_eq_false (by omega)
            rw [e3]
            rfl
theorem l511 (k : Nat) (hk : 9223372036854775807 < k) (w : Win) (hw : w.ok) (d : Dev) (hd : d.ok) (nm : List UInt8) (at_ : Int) (hz : 0 ≤ at_ ∨ nm = []) : ∀ (r prev : List Prof) (n : Nat), Chosen w d (prev ++ r) at_ → (∀ p ∈ r, p.ok) → (prev ++ r).length ≤ 9223372036854775807 → r.length < n →
    f5L11 sp6 sp17 sp9 sp7 sp18 sp13 k n (st511 ((prev ++ r).map Prof.d) nm at_ ((prev.length : Nat) : Int) w d) = some (.bool true)
  | r, prev, 0, _, _, _, h => by omega
  | [], prev, n + 1, _, _, _, _ => by
    rw [st511, f5l11, lt_end]
    have q7 : sp7.pre [] = true := rfl
    have v7 : sp7.val [] = D.bool true := rfl
    rw [q7, v7]
    simp only [isB_, b_, Bool.and_self, chk_true, cond_false, cond_true]
    congr 2
    rcases hz with hz | hz
    · rw [decide_eq_true hz]; rfl
    · rw [decide_eq_true hz]; cases decide (0 ≤ at_) <;> rfl
  | p :: r, prev, n + 1, hC, hok, hl, h => by
    have hp := hok p (by simp)
    have hl' : prev.length < 9223372036854775807 := by simp at hl; omega
    have hin := l515 k (f5L11 sp6 sp17 sp9 sp7 sp18 sp13 k n) w hw d hd nm at_ p prev r hC p.conds [] k true rfl hp.conds (by simpa using hp.len) (by have := hp.len; omega) (by rw [Bool.true_and]; rfl)
    simp only [List.length_nil] at hin
    rw [show ((0 : Nat) : Int) = (0 : Int) from rfl, st515] at hin
    rw [st511, f5l11, lt_mid, cond_true, hin]
    have e : prev ++ p :: r = (prev ++ [p]) ++ r := by simp
    rw [wrap_add1 hl', e, show prev.length + 1 = (prev ++ [p]).length by simp]
    exact l511 k hk w hw d hd nm at_ hz r (prev ++ [p]) n (by rw [← e]; exact hC) (fun q hq => hok q (by simp [hq])) (by simpa using hl) (by simpa using h)

def sp5 : Spc := mkS [shDb, shWin, shDev] fun _ => .bool true
theorem snd5 : Sound Try.prog 5 sp5 := by
  refine snd (f5c sp6 sp17 sp9 sp7 sp18 sp13) (told1 _ _) Try.func5 (by kernel_rfl) (by kernel_rfl) (calling_cons snd6 (calling_cons snd17 (calling_cons snd9 (calling_cons snd7 (calling_cons snd18 (calling_cons snd13 (nocall _))))))) fun ds h => ⟨9223372036854775810, ?_⟩
  obtain ⟨x, y, z, rfl, h1, h2, h3⟩ := three_of h
  have k1 := h1
  obtain ⟨db, rfl, hok, hl⟩ := db_of h1
  obtain ⟨w, rfl, hw⟩ := win_of h2
  obtain ⟨d, rfl, hd⟩ := dev_of h3
  refine (e5 sp6 sp17 sp9 sp7 sp18 sp13 (db.map Prof.d) w.f0 w.c0 w.f1 w.c1 w.f2 w.c2 w.f3 w.c3 d.setting d.unit d.state d.identity d.level (d.objects.map Obj.d) d.server d.data d.t0.state d.t0.most (d.t0.map.map Span.d) d.t1.state d.t1.most (d.t1.map.map Span.d) d.t2.state d.t2.most (d.t2.map.map Span.d) d.t3.state d.t3.most (d.t3.map.map Span.d) d.profile 9223372036854775810).trans ?_
  show _ = some (D.bool true)
  have q6 : sp6.pre [D.sl 2 (db.map Prof.d)] = true := pre8 k1
  have q9 : sp9.pre [D.sl 2 (db.map Prof.d)] = true := pre8 k1
  have q7 : sp7.pre [] = true := rfl
  have v7 : sp7.val [] = D.bool true := rfl
  have v6 : sp6.val [D.sl 2 (db.map Prof.d)] = D.bool (dbSmall db) := by
    show D.bool (dbSmall (toDb (.sl 2 (db.map Prof.d)))) = _
    rw [toDb_d]
  have v9 : sp9.val [D.sl 2 (db.map Prof.d)] = D.bool (dbValid db) := val8 db
  have q17 : sp17.pre [d.d] = true := by
    show okZip [shDev] _ = true
    simp only [okZip, hd.s, Bool.and_self]
  have v17 : sp17.val [d.d] = D.bool (devSmall d) := by
    show D.bool (devSmall (toDev d.d)) = _
    rw [toDev_d]
  have q18 : sp18.pre [D.sl 2 (db.map Prof.d), w.d, d.d] = true := h
  have v18 : sp18.val [D.sl 2 (db.map Prof.d), w.d, d.d] = D.str (choose db w d) := by
    show D.str (choose (toDb (.sl 2 (db.map Prof.d))) w (toDev d.d)) = _
    rw [toDb_d, toDev_d]
  rw [foldD, foldW, q6, q7, q9, q17, q18, v6, v7, v9, v17, v18]
  simp only [isB_, b_, isS_, dsE, Bool.and_self, Bool.true_or, chk_true]
  cases hb : dbSmall db
  · rfl
  cases hs : devSmall d
  · rfl
  cases hv : dbValid db
  · rfl
  simp only [Bool.not_true, cond_false]
  obtain ⟨hC, hz⟩ := chosen w d db hv
  have h6 := l56 9223372036854775810 w d (choose db w d) db [] 9223372036854775810 (-1) hl (by omega)
  simp only [List.nil_append, List.length_nil] at h6
  rw [show ((0 : Nat) : Int) = (0 : Int) from rfl, st56] at h6
  have h11 := l511 9223372036854775810 (by omega) w hw d hd (choose db w d) _ hz db [] 9223372036854775810 hC hok hl (by omega)
  simp only [List.nil_append, List.length_nil] at h11
  rw [show ((0 : Nat) : Int) = (0 : Int) from rfl] at h11
  exact h6.trans h11

theorem laid5 : laidOutB Try.prog = true := by kernel_rfl
theorem bool45 : Try.prog.underlying 4 = some .bool := by kernel_rfl
theorem own5 : ownKnob Try.prog.godebug = none := by kernel_rfl
theorem args5 : [22, 37, 50].map (argSh Try.prog) = [shDb, shWin, shDev].map some := by kernel_rfl

end Go.Pl
namespace Go.Proofs.Ytollfgfhepjfkaa
open Go Go.Ev Go.Pl Go.Proofs
set_option maxRecDepth 100000 in
theorem profileChoose_lifted (os : Os) (started : os.Started) (H : Type) (enc : TypeId × Value → H) :
    ReturnsInHanded {} Try.checked os 5 .any (Rows.profileChooseSpec.pre6 enc Try.prog Try.f5 Rows.profileChooseRow.domain false) (Rows.profileChooseSpec.post enc Try.prog Try.f5 false true false false) := by
  refine returnsInHanded_of_change (C := Try.checked) own5 started (by kernel_rfl) Try.func5
    (ChangeSpec.witness6 (enc := enc) (C := Try.checked) false ⟨#[], #[.slice none 0 0, .agg #[.int .i64 0, .int .i64 0, .int .i64 0, .int .i64 0, .int .i64 0, .int .i64 0, .int .i64 0, .int .i64 0],
      .agg #[.int .i64 0, .int .i64 0, .int .i64 0, .int .i64 0, .int .i64 0, .slice none 0 0, .int .i64 0, .slice none 0 0, .int .i64 0, .int .i64 0, .slice none 0 0, .int .i64 0, .int .i64 0, .slice none 0 0, .int .i64 0, .int .i64 0, .slice none 0 0, .int .i64 0, .int .i64 0, .slice none 0 0, .string ByteArray.empty]], []⟩ 8 (by kernel_rfl) (by kernel_rfl) (by kernel_rfl) (by kernel_rfl)) ?_
  intro W base args ds gs before hval hW _ _
  have hp : Try.f5.params.toList = [22, 37, 50] := by kernel_rfl
  refine contract_of (shs := [shDb, shWin, shDev]) snd5 (fun _ _ => rfl) (fun ds h => h) ?_ (by kernel_rfl) bool45 laid5 ?_ rfl ?_ base args ds gs before hval hW
  · rw [hp]; exact args5
  · rw [hp]
    intro t ht
    have : t = 22 ∨ t = 37 ∨ t = 50 := by simpa using ht
    rcases this with rfl | rfl | rfl
    · exact ⟨by kernel_rfl, of_decide_eq_true (by kernel_rfl)⟩
    · exact ⟨by kernel_rfl, of_decide_eq_true (by kernel_rfl)⟩
    · exact ⟨by kernel_rfl, of_decide_eq_true (by kernel_rfl)⟩
  · intro ds hl
    rw [hp] at hl
    match ds, hl with
    | [a, b, c], _ => rfl
theorem profileChoose_holds : Rows.ProfileChooseSaid :=
  OpenClaim.holds_of_wide 5 Try.f5 rfl rfl rfl rfl rfl rfl rfl ⟨rfl, rfl, rfl, rfl, rfl⟩ rfl rfl rfl rfl rfl (by kernel_rfl) Try.func5 (by kernel_rfl)
    (of_decide_eq_true (by kernel_rfl)) (by unfold Func.isWrapper; first | (rw [if_pos (by decide +kernel)]; kernel_rfl) | (rw [if_neg (by decide +kernel)]; exact ⟨rfl, rfl⟩))
    (fun os started H enc _ => profileChoose_lifted os started H enc)
#print axioms profileChoose_holds
end Go.Proofs.Ytollfgfhepjfkaa
