/- Shapes of data: what a type's data look like; conditions and profiles as records; small lemmas on lists of data. -/
import Derived.Test.YtollfgfhepjfkaaDoorEv20
import Derived.Laws.BitsLemmas
namespace Go.Pl
open Go Go.Ev Go.RowKit

def inR : IntKind → Int → Bool
  | .i64, n => decide (-9223372036854775808 ≤ n) && decide (n ≤ 9223372036854775807)
  | .u8, n => decide (0 ≤ n) && decide (n ≤ 255)
  | _, _ => true
def lenOk (n : Nat) : Bool := Nat.ble n 9223372036854775807

/-- the shape of data of a type. -/
inductive Sh where
  | int (k : IntKind)
  | num (k : IntKind)
  | bool
  | str
  | sl (sz : Nat) (e : Sh)
  | agg (fs : List Sh)

mutual
def okS : Sh → D → Bool
  | .int k, .int k' n => beqK k k' && inR k n
  | .num k, .int k' _ => beqK k k'
  | .bool, .bool _ => true
  | .str, .str l => lenOk l.length
  | .sl sz e, .sl sz' xs => Nat.beq sz sz' && lenOk xs.length && okAll e xs
  | .agg fs, .agg cs => okZip fs cs
  | _, _ => false
def okAll : Sh → List D → Bool
  | _, [] => true
  | e, x :: xs => okS e x && okAll e xs
def okZip : List Sh → List D → Bool
  | [], [] => true
  | f :: fs, c :: cs => okS f c && okZip fs cs
  | _, _ => false
end

theorem okAll_mem {e : Sh} : ∀ {xs : List D}, okAll e xs = true → ∀ x ∈ xs, okS e x = true
  | [], _, x, h => by cases h
  | y :: ys, h, x, hx => by
    simp only [okAll, Bool.and_eq_true] at h
    rcases List.mem_cons.1 hx with rfl | hx
    · exact h.1
    · exact okAll_mem h.2 x hx
theorem okAll_of {e : Sh} : ∀ {xs : List D}, (∀ x ∈ xs, okS e x = true) → okAll e xs = true
  | [], _ => by simp [okAll]
  | y :: ys, h => by
    simp only [okAll, Bool.and_eq_true]
    exact ⟨h y (by simp), okAll_of fun x hx => h x (by simp [hx])⟩

theorem ok_int {k : IntKind} {d : D} (h : okS (.int k) d = true) : ∃ n, d = .int k n ∧ inR k n = true := by
  cases d <;> simp [okS] at h
  rename_i k' n
  have := beqK_eq h.1; subst this
  exact ⟨n, rfl, h.2⟩
theorem ok_num {k : IntKind} {d : D} (h : okS (.num k) d = true) : ∃ n, d = .int k n := by
  cases d <;> simp [okS] at h
  rename_i k' n
  have := beqK_eq h; subst this
  exact ⟨n, rfl⟩
theorem ok_bool {d : D} (h : okS .bool d = true) : ∃ b, d = .bool b := by
  cases d <;> simp [okS] at h
  exact ⟨_, rfl⟩
theorem ok_str {d : D} (h : okS .str d = true) : ∃ l, d = .str l ∧ lenOk l.length = true := by
  cases d <;> simp [okS] at h
  exact ⟨_, rfl, h⟩
theorem ok_sl {sz : Nat} {e : Sh} {d : D} (h : okS (.sl sz e) d = true) : ∃ xs, d = .sl sz xs ∧ lenOk xs.length = true ∧ okAll e xs = true := by
  cases d <;> simp [okS] at h
  rename_i sz' xs
  obtain ⟨⟨h1, h2⟩, h3⟩ := h
  subst h1
  exact ⟨xs, rfl, h2, h3⟩
theorem ok_agg {fs : List Sh} {d : D} (h : okS (.agg fs) d = true) : ∃ cs, d = .agg cs ∧ okZip fs cs = true := by
  cases d <;> simp [okS] at h
  exact ⟨_, rfl, h⟩
theorem zip_nil {cs : List D} (h : okZip [] cs = true) : cs = [] := by
  cases cs <;> simp [okZip] at h <;> rfl
theorem zip_cons {f : Sh} {fs : List Sh} {cs : List D} (h : okZip (f :: fs) cs = true) : ∃ c r, cs = c :: r ∧ okS f c = true ∧ okZip fs r = true := by
  cases cs <;> simp [okZip] at h
  exact ⟨_, _, rfl, h.1, h.2⟩
theorem map_of {α : Type} {e : Sh} {f : α → D} {p : α → Prop} (hf : ∀ x, okS e x = true → ∃ a, x = f a ∧ p a) : ∀ {xs : List D}, okAll e xs = true → ∃ ys : List α, xs = ys.map f ∧ ∀ a ∈ ys, p a
  | [], _ => ⟨[], rfl, fun a h => by cases h⟩
  | x :: xs, h => by
    simp only [okAll, Bool.and_eq_true] at h
    obtain ⟨a, rfl, ha⟩ := hf x h.1
    obtain ⟨ys, rfl, has⟩ := map_of hf h.2
    exact ⟨a :: ys, rfl, fun b hb => by
      rcases List.mem_cons.1 hb with rfl | hb
      · exact ha
      · exact has b hb⟩

theorem len_lt {n : Nat} (h : lenOk n = true) : n ≤ 9223372036854775807 := Nat.le_of_ble_eq_true h
theorem wrap_add1 {n : Nat} (h : n < 9223372036854775807) : IntKind.wrap IntKind.i64 ((n : Int) + 1) = ((n + 1 : Nat) : Int) := by
  rw [IntKind.wrap_i64]; omega
theorem wrap_in {n : Int} (h : -9223372036854775808 ≤ n) (h' : n ≤ 9223372036854775807) : IntKind.wrap IntKind.i64 n = n := by
  rw [IntKind.wrap_i64]; omega

theorem nth_eq : ∀ (l : List D) (i : Nat), nth l i = (l[i]?).getD .undef
  | [], _ => rfl
  | x :: _, 0 => rfl
  | _ :: r, i + 1 => by simp only [nth, nth_eq r i, List.getElem?_cons_succ]
/-- the member that a walk over a list has come to. -/
theorem nth_mid {α : Type} {f : α → D} (pre : List α) (x : α) (r : List α) : nth ((pre ++ x :: r).map f) (Int.toNat ((pre.length : Nat) : Int)) = f x := by
  rw [nth_eq]; simp
theorem lt_mid {α : Type} {f : α → D} (pre : List α) (x : α) (r : List α) : decide (((pre.length : Nat) : Int) < (((((pre ++ x :: r).map f).length : Nat)) : Int)) = true := by
  simp; omega
theorem lt_end {α : Type} {f : α → D} (pre : List α) : decide (((pre.length : Nat) : Int) < (((((pre ++ []).map f).length : Nat)) : Int)) = false := by
  simp
theorem ge0 (n : Nat) : decide ((0 : Int) ≤ ((n : Nat) : Int)) = true := by simp

theorem chk_true {α : Type} (k : Option α) : chk true k = k := rfl

def mkS (fs : List Sh) (f : List D → D) : Spc := ⟨okZip fs, f⟩

theorem cond_and (a b : Bool) : (bif a then b else false) = (a && b) := by cases a <;> rfl
theorem cond_or (a b : Bool) : (bif a then true else b) = (a || b) := by cases a <;> rfl
theorem ite_some (c a b : Bool) : (bif c then some (D.bool a) else some (D.bool b)) = some (D.bool (bif c then a else b)) := by cases c <;> rfl
theorem getD_mid (pre : List UInt8) (x : UInt8) (r : List UInt8) (z : UInt8) : (pre ++ x :: r).getD (Int.toNat ((pre.length : Nat) : Int)) z = x := by simp
theorem ltS_mid {α : Type} (pre : List α) (x : α) (r : List α) : decide (((pre.length : Nat) : Int) < ((((pre ++ x :: r).length : Nat)) : Int)) = true := by
  simp; omega
theorem ltS_end {α : Type} (pre : List α) : decide (((pre.length : Nat) : Int) < ((((pre ++ []).length : Nat)) : Int)) = false := by simp
theorem one_of {f : Sh} {ds : List D} (h : okZip [f] ds = true) : ∃ d, ds = [d] ∧ okS f d = true := by
  obtain ⟨d, r, rfl, h1, h2⟩ := zip_cons h
  have := zip_nil h2; subst this
  exact ⟨d, rfl, h1⟩
theorem two_of {f g : Sh} {ds : List D} (h : okZip [f, g] ds = true) : ∃ d e, ds = [d, e] ∧ okS f d = true ∧ okS g e = true := by
  obtain ⟨d, r, rfl, h1, h2⟩ := zip_cons h
  obtain ⟨e, r, rfl, h3, h4⟩ := zip_cons h2
  have := zip_nil h4; subst this
  exact ⟨d, e, rfl, h1, h3⟩
theorem three_of {f g i : Sh} {ds : List D} (h : okZip [f, g, i] ds = true) : ∃ d e x, ds = [d, e, x] ∧ okS f d = true ∧ okS g e = true ∧ okS i x = true := by
  obtain ⟨d, r, rfl, h1, h2⟩ := zip_cons h
  obtain ⟨e, x, rfl, h3, h4⟩ := two_of h2
  exact ⟨d, e, x, rfl, h1, h3, h4⟩

/-! ### conditions and profiles -/
structure Cond where
  kind : Int
  id : Int
  value : List D
  table : Int
  first : Int
  count : Int
  n : Int
def Cond.d (c : Cond) : D := .agg [.int .i64 c.kind, .int .i64 c.id, .sl 1 c.value, .int .i64 c.table, .int .i64 c.first, .int .i64 c.count, .int .i64 c.n]
def toC (d : D) : Cond := ⟨(nth d.cells 0).i, (nth d.cells 1).i, (nth d.cells 2).l, (nth d.cells 3).i, (nth d.cells 4).i, (nth d.cells 5).i, (nth d.cells 6).i⟩
theorem toC_d (c : Cond) : toC c.d = c := rfl
def shBytes : Sh := .sl 1 (.int .u8)
def shInt : Sh := .int .i64
def shCond : Sh := .agg [shInt, shInt, shBytes, shInt, shInt, shInt, shInt]
structure Cond.ok (c : Cond) : Prop where
  s : okS shCond c.d = true
  kind : -9223372036854775808 ≤ c.kind ∧ c.kind ≤ 9223372036854775807
  id : -9223372036854775808 ≤ c.id ∧ c.id ≤ 9223372036854775807
  len : c.value.length ≤ 9223372036854775807
  bytes : okAll (.int .u8) c.value = true
  table : -9223372036854775808 ≤ c.table ∧ c.table ≤ 9223372036854775807
  first : -9223372036854775808 ≤ c.first ∧ c.first ≤ 9223372036854775807
  count : -9223372036854775808 ≤ c.count ∧ c.count ≤ 9223372036854775807
  n : -9223372036854775808 ≤ c.n ∧ c.n ≤ 9223372036854775807
theorem inR64 {n : Int} (h : inR .i64 n = true) : -9223372036854775808 ≤ n ∧ n ≤ 9223372036854775807 := by
  simpa [inR] using h
theorem cond_of {d : D} (h : okS shCond d = true) : ∃ c : Cond, d = c.d ∧ c.ok := by
  have h0 := h
  obtain ⟨cs, rfl, h⟩ := ok_agg h
  obtain ⟨d1, _, rfl, q1, h⟩ := zip_cons h
  obtain ⟨d2, _, rfl, q2, h⟩ := zip_cons h
  obtain ⟨d3, _, rfl, q3, h⟩ := zip_cons h
  obtain ⟨d4, _, rfl, q4, h⟩ := zip_cons h
  obtain ⟨d5, _, rfl, q5, h⟩ := zip_cons h
  obtain ⟨d6, _, rfl, q6, h⟩ := zip_cons h
  obtain ⟨d7, _, rfl, q7, h⟩ := zip_cons h
  have := zip_nil h; subst this
  obtain ⟨a, rfl, ha⟩ := ok_int q1
  obtain ⟨b, rfl, hb⟩ := ok_int q2
  obtain ⟨v, rfl, hv, hv2⟩ := ok_sl q3
  obtain ⟨t, rfl, ht⟩ := ok_int q4
  obtain ⟨f, rfl, hf⟩ := ok_int q5
  obtain ⟨c, rfl, hc⟩ := ok_int q6
  obtain ⟨n, rfl, hn⟩ := ok_int q7
  exact ⟨⟨a, b, v, t, f, c, n⟩, rfl, h0, inR64 ha, inR64 hb, len_lt hv, hv2, inR64 ht, inR64 hf, inR64 hc, inR64 hn⟩

structure Prof where
  name : List UInt8
  conds : List Cond
def Prof.d (p : Prof) : D := .agg [.str p.name, .sl 7 (p.conds.map Cond.d)]
def toP (d : D) : Prof := ⟨(nth d.cells 0).s, (nth d.cells 1).l.map toC⟩
theorem toP_d (p : Prof) : toP p.d = p := by
  obtain ⟨n, cs⟩ := p
  show (⟨n, (cs.map Cond.d).map toC⟩ : Prof) = ⟨n, cs⟩
  rw [List.map_map]
  congr 1
  exact List.map_id'' (fun c => rfl) cs
def shProf : Sh := .agg [.str, .sl 7 shCond]
structure Prof.ok (p : Prof) : Prop where
  s : okS shProf p.d = true
  name : p.name.length ≤ 9223372036854775807
  len : p.conds.length ≤ 9223372036854775807
  conds : ∀ c ∈ p.conds, c.ok
theorem prof_of {d : D} (h : okS shProf d = true) : ∃ p : Prof, d = p.d ∧ p.ok := by
  have h0 := h
  obtain ⟨cs, rfl, h⟩ := ok_agg h
  obtain ⟨d1, _, rfl, q1, h⟩ := zip_cons h
  obtain ⟨d2, _, rfl, q2, h⟩ := zip_cons h
  have := zip_nil h; subst this
  obtain ⟨a, rfl, ha⟩ := ok_str q1
  obtain ⟨v, rfl, hv, hv2⟩ := ok_sl q2
  obtain ⟨cs, rfl, hcs⟩ := map_of (fun x hx => cond_of hx) hv2
  exact ⟨⟨a, cs⟩, rfl, h0, len_lt ha, by simpa using len_lt hv, hcs⟩
def shDb : Sh := .sl 2 shProf
theorem db_of {d : D} (h : okS shDb d = true) : ∃ db : List Prof, d = .sl 2 (db.map Prof.d) ∧ (∀ p ∈ db, p.ok) ∧ db.length ≤ 9223372036854775807 := by
  obtain ⟨xs, rfl, h1, h2⟩ := ok_sl h
  obtain ⟨db, rfl, h3⟩ := map_of (fun x hx => prof_of hx) h2
  exact ⟨db, rfl, h3, by simpa using len_lt h1⟩
def toDb (d : D) : List Prof := d.l.map toP
theorem toDb_d (db : List Prof) : toDb (.sl 2 (db.map Prof.d)) = db := by
  show (db.map Prof.d).map toP = db
  rw [List.map_map]
  exact List.map_id'' (fun p => toP_d p) db

end Go.Pl
