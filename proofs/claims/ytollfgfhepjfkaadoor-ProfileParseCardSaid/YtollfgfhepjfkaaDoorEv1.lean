/- The evaluator 'Ev', its relation to the machine: what a value reads as ('V'), what a temporary holds ('TV'), what a state stands for ('Rel'); the laws of the tables. -/
import Derived.Test.YtollfgfhepjfkaaDoorEv0
import Derived.Laws.OwnMore
import Derived.Below
import Derived.Orders
import Derived.Deep.Draws
namespace Go.Ev
open Go Go.RowKit

theorem nbeq_ne {i j : Nat} (h : i ≠ j) : Nat.beq i j = false := by
  cases hb : Nat.beq i j
  · rfl
  · exact absurd (Nat.eq_of_beq_eq_true hb) h
theorem nbeq_eq {i j : Nat} (h : Nat.beq i j = true) : i = j := Nat.eq_of_beq_eq_true h

/-- cells that stay as they are. -/
abbrev Snap := Addr → Option Value
def Snap.le (S S' : Snap) : Prop := ∀ a u, S a = some u → S' a = some u
def Snap.inn (S : Snap) (w : World) : Prop := ∀ a u, S a = some u → w.cell? a = some u ∧ u.oneCell' = true
theorem Snap.le.refl (S : Snap) : S.le S := fun _ _ h => h
theorem Snap.le.trans {S S' S'' : Snap} (h : S.le S') (h' : S'.le S'') : S.le S'' := fun a u k => h' a u (h a u k)

def flat : List D → List D
  | [] => []
  | x :: r => x.cells ++ flat r

theorem flat_append (xs ys : List D) : flat (xs ++ ys) = flat xs ++ flat ys := by
  induction xs with
  | nil => rfl
  | cons x r ih => simp [flat, ih]
theorem flat_length {xs : List D} {sz : Nat} (h : ∀ x ∈ xs, x.cells.length = sz) : (flat xs).length = xs.length * sz := by
  induction xs with
  | nil => simp [flat]
  | cons x r ih =>
    have h1 := h x (by simp)
    have h2 := ih (fun y hy => h y (by simp [hy]))
    simp [flat, h1, h2, Nat.add_mul, Nat.add_comm]

inductive V (S : Snap) : Value → D → Prop
  | undef (v : Value) : V S v .undef
  | bool (b : Bool) : V S (.bool b) (.bool b)
  | int (k : IntKind) (n : Int) : V S (.int k n) (.int k n)
  | str (s : ByteArray) : V S (.string s) (.str s.data.toList)
  | nil : V S (.pointer none) .nil
  | agg (vs : Array Value) (cs : List D) (hn : vs.size = cs.length) (h1 : ∀ (j : Nat) u, vs[j]? = some u → u.oneCell' = true) (h : ∀ (j : Nat) u d, vs[j]? = some u → cs[j]? = some d → V S u d) : V S (.agg vs) (.agg cs)
  | tup (vs : Array Value) (cs : List D) (hn : vs.size = cs.length) (h : ∀ (j : Nat) u d, vs[j]? = some u → cs[j]? = some d → V S u d) : V S (.tuple vs) (.tup cs)
  | slnil (sz : Nat) : V S (.slice none 0 0) (.sl sz [])
  | sl (a : Addr) (cap sz : Nat) (xs : List D) (vals : List Value) (hc : xs.length ≤ cap) (hx : ∀ x, x ∈ xs → x.cells.length = sz) (hl : vals.length = xs.length * sz)
      (hs : ∀ (j : Nat) u, vals[j]? = some u → S (a.add j) = some u) (hv : ∀ (j : Nat) u d, vals[j]? = some u → (flat xs)[j]? = some d → V S u d) : V S (.slice (some a) xs.length cap) (.sl sz xs)

theorem V.mono {S S' : Snap} (hS : S.le S') {v : Value} {d : D} (h : V S v d) : V S' v d := by
  induction h with
  | undef v => exact .undef v
  | bool b => exact .bool b
  | int k n => exact .int k n
  | str s => exact .str s
  | nil => exact .nil
  | agg vs cs hn h1 _ ih => exact .agg vs cs hn h1 ih
  | tup vs cs hn _ ih => exact .tup vs cs hn ih
  | slnil sz => exact .slnil sz
  | sl a cap sz xs vals hc hx hl hs _ ih => exact .sl a cap sz xs vals hc hx hl (fun j u hj => hS _ _ (hs j u hj)) ih

/-- lists of values and data that fit, one by one. -/
def Vs (S : Snap) (vs : List Value) (ds : List D) : Prop := vs.length = ds.length ∧ ∀ (j : Nat) u d, vs[j]? = some u → ds[j]? = some d → V S u d
theorem Vs.mono {S S' : Snap} (hS : S.le S') {vs : List Value} {ds : List D} (h : Vs S vs ds) : Vs S' vs ds := ⟨h.1, fun j u d hu hd => (h.2 j u d hu hd).mono hS⟩
theorem Vs.nil (S : Snap) : Vs S [] [] := ⟨rfl, fun j u d h => by simp at h⟩
theorem Vs.cons {S : Snap} {u : Value} {d : D} {vs : List Value} {ds : List D} (h : V S u d) (hr : Vs S vs ds) : Vs S (u :: vs) (d :: ds) := by
  refine ⟨by simp [hr.1], fun j u' d' hu hd => ?_⟩
  cases j with
  | zero => simp at hu hd; subst hu; subst hd; exact h
  | succ j => simp at hu hd; exact hr.2 j u' d' hu hd
theorem Vs.head {S : Snap} {u : Value} {d : D} {vs : List Value} {ds : List D} (h : Vs S (u :: vs) (d :: ds)) : V S u d := h.2 0 u d rfl rfl
theorem Vs.tail {S : Snap} {u : Value} {d : D} {vs : List Value} {ds : List D} (h : Vs S (u :: vs) (d :: ds)) : Vs S vs ds :=
  ⟨by have := h.1; simpa using this, fun j u' d' hu hd => h.2 (j + 1) u' d' (by simpa using hu) (by simpa using hd)⟩
theorem Vs.append {S : Snap} {vs vs' : List Value} {ds ds' : List D} (h : Vs S vs ds) (h' : Vs S vs' ds') : Vs S (vs ++ vs') (ds ++ ds') := by
  induction vs generalizing ds with
  | nil => have : ds = [] := by cases ds with | nil => rfl | cons _ _ => exact absurd h.1 (by simp)
           subst this; simpa using h'
  | cons u r ih => cases ds with
    | nil => exact absurd h.1 (by simp)
    | cons d rd => exact Vs.cons h.head (ih h.tail)
theorem Vs.drop {S : Snap} {vs : List Value} {ds : List D} (h : Vs S vs ds) (n : Nat) : Vs S (vs.drop n) (ds.drop n) :=
  ⟨by simp [h.1], fun j u d hu hd => h.2 (n + j) u d (by simpa using hu) (by simpa using hd)⟩
theorem Vs.take {S : Snap} {vs : List Value} {ds : List D} (h : Vs S vs ds) (n : Nat) : Vs S (vs.take n) (ds.take n) := by
  refine ⟨by simp [h.1], fun j u d hu hd => ?_⟩
  rw [List.getElem?_take] at hu hd
  split at hu
  · simp_all; exact h.2 j u d hu hd
  · cases hu

/-- cells at a that hold these values, for good; they read as ds. -/
structure CellsAt (S : Snap) (a : Addr) (vals : List Value) (ds : List D) : Prop where
  vs : Vs S vals ds
  at_ : ∀ (j : Nat) u, vals[j]? = some u → S (a.add j) = some u

theorem CellsAt.mono {S S' : Snap} (hS : S.le S') {a : Addr} {vals : List Value} {ds : List D} (h : CellsAt S a vals ds) : CellsAt S' a vals ds :=
  ⟨h.vs.mono hS, fun j u hj => hS _ _ (h.at_ j u hj)⟩

theorem add_add (a : Addr) (m n : Nat) : (a.add m).add n = a.add (m + n) := by
  by_cases hm : m = 0
  · subst hm; simp [Addr.add]
  · by_cases hn : n = 0
    · subst hn; simp [Addr.add]
    · have h1 : ¬ m + n = 0 := by omega
      unfold Addr.add
      rw [if_neg hn, if_neg hm, if_neg h1]
      simp [Nat.add_assoc]
theorem add_zero (a : Addr) : a.add 0 = a := by simp [Addr.add]
theorem add_none (g o n : Nat) : (⟨g, o, none⟩ : Addr).add n = ⟨g, o + n, none⟩ := by
  unfold Addr.add; split
  · rename_i h; subst h; rfl
  · rfl
theorem add_block (a : Addr) (n : Nat) : (a.add n).block = a.block := by unfold Addr.add; split <;> rfl

/-- what a temporary holds. 'E': what each site's thing is; 'tm': the frame. -/
def TV (S : Snap) (E : Nat → Value) (tm : Nat → Value) (v : Value) : T → Prop
  | .undef => True
  | .d x => V S v x
  | .nils _ => v = .slice none 0 0
  | .ptr k off => ∃ g, E k = .pointer (some ⟨g, 0, none⟩) ∧ v = .pointer (some ⟨g, off, none⟩)
  | .ptrA k off len sz i o => ∃ g, E k = .pointer (some ⟨g, 0, none⟩) ∧ v = .pointer (some ⟨g, off + i * sz + o, none⟩) ∧ i < len
  | .ptrS x off => ∃ a vals, CellsAt S a vals x.cells ∧ v = .pointer (some (a.add off))
  | .vec k => v = E k
  | .vptr k sz i o => ∃ g len cap, E k = .slice (some ⟨g, 0, none⟩) len cap ∧ v = .pointer (some ⟨g, i * sz + o, none⟩) ∧ i < len
  | .fn f => v = .func (.func f) #[] #[]
  | .sd k => ∃ p, v = .pointer p ∧ ((E k = .slice none 0 0 ∧ p = none) ∨ ∃ a len cap, E k = .slice (some a) len cap ∧ (cap ≠ 0 → p = some a))
  | .g t w x => (tm t = .bool w → TV S E tm v x) ∧ (tm t ≠ .bool w → v = undef)

theorem TV.mono {S S' : Snap} (hS : S.le S') {E : Nat → Value} {tm : Nat → Value} {v : Value} : ∀ {t : T}, TV S E tm v t → TV S' E tm v t
  | .undef, _ => trivial
  | .d _, h => V.mono hS h
  | .nils _, h => h
  | .ptr _ _, h => h
  | .ptrA _ _ _ _ _ _, h => h
  | .ptrS _ _, ⟨a, vals, h, hv⟩ => ⟨a, vals, h.mono hS, hv⟩
  | .vec _, h => h
  | .vptr _ _ _ _, h => h
  | .fn _, h => h
  | .sd _, h => h
  | .g _ _ _, h => ⟨fun hg => TV.mono hS (h.1 hg), h.2⟩

/-- where t does not lead to site k, site k's thing does not matter. -/
theorem TV.upd {S : Snap} {E E' : Nat → Value} {tm : Nat → Value} {v : Value} {k : Nat} (hE : ∀ j, j ≠ k → E' j = E j) : ∀ {t : T}, t.refs k = false → TV S E tm v t → TV S E' tm v t
  | .undef, _, _ => trivial
  | .d _, _, h => h
  | .nils _, _, h => h
  | .ptr j _, hr, h => by
    have : j ≠ k := fun e => by subst e; simp [T.refs] at hr
    simp only [TV, hE j this] at *; exact h
  | .ptrA j _ _ _ _ _, hr, h => by
    have : j ≠ k := fun e => by subst e; simp [T.refs] at hr
    simp only [TV, hE j this] at *; exact h
  | .ptrS _ _, _, h => h
  | .vec j, hr, h => by
    have : j ≠ k := fun e => by subst e; simp [T.refs] at hr
    simp only [TV, hE j this] at *; exact h
  | .vptr j _ _ _, hr, h => by
    have : j ≠ k := fun e => by subst e; simp [T.refs] at hr
    simp only [TV, hE j this] at *; exact h
  | .fn _, _, h => h
  | .sd j, hr, h => by
    have : j ≠ k := fun e => by subst e; simp [T.refs] at hr
    simp only [TV, hE j this] at *; exact h
  | .g _ _ _, hr, h => ⟨fun hg => TV.upd hE (by simpa [T.refs] using hr) (h.1 hg), h.2⟩

theorem kill_refs (k : Nat) (t : T) : (t.kill k).refs k = false := by
  unfold T.kill
  cases h : t.refs k <;> simp [h, T.refs]
theorem TV.kill {S : Snap} {E E' : Nat → Value} {tm : Nat → Value} {v : Value} {k : Nat} (hE : ∀ j, j ≠ k → E' j = E j) {t : T} (h : TV S E tm v t) : TV S E' tm v (t.kill k) := by
  unfold T.kill
  cases hr : t.refs k with
  | true => simp [TV]
  | false => simp only [cond_false]; exact TV.upd hE hr h

theorem TV.tm {S : Snap} {E : Nat → Value} {tm tm' : Nat → Value} {v : Value} {t : T} (hb : t.bare = true) (h : TV S E tm v t) : TV S E tm' v t := by
  cases t <;> first | exact h | simp [T.bare] at hb

/-! ### the tables -/
section tables
variable {α β : Type}
theorem look_drop (l : List (Nat × α)) (i j : Nat) : look (drop i l) j = if j = i then none else look l j := by
  induction l with
  | nil => simp [drop, look]
  | cons p r ih =>
    obtain ⟨k, x⟩ := p
    simp only [drop]
    by_cases h : i = k
    · subst h
      simp only [Nat.beq_refl, cond_true, ih, look]
      by_cases hj : j = i
      · simp [hj]
      · have : Nat.beq j i = false := nbeq_ne hj
        simp [hj, this]
    · have hb : Nat.beq i k = false := nbeq_ne h
      simp only [hb, cond_false, look, ih]
      by_cases hj : j = k
      · subst hj
        simp [Ne.symm h]
      · have : Nat.beq j k = false := nbeq_ne hj
        simp [this]
theorem look_put (l : List (Nat × α)) (i j : Nat) (x : α) : look (put l i x) j = if j = i then some x else look l j := by
  unfold put
  simp only [look]
  by_cases h : j = i
  · subst h; simp
  · have : Nat.beq j i = false := nbeq_ne h
    simp [this, h]
theorem look_map (l : List (Nat × α)) (f : α → β) (j : Nat) : look (l.map fun p => (p.1, f p.2)) j = (look l j).map f := by
  induction l with
  | nil => rfl
  | cons p r ih =>
    obtain ⟨k, x⟩ := p
    simp only [List.map_cons, look, ih]
    cases Nat.beq j k <;> rfl
theorem look_cons (l : List (Nat × α)) (i j : Nat) (x : α) : look ((i, x) :: l) j = if j = i then some x else look l j := by
  simp only [look]
  by_cases h : j = i
  · subst h; simp
  · have : Nat.beq j i = false := nbeq_ne h
    simp [this, h]
end tables
theorem unG_idH {d : Nat} {t : T} (h : t.onG d = false) : t.unG d = t := by
  cases t <;> first | rfl | (simp only [T.onG] at h; simp [T.unG, h])
theorem look_dropG (d : Nat) (l : List (Nat × T)) (j : Nat) : look (dropG d l) j = (look l j).map (T.unG d) := by
  unfold dropG
  cases h : l.any (fun p => p.2.onG d) with
  | true => simp only [cond_true]; exact look_map l (T.unG d) j
  | false =>
    simp only [cond_false]
    induction l with
    | nil => rfl
    | cons p r ih =>
      obtain ⟨k, x⟩ := p
      simp only [List.any_cons, Bool.or_eq_false_iff] at h
      simp only [look]
      cases Nat.beq j k
      · exact ih h.2
      · simp [unG_idH h.1]

end Go.Ev
