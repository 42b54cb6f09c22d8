/- When a condition is valid: the program's and the reference's answers. -/
import Derived.Test.YtollfgfhepjfkaaPc
namespace Go.Pl
open Go Go.Ev Go.Proofs

/-- the fields that a kind uses. -/
def only (c : Cond) : Cond where
  kind := c.kind
  id := bif decide (c.kind = 1) || decide (c.kind = 2) then c.id else 0
  value := bif decide (c.kind = 1) || (decide (c.kind = 2) || decide (c.kind = 3)) then c.value else []
  table := bif decide (c.kind = 4) || decide (c.kind = 5) then c.table else 0
  first := bif decide (c.kind = 4) then c.first else 0
  count := bif decide (c.kind = 4) then c.count else 0
  n := bif decide (c.kind = 5) then c.n else 0

def condValid (c : Cond) : Bool :=
  (decide (c.kind = 1) && (decide (0 ≤ c.id) && decide (c.id ≤ 255) && decide (c.value.length ≤ 244) && decide (c.table = 0) && decide (c.first = 0) && decide (c.count = 0) && decide (c.n = 0))) ||
  (decide (c.kind = 2) && (decide (0 ≤ c.id) && decide (c.id ≤ 255) && decide (1 ≤ c.value.length) && decide (c.value.length ≤ 244) && decide (c.table = 0) && decide (c.first = 0) && decide (c.count = 0) && decide (c.n = 0))) ||
  (decide (c.kind = 3) && (decide (c.id = 0) && decide (1 ≤ c.value.length) && decide (c.value.length ≤ 251) && decide (c.table = 0) && decide (c.first = 0) && decide (c.count = 0) && decide (c.n = 0))) ||
  (decide (c.kind = 4) && (decide (c.id = 0) && decide (c.value.length = 0) && decide (1 ≤ c.table) && decide (c.table ≤ 4) && decide (0 ≤ c.first) && decide (1 ≤ c.count) && decide (c.first + c.count ≤ 65536) && decide (c.n = 0))) ||
  (decide (c.kind = 5) && (decide (c.id = 0) && decide (c.value.length = 0) && decide (1 ≤ c.table) && decide (c.table ≤ 4) && decide (c.first = 0) && decide (c.count = 0) && decide (1 ≤ c.n) && decide (c.n ≤ 2000)))

def sp34 : Spc := mkS [shCond] fun ds => (only (toC (nth ds 0))).d
theorem snd34 : Sound Try.prog 34 sp34 := by
  refine snd f34c (told1 _ _) Try.func34 (by kernel_rfl) (by kernel_rfl) (nocall _) fun ds h => ⟨1, ?_⟩
  obtain ⟨d, rfl, h0⟩ := one_of h
  obtain ⟨c, rfl, _⟩ := cond_of h0
  refine (e34 c.kind c.id c.value c.table c.first c.count c.n 1).trans ?_
  show _ = some (only c).d
  by_cases h1 : c.kind = 1
  · simp [h1, only, Cond.d]
  by_cases h2 : c.kind = 2
  · simp [h2, only, Cond.d]
  by_cases h3 : c.kind = 3
  · simp [h3, only, Cond.d]
  by_cases h4 : c.kind = 4
  · simp [h4, only, Cond.d]
  by_cases h5 : c.kind = 5
  · simp [h5, only, Cond.d]
  simp [h1, h2, h3, h4, h5, only, Cond.d]

theorem val20 (a b c : Int) : sp20.val [D.int .i64 a, D.int .i64 b, D.int .i64 c] = D.bool (decide (b ≤ a) && decide (a ≤ c)) := rfl
theorem val36 (a : Int) : sp36.val [D.int .i64 a] = D.bool (decide (1 ≤ a) && decide (a ≤ 4)) := rfl
theorem val33 (a b : Int) : sp33.val [D.agg [D.int .i64 a, D.int .i64 b]] = D.bool (decide (0 ≤ a) && decide (1 ≤ b) && decide (a + b ≤ 65536)) := rfl
theorem val35 (x y : List D) : sp35.val [D.sl 1 x, D.sl 1 y] = D.bool (decide (bytesOf x = bytesOf y)) := rfl

def sp15 : Spc := mkS [shCond] fun ds => .bool (condValid (toC (nth ds 0)))
theorem pre33 {a b : Int} (ha : -9223372036854775808 ≤ a ∧ a ≤ 9223372036854775807) (hb : -9223372036854775808 ≤ b ∧ b ≤ 9223372036854775807) : sp33.pre [D.agg [D.int .i64 a, D.int .i64 b]] = true := by
  simp [sp33, mkS, okZip, okS, shInt, beqK, inR, ha, hb]
theorem snd15 : Sound Try.prog 15 sp15 := by
  refine snd (f15c sp33) (told1 _ _) Try.func15 (by kernel_rfl) (by kernel_rfl) (calling_cons snd33 (nocall _)) fun ds h => ⟨1, ?_⟩
  obtain ⟨d, rfl, h0⟩ := one_of h
  obtain ⟨c, rfl, hc⟩ := cond_of h0
  refine (e15 sp33 c.kind c.id c.value c.table c.first c.count c.n 1).trans ?_
  show _ = some (D.bool (condValid c))
  rw [pre33 hc.first hc.count]
  simp only [val33, D.isB, D.b, Bool.and_true, Bool.true_or, chk_true, cond_and, cond_or, Bool.not_not]
  by_cases h1 : c.kind = 1
  · simp only [h1, condValid]
    simp [-List.length_eq_zero_iff]
    rw [Bool.eq_iff_iff]
    simp [-List.length_eq_zero_iff]
    omega
  by_cases h2 : c.kind = 2
  · simp only [h2, condValid]
    simp [-List.length_eq_zero_iff]
    rw [Bool.eq_iff_iff]
    simp [-List.length_eq_zero_iff]
    omega
  by_cases h3 : c.kind = 3
  · simp only [h3, condValid]
    simp [-List.length_eq_zero_iff]
    rw [Bool.eq_iff_iff]
    simp [-List.length_eq_zero_iff]
    omega
  by_cases h4 : c.kind = 4
  · simp only [h4, condValid]
    simp [-List.length_eq_zero_iff]
    rw [Bool.eq_iff_iff]
    simp [-List.length_eq_zero_iff]
    omega
  by_cases h5 : c.kind = 5
  · simp only [h5, condValid]
    simp [-List.length_eq_zero_iff]
    rw [Bool.eq_iff_iff]
    simp [-List.length_eq_zero_iff]
    omega
  simp [h1, h2, h3, h4, h5, condValid]

def sp21 : Spc := mkS [shCond] fun ds => .bool (condValid (toC (nth ds 0)))
theorem pre20 (a b c : Int) : sp20.pre [D.int .i64 a, D.int .i64 b, D.int .i64 c] = true := by
  simp [sp20, mkS, okZip, okS, beqK]
theorem pre36 (a : Int) : sp36.pre [D.int .i64 a] = true := by
  simp [sp36, mkS, okZip, okS, beqK]
theorem pre35 {x y : List D} (hx : okAll (.int .u8) x = true) (lx : x.length ≤ 9223372036854775807) (hy : okAll (.int .u8) y = true) (ly : y.length ≤ 9223372036854775807) : sp35.pre [D.sl 1 x, D.sl 1 y] = true := by
  simp [sp35, mkS, okZip, okS, shBytes, hx, hy, lenOk, lx, ly]
theorem only_bytes {c : Cond} (hc : c.ok) : okAll (.int .u8) (only c).value = true ∧ (only c).value.length ≤ 9223372036854775807 := by
  simp only [only]
  cases (decide (c.kind = 1) || (decide (c.kind = 2) || decide (c.kind = 3)))
  · exact ⟨rfl, by simp⟩
  · exact ⟨hc.bytes, hc.len⟩
theorem snd21 : Sound Try.prog 21 sp21 := by
  refine snd (f21c sp34 sp35 sp20 sp36) (told1 _ _) Try.func21 (by kernel_rfl) (by kernel_rfl) (calling_cons snd34 (calling_cons snd35 (calling_cons snd20 (calling_cons snd36 (nocall _))))) fun ds h => ⟨1, ?_⟩
  obtain ⟨d, rfl, h0⟩ := one_of h
  obtain ⟨c, rfl, hc⟩ := cond_of h0
  refine (e21 sp34 sp35 sp20 sp36 c.kind c.id c.value c.table c.first c.count c.n 1).trans ?_
  have hp : sp34.pre [D.agg [D.int .i64 c.kind, D.int .i64 c.id, D.sl 1 c.value, D.int .i64 c.table, D.int .i64 c.first, D.int .i64 c.count, D.int .i64 c.n]] = true := h
  rw [hp]
  have hV : sp34.val [D.agg [D.int .i64 c.kind, D.int .i64 c.id, D.sl 1 c.value, D.int .i64 c.table, D.int .i64 c.first, D.int .i64 c.count, D.int .i64 c.n]] = (only c).d := rfl
  rw [hV]
  show _ = some (D.bool (condValid c))
  obtain ⟨ob, ol⟩ := only_bytes hc
  simp only [Cond.d, nth, D.cells, D.i, D.l, D.isI, D.isL, D.isA, beqK]
  rw [pre35 ob ol hc.bytes hc.len]
  simp only [pre20, pre36]
  have hl : Nat.beq 7 [D.int IntKind.i64 (only c).kind, D.int IntKind.i64 (only c).id, D.sl 1 (only c).value, D.int IntKind.i64 (only c).table, D.int IntKind.i64 (only c).first, D.int IntKind.i64 (only c).count, D.int IntKind.i64 (only c).n].length = true := rfl
  have hn : Nat.beq 1 1 = true := rfl
  rw [hl, hn]
  simp only [val35, val20, val36, D.isB, D.b, Bool.and_true, Bool.true_or, chk_true, cond_and, cond_or]
  have hw : ∀ q : Prop, [Decidable q] → True := fun _ _ => trivial
  have hc2 := hc.count
  by_cases h1 : c.kind = 1
  · simp only [h1, condValid, only]
    simp [-List.length_eq_zero_iff]
    rw [ite_some, Option.some.injEq, D.bool.injEq, Bool.eq_iff_iff]
    simp [-List.length_eq_zero_iff]
    omega
  by_cases h2 : c.kind = 2
  · simp only [h2, condValid, only]
    simp [-List.length_eq_zero_iff]
    rw [ite_some, Option.some.injEq, D.bool.injEq, Bool.eq_iff_iff]
    simp [-List.length_eq_zero_iff]
    omega
  have hz : ∀ v : List D, (bytesOf [] = bytesOf v) ↔ v.length = 0 := fun v => by cases v <;> simp [bytesOf]
  by_cases h3 : c.kind = 3
  · simp only [h3, condValid, only]
    simp [-List.length_eq_zero_iff]
    rw [ite_some, Option.some.injEq, D.bool.injEq, Bool.eq_iff_iff]
    simp [-List.length_eq_zero_iff]
    omega
  by_cases h4 : c.kind = 4
  · simp only [h4, condValid, only]
    by_cases h5 : 1 ≤ c.count
    · rw [wrap_in (by omega) (by omega)]
      simp [hz, -List.length_eq_zero_iff]
      rw [ite_some, Option.some.injEq, D.bool.injEq, Bool.eq_iff_iff]
      simp [-List.length_eq_zero_iff]
      omega
    · simp [hz, -List.length_eq_zero_iff]
      rw [ite_some, Option.some.injEq, D.bool.injEq, Bool.eq_iff_iff]
      simp [-List.length_eq_zero_iff]
      omega
  by_cases h5 : c.kind = 5
  · simp only [h5, condValid, only]
    simp [hz, -List.length_eq_zero_iff]
    rw [ite_some, Option.some.injEq, D.bool.injEq, Bool.eq_iff_iff]
    simp [-List.length_eq_zero_iff]
    omega
  simp [h1, h2, h3, h4, h5, condValid]

end Go.Pl
