/- When a condition is valid: the program's and the reference's answers. -/
import Derived.Test.YtollfgfhepjfkaaDoorPc
namespace Go.Pl
open Go Go.Ev Go.Proofs

/-- the fields that a kind uses. -/
def only (c : Cond) : Cond where
  kind := c.kind
  id := bif decide (c.kind = 1) || decide (c.kind = 2) then c.id else 0
  value := bif decide (c.kind = 1) || (decide (c.kind = 2) || decide (c.kind = 3)) then c.value else []
  table := bif decide (c.kind = 4) || decide (c.kind = 5) then c.table else 0
  first := bif decide (c.kind = 4) then c.first else 0
  count := bif decide (c.kind = 4) then c.count else 0
  n := bif decide (c.kind = 5) then c.n else 0

def condValid (c : Cond) : Bool :=
  (decide (c.kind = 1) && (decide (0 ≤ c.id) && decide (c.id ≤ 255) && decide (c.value.length ≤ 244) && decide (c.table = 0) && decide (c.first = 0) && decide (c.count = 0) && decide (c.n = 0))) ||
  (decide (c.kind = 2) && (decide (0 ≤ c.id) && decide (c.id ≤ 255) && decide (1 ≤ c.value.length) && decide (c.value.length ≤ 244) && decide (c.table = 0) && decide (c.first = 0) && decide (c.count = 0) && decide (c.n = 0))) ||
  (decide (c.kind = 3) && (decide (c.id = 0) && decide (1 ≤ c.value.length) && decide (c.value.length ≤ 251) && decide (c.table = 0) && decide (c.first = 0) && decide (c.count = 0) && decide (c.n = 0))) ||
  (decide (c.kind = 4) && (decide (c.id = 0) && decide (c.value.length = 0) && decide (1 ≤ c.table) && decide (c.table ≤ 4) && decide (0 ≤ c.first) && decide (1 ≤ c.count) && decide (c.first + c.count ≤ 65536) && decide (c.n = 0))) ||
  (decide (c.kind = 5) && (decide (c.id = 0) && decide (c.value.length = 0) && decide (1 ≤ c.table) && decide (c.table ≤ 4) && decide (c.first = 0) && decide (c.count = 0) && decide (1 ≤ c.n) && decide (c.n ≤ 2000)))

def sp42 : Spc := mkS [shCond] fun ds => (only (toC (nth ds 0))).d
theorem snd42 : Sound Tryd.prog 42 sp42 := by
  refine snd f42c (told1 _ _) Tryd.func42 (by kernel_rfl) (by kernel_rfl) (nocall _) fun ds h => ⟨1, ?_⟩
  obtain ⟨d, rfl, h0⟩ := one_of h
  obtain ⟨c, rfl, _⟩ := cond_of h0
  refine (e42 c.kind c.id c.value c.table c.first c.count c.n 1).trans ?_
  show _ = some (only c).d
  by_cases h1 : c.kind = 1
  · simp [h1, only, Cond.d]
  by_cases h2 : c.kind = 2
  · simp [h2, only, Cond.d]
  by_cases h3 : c.kind = 3
  · simp [h3, only, Cond.d]
  by_cases h4 : c.kind = 4
  · simp [h4, only, Cond.d]
  by_cases h5 : c.kind = 5
  · simp [h5, only, Cond.d]
  simp [h1, h2, h3, h4, h5, only, Cond.d]

theorem val29 (a b c : Int) : sp29.val [D.int .i64 a, D.int .i64 b, D.int .i64 c] = D.bool (decide (b ≤ a) && decide (a ≤ c)) := rfl
theorem val44 (a : Int) : sp44.val [D.int .i64 a] = D.bool (decide (1 ≤ a) && decide (a ≤ 4)) := rfl
theorem val26 (a b : Int) : sp26.val [D.agg [D.int .i64 a, D.int .i64 b]] = D.bool (decide (0 ≤ a) && decide (1 ≤ b) && decide (a + b ≤ 65536)) := rfl
theorem val43 (x y : List D) : sp43.val [D.sl 1 x, D.sl 1 y] = D.bool (decide (bytesOf x = bytesOf y)) := rfl

def sp15 : Spc := mkS [shCond] fun ds => .bool (condValid (toC (nth ds 0)))
theorem pre26 {a b : Int} (ha : -9223372036854775808 ≤ a ∧ a ≤ 9223372036854775807) (hb : -9223372036854775808 ≤ b ∧ b ≤ 9223372036854775807) : sp26.pre [D.agg [D.int .i64 a, D.int .i64 b]] = true := by
  simp [sp26, mkS, okZip, okS, shInt, beqK, inR, ha, hb]
theorem snd15 : Sound Tryd.prog 15 sp15 := by
  refine snd (f15c sp26) (told1 _ _) Tryd.func15 (by kernel_rfl) (by kernel_rfl) (calling_cons snd26 (nocall _)) fun ds h => ⟨1, ?_⟩
  obtain ⟨d, rfl, h0⟩ := one_of h
  obtain ⟨c, rfl, hc⟩ := cond_of h0
  refine (e15 sp26 c.kind c.id c.value c.table c.first c.count c.n 1).trans ?_
  show _ = some (D.bool (condValid c))
  rw [pre26 hc.first hc.count]
  simp only [val26, D.isB, D.b, Bool.and_true, Bool.true_or, chk_true, cond_and, cond_or, Bool.not_not]
  by_cases h1 : c.kind = 1
  · simp only [h1, condValid]
    simp [-List.length_eq_zero_iff]
    rw [Bool.eq_iff_iff]
    simp [-List.length_eq_zero_iff]
    omega
  by_cases h2 : c.kind = 2
  · simp only [h2, condValid]
    simp [-List.length_eq_zero_iff]
    rw [Bool.eq_iff_iff]
    simp [-List.length_eq_zero_iff]
    omega
  by_cases h3 : c.kind = 3
  · simp only [h3, condValid]
    simp [-List.length_eq_zero_iff]
    rw [Bool.eq_iff_iff]
    simp [-List.length_eq_zero_iff]
    omega
  by_cases h4 : c.kind = 4
  · simp only [h4, condValid]
    simp [-List.length_eq_zero_iff]
    rw [Bool.eq_iff_iff]
    simp [-List.length_eq_zero_iff]
    omega
  by_cases h5 : c.kind = 5
  · simp only [h5, condValid]
    simp [-List.length_eq_zero_iff]
    rw [Bool.eq_iff_iff]
    simp [-List.length_eq_zero_iff]
    omega
  simp [h1, h2, h3, h4, h5, condValid]

def sp30 : Spc := mkS [shCond] fun ds => .bool (condValid (toC (nth ds 0)))
theorem pre29 (a b c : Int) : sp29.pre [D.int .i64 a, D.int .i64 b, D.int .i64 c] = true := by
  simp [sp29, mkS, okZip, okS, beqK]
theorem pre44 (a : Int) : sp44.pre [D.int .i64 a] = true := by
  simp [sp44, mkS, okZip, okS, beqK]
theorem pre43 {x y : List D} (hx : okAll (.int .u8) x = true) (lx : x.length ≤ 9223372036854775807) (hy : okAll (.int .u8) y = true) (ly : y.length ≤ 9223372036854775807) : sp43.pre [D.sl 1 x, D.sl 1 y] = true := by
  simp [sp43, mkS, okZip, okS, shBytes, hx, hy, lenOk, lx, ly]
theorem only_bytes {c : Cond} (hc : c.ok) : okAll (.int .u8) (only c).value = true ∧ (only c).value.length ≤ 9223372036854775807 := by
  simp only [only]
  cases (decide (c.kind = 1) || (decide (c.kind = 2) || decide (c.kind = 3)))
  · exact ⟨rfl, by simp⟩
  · exact ⟨hc.bytes, hc.len⟩
theorem snd30 : Sound Tryd.prog 30 sp30 := by
  refine snd (f30c sp42 sp43 sp29 sp44) (told1 _ _) Tryd.func30 (by kernel_rfl) (by kernel_rfl) (calling_cons snd42 (calling_cons snd43 (calling_cons snd29 (calling_cons snd44 (nocall _))))) fun ds h => ⟨1, ?_⟩
  obtain ⟨d, rfl, h0⟩ := one_of h
  obtain ⟨c, rfl, hc⟩ := cond_of h0
  refine (e30 sp42 sp43 sp29 sp44 c.kind c.id c.value c.table c.first c.count c.n 1).trans ?_
  have hp : sp42.pre [D.agg [D.int .i64 c.kind, D.int .i64 c.id, D.sl 1 c.value, D.int .i64 c.table, D.int .i64 c.first, D.int .i64 c.count, D.int .i64 c.n]] = true := h
  rw [hp]
  have hV : sp42.val [D.agg [D.int .i64 c.kind, D.int .i64 c.id, D.sl 1 c.value, D.int .i64 c.table, D.int .i64 c.first, D.int .i64 c.count, D.int .i64 c.n]] = (only c).d := rfl
  rw [hV]
  show _ = some (D.bool (condValid c))
  obtain ⟨ob, ol⟩ := only_bytes hc
  simp only [Cond.d, nth, D.cells, D.i, D.l, D.isI, D.isL, D.isA, beqK]
  rw [pre43 ob ol hc.bytes hc.len]
  simp only [pre29, pre44]
  have hl : Nat.beq 7 [D.int IntKind.i64 (only c).kind, D.int IntKind.i64 (only c).id, D.sl 1 (only c).value, D.int IntKind.i64 (only c).table, D.int IntKind.i64 (only c).first, D.int IntKind.i64 (only c).count, D.int IntKind.i64 (only c).n].length = true := rfl
  have hn : Nat.beq 1 1 = true := rfl
  rw [hl, hn]
  simp only [val43, val29, val44, D.isB, D.b, Bool.and_true, Bool.true_or, chk_true, cond_and, cond_or]
  have hw : ∀ q : Prop, [Decidable q] → True := fun _ _ => trivial
  have hc2 := hc.count
  by_cases h1 : c.kind = 1
  · simp only [h1, condValid, only]
    simp [-List.length_eq_zero_iff]
    rw [ite_some, Option.some.injEq, D.bool.injEq, Bool.eq_iff_iff]
    simp [-List.length_eq_zero_iff]
    omega
  by_cases h2 : c.kind = 2
  · simp only [h2, condValid, only]
    simp [-List.length_eq_zero_iff]
    rw [ite_some, Option.some.injEq, D.bool.injEq, Bool.eq_iff_iff]
    simp [-List.length_eq_zero_iff]
    omega
  have hz : ∀ v : List D, (bytesOf [] = bytesOf v) ↔ v.length = 0 := fun v => by cases v <;> simp [bytesOf]
  by_cases h3 : c.kind = 3
  · simp only [h3, condValid, only]
    simp [-List.length_eq_zero_iff]
    rw [ite_some, Option.some.injEq, D.bool.injEq, Bool.eq_iff_iff]
    simp [-List.length_eq_zero_iff]
    omega
  by_cases h4 : c.kind = 4
  · simp only [h4, condValid, only]
    by_cases h5 : 1 ≤ c.count
    · rw [wrap_in (by omega) (by omega)]
      simp [hz, -List.length_eq_zero_iff]
      rw [ite_some, Option.some.injEq, D.bool.injEq, Bool.eq_iff_iff]
      simp [-List.length_eq_zero_iff]
      omega
    · simp [hz, -List.length_eq_zero_iff]
      rw [ite_some, Option.some.injEq, D.bool.injEq, Bool.eq_iff_iff]
      simp [-List.length_eq_zero_iff]
      omega
  by_cases h5 : c.kind = 5
  · simp only [h5, condValid, only]
    simp [hz, -List.length_eq_zero_iff]
    rw [ite_some, Option.some.injEq, D.bool.injEq, Bool.eq_iff_iff]
    simp [-List.length_eq_zero_iff]
    omega
  simp [h1, h2, h3, h4, h5, condValid]

end Go.Pl
