/- The evaluator 'Ev': laws of data and of types, for the operations. -/
import Derived.Test.YtollfgfhepjfkaaDoorEv2
import Derived.Laws.Cells
import Derived.Laws.Build
import Derived.Laws.Slices
import Derived.Lib.ConvBytes
namespace Go.Ev
open Go Go.RowKit

theorem beqK_eq {k k' : IntKind} (h : beqK k k' = true) : k = k' := by cases k <;> cases k' <;> first | rfl | simp [beqK] at h
theorem nth_eq (l : List D) (j : Nat) : nth l j = (l[j]?).getD .undef := by
  induction l generalizing j with
  | nil => simp [nth]
  | cons x r ih => cases j with
    | zero => simp [nth]
    | succ j => simp [nth, ih]
theorem nth_some {l : List D} {j : Nat} (h : nth l j ≠ .undef) : l[j]? = some (nth l j) := by
  rw [nth_eq] at h ⊢
  cases hj : l[j]? with
  | none => rw [hj] at h; simp at h
  | some x => simp
theorem nth_lt {l : List D} {j : Nat} (h : j < l.length) : l[j]? = some (nth l j) := by
  rw [nth_eq, List.getElem?_eq_getElem h]; simp
theorem upto_eq (n i : Nat) : upto n i = List.range' i n := by
  induction n generalizing i with
  | zero => rfl
  | succ n ih => simp [upto, ih, List.range'_succ]
theorem cut_length (cs : List D) (off n : Nat) : (cut cs off n).length = n := by simp [cut, upto_eq]
theorem cut_get (cs : List D) (off n j : Nat) (h : j < n) : (cut cs off n)[j]? = some (nth cs (off + j)) := by
  simp [cut, upto_eq, h]
theorem cut_eq {cs : List D} {off n : Nat} (h : off + n ≤ cs.length) : cut cs off n = (cs.drop off).take n := by
  apply List.ext_getElem?
  intro j
  by_cases hj : j < n
  · rw [cut_get _ _ _ _ hj, List.getElem?_take, if_pos hj, List.getElem?_drop, nth_lt (by omega)]
  · rw [List.getElem?_eq_none (by rw [cut_length]; omega), List.getElem?_take, if_neg hj]
theorem cut_all {cs : List D} {n : Nat} (h : cs.length = n) : cut cs 0 n = cs := by
  rw [cut_eq (by omega)]; simp [← h]

theorem isI_eq {k : IntKind} {d : D} (h : d.isI k = true) : d = .int k d.i := by
  cases d <;> simp [D.isI] at h
  rw [beqK_eq h]; rfl
theorem isB_eq {d : D} (h : d.isB = true) : d = .bool d.b := by cases d <;> first | rfl | simp [D.isB] at h
theorem isS_eq {d : D} (h : d.isS = true) : d = .str d.s := by cases d <;> first | rfl | simp [D.isS] at h
theorem isL_eq {sz : Nat} {d : D} (h : d.isL sz = true) : d = .sl sz d.l := by
  cases d <;> simp [D.isL] at h
  subst h; rfl
theorem isN_eq {d : D} (h : d.isN = true) : d = .nil := by cases d <;> first | rfl | simp [D.isN] at h
theorem isA_eq {n : Nat} {d : D} (h : d.isA n = true) : d = .agg d.cells ∧ d.cells.length = n := by
  cases d <;> simp [D.isA] at h
  subst h; exact ⟨rfl, rfl⟩
theorem isT_eq {n : Nat} {d : D} (h : d.isT n = true) : d = .tup d.t ∧ d.t.length = n := by
  cases d <;> simp [D.isT] at h
  subst h; exact ⟨rfl, rfl⟩
theorem asD_eq {ty : Ty} {d : D} (h : okD ty d = true) : asD ty d = d := by
  cases ty <;> simp only [okD] at h <;> simp only [asD]
  case bool => exact (isB_eq h).symm
  case int k => exact (isI_eq h).symm
  case str => exact (isS_eq h).symm
  case sl => exact (isL_eq h).symm
  case st n _ => obtain ⟨h1, h2⟩ := isA_eq h; rw [cut_all h2]; exact h1.symm
  case arr n _ _ _ => obtain ⟨h1, h2⟩ := isA_eq h; rw [cut_all h2]; exact h1.symm
  case ptr => exact (isN_eq h).symm
  all_goals cases h
theorem okD_undef (ty : Ty) : okD ty .undef = false := by cases ty <;> rfl
theorem okD_ne {ty : Ty} {d : D} (h : okD ty d = true) : d ≠ .undef := fun e => by subst e; rw [okD_undef] at h; cases h
theorem asR_eq {C : Cfg} {ty : Ty} {d : D} (h : okR C ty d = true) : asR C ty d = d := by
  cases ty <;> simp only [okR] at h <;> simp only [asR] <;> try exact asD_eq h
  rename_i ts
  simp only [Bool.and_eq_true] at h
  obtain ⟨h1, h2⟩ := h
  obtain ⟨h3, h4⟩ := isT_eq h1
  have : (upto ts.length 0).map (fun j => asD (C.ty (ts.getD j 0)) (nth d.t j)) = d.t := by
    apply List.ext_getElem?
    intro j
    by_cases hj : j < ts.length
    · have : okD (C.ty (ts.getD j 0)) (nth d.t j) = true := by
        rw [List.all_eq_true] at h2
        exact h2 j (by simp [upto_eq]; omega)
      rw [upto_eq, List.getElem?_map, List.getElem?_range' hj]
      simp only [Option.map_some, Nat.zero_add, Nat.one_mul]
      rw [asD_eq this, nth_lt (by omega)]
    · rw [List.getElem?_eq_none (by simp [upto_eq]; omega), List.getElem?_eq_none (by omega)]
  rw [this]; exact h3.symm

/-! ### types -/
section types
variable {P : Program} {t : TypeId}
theorem und_info {d : TypeDesc} (h : P.underlying t = some d) : ∃ i, P.info? t = some i := by
  unfold Program.underlying at h
  cases hi : P.info? t with
  | none => simp [hi] at h
  | some i => exact ⟨i, rfl⟩
theorem run_info {d : TypeDesc} (h : P.underlying t = some d) (w : World) : (sizeOf t).run P w = .ok (P.cellsOf t) w := by
  obtain ⟨i, hi⟩ := und_info h
  simp [sizeOf, typeInfo, hi, Program.cellsOf]
theorem tyOf_und (h : tyOf P t ≠ .oth) : ∃ d, P.underlying t = some d := by
  unfold tyOf at h
  cases hu : P.underlying t with
  | none => simp [hu] at h
  | some d => exact ⟨d, rfl⟩
theorem bif_oth {c : Bool} {x y : Ty} (h : (bif c then x else .oth) = y) (hy : y ≠ .oth) : c = true ∧ x = y := by
  cases c with
  | true => exact ⟨rfl, h⟩
  | false => exact absurd h.symm hy
theorem tyOf_bool (h : tyOf P t = .bool) : P.underlying t = some .bool := by
  unfold tyOf at h
  split at h <;> first | assumption | (have := (bif_oth h (by simp)).2; cases this) | cases h
theorem tyOf_int {k : IntKind} (h : tyOf P t = .int k) : P.underlying t = some (.int k) := by
  unfold tyOf at h
  split at h <;> first | (have := (bif_oth h (by simp)).2; cases this; assumption) | (have := (bif_oth h (by simp)).2; cases this) | cases h
theorem tyOf_str (h : tyOf P t = .str) : P.underlying t = some .string := by
  unfold tyOf at h
  split at h <;> first | assumption | (have := (bif_oth h (by simp)).2; cases this) | cases h
theorem tyOf_sl {e sz : Nat} (h : tyOf P t = .sl e sz) : P.underlying t = some (.slice e) ∧ sz = P.cellsOf e := by
  unfold tyOf at h
  split at h <;> first | (have := (bif_oth h (by simp)).2; cases this; exact ⟨by assumption, rfl⟩) | (have := (bif_oth h (by simp)).2; cases this) | cases h
theorem tyOf_n (h : (tyOf P t).n ≠ 0) : (tyOf P t).n = P.cellsOf t := by
  unfold tyOf at h ⊢
  split at h <;> (rename_i hu; simp only at h ⊢) <;> first | rfl | (simp [Ty.n] at h; done) | skip
  all_goals
    cases hb : Nat.beq (((P.info? t).map (·.size)).getD 0) 1 with
    | true => simp only [cond_true, Ty.n, Program.cellsOf]; exact (nbeq_eq hb).symm
    | false => simp [hb, Ty.n] at h
theorem tyOf_st {n : Nat} {fs : List (Nat × Nat)} (h : tyOf P t = .st n fs) : ∃ flds : Array Field, P.underlying t = some (.struct flds) ∧ n = P.cellsOf t ∧ fs = flds.toList.map fun f => (f.type, f.offset) := by
  unfold tyOf at h
  split at h <;> first | (have := (bif_oth h (by simp)).2; cases this) | (cases h; exact ⟨_, by assumption, rfl, rfl⟩) | cases h
theorem tyOf_arr {n len e sz : Nat} (h : tyOf P t = .arr n len e sz) : P.underlying t = some (.array len e) ∧ n = P.cellsOf t ∧ sz = P.cellsOf e := by
  unfold tyOf at h
  split at h <;> first | (have := (bif_oth h (by simp)).2; cases this) | (cases h; exact ⟨by assumption, rfl, rfl⟩) | cases h
theorem tyOf_ptr {e : Nat} (h : tyOf P t = .ptr e) : P.underlying t = some (.pointer e) := by
  unfold tyOf at h
  split at h <;> first | (have := (bif_oth h (by simp)).2; cases this; assumption) | (have := (bif_oth h (by simp)).2; cases this) | cases h
theorem tyOf_uptr (h : tyOf P t = .uptr) : P.underlying t = some .unsafePointer := by
  unfold tyOf at h
  split at h <;> first | (have := (bif_oth h (by simp)).2; cases this; assumption) | (have := (bif_oth h (by simp)).2; cases this) | cases h
theorem run_isAgg {d : TypeDesc} (h : P.underlying t = some d) (w : World) : (isAgg t).run P w = .ok (tyOf P t).isAgg w := by
  have hr := run_underlying h w
  unfold isAgg tyOf
  rw [h]
  simp only [Sem.run_bind, hr, Result.andThen_ok]
  cases d <;> first | rfl | (cases Nat.beq (((P.info? t).map (·.size)).getD 0) 1 <;> rfl)
theorem isAgg_n (h : (tyOf P t).isAgg = true) : (tyOf P t).n = P.cellsOf t := by
  cases ht : tyOf P t <;> rw [ht] at h <;> simp [Ty.isAgg] at h
  case st n fs => obtain ⟨_, _, hn, _⟩ := tyOf_st ht; exact hn
  case arr n len e sz => obtain ⟨_, hn, _⟩ := tyOf_arr ht; exact hn

theorem run_loadVar_agg {d : TypeDesc} (hu : P.underlying t = some d) (hg : (tyOf P t).isAgg = true) {w : World} {a : Addr} {vals : List Value} (hl : vals.length = (tyOf P t).n)
    (hc : ∀ (j : Nat) u, vals[j]? = some u → w.cell? (a.add j) = some u) : (loadVar t a).run P w = .ok (.agg vals.toArray) w := by
  have h1 := run_loadCells_list (P := P) w a vals hc
  rw [hl, isAgg_n hg] at h1
  simp [loadVar, run_isAgg hu, hg, run_info hu, h1]
theorem run_loadVar_one {d : TypeDesc} (hu : P.underlying t = some d) (hg : (tyOf P t).isAgg = false) {w : World} {a : Addr} {u : Value} (hc : w.cell? a = some u) : (loadVar t a).run P w = .ok u w := by
  simp [loadVar, run_isAgg hu, hg, hc]
end types

/-! ### data -/
theorem V_cells {S : Snap} {v : Value} {d : D} (h : V S v d) (hd : d ≠ .undef) : Vs S v.cells.toList d.cells := by
  cases h with
  | undef v => exact absurd rfl hd
  | agg vs cs hn _ hh => exact ⟨by simpa [Value.cells, D.cells] using hn, fun j u d hu hd' => hh j u d (by simpa [Value.cells] using hu) hd'⟩
  | tup vs cs hn hh => exact Vs.cons (.tup vs cs hn hh) (Vs.nil S)
  | bool b => exact Vs.cons (.bool b) (Vs.nil S)
  | int k n => exact Vs.cons (.int k n) (Vs.nil S)
  | str s => exact Vs.cons (.str s) (Vs.nil S)
  | nil => exact Vs.cons .nil (Vs.nil S)
  | slnil sz => exact Vs.cons (.slnil sz) (Vs.nil S)
  | sl a cap sz xs vals hc hx hl hs hv => exact Vs.cons (.sl a cap sz xs vals hc hx hl hs hv) (Vs.nil S)
theorem V_agg_of {S : Snap} {vals : List Value} {ds : List D} (h1 : ∀ (j : Nat) u, vals[j]? = some u → u.oneCell' = true) (h : Vs S vals ds) : V S (.agg vals.toArray) (.agg ds) :=
  .agg _ _ (by simpa using h.1) (fun j u hu => h1 j u (by simpa using hu)) fun j u d hu hd => h.2 j u d (by simpa using hu) hd
theorem Vs.cut {S : Snap} {vals : List Value} {ds : List D} (h : Vs S vals ds) {off n : Nat} (hb : off + n ≤ ds.length) : Vs S ((vals.drop off).take n) (cut ds off n) := by
  rw [cut_eq hb]; exact (h.drop off).take n
theorem CellsAt.drop {S : Snap} {a : Addr} {vals : List Value} {ds : List D} (h : CellsAt S a vals ds) (off : Nat) : CellsAt S (a.add off) (vals.drop off) (ds.drop off) :=
  ⟨h.vs.drop off, fun j u hj => by rw [add_add]; exact h.at_ (off + j) u (by simpa using hj)⟩
theorem CellsAt.take {S : Snap} {a : Addr} {vals : List Value} {ds : List D} (h : CellsAt S a vals ds) (k : Nat) : CellsAt S a (vals.take k) (ds.take k) :=
  ⟨h.vs.take k, fun j u hj => h.at_ j u (by rw [List.getElem?_take] at hj; split at hj; exact hj; cases hj)⟩

/-- element i of rows, one after the other -/
theorem flat_drop {xs : List D} {sz : Nat} (h : ∀ x, x ∈ xs → x.cells.length = sz) : ∀ {i : Nat}, i < xs.length → ((flat xs).drop (i * sz)).take sz = (nth xs i).cells := by
  induction xs with
  | nil => intro i hi; simp at hi
  | cons x r ih =>
    intro i hi
    have hx := h x (by simp)
    cases i with
    | zero => simp [flat, nth, ← hx]
    | succ i =>
      have := ih (fun y hy => h y (by simp [hy])) (i := i) (by simpa using hi)
      simp only [flat, nth]
      rw [← this, Nat.add_mul, Nat.one_mul, Nat.add_comm, ← List.drop_drop, ← hx, List.drop_left]

end Go.Ev
