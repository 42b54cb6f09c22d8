/- The evaluator 'Ev': each operation does what the evaluator says: what makes and writes memory. -/
import Derived.Test.YtollfgfhepjfkaaDoorEv7
namespace Go.Ev
open Go Go.RowKit

variable {P : Program} {n : Nat} {w0 : Base P} {S0 S : Snap} {E : Nat → Value} {s : A} {a : Act} {w : World}

theorem below_grown {w w' : World} (h : Below w.heap.size w w') : w.grownBy w' none := ⟨h.os, h.tape, h.output, h.size, fun k hk _ => h.block k hk⟩

/-- A NEW BOX. -/
theorem Rel.box (h : Rel n w0 S0 S E s a w) {d : Nat} {cells : Array Value} {ty : TypeId} {cs : List T} (hl : cells.size = cs.length)
    (hc : ∀ (j : Nat) u c, cells[j]? = some u → cs[j]? = some c → u.oneCell' = true ∧ c.bare = true ∧ TV S E (fun _ => undef) u c) :
    Made S E w0.B w (w.alloc (.cells cells ty)) d (.pointer (some ⟨w.heap.size, 0, none⟩)) (.box ty (cs.map (T.kill d))) := by
  have hb : Below w.heap.size w (w.alloc (.cells cells ty)) := (Below.refl _ _).alloc (Nat.le_refl _) _
  refine ⟨below_grown hb, fun g hg => by simp [blk] at hg; omega, ?_⟩
  refine ⟨w.heap.size, cells, by simp, heap_alloc_new w _, by simpa using hl, h.bsize, ?_, ?_⟩
  · intro a' ha
    cases hS : S a' with
    | none => rfl
    | some u =>
      have := World.block_lt_of_cell? w a' (h.inn a' u hS).1
      omega
  · intro j u c hu hcj
    simp only [List.getElem?_map, Option.map_eq_some_iff] at hcj
    obtain ⟨c', hc', rfl⟩ := hcj
    obtain ⟨h1, h2, h3⟩ := hc j u c' hu hc'
    refine ⟨h1, ?_, TV.kill (k := d) (fun i hi => by simp [hi]) h3⟩
    unfold T.kill
    cases c'.refs d
    · exact h2
    · rfl

theorem zcell_tv (t : Ty) (v : Value) : TV S E (fun _ => undef) v (zcell t v) ∧ (zcell t v).bare = true ∧ ∀ d, (zcell t v).refs d = false := by
  unfold zcell
  split
  · exact ⟨V.bool _, rfl, fun _ => rfl⟩
  · rename_i k k' m
    cases hk : beqK k k'
    · exact ⟨trivial, rfl, fun _ => rfl⟩
    · exact ⟨V.int _ _, rfl, fun _ => rfl⟩
  · exact ⟨V.str _, rfl, fun _ => rfl⟩
  · exact ⟨rfl, rfl, fun _ => rfl⟩
  · exact ⟨V.nil, rfl, fun _ => rfl⟩
  · exact ⟨trivial, rfl, fun _ => rfl⟩
theorem zipZ_tv : ∀ (ts : List Ty) (vs : List Value), (zipZ ts vs).length = vs.length ∧ ∀ (j : Nat) u c, vs[j]? = some u → (zipZ ts vs)[j]? = some c → c.bare = true ∧ (∀ d, c.refs d = false) ∧ TV S E (fun _ => undef) u c ∧ V S u c.asD
  | ts, [] => by cases ts <;> exact ⟨rfl, fun j u c hu => by simp at hu⟩
  | [], v :: vs => by
    obtain ⟨h1, h2⟩ := zipZ_tv [] vs
    refine ⟨by simp [zipZ, h1], fun j u c hu hc => ?_⟩
    cases j with
    | zero => simp [zipZ] at hu hc; subst hu; subst hc; exact ⟨rfl, fun _ => rfl, trivial, .undef _⟩
    | succ j => exact h2 j u c (by simpa using hu) (by simpa [zipZ] using hc)
  | t :: ts, v :: vs => by
    obtain ⟨h1, h2⟩ := zipZ_tv ts vs
    refine ⟨by simp [zipZ, h1], fun j u c hu hc => ?_⟩
    cases j with
    | zero =>
      simp [zipZ] at hu hc; subst hu; subst hc
      obtain ⟨q1, q2, q3⟩ := zcell_tv (S := S) (E := E) t v
      refine ⟨q2, q3, q1, ?_⟩
      generalize zcell t v = c at q1
      cases c <;> first | exact q1 | exact .undef _ | (simp only [TV] at q1; subst q1; exact .slnil _)
    | succ j => exact h2 j u c (by simpa using hu) (by simpa [zipZ] using hc)

theorem zero_run {e : Nat} (h : (zeroOf P e).isEmpty = false) : ∃ z, (zeroValue e).run P w = .ok z w ∧ z.cells.toList = zeroOf P e := by
  unfold zeroOf at h ⊢
  cases hi : P.info? e with
  | none => simp [hi] at h
  | some i =>
    cases hz : i.zero with
    | none => simp [hi, hz] at h
    | some z => exact ⟨z, by simp [zeroValue, typeInfo, hi, hz], by simp [hz]⟩

theorem alloc_good (h : Rel n w0 S0 S E s a w) {C : Cfg} (hz : ∀ t, C.zero t = zeroOf P t) {e d : Nat} (hdH : d < HB) :
    Good P n w0 S0 S E s a w (do pure (.value (← Instr.alloc e true (.tuple #[])))) (bif (C.zero e).isEmpty || !(C.zero e).all Value.oneCell' then .fail else .mk true d (.box e (zeros C e)) (.ptr d 0)) := by
  cases hc : ((C.zero e).isEmpty || !(C.zero e).all Value.oneCell') with
  | true => trivial
  | false =>
    simp only [Bool.or_eq_false_iff, Bool.not_eq_false'] at hc
    rw [hz] at hc
    obtain ⟨z, hr, hcs⟩ := zero_run (P := P) (w := w) hc.1
    intro _
    obtain ⟨hl, htv⟩ := zipZ_tv (S := S) (E := E) (leaves C 20 (C.ty e)) (zeroOf P e)
    have hbox := h.box (d := d) (cells := z.cells) (ty := e) (cs := zeros C e) (by unfold zeros; rw [hz, hl, ← hcs]; simp) (fun j u c hu hcj => by
      unfold zeros at hcj; rw [hz] at hcj
      have hu' : (zeroOf P e)[j]? = some u := by rw [← hcs]; simpa using hu
      obtain ⟨q1, q2, q3, _⟩ := htv j u c hu' hcj
      exact ⟨List.all_eq_true.1 hc.2 u (List.mem_of_getElem? hu'), q1, q3⟩)
    have hkill : (zeros C e).map (T.kill d) = zeros C e := by
      apply List.ext_getElem?
      intro j
      rw [List.getElem?_map]
      cases hj : (zeros C e)[j]? with
      | none => rfl
      | some c =>
        unfold zeros at hj; rw [hz] at hj
        have hlt : j < (zeroOf P e).length := by rw [← hl]; exact (List.getElem?_eq_some_iff.1 hj).1
        obtain ⟨_, q2, _⟩ := htv j _ c (List.getElem?_eq_getElem hlt) hj
        simp [T.kill, q2 d]
    rw [hkill] at hbox
    refine ⟨hdH, .pointer (some ⟨w.heap.size, 0, none⟩), _, ?_, hbox, ⟨w.heap.size, by simp, rfl⟩, rfl⟩
    simp [Instr.alloc, hr, newVar, newRow]

/-- what is to be stored, cell by cell. -/
theorem cells_tv (h : Rel n w0 S0 S E s a w) {t : TypeId} {v : Value} {x : T} (hx : TV S E (frameOf a) v x) {cs : List T} (hc : cellsOf s (tyOf P t) x = some cs) :
    v.cells.size = cs.length ∧ cs.length = P.cellsOf t ∧ ∀ (j : Nat) u c, v.cells[j]? = some u → cs[j]? = some c → u.oneCell' = true ∧ c.bare = true ∧ TV S E (fun _ => undef) u c := by
  have one : ∀ {v : Value} {c : T}, v.cells = #[v] → v.oneCell' = true → c.bare = true → TV S E (fun _ => undef) v c → (tyOf P t).n = 1 → v.cells.size = [c].length ∧ [c].length = P.cellsOf t ∧
      ∀ (j : Nat) u c', v.cells[j]? = some u → [c][j]? = some c' → u.oneCell' = true ∧ c'.bare = true ∧ TV S E (fun _ => undef) u c' := by
    intro v c hv h1 h2 h3 hn
    have : P.cellsOf t = 1 := by rw [← tyOf_n (by omega)]; exact hn
    refine ⟨by simp [hv], by simp [this], fun j u c' hu hc' => ?_⟩
    cases j with
    | zero => simp [hv] at hu hc'; subst hu; subst hc'; exact ⟨h1, h2, h3⟩
    | succ j => simp at hc'
  cases x with
  | d x =>
    simp only [cellsOf] at hc
    cases hg : (tyOf P t).isAgg with
    | true =>
      rw [hg] at hc
      simp only [cond_true] at hc
      split at hc
      · rename_i ds
        cases hb : Nat.beq ds.length (tyOf P t).n with
        | false => simp [hb] at hc
        | true =>
          simp only [hb, cond_true, Option.some.injEq] at hc
          subst hc
          have hlen : ds.length = P.cellsOf t := by rw [nbeq_eq hb, isAgg_n hg]
          have hx' : V S v (.agg ds) := hx
          cases hx' with
          | agg vs _ hn h1 hh =>
            refine ⟨by simpa [Value.cells] using hn, by simpa using hlen, fun j u c hu hc => ?_⟩
            simp only [List.getElem?_map, Option.map_eq_some_iff] at hc
            obtain ⟨d, hd, rfl⟩ := hc
            exact ⟨h1 j u (by simpa [Value.cells] using hu), rfl, hh j u d (by simpa [Value.cells] using hu) hd⟩
      · cases hc
    | false =>
      rw [hg] at hc
      simp only [cond_false] at hc
      cases hok : okD (tyOf P t) x with
      | false => simp [hok] at hc
      | true =>
        simp only [hok, cond_true, Option.some.injEq] at hc
        subst hc
        have hx' : V S v x := hx
        cases ht : tyOf P t <;> rw [ht] at hok hg <;> simp [okD, Ty.isAgg] at hok hg
        case bool => rw [isB_eq hok] at hx' hx ⊢; cases hx'; exact one rfl rfl rfl hx (by rw [ht]; rfl)
        case int k => rw [isI_eq hok] at hx' hx ⊢; cases hx'; exact one rfl rfl rfl hx (by rw [ht]; rfl)
        case str => obtain ⟨l, rfl⟩ : ∃ l, x = .str l := ⟨_, isS_eq hok⟩
                    cases hx'; exact one rfl rfl rfl hx (by rw [ht]; rfl)
        case sl => obtain ⟨l, rfl⟩ : ∃ l, x = .sl _ l := ⟨_, isL_eq hok⟩
                   cases hx' <;> exact one rfl rfl rfl hx (by rw [ht]; rfl)
        case ptr => rw [isN_eq hok] at hx' hx ⊢; cases hx'; exact one rfl rfl rfl hx (by rw [ht]; rfl)
  | nils z =>
    simp only [cellsOf] at hc
    split at hc
    · rename_i e sz ht
      cases hb : Nat.beq z sz with
      | false => simp [hb] at hc
      | true =>
        simp only [hb, cond_true, Option.some.injEq] at hc
        subst hc
        have hx' : v = .slice none 0 0 := hx
        subst hx'
        exact one rfl rfl rfl hx (by rw [ht]; rfl)
    · cases hc
  | vec k =>
    simp only [cellsOf] at hc
    split at hc
    · rename_i e sz e' sz' xs ht hk
      cases hb : Nat.beq sz' sz with
      | false => simp [hb] at hc
      | true =>
        simp only [hb, cond_true, Option.some.injEq] at hc
        subst hc
        have hx' : v = E k := hx
        obtain ⟨vals, ho, _⟩ := h.ob k _ hk
        rcases ho.2 with ⟨hE, _⟩ | ⟨g, cap, cur, hE, _⟩
        · rw [hE] at hx'; subst hx'; exact one rfl rfl rfl hx (by rw [ht]; rfl)
        · rw [hE] at hx'; subst hx'; exact one rfl rfl rfl hx (by rw [ht]; rfl)
    · cases hc
  | ptr k o =>
    simp only [cellsOf] at hc
    split at hc
    · rename_i e ht
      simp only [Option.some.injEq] at hc
      subst hc
      obtain ⟨g, hE, rfl⟩ := id hx
      exact one rfl rfl rfl hx (by rw [ht]; rfl)
    · cases hc
  | _ => simp [cellsOf] at hc

theorem box_good (h : Rel n w0 S0 S E s a w) {e : TypeId} {v : Value} {x : T} {d : Nat} (hdH : d < HB) {cs : List T} (hx : TV S E (frameOf a) v x) (hc : cellsOf s (tyOf P e) x = some cs) :
    Good P n w0 S0 S E s a w (do pure (.value (← Instr.box e v))) (.mk true d (.box e (cs.map (T.kill d))) (.ptr d 0)) := by
  intro _
  obtain ⟨h1, h2, h3⟩ := cells_tv h hx hc
  refine ⟨hdH, .pointer (some ⟨w.heap.size, 0, none⟩), _, ?_, h.box (d := d) (cells := v.cells) (ty := e) h1 h3, ⟨w.heap.size, by simp, rfl⟩, rfl⟩
  simp [Instr.box, newVar, newRow]

/-- cells are written, none of which lies in the row's mark. -/
theorem run_storeCells_atB (P : Program) (g o : Nat) (t : TypeId) (fz : Nat × Nat) : ∀ (vs : List Value) (i : Nat) (cur : Array Value) (w : World), w.heap[g]? = some (.cells cur t fz) → (fz.2 ≤ o + i ∨ o + i + vs.length ≤ fz.1) → o + i + vs.length ≤ cur.size → (∀ v ∈ vs, v.oneCell' = true) →
    (storeCells ⟨g, o, none⟩ vs i).run P w = .ok () (w.setRow g (cur.toList.take (o + i) ++ vs ++ cur.toList.drop (o + i + vs.length)).toArray)
  | [], i, cur, w, hg, _, _, _ => by
    simp only [storeCells, List.append_nil, List.length_nil, Nat.add_zero, List.take_append_drop, Array.toArray_toList]
    rw [setRow_self w g cur t fz hg]
    rfl
  | v :: rest, i, cur, w, hg, hfz, hl, h1 => by
    simp only [List.length_cons] at hfz hl
    have hi : o + i < cur.size := by omega
    have hadd : (⟨g, o, none⟩ : Addr).add i = ⟨g, o + i, none⟩ := by unfold Addr.add; split <;> simp_all
    have hcell : w.cell? ⟨g, o + i, none⟩ = some cur[o + i] := by simp [World.cell?, hg, hi]
    have hfro : w.frozen? ⟨g, o + i, none⟩ = false := by
      obtain ⟨lo, hi'⟩ := fz
      simp only [World.frozen?, hg, Bool.and_eq_false_iff, decide_eq_false_iff_not]
      simp only at hfz
      omega
    have hst : (store ((⟨g, o, none⟩ : Addr).add i) v).run P w = .ok () (w.setRow g (cur.setIfInBounds (o + i) v)) := by
      rw [hadd, run_store P w _ v _ (h1 v (by simp)), hcell]
      simp [hfro, setCell_eq_setRow w g (o + i) cur t fz v hg]
    have ih := run_storeCells_atB P g o t fz rest (i + 1) (cur.setIfInBounds (o + i) v) (w.setRow g (cur.setIfInBounds (o + i) v)) (setRow_heap w g cur _ t _ hg) (by omega) (by simp; omega) (fun x hx => h1 x (by simp [hx]))
    simp only [storeCells, Sem.run_bind, hst, Result.andThen_ok, ih, setRow_setRow]
    congr 3
    have e := list_seg_step cur.toList (o + i) v rest (by simp; omega)
    simpa [Array.toList_setIfInBounds, Nat.add_assoc] using e
theorem run_storeAtB {t : TypeId} {g off : Nat} {v : Value} {ty : TypeId} {fz : Nat × Nat} {cur : Array Value} (hg : w.heap[g]? = some (.cells cur ty fz)) (hfz : fz.2 ≤ off ∨ off + v.cells.size ≤ fz.1) (hi : (sizeOf t).run P w = .ok v.cells.size w) (hl : off + v.cells.size ≤ cur.size)
    (h1 : ∀ u ∈ v.cells.toList, u.oneCell' = true) :
    (Instr.storeAt t (.pointer (some ⟨g, off, none⟩)) v).run P w = .ok () (w.setRow g (cur.toList.take off ++ v.cells.toList ++ cur.toList.drop (off + v.cells.size)).toArray) := by
  have h2 := run_storeCells_atB P g off ty fz v.cells.toList 0 cur w hg (by simpa using hfz) (by simpa using hl) h1
  simp only [Nat.add_zero, Array.length_toList] at h2
  simp [Instr.storeAt, Instr.sureAddr, storeVar, hi, h2]
theorem run_storeAt {t : TypeId} {g off : Nat} {v : Value} {ty : TypeId} {cur : Array Value} (hg : w.heap[g]? = some (.cells cur ty (0, 0))) (hi : (sizeOf t).run P w = .ok v.cells.size w) (hl : off + v.cells.size ≤ cur.size)
    (h1 : ∀ u ∈ v.cells.toList, u.oneCell' = true) :
    (Instr.storeAt t (.pointer (some ⟨g, off, none⟩)) v).run P w = .ok () (w.setRow g (cur.toList.take off ++ v.cells.toList ++ cur.toList.drop (off + v.cells.size)).toArray) := run_storeAtB hg (.inl (Nat.zero_le _)) hi hl h1

/-- CELLS OF A BOX ARE WRITTEN. -/
theorem Rel.stored (h : Rel n w0 S0 S E s a w) {k bt : Nat} {cs : List T} (hk : look s.ob k = some (.box bt cs)) {g : Nat} (hE : E k = .pointer (some ⟨g, 0, none⟩)) {t : TypeId} {v : Value} {off : Nat} {ts : List T}
    (hsz : v.cells.size = P.cellsOf t) (hinfo : ∃ i, P.info? t = some i) (hl : v.cells.size = ts.length) (hoff : off + ts.length ≤ cs.length) (h1 : ∀ u ∈ v.cells.toList, u.oneCell' = true)
    {cs' : List T} (hcs' : cs'.length = cs.length)
    (hnew : ∀ (j : Nat) c, cs'[j]? = some c → c.bare = true ∧ ((off ≤ j ∧ j < off + ts.length ∧ ∀ u, v.cells[j - off]? = some u → TV S E (fun _ => undef) u c) ∨ (¬ (off ≤ j ∧ j < off + ts.length) ∧ ∀ c', cs[j]? = some c' → ∀ u, TV S E (fun _ => undef) u c' → TV S E (fun _ => undef) u c))) :
    ∃ w', (Instr.storeAt t (.pointer (some ⟨g, off, none⟩)) v).run P w = .ok () w' ∧ Chg E k w w' ∧ OV S E w0.B w' k (.box bt cs') := by
  obtain ⟨vs, hh, hn, hB, hz, hc, hcell⟩ := box_at h hk hE
  obtain ⟨i, hi⟩ := hinfo
  have hrun := run_storeAt (P := P) (w := w) (t := t) (v := v) (off := off) hh (by simp [sizeOf, typeInfo, hi, hsz, Program.cellsOf]) (by rw [hl, hn]; exact hoff) h1
  refine ⟨_, hrun, ⟨by simp [World.setRow], rfl, rfl, rfl, fun b hb => setRow_other w g b _ (fun e => hb (by rw [hE, e]; rfl))⟩, ?_⟩
  refine ⟨g, _, hE, setRow_heap w g vs _ bt (0, 0) hh, ?_, hB, hz, ?_⟩
  · simp only [List.size_toArray, List.length_append, List.length_take, List.length_drop, Array.length_toList]
    rw [hcs']; omega
  · intro j u c hu hcj
    have hlen : (vs.toList.take off).length = off := by simp; omega
    have hjlt : j < cs.length := by rw [← hcs']; exact (List.getElem?_eq_some_iff.1 hcj).1
    obtain ⟨hb, hcase⟩ := hnew j c hcj
    simp only [List.getElem?_toArray] at hu
    by_cases hin : off ≤ j ∧ j < off + ts.length
    · have hu' : v.cells[j - off]? = some u := by
        rw [List.append_assoc, List.getElem?_append_right (by rw [hlen]; omega), List.getElem?_append_left (by rw [hlen]; simp; omega), hlen] at hu
        simpa using hu
      rcases hcase with ⟨_, _, h3⟩ | ⟨h3, _⟩
      · exact ⟨h1 u (by rw [Array.mem_toList_iff]; exact Array.mem_of_getElem? hu'), hb, h3 u hu'⟩
      · exact absurd hin h3
    · have hu' : vs[j]? = some u := by
        by_cases hlt : j < off
        · rw [List.append_assoc, List.getElem?_append_left (by rw [hlen]; omega), List.getElem?_take, if_pos hlt] at hu
          simpa using hu
        · rw [List.getElem?_append_right (by simp; omega)] at hu
          simp only [List.length_append, hlen, Array.length_toList, List.getElem?_drop] at hu
          rw [show off + v.cells.size + (j - (off + v.cells.size)) = j by omega] at hu
          simpa using hu
      have hcj' : cs[j]? = some cs[j] := List.getElem?_eq_getElem hjlt
      obtain ⟨q1, q2, q3⟩ := hc j u cs[j] hu' hcj'
      rcases hcase with ⟨h3, h4, _⟩ | ⟨_, h3⟩
      · exact absurd ⟨h3, h4⟩ hin
      · exact ⟨q1, hb, h3 _ hcj' u q3⟩

end Go.Ev
