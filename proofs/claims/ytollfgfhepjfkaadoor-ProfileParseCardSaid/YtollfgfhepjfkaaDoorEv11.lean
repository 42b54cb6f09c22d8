/- The evaluator 'Ev': each operation does what the evaluator says: rows of the call's own. -/
import Derived.Test.YtollfgfhepjfkaaDoorEv10
namespace Go.Ev
open Go Go.RowKit

variable {P : Program} {n : Nat} {w0 : Base P} {S0 S : Snap} {E : Nat → Value} {s : A} {a : Act} {w : World}

/-- NEW ROWS AT SITE d. -/
theorem Rel.rows (h : Rel n w0 S0 S E s a w) {d e sz : Nat} {xs : List D} {v : Value} {vals : List Value} {w' : World} {row : Option Nat} (hdH : d < HB)
    (hw : w.grownBy w' row) (hrow : ∀ g, row = some g → (w0.B ≤ g ∧ ¬ w0.G g) ∧ (∀ a' : Addr, a'.block = g → S a' = none) ∧ ∀ j, j ≠ d → (look s.ob j).isSome → blk (E j) ≠ some g)
    (hv : ∀ g, blk v = some g → row = some g ∨ w.heap.size ≤ g)
    (ho : w'.ownsRow w0.B e sz v xs.length vals) (hx : ∀ x, x ∈ xs → x.cells.length = sz) (hvs : Vs S vals (flat xs)) (h1 : ∀ u, u ∈ vals → u.oneCell' = true) :
    Rel n w0 S0 S (fun j => if j = d then v else E j) (s.new d (.vec e sz xs)) a w' := by
  refine h.make hdH hw hrow hv ⟨vals, by simpa using ownR_of ho, hx, hvs, h1, fun g hg a' ha => ?_⟩
  simp only [if_true] at hg
  rcases hv g hg with hr | hr
  · exact (hrow g hr).2.1 a' ha
  · cases hS : S a' with
    | none => rfl
    | some u =>
      have := World.block_lt_of_cell? w a' (h.inn a' u hS).1
      omega

theorem Rel.rows' (h : Rel n w0 S0 S E s a w) {d e sz : Nat} {xs : List D} {v : Value} {vals : List Value} {w' : World}
    (hw : w.grownBy w' none) (hv : ∀ g, blk v = some g → w.heap.size ≤ g)
    (ho : w'.ownsRow w0.B e sz v xs.length vals) (hx : ∀ x, x ∈ xs → x.cells.length = sz) (hvs : Vs S vals (flat xs)) (h1 : ∀ u, u ∈ vals → u.oneCell' = true) :
    Made S E w0.B w w' d v (.vec e sz xs) := by
  refine ⟨hw, hv, ⟨vals, by simpa using ownR_of ho, hx, hvs, h1, fun g hg a' ha => ?_⟩⟩
  simp only [if_true] at hg
  cases hS : S a' with
  | none => rfl
  | some u =>
    have := World.block_lt_of_cell? w a' (h.inn a' u hS).1
    have := hv g hg
    omega

theorem groups_flat {ds : List D} {sz : Nat} {ag : Bool} : ∀ {m : Nat}, ds.length = m * sz → (ag = false → sz = 1) → (∀ d, d ∈ ds → d.cells = [d]) →
    flat (groups ds sz ag m) = ds ∧ (∀ x, x ∈ groups ds sz ag m → x.cells.length = sz) ∧ (groups ds sz ag m).length = m := by
  intro m
  induction m generalizing ds with
  | zero => intro hl _ _; have : ds = [] := List.eq_nil_of_length_eq_zero (by simpa using hl); subst this; simp [groups, flat]
  | succ m ih =>
    intro hl hag hd
    rw [Nat.add_mul, Nat.one_mul] at hl
    obtain ⟨h1, h2, h3⟩ := ih (ds := ds.drop sz) (by simp; omega) hag (fun d hm => hd d (List.mem_of_mem_drop hm))
    have hc : (bif ag then D.agg (ds.take sz) else nth ds 0).cells = ds.take sz := by
      cases ag with
      | true => rfl
      | false =>
        have := hag rfl; subst this
        cases ds with
        | nil => simp at hl
        | cons x r => simp [nth, hd x (by simp)]
    refine ⟨by simp only [groups, flat, hc, h1, List.take_append_drop], fun x hx => ?_, by simp [groups, h3]⟩
    simp only [groups, List.mem_cons] at hx
    rcases hx with rfl | hx
    · rw [hc]; simp; omega
    · exact h2 x hx

theorem cells_selfs {vals : List Value} {ds : List D} (hv : Vs S vals ds) (h1 : ∀ (j : Nat) u, vals[j]? = some u → u.oneCell' = true) : ∀ d, d ∈ ds → d.cells = [d] := by
  intro d hd
  obtain ⟨j, hj⟩ := List.mem_iff_getElem?.1 hd
  have hlt : j < vals.length := by rw [hv.1]; exact (List.getElem?_eq_some_iff.1 hj).1
  have hu := List.getElem?_eq_getElem hlt
  exact cells_self (hv.2 j _ d hu hj) (h1 j _ hu)

theorem buildSlice_good (h : Rel n w0 S0 S E s a w) {C : Cfg} (hT : Told P C) {rd : Operand → T} (hrd : ∀ x, TV S E (frameOf a) (a.eval x) (rd x)) {t e sz d m : Nat} (hdH : d < HB) (hnt : t < C.nt) (hty : C.ty t = .sl e sz) {ps : Array (Nat × Operand)} {guarded : Bool} {ds : List (Nat × D)} (hds : partsD s rd ps.toList = some ds) :
    Good P n w0 S0 S E s a w (do pure (.value (← Instr.buildSlice t m (ps.map fun (i, x) => (i, a.eval x)))))
      (bif guarded || (C.zero e).isEmpty || !(C.zero e).all Value.oneCell' || !Nat.beq (C.zero e).length sz || !Nat.ble (m * sz) 16777216 || !((C.ty e).isAgg || Nat.beq sz 1) then .fail else
      match fillE (fun i => some (i * sz, sz)) ((upto (m * sz) 0).map fun p => nth (zerosD C e) (p % sz)) ds with
      | some cs => (match vecsOf (ps.toList.map fun p => rd p.2) with
        | [] => .mk true d (.vec e sz (groups cs sz (C.ty e).isAgg m)) (.vec d)
        | k :: ks => .st true ((s.stowAll (k :: ks)).new d (.vec e sz (groups cs sz (C.ty e).isAgg m))) (.vec d))
      | none => .fail) := by
  cases hc : (guarded || (C.zero e).isEmpty || !(C.zero e).all Value.oneCell' || !Nat.beq (C.zero e).length sz || !Nat.ble (m * sz) 16777216 || !((C.ty e).isAgg || Nat.beq sz 1)) with
  | true => trivial
  | false =>
    simp only [Bool.or_eq_false_iff, Bool.not_eq_false'] at hc
    obtain ⟨⟨⟨⟨⟨_, hne⟩, hone⟩, hzl⟩, hle⟩, hag⟩ := hc
    simp only [cond_false]
    split
    · rename_i cs hcs
      rw [hT.ty] at hty
      obtain ⟨hu, hsz⟩ := tyOf_sl hty
      obtain ⟨ie, hie⟩ := hT.elem t hnt e (.inl hu)
      have hrs : (sizeOf e).run P w = .ok sz w := by simp [sizeOf, typeInfo, hie, hsz, Program.cellsOf]
      obtain ⟨S', hleS, hrel, hS'⟩ : ∃ S', S.le S' ∧ Rel n w0 S0 S' E (s.stowAll (vecsOf (ps.toList.map fun p => rd p.2))) a w ∧ (∀ k, k ∈ vecsOf (ps.toList.map fun p => rd p.2) → ∀ e sz xs, look s.ob k = some (.vec e sz xs) → V S' (E k) (.sl sz xs)) ∧ (vecsOf (ps.toList.map fun p => rd p.2) = [] → S' = S) := by
        cases hvv : vecsOf (ps.toList.map fun p => rd p.2) with
        | nil => exact ⟨S, Snap.le.refl S, h, (fun k hk => by cases hk), fun _ => rfl⟩
        | cons k ks =>
          obtain ⟨S', h1, h2, h3⟩ := Rel.stowAll (k :: ks) h
          exact ⟨S', h1, h2, h3, fun hh => by cases hh⟩
      obtain ⟨hV, hSS⟩ := hS'
      have hp := parts_tv (s := s) (S' := S') hrd hleS ps.toList ds hds (fun j hj => hV j hj)
      have hzv : Vs S' (zeroOf P e) (zerosD C e) := zeros_vs hT.zero e
      have hzlen : (zeroOf P e).length = sz := by rw [← hT.zero]; exact nbeq_eq hzl
      obtain ⟨z, hzr, hzc⟩ := zero_run (P := P) (w := w) (e := e) (by rw [← hT.zero]; exact hne)
      have hzsz : z.cells.size = sz := by rw [← hzlen, ← hzc]; simp
      -- the zero cells, again and again
      let base : Array Value := (Array.range (m * sz)).map (z.cells[· % z.cells.size]!)
      have hbase : ∀ j, j < m * sz → base[j]? = some (z.cells[j % sz]!) := by
        intro j hj
        simp [base, hj, hzsz]
      have hszpos : ∀ j, j < m * sz → 0 < sz := fun j hj => by
        rcases Nat.eq_zero_or_pos sz with h0 | h0
        · subst h0; simp at hj
        · exact h0
      have hzcell : ∀ j, j < m * sz → (zeroOf P e)[j % sz]? = some (z.cells[j % sz]!) := by
        intro j hj
        have hlt : j % sz < z.cells.size := by rw [hzsz]; exact Nat.mod_lt _ (hszpos j hj)
        rw [← hzc]
        simp [hlt]
      have hbv : Vs S' base.toList ((upto (m * sz) 0).map fun p => nth (zerosD C e) (p % sz)) := by
        refine ⟨by simp [base, upto_eq], fun j u q hu hq => ?_⟩
        have hj : j < m * sz := by have := (List.getElem?_eq_some_iff.1 hq).1; simpa [upto_eq] using this
        have hu' : base[j]? = some u := by simpa using hu
        rw [hbase j hj] at hu'
        rw [upto_eq, List.getElem?_map, List.getElem?_range' hj] at hq
        simp only [Option.map_some, Option.some.injEq, Nat.zero_add, Nat.one_mul] at hq
        cases hu'
        subst hq
        exact hzv.2 (j % sz) _ _ (hzcell j hj) (nth_lt (by rw [← hzv.1, hzlen]; exact Nat.mod_lt _ (hszpos j hj)))
      have hb1 : ∀ (j : Nat) u, base[j]? = some u → u.oneCell' = true := by
        intro j u hu
        have hj : j < m * sz := by have := (Array.getElem?_eq_some_iff.1 hu).1; simpa [base] using this
        rw [hbase j hj] at hu
        rw [hT.zero] at hone
        exact List.all_eq_true.1 hone u (List.mem_of_getElem? ((hzcell j hj).trans hu))
      obtain ⟨cells, hf, hcv, hc1⟩ := fill_tv (fun i => some (i * sz, sz)) (ps.toList.map fun p => (p.1, a.eval p.2)) ds base _ cs hbv hb1 hp hcs
      have hcl : cells.size = m * sz := by
        have h1 := hcv.1
        have h2 : ∀ (pd : List (Nat × D)) (c c' : List D), fillE (fun i => some (i * sz, sz)) c pd = some c' → c'.length = c.length := by
          intro pd
          induction pd with
          | nil => intro c c' hh; simp [fillE] at hh; rw [hh]
          | cons q r ih =>
            intro c c' hh
            obtain ⟨i, x⟩ := q
            simp only [fillE] at hh
            cases hq : (Nat.beq x.cells.length sz && Nat.ble (i * sz + sz) c.length) with
            | false => simp [hq] at hh
            | true => simp only [hq, cond_true] at hh; rw [ih _ _ hh, splice_length]
        have h3 := h2 _ _ _ hcs
        simp [upto_eq] at h3
        simp at h1
        omega
      have hds1 := cells_selfs hcv (fun j u hu => hc1 j u (by simpa using hu))
      obtain ⟨g1, g2, g3⟩ := groups_flat (ds := cs) (sz := sz) (ag := (C.ty e).isAgg) (m := m) (by have := hcv.1; simp at this; omega) (fun hf => by rw [hf] at hag; exact nbeq_eq (by simpa using hag)) hds1
      have hrun : (Instr.buildSlice t m (ps.map fun (i, x) => (i, a.eval x))).run P w = .ok (.slice (some ⟨w.heap.size, 0, none⟩) m m) (w.alloc (.cells cells e)) := by
        have hle' : ¬ m * sz > 2 ^ 24 := by have := Nat.le_of_ble_eq_true hle; omega
        have hf' : Instr.fill (fun i => some (i * sz, sz)) ((Array.range (m * sz)).map (z.cells[· % z.cells.size]!)) (ps.map fun (i, x) => (i, a.eval x)).toList = some cells := by simpa using hf
        by_cases h0 : m * sz = 0
        · have e1 : ((Array.range (m * sz)).map ((#[] : Array Value)[· % (#[] : Array Value).size]!)) = base := by simp [base, h0]
          simp only [Instr.buildSlice, Sem.run_bind, run_underlying hu, Result.andThen_ok, hrs, if_neg hle', if_pos h0, Sem.run_pure]
          rw [e1, hf']
          simp [newRow]
        · simp only [Instr.buildSlice, Sem.run_bind, run_underlying hu, Result.andThen_ok, hrs, if_neg hle', if_neg h0, Sem.run_pure, hzr]
          rw [hf']
          simp [newRow]
      have hb : Below w.heap.size w (w.alloc (.cells cells e)) := (Below.refl _ _).alloc (Nat.le_refl _) _
      have hmax : m ≤ maxLen := by
        have := Nat.le_of_ble_eq_true hle
        unfold maxLen
        rcases Nat.eq_zero_or_pos m with h0 | h0
        · omega
        · have hsz0 : 0 < sz := by
            rw [← hzlen]
            have : zeroOf P e ≠ [] := fun e' => by rw [hT.zero, e'] at hne; simp at hne
            exact List.length_pos_iff.2 this
          have : m * 1 ≤ m * sz := Nat.mul_le_mul_left _ hsz0
          omega
      have hown := World.ownsRow_lit (w := w) (e := e) (size := sz) (base := w0.B) cells m h.bsize hmax hcl
      have hmade := hrel.rows' (d := d) (e := e) (sz := sz) (xs := groups cs sz (C.ty e).isAgg m) (v := .slice (some ⟨w.heap.size, 0, none⟩) m m) (vals := cells.toList) (w' := w.alloc (.cells cells e))
        (below_grown hb) (fun g hg => by simp [blk] at hg; omega) (by rw [g3]; exact hown) g2 (by rw [g1]; exact hcv) (fun u hu => by
          obtain ⟨j, hj⟩ := List.mem_iff_getElem?.1 hu
          exact hc1 j u (by simpa using hj))
      split
      · rename_i hvv
        intro _
        have := hSS hvv
        subst this
        exact ⟨hdH, .slice (some ⟨w.heap.size, 0, none⟩) m m, _, by simp only [Sem.run_bind, hrun, Result.andThen_ok]; rfl, hmade, by simp [TV], rfl⟩
      · rename_i k ks hvv
        intro _
        rw [hvv] at hrel
        exact ⟨_, .slice (some ⟨w.heap.size, 0, none⟩) m m, _, S', _, by simp only [Sem.run_bind, hrun, Result.andThen_ok]; rfl, .inl rfl, hrel.made hdH hmade, hleS, by simp [TV], rfl⟩
    · trivial

theorem fill_whole (place : Nat → Option (Nat × Nat)) (base vs : Array Value) (hpl : place 0 = some (0, vs.size)) (hb : base.size = vs.size) : Instr.fill place base [(0, .agg vs)] = some vs := by
  simp only [Instr.fill, hpl]
  have hc : (Value.agg vs).cells = vs := rfl
  rw [hc, if_neg (by simp; omega)]
  congr 1
  apply Array.ext'
  apply List.ext_getElem?
  intro j
  have lay := laid_get 0 vs.toList 0 base j (by simp; omega)
  rw [← Array.foldl_toList, Array.toList_zipIdx]
  by_cases hj : j < vs.size
  · have h1 := lay.1
    rw [if_pos ⟨by omega, by simpa using hj⟩] at h1
    simpa using h1
  · rw [List.getElem?_eq_none (by rw [Array.length_toList, lay.2]; omega), List.getElem?_eq_none (by simp; omega)]

/-- a slice of one compound value. -/
theorem lit_good (h : Rel n w0 S0 S E s a w) {C : Cfg} (hT : Told P C) {rd : Operand → T} (hrd : ∀ x, TV S E (frameOf a) (a.eval x) (rd x)) {t m : Nat} (hnt : t < C.nt) {dst : Option Nat} (hdst : ∀ d, dst = some d → d < HB) {ps : Array (Nat × Operand)} {x : Operand} (hps : ps.toList = [(0, x)]) {guarded : Bool} {ef : Eff}
    (he : litO C s (C.ty t) m (rd x) dst guarded = some ef) : Good P n w0 S0 S E s a w (do pure (.value (← Instr.buildSlice t m (ps.map fun (i, x) => (i, a.eval x))))) ef := by
  unfold litO at he
  split at he
  · rename_i e sz k d hty hrx
    split at he
    · rename_i cs hk
      cases hc : (guarded || !Nat.beq m 1 || !Nat.beq cs.length sz || !Nat.blt 0 sz || !Nat.ble sz 16777216 || !Nat.beq (C.zero e).length sz) with
      | true => rw [hc] at he; cases he; trivial
      | false =>
        rw [hc] at he
        simp only [cond_false, Option.some.injEq] at he
        subst he
        simp only [Bool.or_eq_false_iff, Bool.not_eq_false'] at hc
        obtain ⟨⟨⟨⟨⟨_, hm1⟩, hcl⟩, hpos⟩, hle⟩, hzl⟩ := hc
        have hm1 := nbeq_eq hm1; subst hm1
        have hcl := nbeq_eq hcl
        have hpos : 0 < sz := Nat.le_of_ble_eq_true hpos
        have hle := Nat.le_of_ble_eq_true hle
        intro _
        have hx := hrd x
        rw [hrx] at hx
        have hxE : a.eval x = E k := hx
        obtain ⟨vs, hEk, hn, hcv⟩ := h.ob k _ hk
        have hEv : a.eval x = .agg vs := by rw [hxE, hEk]
        rw [hT.ty] at hty
        obtain ⟨hu, hsz⟩ := tyOf_sl hty
        obtain ⟨ie, hie⟩ := hT.elem t hnt e (.inl hu)
        have hrs : (sizeOf e).run P w = .ok sz w := by simp [sizeOf, typeInfo, hie, hsz, Program.cellsOf]
        have hzlen : (zeroOf P e).length = sz := by rw [← hT.zero]; exact nbeq_eq hzl
        obtain ⟨z, hzr, hzc⟩ := zero_run (P := P) (w := w) (e := e) (by cases hq : zeroOf P e with | nil => rw [hq] at hzlen; simp at hzlen; omega | cons _ _ => rfl)
        have hvs : vs.size = sz := by rw [hn, hcl]
        have hpm : (ps.map fun (i, x) => (i, a.eval x)).toList = [(0, .agg vs)] := by simp [hps, hEv]
        obtain ⟨cells, hf, hcells⟩ : ∃ cells : Array Value, Instr.fill (fun i => some (i * sz, sz)) ((Array.range (1 * sz)).map (z.cells[· % z.cells.size]!)) (ps.map fun (i, x) => (i, a.eval x)).toList = some cells ∧ cells = vs := by
          rw [hpm]
          exact ⟨vs, fill_whole _ _ _ (by simp [hvs]) (by simp [hvs]), rfl⟩
        subst hcells
        have hrun : (Instr.buildSlice t 1 (ps.map fun (i, x) => (i, a.eval x))).run P w = .ok (.slice (some ⟨w.heap.size, 0, none⟩) 1 1) (w.alloc (.cells cells e)) := by
          have hle' : ¬ 1 * sz > 2 ^ 24 := by omega
          have h0 : ¬ 1 * sz = 0 := by omega
          simp only [Instr.buildSlice, Sem.run_bind, run_underlying hu, Result.andThen_ok, hrs, if_neg hle', if_neg h0, Sem.run_pure, hzr]
          rw [hf]
          simp [newRow]
        have hb : Below w.heap.size w (w.alloc (.cells cells e)) := (Below.refl _ _).alloc (Nat.le_refl _) _
        have hown := World.ownsRow_lit (w := w) (e := e) (size := sz) (base := w0.B) cells 1 h.bsize (by unfold maxLen; omega) (by omega)
        refine ⟨hdst _ rfl, .slice (some ⟨w.heap.size, 0, none⟩) 1 1, _, by simp only [Sem.run_bind, hrun, Result.andThen_ok]; rfl, ⟨below_grown hb, fun g hg => by simp [blk] at hg; omega, ?_⟩, by simp [TV], rfl⟩
        refine ⟨cells.toList, by simpa using hown, (fun _ hx => absurd hx List.not_mem_nil), by simpa using hcl, ?_, fun u hu => ?_, fun j u c hu hc => ?_, fun g hg a' ha => ?_⟩
        · first | (simp [flat]; done) | (simp [flat]; exact Vs.nil _)
        · obtain ⟨j, hj⟩ := List.mem_iff_getElem?.1 hu
          have hjl : j < cs.length := by have := (List.getElem?_eq_some_iff.1 hj).1; simp at this; omega
          exact (hcv j u _ (by simpa using hj) (List.getElem?_eq_getElem hjl)).1
        · simp only [List.length_nil, Nat.zero_mul, Nat.zero_add] at hu
          simp only [List.getElem?_map, Option.map_eq_some_iff] at hc
          obtain ⟨c', hc', rfl⟩ := hc
          obtain ⟨_, h2, h3⟩ := hcv j u c' (by simpa using hu) hc'
          refine ⟨?_, TV.kill (fun j hj => by simp [hj]) h3⟩
          unfold T.kill
          cases c'.refs d
          · exact h2
          · rfl
        · simp only [if_true, blk, Option.some.injEq] at hg
          cases hS : S a' with
          | none => rfl
          | some u =>
            have := World.block_lt_of_cell? w a' (h.inn a' u hS).1
            omega
    · cases he
  · cases he

end Go.Ev
