/- The evaluator 'Ev': each operation does what the evaluator says: literals. -/
import Derived.Test.YtollfgfhepjfkaaDoorEv9
namespace Go.Ev
open Go Go.RowKit

variable {P : Program} {n : Nat} {w0 : Base P} {S0 S : Snap} {E : Nat → Value} {s : A} {a : Act} {w : World}

/-! ### parts laid over cells -/
theorem laid_get (off : Nat) : ∀ (l : List Value) (k : Nat) (cells : Array Value) (j : Nat), off + k + l.length ≤ cells.size →
    ((l.zipIdx k).foldl (fun cs (p : Value × Nat) => cs.setIfInBounds (off + p.2) p.1) cells)[j]? = (if off + k ≤ j ∧ j < off + k + l.length then l[j - (off + k)]? else cells[j]?) ∧
    ((l.zipIdx k).foldl (fun cs (p : Value × Nat) => cs.setIfInBounds (off + p.2) p.1) cells).size = cells.size
  | [], k, cells, j, _ => by simp; intro h1 h2; omega
  | v :: l, k, cells, j, h => by
    simp only [List.length_cons] at h
    obtain ⟨h1, h2⟩ := laid_get off l (k + 1) (cells.setIfInBounds (off + k) v) j (by simp; omega)
    simp only [List.zipIdx_cons, List.foldl_cons]
    refine ⟨?_, by rw [h2]; simp⟩
    rw [h1]
    simp only [List.length_cons]
    by_cases hj : off + (k + 1) ≤ j ∧ j < off + (k + 1) + l.length
    · rw [if_pos hj, if_pos (by omega), show j - (off + k) = (j - (off + (k + 1))) + 1 by omega]; simp
    · rw [if_neg hj, Array.getElem?_setIfInBounds]
      by_cases e : off + k = j
      · subst e
        rw [if_pos rfl, if_pos (by omega), if_pos (by omega)]
        simp
      · rw [if_neg e, if_neg (by omega)]

theorem isU_tup {d : D} (h : d.isU = false) : ∀ l, d ≠ .tup l := fun l e => by subst e; simp [D.isU] at h
theorem isU_ne {d : D} (h : d.isU = false) : d ≠ .undef := fun e => by subst e; simp [D.isU] at h

theorem fill_tv (place : Nat → Option (Nat × Nat)) : ∀ (pv : List (Nat × Value)) (pd : List (Nat × D)) (cells : Array Value) (cs cs' : List D), Vs S cells.toList cs → (∀ (j : Nat) u, cells[j]? = some u → u.oneCell' = true) →
    (pv.length = pd.length ∧ ∀ (j : Nat) p q, pv[j]? = some p → pd[j]? = some q → p.1 = q.1 ∧ V S p.2 q.2 ∧ q.2 ≠ .undef ∧ ∀ (i : Nat) u, p.2.cells[i]? = some u → u.oneCell' = true) →
    fillE place cs pd = some cs' → ∃ cells', Instr.fill place cells pv = some cells' ∧ Vs S cells'.toList cs' ∧ ∀ (j : Nat) u, cells'[j]? = some u → u.oneCell' = true
  | [], pd, cells, cs, cs', hv, h1, hp, hf => by
    have : pd = [] := by cases pd with | nil => rfl | cons _ _ => exact absurd hp.1 (by simp)
    subst this
    simp [fillE] at hf; subst hf
    exact ⟨cells, rfl, hv, h1⟩
  | (i, v) :: pv, pd, cells, cs, cs', hv, h1, hp, hf => by
    cases pd with
    | nil => exact absurd hp.1 (by simp)
    | cons q pd =>
      obtain ⟨i', x⟩ := q
      obtain ⟨e1, hvx, hne, hone⟩ : i = i' ∧ V S v x ∧ x ≠ .undef ∧ ∀ (i : Nat) u, v.cells[i]? = some u → u.oneCell' = true := hp.2 0 (i, v) (i', x) rfl rfl
      subst e1
      simp only [fillE] at hf
      cases hpl : place i with
      | none => simp [hpl] at hf
      | some os =>
        obtain ⟨off, sz⟩ := os
        simp only [hpl] at hf
        cases hc : (Nat.beq x.cells.length sz && Nat.ble (off + sz) cs.length) with
        | false => simp [hc] at hf
        | true =>
          simp only [hc, cond_true] at hf
          simp only [Bool.and_eq_true] at hc
          have hsz := nbeq_eq hc.1
          have hle := Nat.le_of_ble_eq_true hc.2
          have hvc := V_cells hvx hne
          have hvsz : v.cells.size = sz := by have := hvc.1; simp at this; omega
          have hcl : cells.size = cs.length := by have := hv.1; simpa using this
          have lay := laid_get off v.cells.toList 0 cells
          have lay' : ∀ j, (v.cells.zipIdx.foldl (fun cs (p : Value × Nat) => cs.setIfInBounds (off + p.2) p.1) cells)[j]? = (if off ≤ j ∧ j < off + sz then v.cells[j - off]? else cells[j]?) ∧
              (v.cells.zipIdx.foldl (fun cs (p : Value × Nat) => cs.setIfInBounds (off + p.2) p.1) cells).size = cells.size := by
            intro j
            have := lay j (by simp; omega)
            rw [← Array.foldl_toList, Array.toList_zipIdx]
            simpa [hvsz] using this
          obtain ⟨cells', hfill, hvs', hone'⟩ := fill_tv place pv pd (v.cells.zipIdx.foldl (fun cs (p : Value × Nat) => cs.setIfInBounds (off + p.2) p.1) cells) (splice cs off x.cells) cs' (by
              refine ⟨by simp only [Array.length_toList, splice_length, (lay' 0).2, hcl], fun j u d hu hd => ?_⟩
              have hj : j < cs.length := by have := (List.getElem?_eq_some_iff.1 hd).1; rwa [splice_length] at this
              rw [splice_get _ _ _ hj] at hd
              have hu' := hu
              simp only [Array.getElem?_toList] at hu'
              rw [(lay' j).1] at hu'
              by_cases hin : off ≤ j ∧ j < off + sz
              · rw [if_pos hin] at hu'
                rw [if_pos (by omega)] at hd
                cases hd
                exact hvc.2 (j - off) u _ (by simpa using hu') (nth_lt (by omega))
              · rw [if_neg hin] at hu'
                rw [if_neg (by omega)] at hd
                cases hd
                exact hv.2 j u _ (by simpa using hu') (nth_lt hj))
            (by
              intro j u hu
              rw [(lay' j).1] at hu
              split at hu
              · exact hone _ u hu
              · exact h1 j u hu)
            ⟨by have := hp.1; simpa using this, fun j p q hp' hq' => hp.2 (j + 1) p q (by simpa using hp') (by simpa using hq')⟩ hf
          refine ⟨cells', ?_, hvs', hone'⟩
          simp only [Instr.fill, hpl]
          rw [if_neg (by simp [hvsz]; omega)]
          exact hfill

theorem V_one {v : Value} {d : D} (h : V S v d) (hd : d ≠ .undef) (i : Nat) (u : Value) (hu : v.cells[i]? = some u) (ht : ∀ l, d ≠ .tup l) : u.oneCell' = true := by
  have one : ∀ {v : Value}, v.cells = #[v] → v.oneCell' = true → v.cells[i]? = some u → u.oneCell' = true := by
    intro v h1 h2 h3
    rw [h1] at h3
    cases i with
    | zero => simp at h3; subst h3; exact h2
    | succ i => simp at h3
  cases h with
  | undef v => exact absurd rfl hd
  | agg vs cs hn h1 hh => exact h1 i u (by simpa [Value.cells] using hu)
  | tup vs cs hn hh => exact absurd rfl (ht cs)
  | bool b => exact one rfl rfl hu
  | int k n => exact one rfl rfl hu
  | str s => exact one rfl rfl hu
  | nil => exact one rfl rfl hu
  | slnil sz => exact one rfl rfl hu
  | sl a cap sz xs vals hc hx hl hs hv => exact one rfl rfl hu

/-- ROWS OF THE CALL's OWN THAT STAND IN PARTS ARE SEALED. -/
theorem Rel.stowAll : ∀ (ks : List Nat) {S : Snap} {s : A} (_ : Rel n w0 S0 S E s a w), ∃ S', S.le S' ∧ Rel n w0 S0 S' E (s.stowAll ks) a w ∧ ∀ k, k ∈ ks → ∀ e sz xs, look s.ob k = some (.vec e sz xs) → V S' (E k) (.sl sz xs)
  | [], S, s, h => ⟨S, Snap.le.refl S, h, fun k hk => by cases hk⟩
  | k :: ks, S, s, h => by
    simp only [A.stowAll]
    split
    · rename_i e sz xs hk
      obtain ⟨S1, hle1, h1, hV⟩ := h.stow hk
      obtain ⟨S2, hle2, h2, hV2⟩ := Rel.stowAll ks h1
      refine ⟨S2, hle1.trans hle2, h2, fun j hj e' sz' xs' hl => ?_⟩
      by_cases hjk : j = k
      · subst hjk
        rw [hk] at hl; cases hl
        exact hV.mono hle2
      · have hj' : j ∈ ks := by
          cases hj with
          | head => exact absurd rfl hjk
          | tail _ hj => exact hj
        refine hV2 j hj' e' sz' xs' ?_
        simp only [A.stow, look_map, look_drop, if_neg hjk, hl]
        rfl
    · rename_i hno
      obtain ⟨S2, hle2, h2, hV2⟩ := Rel.stowAll ks h
      refine ⟨S2, hle2, h2, fun j hj e' sz' xs' hl => ?_⟩
      cases hj with
      | head => exact absurd hl (hno _ _ _)
      | tail _ hj => exact hV2 j hj e' sz' xs' hl

/-- an operand as data, where its rows are stowed -/
theorem data_V {S S' : Snap} {fr : Nat → Value} {v : Value} {x : T} {d : D} (hle : S.le S') (hx : TV S E fr v x) (hd : x.data s = some d) (hk : ∀ k, x = .vec k → ∀ e sz xs, look s.ob k = some (.vec e sz xs) → V S' (E k) (.sl sz xs)) : V S' v d := by
  cases x with
  | d y => simp only [T.data, Option.some.injEq] at hd; subst hd; exact V.mono hle hx
  | nils z => simp only [T.data, Option.some.injEq] at hd; subst hd; have hx' : v = .slice none 0 0 := hx; subst hx'; exact .slnil z
  | vec k =>
    simp only [T.data] at hd
    split at hd
    · rename_i e sz xs hl
      cases hd
      have hx' : v = E k := hx
      rw [hx']
      exact hk k rfl e sz xs hl
    · cases hd
  | _ => simp [T.data] at hd

theorem mem_vecs {l : List T} {k : Nat} (h : T.vec k ∈ l) : k ∈ vecsOf l := by
  induction l with
  | nil => cases h
  | cons x r ih =>
    cases h with
    | head => simp [vecsOf]
    | tail _ h =>
      have := ih h
      cases x <;> simp [vecsOf, this]

/-- the parts of a literal -/
theorem parts_tv {rd : Operand → T} (hrd : ∀ x, TV S E (frameOf a) (a.eval x) (rd x)) {S' : Snap} (hle : S.le S') : ∀ (ps : List (Nat × Operand)) (pd : List (Nat × D)), partsD s rd ps = some pd →
    (∀ k, k ∈ vecsOf (ps.map fun p => rd p.2) → ∀ e sz xs, look s.ob k = some (.vec e sz xs) → V S' (E k) (.sl sz xs)) →
    (ps.map fun p => (p.1, a.eval p.2)).length = pd.length ∧ ∀ (j : Nat) p q, (ps.map fun p => (p.1, a.eval p.2))[j]? = some p → pd[j]? = some q → p.1 = q.1 ∧ V S' p.2 q.2 ∧ q.2 ≠ .undef ∧ ∀ (i : Nat) u, p.2.cells[i]? = some u → u.oneCell' = true
  | [], pd, h, _ => by simp [partsD] at h; subst h; exact ⟨rfl, fun j p q hp => by simp at hp⟩
  | (i, x) :: ps, pd, h, hk => by
    simp only [partsD] at h
    cases hd : (rd x).data s with
    | none => simp [hd] at h
    | some d =>
      cases hr : partsD s rd ps with
      | none => simp [hd, hr] at h
      | some ds =>
        simp only [hd, hr] at h
        cases hu : d.isU with
        | true => simp [hu] at h
        | false =>
          simp only [hu, cond_false, Option.some.injEq] at h
          subst h
          obtain ⟨h1, h2⟩ := parts_tv hrd hle ps ds hr (fun k hkm => hk k (by
            simp only [List.map_cons]
            cases rd x <;> simp [vecsOf, hkm]))
          refine ⟨by simp at h1 ⊢; exact h1, fun j p q hp hq => ?_⟩
          cases j with
          | zero =>
            simp at hp hq; subst hp; subst hq
            have hV := data_V (s := s) hle (hrd x) hd (fun k hkx => hk k (mem_vecs (by simp [← hkx])))
            exact ⟨rfl, hV, isU_ne hu, fun i u hiu => V_one hV (isU_ne hu) i u hiu (isU_tup hu)⟩
          | succ j => exact h2 j p q (by simpa using hp) (by simpa using hq)


/-- what the evaluator is told of the program is so. -/
structure Told (P : Program) (C : Cfg) : Prop where
  ty : ∀ t, C.ty t = tyOf P t
  zero : ∀ t, C.zero t = zeroOf P t
  eqs : ∀ t, C.eqs.any (Nat.beq t) = true → eqOkP P t = true
  bts : ∀ t, C.bts.any (Nat.beq t) = true → byteOk P t = true
  selfs : ∀ t, C.selfs.any (Nat.beq t) = true → selfOk P t = true
  ext1 : ∀ f, Nat.beq (C.ext f) 1 = true → ∀ (v : Value) (w : World), (callFunc f #[v]).run P w = .ok (.value v) w
  sets : ∀ t, C.sets.any (Nat.beq t) = true → setOkP P t = true
  elem : ∀ t, t < C.nt → ∀ e, P.underlying t = some (.slice e) ∨ (∃ l, P.underlying t = some (.array l e)) → ∃ i, P.info? e = some i
  bytes : ∀ t, t < C.nt → ∀ e i, P.underlying t = some (.slice e) → P.info? e = some i → i.bytes ≤ 32768
  field : ∀ t, t < C.nt → ∀ (fs : Array Field), P.underlying t = some (.struct fs) → ∀ f, f ∈ fs.toList → ∃ i, P.info? f.type = some i

theorem places_of : ∀ (fs : List Field), (∀ f, f ∈ fs → ∃ i, P.info? f.type = some i) → fs.mapM (fun f => (P.info? f.type).map fun i => (f.offset, i.size)) = some (fs.map fun f => (f.offset, P.cellsOf f.type))
  | [], _ => rfl
  | f :: fs, h => by
    obtain ⟨i, hi⟩ := h f (by simp)
    simp [List.mapM_cons, hi, places_of fs (fun g hg => h g (by simp [hg])), Program.cellsOf]

theorem fillE_congr {p q : Nat → Option (Nat × Nat)} : ∀ (pd : List (Nat × D)) (cs cs' : List D), (∀ i os, p i = some os → q i = some os) → fillE p cs pd = some cs' → fillE q cs pd = some cs'
  | [], cs, cs', _, h => by simpa [fillE] using h
  | (i, x) :: pd, cs, cs', hpq, h => by
    simp only [fillE] at h ⊢
    cases hp : p i with
    | none => simp [hp] at h
    | some os =>
      rw [hpq i os hp]
      simp only [hp] at h
      obtain ⟨off, sz⟩ := os
      simp only at h ⊢
      cases hc : (Nat.beq x.cells.length sz && Nat.ble (off + sz) cs.length) with
      | false => simp [hc] at h
      | true =>
        simp only [hc, cond_true] at h ⊢
        exact fillE_congr pd _ _ hpq h

theorem zeros_vs {C : Cfg} (hz : ∀ t, C.zero t = zeroOf P t) (e : Nat) : Vs S (zeroOf P e) (zerosD C e) := by
  obtain ⟨hl, htv⟩ := zipZ_tv (S := S) (E := fun _ => undef) (leaves C 20 (C.ty e)) (zeroOf P e)
  refine ⟨by simp [zerosD, zeros, hz, hl], fun j u d hu hd => ?_⟩
  simp only [zerosD, zeros, hz, List.getElem?_map, Option.map_eq_some_iff] at hd
  obtain ⟨c, hc, rfl⟩ := hd
  exact (htv j u c hu hc).2.2.2

theorem build_run {C : Cfg} (hT : Told P C) {t : TypeId} (hnt : t < C.nt) {pv : Array (Nat × Value)} {pd : List (Nat × D)} {cs : List D} (hne : (C.zero t).isEmpty = false) (h1 : (C.zero t).all Value.oneCell' = true)
    (hp : pv.toList.length = pd.length ∧ ∀ (j : Nat) p q, pv.toList[j]? = some p → pd[j]? = some q → p.1 = q.1 ∧ V S p.2 q.2 ∧ q.2 ≠ .undef ∧ ∀ (i : Nat) u, p.2.cells[i]? = some u → u.oneCell' = true)
    (hf : (match C.ty t with
        | .st _ fs => fillE (fun i => match fs[i]? with | some (u, off) => bif Nat.beq (C.ty u).n 0 then none else some (off, (C.ty u).n) | none => none) (zerosD C t) pd
        | .arr _ _ _ sz => fillE (fun i => some (i * sz, sz)) (zerosD C t) pd
        | _ => none) = some cs) : ∃ cells, (Instr.build t pv).run P w = .ok (.agg cells) w ∧ V S (.agg cells) (.agg cs) := by
  have fin : ∀ place, fillE place (zerosD C t) pd = some cs → (∀ cells, Instr.fill place (zeroOf P t).toArray pv.toList = some cells → (Instr.build t pv).run P w = .ok (.agg cells) w) → ∃ cells, (Instr.build t pv).run P w = .ok (.agg cells) w ∧ V S (.agg cells) (.agg cs) := by
    intro place hfe hrun
    have hzv : Vs S (zeroOf P t) (zerosD C t) := zeros_vs hT.zero t
    obtain ⟨cells, h2, h3, h4⟩ := fill_tv place pv.toList pd (zeroOf P t).toArray (zerosD C t) cs (by simpa using hzv) (fun j u hu => by
      rw [hT.zero] at h1
      exact List.all_eq_true.1 h1 u (List.mem_of_getElem? (by simpa using hu))) hp hfe
    exact ⟨cells, hrun cells h2, .agg cells cs (by have := h3.1; simpa using this) h4 fun j u d hu hd => h3.2 j u d (by simpa using hu) hd⟩
  rw [hT.zero] at hne
  obtain ⟨z, _, hzc⟩ := zero_run (P := P) (w := w) hne
  have hz : ∃ it, P.info? t = some it ∧ ∃ z, it.zero = some z ∧ z.cells.toList = zeroOf P t := by
    unfold zeroOf at hne ⊢
    cases hi : P.info? t with
    | none => simp [hi] at hne
    | some i =>
      cases hz : i.zero with
      | none => simp [hi, hz] at hne
      | some z => exact ⟨i, rfl, z, hz, by simp [hz]⟩
  obtain ⟨it, hit, z, hz, hzc⟩ := hz
  have hza : (zeroOf P t).toArray = z.cells := by rw [← hzc]
  split at hf
  · rename_i m fs hty
    rw [hT.ty] at hty
    obtain ⟨flds, hu, _, rfl⟩ := tyOf_st hty
    refine fin (fun i => (flds.toList.map fun f => (f.offset, P.cellsOf f.type))[i]?) (fillE_congr pd _ _ ?_ hf) ?_
    · intro i os hos
      simp only [List.getElem?_map] at hos ⊢
      cases hfi : flds.toList[i]? with
      | none => simp [hfi] at hos
      | some f =>
        simp only [hfi, Option.map_some] at hos ⊢
        cases hb : Nat.beq (C.ty f.type).n 0 with
        | true => simp [hb] at hos
        | false =>
          simp only [hb, cond_false, Option.some.injEq] at hos
          rw [← hos, hT.ty]
          have hn0 : (tyOf P f.type).n ≠ 0 := fun e => by rw [hT.ty, e] at hb; simp at hb
          rw [tyOf_n hn0]
    · intro cells hc
      refine run_build w t pv cells ?_
      unfold Program.built
      simp only [hit, hu, hz, places_of flds.toList (hT.field t hnt flds hu)]
      rw [hza] at hc
      simpa using hc
  · rename_i m len e sz hty
    rw [hT.ty] at hty
    obtain ⟨hu, _, hsz⟩ := tyOf_arr hty
    obtain ⟨ie, hie⟩ := hT.elem t hnt e (.inr ⟨_, hu⟩)
    refine fin (fun i => some (i * sz, sz)) hf ?_
    intro cells hc
    refine run_build w t pv cells ?_
    unfold Program.built
    simp only [hit, hu, hz, hie]
    rw [hza] at hc
    have : sz = ie.size := by rw [hsz]; simp [Program.cellsOf, hie]
    rw [← this]; exact hc
  · cases hf

theorem build_good (h : Rel n w0 S0 S E s a w) {C : Cfg} (hT : Told P C) {rd : Operand → T} (hrd : ∀ x, TV S E (frameOf a) (a.eval x) (rd x)) {t : TypeId} (hnt : t < C.nt) {ps : Array (Nat × Operand)} {guarded : Bool} :
    Good P n w0 S0 S E s a w (do pure (.value (← Instr.build t (ps.map fun (i, x) => (i, a.eval x))))) (bif (C.zero t).isEmpty || !(C.zero t).all Value.oneCell' then .fail else match partsD s rd ps.toList with
    | some ds => match (match C.ty t with
        | .st _ fs => fillE (fun i => match fs[i]? with | some (u, off) => bif Nat.beq (C.ty u).n 0 then none else some (off, (C.ty u).n) | none => none) (zerosD C t) ds
        | .arr _ _ _ sz => fillE (fun i => some (i * sz, sz)) (zerosD C t) ds
        | _ => none) with
      | some cs => match vecsOf (ps.toList.map fun p => rd p.2) with
        | [] => .val true (.d (.agg cs))
        | k :: ks => bif guarded then .fail else .st true (s.stowAll (k :: ks)) (.d (.agg cs))
      | none => .fail
    | none => .fail) := by
  cases hc : ((C.zero t).isEmpty || !(C.zero t).all Value.oneCell') with
  | true => trivial
  | false =>
    simp only [Bool.or_eq_false_iff, Bool.not_eq_false'] at hc
    simp only [cond_false]
    split
    · rename_i ds hds
      split
      · rename_i cs hcs
        split
        · rename_i hv
          refine .calc h fun _ => ?_
          have hp := parts_tv (s := s) hrd (Snap.le.refl S) ps.toList ds hds (fun k hk => by rw [hv] at hk; cases hk)
          obtain ⟨cells, h1, h2⟩ := build_run (w := w) (pv := ps.map fun (i, x) => (i, a.eval x)) hT hnt hc.1 hc.2 (by simpa using hp) hcs
          exact ⟨_, h1, h2, rfl⟩
        · rename_i k ks hv
          cases guarded with
          | true => trivial
          | false =>
            intro _
            obtain ⟨S', hle, hrel, hV⟩ := Rel.stowAll (k :: ks) h
            have hp := parts_tv (s := s) (S' := S') hrd hle ps.toList ds hds (fun j hj => hV j (by rw [hv] at hj; exact hj))
            obtain ⟨cells, h1, h2⟩ := build_run (w := w) (pv := ps.map fun (i, x) => (i, a.eval x)) hT hnt hc.1 hc.2 (by simpa using hp) hcs
            exact ⟨_, .agg cells, w, S', E, by simp [h1], .inl rfl, hrel, hle, h2, rfl⟩
      · trivial
    · trivial

/-! ### a struct, one of whose parts is left nil -/
/-- a cell that no part covers stays. -/
theorem fill_keep (place : Nat → Option (Nat × Nat)) (q : Nat) : ∀ (pv : List (Nat × Value)) (cells cells' : Array Value), Instr.fill place cells pv = some cells' →
    (∀ p, p ∈ pv → ∃ os, place p.1 = some os ∧ ¬ (os.1 ≤ q ∧ q < os.1 + os.2)) → cells'[q]? = cells[q]?
  | [], cells, cells', h, _ => by simp [Instr.fill] at h; rw [h]
  | (i, v) :: pv, cells, cells', h, hp => by
    obtain ⟨⟨off, sz⟩, hpl, hq⟩ := hp (i, v) (by simp)
    simp only at hpl hq
    simp only [Instr.fill, hpl] at h
    split at h
    · cases h
    · rename_i hc
      simp only [ne_eq, Bool.or_eq_true, decide_eq_true_eq, not_or, Decidable.not_not] at hc
      obtain ⟨h1, h2⟩ := hc
      rw [fill_keep place q pv _ cells' h (fun p hm => hp p (List.mem_cons_of_mem _ hm))]
      have lay := laid_get off v.cells.toList 0 cells q (by simp; omega)
      rw [← Array.foldl_toList, Array.toList_zipIdx]
      rw [lay.1]
      rw [if_neg (by simp; omega)]

theorem placeS_of {C : Cfg} (hT : Told P C) {flds : Array Field} {fs : List (Nat × Nat)} (hfs : fs = flds.toList.map fun f => (f.type, f.offset)) {i : Nat} {os : Nat × Nat} (h : placeS C fs i = some os) :
    (flds.toList.map fun f => (f.offset, P.cellsOf f.type))[i]? = some os := by
  subst hfs
  unfold placeS at h
  simp only [List.getElem?_map] at h ⊢
  cases hfi : flds.toList[i]? with
  | none => simp [hfi] at h
  | some f =>
    simp only [hfi, Option.map_some] at h ⊢
    cases hb : Nat.beq (C.ty f.type).n 0 with
    | true => simp [hb] at h
    | false =>
      simp only [hb, cond_false, Option.some.injEq] at h
      rw [← h, hT.ty]
      have hn0 : (tyOf P f.type).n ≠ 0 := fun e => by rw [hT.ty, e] at hb; simp at hb
      rw [tyOf_n hn0]

theorem con_good (h : Rel n w0 S0 S E s a w) {C : Cfg} (hT : Told P C) {rd : Operand → T} (hrd : ∀ x, TV S E (frameOf a) (a.eval x) (rd x)) {t q : Nat} (hnt : t < C.nt) {dst : Option Nat} (hdst : ∀ d, dst = some d → d < HB) {ps : Array (Nat × Operand)} {guarded : Bool} :
    Good P n w0 S0 S E s a w (do pure (.value (← Instr.build t (ps.map fun (i, x) => (i, a.eval x))))) (conE C s rd t q dst guarded ps.toList) := by
  unfold conE
  split
  · rename_i m fs d ds z hty hds hzq
    cases hc : (guarded || (C.zero t).isEmpty || !(C.zero t).all Value.oneCell' || !(vecsOf (ps.toList.map fun p => rd p.2)).isEmpty || !(ds.all fun p => match placeS C fs p.1 with | some os => !(Nat.ble os.1 q && Nat.blt q (os.1 + os.2)) | none => false)) with
    | true => trivial
    | false =>
      simp only [Bool.or_eq_false_iff, Bool.not_eq_false'] at hc
      obtain ⟨⟨⟨⟨_, hne⟩, h1⟩, hvv⟩, hcov⟩ := hc
      simp only [cond_false]
      split
      · rename_i cs hcs
        cases hql : Nat.blt q cs.length with
        | false => trivial
        | true =>
          intro _
          have hql : q < cs.length := Nat.le_of_ble_eq_true hql
          have hp := parts_tv (s := s) hrd (Snap.le.refl S) ps.toList ds hds (fun k hk => by rw [List.isEmpty_iff.1 hvv] at hk; cases hk)
          obtain ⟨cells, h3, h4⟩ := build_run (w := w) (pv := ps.map fun (i, x) => (i, a.eval x)) (pd := ds) (cs := cs) hT hnt hne h1 (by simpa using hp) (by rw [hty]; exact hcs)
          have hkeep : cells[q]? = (zeroOf P t)[q]? := by
            rw [hT.ty] at hty
            obtain ⟨flds, hu, _, hfs⟩ := tyOf_st hty
            have hz : ∃ it, P.info? t = some it ∧ ∃ z, it.zero = some z ∧ z.cells.toList = zeroOf P t := by
              rw [hT.zero] at hne
              unfold zeroOf at hne ⊢
              cases hi : P.info? t with
              | none => simp [hi] at hne
              | some i =>
                cases hz : i.zero with
                | none => simp [hi, hz] at hne
                | some z => exact ⟨i, rfl, z, hz, by simp [hz]⟩
            obtain ⟨it, hit, z', hz, hzc⟩ := hz
            have hfill : ∃ cells', Instr.fill (fun i => (flds.toList.map fun f => (f.offset, P.cellsOf f.type))[i]?) z'.cells (ps.map fun (i, x) => (i, a.eval x)).toList = some cells' ∧ (Instr.build t (ps.map fun (i, x) => (i, a.eval x))).run P w = .ok (.agg cells') w := by
              cases hf : Instr.fill (fun i => (flds.toList.map fun f => (f.offset, P.cellsOf f.type))[i]?) z'.cells (ps.map fun (i, x) => (i, a.eval x)).toList with
              | some cells' =>
                refine ⟨cells', rfl, run_build w t _ cells' ?_⟩
                unfold Program.built
                simp only [hit, hu, hz, places_of flds.toList (hT.field t hnt flds hu)]
                simpa using hf
              | none =>
                -- the build does not go through then
                exfalso
                have hzv : Vs S (zeroOf P t) (zerosD C t) := zeros_vs hT.zero t
                have hfe : fillE (fun i => (flds.toList.map fun f => (f.offset, P.cellsOf f.type))[i]?) (zerosD C t) ds = some cs := by
                  refine fillE_congr ds _ _ ?_ hcs
                  intro i os hos
                  exact placeS_of hT hfs hos
                obtain ⟨cells', h5, _⟩ := fill_tv _ (ps.map fun (i, x) => (i, a.eval x)).toList ds (zeroOf P t).toArray (zerosD C t) cs (by simpa using hzv) (fun j u hu => by
                  rw [hT.zero] at h1
                  exact List.all_eq_true.1 h1 u (List.mem_of_getElem? (by simpa using hu))) (by simpa using hp) hfe
                rw [← hzc] at h5
                simp only [Array.toArray_toList] at h5
                rw [hf] at h5; cases h5
            obtain ⟨cells', h5, h6⟩ := hfill
            rw [h3] at h6
            cases h6
            have := fill_keep _ q _ _ _ h5 (fun p hm => by
              have hm' : p ∈ ps.toList.map (fun p => (p.1, a.eval p.2)) := by simpa using hm
              obtain ⟨j, hj⟩ := List.mem_iff_getElem?.1 hm'
              have hjl : j < ds.length := by rw [← hp.1]; exact (List.getElem?_eq_some_iff.1 hj).1
              have hd := List.getElem?_eq_getElem hjl
              have he := (hp.2 j p _ hj hd).1
              have hcv := List.all_eq_true.1 hcov _ (List.mem_of_getElem? hd)
              rw [← he] at hcv
              cases hpl : placeS C fs p.1 with
              | none => simp [hpl] at hcv
              | some os =>
                simp only [hpl, Bool.not_eq_true'] at hcv
                refine ⟨os, placeS_of hT hfs hpl, fun ⟨q1, q2⟩ => ?_⟩
                have b1 : Nat.ble os.1 q = true := Nat.ble_eq_true_of_le q1
                have b2 : Nat.blt q (os.1 + os.2) = true := Nat.ble_eq_true_of_le q2
                rw [b1, b2] at hcv
                cases hcv)
            rw [this, ← hzc]; simp
          have hnil : ∀ u, cells[q]? = some u → u = .slice none 0 0 := fun u hu => by
            rw [hkeep] at hu
            have := ((zipZ_tv (S := S) (E := E) (leaves C 20 (C.ty t)) (zeroOf P t)).2 q u (.nils z) hu (by rw [← hT.zero]; exact hzq)).2.2.1
            exact this
          cases h4 with
          | agg _ _ hn hv1 hh =>
            refine ⟨hdst _ rfl, .agg cells, w, by simp [h3], ⟨⟨rfl, rfl, rfl, Nat.le_refl _, fun _ _ _ => rfl⟩, fun g hg => by simp [blk] at hg, ⟨cells, by simp, ?_, fun j u c hu hc => ?_⟩⟩, by simp [TV], rfl⟩
            · rw [over_length (by simp; omega)]; simpa using hn
            · refine ⟨hv1 j u hu, ?_⟩
              rw [over_get (by simp; omega)] at hc
              split at hc
              · rename_i hj
                have : j = q := by simp at hj; omega
                subst this
                simp at hc; subst hc
                exact ⟨rfl, hnil u hu⟩
              · simp only [List.getElem?_map, Option.map_eq_some_iff] at hc
                obtain ⟨dd, hdd, rfl⟩ := hc
                exact ⟨rfl, hh j u dd hu hdd⟩
      · trivial
  · trivial

end Go.Ev
