/- The evaluator 'Ev': each operation does what the evaluator says: addresses, arithmetic. -/
import Derived.Test.YtollfgfhepjfkaaDoorEv4
import Derived.Laws.StructEq
import Derived.Lib.Builder
namespace Go.Ev
open Go Go.RowKit

variable {P : Program} {n : Nat} {w0 : Base P} {S0 S : Snap} {E : Nat → Value} {s : A} {a : Act} {w : World}

/-- a computed value -/
theorem Good.calc (h : Rel n w0 S0 S E s a w) {m : Sem Value} {c : Bool} {t : T} (hv : c = true → ∃ v, m.run P w = .ok v w ∧ TV S E (frameOf a) v t ∧ t.bare = true) :
    Good P n w0 S0 S E s a w (do pure (.value (← m))) (.val c t) :=
  .same h fun hc => let ⟨v, h1, h2, h3⟩ := hv hc; ⟨v, by simp [h1], h2, h3⟩

theorem Good.int (h : Rel n w0 S0 S E s a w) {m : Sem Value} {c : Bool} {k : IntKind} {x : Int} (hr : c = true → m.run P w = .ok (.int k x) w) : Good P n w0 S0 S E s a w (do pure (.value (← m))) (.val c (.d (.int k x))) :=
  .calc h fun hc => ⟨_, hr hc, V.int k x, rfl⟩
theorem Good.bool (h : Rel n w0 S0 S E s a w) {m : Sem Value} {c : Bool} {x : Bool} (hr : c = true → m.run P w = .ok (.bool x) w) : Good P n w0 S0 S E s a w (do pure (.value (← m))) (.val c (.d (.bool x))) :=
  .calc h fun hc => ⟨_, hr hc, V.bool x, rfl⟩
theorem Good.str (h : Rel n w0 S0 S E s a w) {m : Sem Value} {c : Bool} {x : ByteArray} {l : List UInt8} (hl : x.data.toList = l) (hr : c = true → m.run P w = .ok (.string x) w) : Good P n w0 S0 S E s a w (do pure (.value (← m))) (.val c (.d (.str l))) := by
  subst hl
  exact .calc h fun hc => ⟨_, hr hc, V.str x, rfl⟩

theorem okB {x : Int} {len : Nat} (h : (decide (0 ≤ x) && decide (x < (len : Int))) = true) : 0 ≤ x ∧ x < len ∧ x.toNat < len := by
  simp only [Bool.and_eq_true, decide_eq_true_eq] at h
  omega
theorem run_sizeOf {t : TypeId} {d : TypeDesc} (hu : P.underlying t = some d) : (sizeOf t).run P w = .ok (P.cellsOf t) w := run_info hu w
theorem run_sizeOf' {t : TypeId} (h : P.cellsOf t ≠ 0) : (sizeOf t).run P w = .ok (P.cellsOf t) w := by
  unfold Program.cellsOf at h
  cases hi : P.info? t with
  | none => simp [hi] at h
  | some i => simp [sizeOf, typeInfo, hi, Program.cellsOf]
/-- a type that is asked for its size although its rows are empty -/
theorem indexAddr_good {t : TypeId} (hin : ∀ e, P.underlying t = some (.slice e) ∨ (∃ l, P.underlying t = some (.array l e)) → ∃ i, P.info? e = some i) (h : Rel n w0 S0 S E s a w) {v : Value} {x : T} {k : IntKind} {i : Int} (hx : TV S E (frameOf a) v x) :
    Good P n w0 S0 S E s a w (do pure (.value (← Instr.indexAt t v (.int k i)))) (indexAddrE s (tyOf P t) x i) := by
  have hsz : ∀ e, (∃ i, P.info? e = some i) → (sizeOf e).run P w = .ok (P.cellsOf e) w := by
    rintro e ⟨i, hi⟩
    simp [sizeOf, typeInfo, hi, Program.cellsOf]
  unfold indexAddrE
  split
  · -- rows that stay
    rename_i e sz sz' xs hty
    obtain ⟨hu, hz⟩ := tyOf_sl hty
    cases hb : Nat.beq sz sz' with
    | false => trivial
    | true =>
      have := nbeq_eq hb; subst this
      refine .calc h fun hc => ?_
      obtain ⟨h0, h1, h2⟩ := okB hc
      cases hx with
      | slnil z => simp at h2
      | sl a0 cap z ys vals hcap hxs hl hs hv =>
        refine ⟨.pointer (some (a0.add (i.toNat * P.cellsOf e))), ?_, ⟨a0.add (i.toNat * sz), (vals.drop (i.toNat * sz)).take sz, ?_, ?_⟩, rfl⟩
        · simp [Instr.indexAt, asIntOf, run_underlying hu, hsz e (hin e (.inl hu)), h0, h1]
        · have hvs : CellsAt S a0 vals (flat xs) := ⟨⟨by rw [hl, flat_length hxs], hv⟩, hs⟩
          have := (hvs.drop (i.toNat * sz)).take sz
          rwa [flat_drop hxs h2] at this
        · rw [add_zero, hz]
  · -- rows of the call's own
    rename_i e sz k hty
    obtain ⟨hu, hz⟩ := tyOf_sl hty
    split
    · rename_i e' sz' xs hk
      cases hb : Nat.beq sz sz' with
      | false => trivial
      | true =>
        have := nbeq_eq hb; subst this
        refine .calc h fun hc => ?_
        obtain ⟨h0, h1, h2⟩ := okB hc
        have hx' : v = E k := hx
        obtain ⟨vals, ho, _⟩ := h.ob k _ hk
        rcases ho.2 with ⟨_, h3⟩ | ⟨g, cap, cur, hE, _⟩
        · omega
        · refine ⟨.pointer (some ⟨g, i.toNat * sz, none⟩), ?_, ⟨g, xs.length, cap, hE, by simp, h2⟩, rfl⟩
          rw [hx', hE]
          simp [Instr.indexAt, asIntOf, run_underlying hu, hsz e (hin e (.inl hu)), h0, h1, add_none, hz]
    · rename_i e' sz' xs cs hk
      cases hb : Nat.beq sz sz' with
      | false => trivial
      | true =>
        have := nbeq_eq hb; subst this
        refine .calc h fun hc => ?_
        obtain ⟨h0, h1, h2⟩ := okB hc
        have hx' : v = E k := hx
        obtain ⟨vals, ho, _⟩ := h.ob k _ hk
        rcases ho.2 with ⟨_, h3⟩ | ⟨g, cap, cur, hE, _⟩
        · omega
        · refine ⟨.pointer (some ⟨g, i.toNat * sz, none⟩), ?_, ⟨g, xs.length + 1, cap, hE, by simp, h2⟩, rfl⟩
          rw [hx', hE]
          have h1' : i < (xs.length : Int) + 1 := by simpa using h1
          simp [Instr.indexAt, asIntOf, run_underlying hu, hsz e (hin e (.inl hu)), h0, h1', add_none, hz]
    · trivial
  · -- an array of a box
    rename_i nn len e sz k off hty
    obtain ⟨hu, _, hz⟩ := tyOf_arr hty
    refine .calc h fun hc => ?_
    obtain ⟨h0, h1, h2⟩ := okB hc
    obtain ⟨g, hE, rfl⟩ := hx
    refine ⟨.pointer (some ⟨g, off + i.toNat * sz, none⟩), ?_, ⟨g, hE, by simp, h2⟩, rfl⟩
    simp [Instr.indexAt, asIntOf, run_underlying hu, hsz e (hin e (.inr ⟨_, hu⟩)), h0, h1, add_none, hz, Instr.sureAddr]
  · -- an array in memory that stays
    rename_i nn len e sz x off hty
    obtain ⟨hu, _, hz⟩ := tyOf_arr hty
    refine .calc h fun hc => ?_
    obtain ⟨h0, h1, h2⟩ := okB hc
    obtain ⟨a0, vals, hcs, rfl⟩ := hx
    refine ⟨.pointer (some ((a0.add off).add (i.toNat * sz))), ?_, ⟨a0, vals, hcs, by rw [add_add]⟩, rfl⟩
    simp [Instr.indexAt, asIntOf, run_underlying hu, hsz e (hin e (.inr ⟨_, hu⟩)), h0, h1, hz, Instr.sureAddr]
  · trivial

theorem fieldAddr_good (h : Rel n w0 S0 S E s a w) {C : Cfg} (hC : ∀ t, C.ty t = tyOf P t) {t : TypeId} {v : Value} {x : T} {f : Nat} (hx : TV S E (frameOf a) v x) :
    Good P n w0 S0 S E s a w (do pure (.value (← Instr.fieldAt t v f))) (fieldAddrE C (tyOf P t) x f) := by
  unfold fieldAddrE
  split
  · rename_i nn fs hty
    obtain ⟨flds, hu, _, rfl⟩ := tyOf_st hty
    split
    · rename_i u off hf
      cases hb : Nat.beq (C.ty u).n 0 with
      | true => trivial
      | false =>
        rw [hC] at hb
        have hn0 : (tyOf P u).n ≠ 0 := fun e => by rw [e] at hb; simp at hb
        have hsz : P.cellsOf u ≠ 0 := by rw [← tyOf_n hn0]; exact hn0
        simp only [List.getElem?_map, Option.map_eq_some_iff, Prod.mk.injEq] at hf
        obtain ⟨fd, hfd, rfl, rfl⟩ := hf
        have hfd' : flds[f]? = some fd := by simpa using hfd
        have run : ∀ p : Addr, (Instr.fieldAt t (.pointer (some p)) f).run P w = .ok (.pointer (some (p.add fd.offset))) w := by
          intro p
          simp [Instr.fieldAt, run_underlying hu, hfd', Instr.sureAddr, fieldPlace, run_sizeOf' hsz, hsz]
        simp only [cond_false]
        split
        · obtain ⟨g, hE, rfl⟩ := hx
          exact .calc h fun _ => ⟨_, run _, ⟨g, hE, by rw [add_none]⟩, rfl⟩
        · obtain ⟨g, hE, rfl, hi⟩ := hx
          exact .calc h fun _ => ⟨_, run _, ⟨g, hE, by rw [add_none, Nat.add_assoc], hi⟩, rfl⟩
        · obtain ⟨a0, vals, hcs, rfl⟩ := hx
          exact .calc h fun _ => ⟨_, run _, ⟨a0, vals, hcs, by rw [add_add]⟩, rfl⟩
        · obtain ⟨g, len, cap, hE, rfl, hi⟩ := hx
          exact .calc h fun _ => ⟨_, run _, ⟨g, len, cap, hE, by rw [add_none, Nat.add_assoc], hi⟩, rfl⟩
        · trivial
    · trivial
  · trivial

theorem un_good (h : Rel n w0 S0 S E s a w) {op : UnOp} {v : Value} {x : T} (hx : TV S E (frameOf a) v x) : Good P n w0 S0 S E s a w (do pure (.value (← Op.unary op v))) (unE op x) := by
  unfold unE
  split
  · cases hx
    exact .calc h fun _ => ⟨_, by simp [Op.unary], V.bool _, rfl⟩
  · cases hx
    exact .calc h fun _ => ⟨_, by simp [Op.unary, Op.intArith], V.int _ _, rfl⟩
  · trivial

theorem str_eq (a b : ByteArray) : (a.toList == b.toList) = decide (a.data.toList = b.data.toList) := by
  rw [ByteArray.toList_eq, ByteArray.toList_eq]
  by_cases h : a.data.toList = b.data.toList
  · simp [h]
  · have : ¬ a.data = b.data := fun e => h (by rw [e])
    simp [this]
theorem beqB_eq (a b : Bool) : beqB a b = (a == b) := by cases a <;> cases b <;> rfl

theorem eqGuard_agg {op : BinOp} {t : TypeId} {x y : Operand} {xs ys : Array Value} (hg : P.eqGuardType P.depth t = false) : (eqGuard op t x y (.agg xs) (.agg ys)).run P w = .ok () w := by
  unfold eqGuard
  cases op <;> simp [hg]

/-- fields that are ints, one a cell -/
theorem eqFields_ints {P : Program} {w : World} (d : Nat) : ∀ (fs : List Field) (i : Nat) (xs ys : Array Value) (us vs : List D) ,
    (∀ (j : Nat) f, fs[j]? = some f → f.offset = i + j ∧ f.name ≠ "_" ∧ P.underlying f.type = some (.int .i64)) →
    (∀ j, j < fs.length → ∃ n, xs[i + j]? = some (.int .i64 n) ∧ us[j]? = some (.int .i64 n)) → (∀ j, j < fs.length → ∃ n, ys[i + j]? = some (.int .i64 n) ∧ vs[j]? = some (.int .i64 n)) →
    us.length = fs.length → vs.length = fs.length →
    (Op.eqFields (d + 1) xs ys fs).run P w = .ok (eqI us vs) w
  | [], i, xs, ys, us, vs, _, _, _, ha, hb => by
    have h1 : us = [] := by simpa using ha
    have h2 : vs = [] := by simpa using hb
    subst h1; subst h2
    simp [Op.eqFields, eqI]
  | f :: fs, i, xs, ys, us, vs, hf, hx, hy, ha, hb => by
    obtain ⟨h1, h2, h3⟩ := hf 0 f rfl
    obtain ⟨n, hx1, hx2⟩ := hx 0 (by simp)
    obtain ⟨m, hy1, hy2⟩ := hy 0 (by simp)
    cases us with
    | nil => simp at ha
    | cons a0 us => cases vs with
      | nil => simp at hb
      | cons b0 vs =>
        simp at hx2 hy2; subst hx2; subst hy2
        have hagg : ∀ w, (isAgg f.type).run P w = .ok false w := fun w => by simp [isAgg, run_underlying h3]
        have hp1 : ∀ w, (part f.type xs f.offset).run P w = .ok (.int .i64 n) w := fun w => by simp at h1 hx1; simp [part, hagg, h1, hx1]
        have hp2 : ∀ w, (part f.type ys f.offset).run P w = .ok (.int .i64 m) w := fun w => by simp at h1 hy1; simp [part, hagg, h1, hy1]
        have he : ∀ w, (Op.equalIn (d + 1) f.type (.int .i64 n) (.int .i64 m)).run P w = .ok (n == m) w := fun w => by simp [Op.equalIn, run_underlying h3]
        have ih := eqFields_ints (P := P) (w := w) d fs (i + 1) xs ys us vs (fun j f' hj => by
            have := hf (j + 1) f' (by simpa using hj); refine ⟨by rw [this.1]; omega, this.2⟩)
          (fun j hj => by obtain ⟨q, q1, q2⟩ := hx (j + 1) (by simpa using hj); exact ⟨q, by rw [show i + 1 + j = i + (j + 1) by omega]; exact q1, by simpa using q2⟩)
          (fun j hj => by obtain ⟨q, q1, q2⟩ := hy (j + 1) (by simpa using hj); exact ⟨q, by rw [show i + 1 + j = i + (j + 1) by omega]; exact q1, by simpa using q2⟩)
          (by simpa using ha) (by simpa using hb)
        simp only [Op.eqFields, h2, ne_eq, not_false_eq_true, if_true, Sem.run_bind, hp1, hp2, he, Result.andThen_ok]
        by_cases hnm : n = m
        · subst hnm
          simp [ih, eqI, D.i]
        · have : (n == m) = false := by simpa using hnm
          simp [this, eqI, D.i, hnm]

theorem allI_get {k : IntKind} : ∀ {ds : List D}, allI k ds = true → ∀ (j : Nat) d, ds[j]? = some d → d = .int k d.i
  | [], _, j, d, h => by simp at h
  | x :: r, ha, j, d, h => by
    simp only [allI, Bool.and_eq_true] at ha
    cases j with
    | zero => simp at h; subst h; exact isI_eq ha.1
    | succ j => exact allI_get ha.2 j d (by simpa using h)

theorem eqOk_fields {t : TypeId} (h : eqOkP P t = true) : ∃ fs : Array Field, P.underlying t = some (.struct fs) ∧ P.stoodInHeld t = false ∧ P.eqGuardType P.depth t = false ∧ P.cellsOf t = fs.toList.length ∧
    ∀ (j : Nat) f, fs.toList[j]? = some f → f.offset = 0 + j ∧ f.name ≠ "_" ∧ P.underlying f.type = some (.int .i64) := by
  unfold eqOkP at h
  split at h
  · rename_i fs hu
    simp only [Bool.and_eq_true, Bool.not_eq_true', List.all_eq_true] at h
    obtain ⟨⟨⟨⟨h1, h2⟩, h3⟩, h4⟩, h5⟩ := h
    refine ⟨fs, hu, h1, h2, nbeq_eq h3, fun j f hf => ?_⟩
    have hj : j < fs.toList.length := (List.getElem?_eq_some_iff.1 hf).1
    have := h5 j (by rw [upto_eq]; simp; simpa using hj)
    rw [hf] at this
    simp only [Bool.and_eq_true, Bool.not_eq_true', decide_eq_false_iff_not] at this
    obtain ⟨⟨q1, q2⟩, q3⟩ := this
    refine ⟨by rw [nbeq_eq q1]; omega, q2, ?_⟩
    split at q3
    · assumption
    · cases q3
  · cases h

theorem agg_eq {t : TypeId} {xs ys : Array Value} {us vs : List D} (hok : eqOkP P t = true) (hx : V S (.agg xs) (.agg us)) (hy : V S (.agg ys) (.agg vs))
    (hu : us.length = P.cellsOf t) (hv : vs.length = P.cellsOf t) (ha : allI .i64 us = true) (hb : allI .i64 vs = true) :
    (Op.equal t (.agg xs) (.agg ys)).run P w = .ok (eqI us vs) w := by
  obtain ⟨fs, hund, hst, hgd, hc, hf⟩ := eqOk_fields hok
  have hfo : P.fieldsOf t = fs := by simp [Program.fieldsOf, hund]
  have hrow : ∀ {zs : Array Value} {ds : List D}, V S (.agg zs) (.agg ds) → ds.length = P.cellsOf t → allI .i64 ds = true → ∀ j, j < fs.toList.length → ∃ n, zs[0 + j]? = some (.int .i64 n) ∧ ds[j]? = some (.int .i64 n) := by
    intro zs ds hz hl hal j hj
    cases hz with
    | agg _ _ hn _ hh =>
      have hj' : j < ds.length := by rw [hl, hc]; exact hj
      have hd : ds[j]? = some ds[j] := List.getElem?_eq_getElem hj'
      have hzj : zs[j]? = some (zs[j]'(by rw [hn]; exact hj')) := Array.getElem?_eq_getElem _
      have h1 := hh j _ _ hzj hd
      have h2 := allI_get hal j _ hd
      rw [h2] at h1 hd
      cases hq : zs[j]'(by rw [hn]; exact hj') <;> rw [hq] at h1 hzj <;> cases h1
      exact ⟨_, by rw [Nat.zero_add]; exact hzj, hd⟩
  unfold Op.equal Op.maxDepth
  have h1 := run_equalIn_struct (P := P) w 9999 t xs ys (by rw [hfo]; exact hund) hst
  rw [h1, hfo]
  exact eqFields_ints 9998 fs.toList 0 xs ys us vs hf (hrow hx hu ha) (hrow hy hv hb) (by rw [hu, hc]) (by rw [hv, hc])

theorem equal_bool {t : TypeId} (hu : P.underlying t = some .bool) (p q : Bool) : (Op.equal t (.bool p) (.bool q)).run P w = .ok (p == q) w := by
  have : ∀ d, (Op.equalIn (d + 1) t (.bool p) (.bool q)).run P w = .ok (p == q) w := fun d => by simp [Op.equalIn, run_underlying hu]
  exact this 9999
theorem equal_nil {t e : TypeId} (hu : P.underlying t = some (.pointer e)) (q : Option Addr) : (Op.equal t (.pointer none) (.pointer q)).run P w = .ok q.isNone w := by
  have : ∀ d, (Op.equalIn (d + 1) t (.pointer none) (.pointer q)).run P w = .ok q.isNone w := fun d => by simp [Op.equalIn, run_underlying hu]
  exact this 9999
theorem equal_ptr {t e : TypeId} (hu : P.underlying t = some (.pointer e)) (q : Addr) : (Op.equal t (.pointer (some q)) (.pointer none)).run P w = .ok false w := by
  have : ∀ d, (Op.equalIn (d + 1) t (.pointer (some q)) (.pointer none)).run P w = .ok false w := fun d => by simp [Op.equalIn, run_underlying hu]
  exact this 9999
theorem binOp_eql_bool (t : TypeId) (p q : Bool) : binOp .eql t (.bool p) (.bool q) = (do pure (.bool (← Op.equal t (.bool p) (.bool q)))) := rfl
theorem binOp_neq_bool (t : TypeId) (p q : Bool) : binOp .neq t (.bool p) (.bool q) = (do pure (.bool (!(← Op.equal t (.bool p) (.bool q))))) := rfl
theorem binOp_eql_ptr (t : TypeId) (p q : Option Addr) : binOp .eql t (.pointer p) (.pointer q) = (do pure (.bool (← Op.equal t (.pointer p) (.pointer q)))) := rfl
theorem binOp_neq_ptr (t : TypeId) (p q : Option Addr) : binOp .neq t (.pointer p) (.pointer q) = (do pure (.bool (!(← Op.equal t (.pointer p) (.pointer q))))) := rfl
theorem binOp_eql_agg (t : TypeId) (p q : Array Value) : binOp .eql t (.agg p) (.agg q) = (do pure (.bool (← Op.equal t (.agg p) (.agg q)))) := rfl
theorem binOp_neq_agg (t : TypeId) (p q : Array Value) : binOp .neq t (.agg p) (.agg q) = (do pure (.bool (!(← Op.equal t (.agg p) (.agg q))))) := rfl

theorem equal_same {tp te : TypeId} {j : TypeInfo} (a : Addr) (hp : P.underlying tp = some (.pointer te)) (hte : P.info? te = some j) : (Op.equal tp (.pointer (some a)) (.pointer (some a))).run P w = .ok true w := by
  have h : ∀ d : Nat, (Op.equalIn (d + 1) tp (.pointer (some a)) (.pointer (some a))).run P w = .ok true w := fun d => by
    simp [Op.equalIn, run_underlying hp, sizeOf, typeInfo, hte, run_sameAddr_same]
  exact h 9999
theorem bin_good (h : Rel n w0 S0 S E s a w) {C : Cfg} (hC : ∀ t, C.ty t = tyOf P t) {op : BinOp} {t : TypeId} {o1 o2 : Operand} {u v : Value} {x y : T} {eqok : Bool} (hq : eqok = true → eqOkP P t = true)
    (hx : TV S E (frameOf a) u x) (hy : TV S E (frameOf a) v y) :
    Good P n w0 S0 S E s a w (do pure (.value (← (do eqGuard op t o1 o2 u v; binOp op t u v)))) (binE C op (tyOf P t) eqok x y) := by
  unfold binE
  split
  · -- ints
    cases hx; cases hy
    rename_i k a0 k' b0
    split
    · refine .int h fun hc => ?_
      simp only [decide_eq_true_eq] at hc
      have : ¬ b0 < 0 := by omega
      simp [eqGuard, binOp, Op.shift, this]
    · refine .int h fun hc => ?_
      simp only [decide_eq_true_eq] at hc
      have : ¬ b0 < 0 := by omega
      simp [eqGuard, binOp, Op.shift, this]
    · rename_i op' hn1 hn2
      cases hk : beqK k k' with
      | false => trivial
      | true =>
        have := beqK_eq hk; subst this
        simp only [cond_true]
        cases op
        case shl => exact absurd rfl hn1
        case shr => exact absurd rfl hn2
        case add => exact .int h fun _ => by simp [eqGuard, binOp, Op.intArith]
        case sub => exact .int h fun _ => by simp [eqGuard, binOp, Op.intArith]
        case mul => exact .int h fun _ => by simp [eqGuard, binOp, Op.intArith]
        case quo => exact .int h fun hc => by simp only [Bool.not_eq_true', decide_eq_false_iff_not] at hc; simp [eqGuard, binOp, Op.intDiv, hc]
        case rem => exact .int h fun hc => by simp only [Bool.not_eq_true', decide_eq_false_iff_not] at hc; simp [eqGuard, binOp, Op.intDiv, hc]
        case and => exact .int h fun _ => by simp [eqGuard, binOp, Op.intBits, bitsI]
        case or => exact .int h fun _ => by simp [eqGuard, binOp, Op.intBits, bitsI]
        case xor => exact .int h fun _ => by simp [eqGuard, binOp, Op.intBits, bitsI]
        case andNot => exact .int h fun _ => by simp [eqGuard, binOp, Op.intBits, bitsI]
        case eql => exact .bool h fun _ => by simp [eqGuard, binOp, Op.intCmp]; by_cases e : a0 = b0 <;> simp [e]
        case neq => exact .bool h fun _ => by simp [eqGuard, binOp, Op.intCmp, bne]; by_cases e : a0 = b0 <;> simp [e]
        case lss => exact .bool h fun _ => by simp [eqGuard, binOp, Op.intCmp]
        case leq => exact .bool h fun _ => by simp [eqGuard, binOp, Op.intCmp]
        case gtr => exact .bool h fun _ => by simp [eqGuard, binOp, Op.intCmp]
        case geq => exact .bool h fun _ => by simp [eqGuard, binOp, Op.intCmp]
  · -- bools
    rename_i a0 b0
    cases hx; cases hy
    split
    · rename_i hty
      have hu := tyOf_bool hty
      exact .bool h fun _ => by simp [eqGuard, binOp_eql_bool, equal_bool hu, beqB_eq]
    · rename_i hty
      have hu := tyOf_bool hty
      exact .bool h fun _ => by simp [eqGuard, binOp_neq_bool, equal_bool hu, beqB_eq]
    · trivial
  · -- strings
    cases hx; cases hy
    rename_i p q
    split
    · refine .str h (x := p ++ q) (by simp) fun hc => ?_
      simp only [decide_eq_true_eq] at hc
      have h1 : p.data.toList.length = p.size := by simp
      have h2 : q.data.toList.length = q.size := by simp
      have h3 : (p.size : Int) + q.size ≤ 9223372036854775807 := by omega
      simp [eqGuard, binOp, Op.stringOp, IntKind.max, IntKind.signed, IntKind.bits, h3]
    · exact .bool h fun _ => by simp [eqGuard, binOp, Op.stringOp, str_eq]
    · exact .bool h fun _ => by simp [eqGuard, binOp, Op.stringOp, str_eq]
    · trivial
  · -- structs of numbers
    rename_i us vs
    split
    · rename_i k fs hty
      obtain ⟨flds, hu, hn, hfs⟩ := tyOf_st hty
      cases hc : (eqok && Nat.beq us.length k && Nat.beq vs.length k) with
      | false => trivial
      | true =>
        simp only [Bool.and_eq_true] at hc
        obtain ⟨⟨hc1, hc2⟩, hc3⟩ := hc
        have hok := hq hc1
        obtain ⟨_, _, _, hgd, _⟩ := eqOk_fields hok
        simp only [cond_true]
        have hx' : V S u (.agg us) := hx
        have hy' : V S v (.agg vs) := hy
        cases hx' with
        | agg xs _ hxn hx1 hxh =>
        cases hy' with
        | agg ys _ hyn hy1 hyh =>
          have run : allI .i64 us = true → allI .i64 vs = true → (Op.equal t (.agg xs) (.agg ys)).run P w = .ok (eqI us vs) w := fun ha hb =>
            agg_eq hok (.agg xs us hxn hx1 hxh) (.agg ys vs hyn hy1 hyh) (by rw [nbeq_eq hc2, hn]) (by rw [nbeq_eq hc3, hn]) ha hb
          split
          · refine .bool h fun ha => ?_
            simp only [Bool.and_eq_true] at ha
            simp [eqGuard_agg hgd, binOp_eql_agg, run ha.1 ha.2]
          · refine .bool h fun ha => ?_
            simp only [Bool.and_eq_true] at ha
            simp [eqGuard_agg hgd, binOp_neq_agg, run ha.1 ha.2]
          · trivial
    · trivial
  · -- nil and nil
    cases hx; cases hy
    split
    · rename_i e hty
      have hu := tyOf_ptr hty
      exact .bool h fun _ => by simp [eqGuard, binOp_eql_ptr, equal_nil hu]
    · rename_i e hty
      have hu := tyOf_ptr hty
      exact .bool h fun _ => by simp [eqGuard, binOp_neq_ptr, equal_nil hu]
    · trivial
  · -- one address
    rename_i k o k' o'
    obtain ⟨g, hE, rfl⟩ := hx
    obtain ⟨g', hE', rfl⟩ := hy
    have key : ∀ {e : Nat}, tyOf P t = .ptr e → (Nat.beq k k' && Nat.beq o o' && !Nat.beq (C.ty e).n 0) = true → (Op.equal t (.pointer (some ⟨g, o, none⟩)) (.pointer (some ⟨g', o', none⟩))).run P w = .ok true w := fun {e} hty hb => by
      simp only [Bool.and_eq_true, Bool.not_eq_true'] at hb
      have h1 := nbeq_eq hb.1.1
      have h2 := nbeq_eq hb.1.2
      subst h1; subst h2
      rw [hE] at hE'
      simp only [Value.pointer.injEq, Option.some.injEq, Addr.mk.injEq, and_true] at hE'
      subst hE'
      have hne : tyOf P e ≠ .oth := fun e' => by rw [hC, e'] at hb; simp [Ty.n] at hb
      obtain ⟨d, hd⟩ := tyOf_und hne
      obtain ⟨j, hj⟩ := und_info hd
      exact equal_same _ (tyOf_ptr hty) hj
    split
    · rename_i e hty
      cases hb : (Nat.beq k k' && Nat.beq o o' && !Nat.beq (C.ty e).n 0) with
      | false => trivial
      | true => exact .bool h fun _ => by simp [eqGuard, binOp_eql_ptr, key hty hb]
    · rename_i e hty
      cases hb : (Nat.beq k k' && Nat.beq o o' && !Nat.beq (C.ty e).n 0) with
      | false => trivial
      | true => exact .bool h fun _ => by simp [eqGuard, binOp_neq_ptr, key hty hb]
    · trivial
  · -- an address and nil
    cases hy
    obtain ⟨g, hE, rfl⟩ := hx
    split
    · rename_i e hty
      have hu := tyOf_ptr hty
      exact .bool h fun _ => by simp [eqGuard, binOp_eql_ptr, equal_ptr hu]
    · rename_i e hty
      have hu := tyOf_ptr hty
      exact .bool h fun _ => by simp [eqGuard, binOp_neq_ptr, equal_ptr hu]
    · trivial
  · trivial

end Go.Ev
