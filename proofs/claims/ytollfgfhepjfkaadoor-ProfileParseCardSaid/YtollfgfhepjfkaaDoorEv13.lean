/- The evaluator 'Ev': operands, calls, and all operations together. -/
import Derived.Test.YtollfgfhepjfkaaDoorEv12b
namespace Go.Ev
open Go Go.RowKit

variable {P : Program} {n : Nat} {w0 : Base P} {S0 S : Snap} {E : Nat → Value} {s : A} {a : Act} {w : World}

/-! ### operands -/
theorem eval_tmp (a : Act) (t : Nat) : a.eval (.tmp t) = frameOf a t := rfl

theorem ups_ok (h : Rel n w0 S0 S E s a w) : ∀ (m : Nat) (g : Guard), GuardOk (frameOf a) g → ∀ p, p ∈ ups s m g → frameOf a p.1 = .bool p.2
  | 0, _, _, p, hp => by simp [ups] at hp
  | _ + 1, none, _, p, hp => by simp [ups] at hp
  | m + 1, some (t, w'), hg, p, hp => by
    simp only [ups, List.mem_cons] at hp
    rcases hp with rfl | hp
    · exact hg
    · split at hp
      · rename_i t' w'' x hx
        have htv := h.tm t _ hx
        refine ups_ok h m (some (t', w'')) ?_ p hp
        refine Classical.byContradiction fun hn => ?_
        have := htv.2 hn
        have hg' : frameOf a t = .bool w' := hg
        rw [hg'] at this
        cases this
      · cases hp

theorem hasG_ok {l : List (Nat × Bool)} {t : Nat} {b : Bool} (h : hasG l t b = true) : (t, b) ∈ l := by
  unfold hasG at h
  obtain ⟨p, hp, hb⟩ := List.any_eq_true.1 h
  simp only [Bool.and_eq_true] at hb
  have h1 := nbeq_eq hb.1
  have h2 : p.2 = b := by
    obtain ⟨_, hb2⟩ := hb
    cases hp2 : p.2 <;> cases b <;> rw [hp2] at hb2 <;> first | rfl | (simp [beqB] at hb2)
  obtain ⟨p1, p2⟩ := p
  simp at h1 h2
  subst h1; subst h2
  exact hp

theorem ofVal_V (v : Value) : V S v (ofVal v) := by
  unfold ofVal
  split
  · exact .bool _
  · exact .int _ _
  · exact .str _
  · exact .nil
  · exact .undef _

theorem opd_tv (h : Rel n w0 S0 S E s a w) {gs : List (Nat × Bool)} (hgs : ∀ p, p ∈ gs → frameOf a p.1 = .bool p.2) (ty : Ty) (x : Operand) :
    TV S E (frameOf a) (a.eval x) (opd s gs ty x) ∧ (opd s gs ty x).bare = true := by
  unfold opd
  split
  · rename_i t
    rw [eval_tmp]
    split
    · rename_i t' w' y hl
      have htv := h.tm t _ hl
      have hth := h.thin t _ hl
      cases hb : hasG gs t' w' with
      | false => exact ⟨trivial, rfl⟩
      | true => exact ⟨htv.1 (hgs _ (hasG_ok hb)), hth⟩
    · rename_i y hl hne
      have htv := h.tm t _ hne
      have hth := h.thin t _ hne
      refine ⟨htv, ?_⟩
      cases y with
      | g t' w' y => exact absurd rfl (hl _ _ _)
      | _ => rfl
    · exact ⟨trivial, rfl⟩
  · split
    · exact ⟨rfl, rfl⟩
    · exact ⟨trivial, rfl⟩
  · exact ⟨ofVal_V _, rfl⟩
  · exact ⟨trivial, rfl⟩
  · exact ⟨rfl, rfl⟩


/-- A FUNCTION DOES WHAT ITS SPEC SAYS, at any world and whatever cells stay. -/
structure Sound (P : Program) (f : Nat) (sp : Spc) : Prop where
  fn : ∃ fn, P.funcs[f]? = some fn ∧ fn.body.isNone = false ∧ (fn.name == "runtime.NumGoroutine") = false
  run : ∀ (w : World) (S : Snap) (vs : Array Value) (ds : List D), TabOk P w → S.inn w → Vs S vs.toList ds → sp.pre ds = true →
    Calls P f vs w fun e w' => ∃ v S', e = .returned v ∧ Grew S S' w w' ∧ V S' v (sp.val ds)

/-- what things stand for, without a frame. -/
structure RelH {P : Program} (b : Base P) (S0 S : Snap) (E : Nat → Value) (ob : List (Nat × Ob)) (w : World) : Prop where
  le : S0.le S
  new : ∀ a' u, S a' = some u → S0 a' = some u ∨ (b.B ≤ a'.block ∧ ¬ b.G a'.block)
  inn : S.inn w
  obs : ∀ k o, look ob k = some o → OV S E b.B w k o
  sep : ∀ k k' g, (look ob k).isSome → (look ob k').isSome → k ≠ k' → blk (E k) = some g → blk (E k') ≠ some g
  below : Kept b w
  own : ∀ k g, (look ob k).isSome → blk (E k) = some g → ¬ b.G g
  high : ∀ k, HB ≤ k → E k = b.E0 k
theorem Rel.toH (h : Rel n w0 S0 S E s a w) : RelH w0 S0 S E s.ob w := ⟨h.le, h.new, h.inn, h.ob, h.sep, h.below, h.own, h.high⟩
theorem RelH.toRel {ob : List (Nat × Ob)} (h : RelH w0 S0 S E ob w) {tm : List (Nat × T)} (hd : a.defers = []) (hs : n ≤ a.tmps.size) (ht : ∀ t x, look tm t = some x → x.thin = true) (hx : ∀ t x, look tm t = some x → TV S E (frameOf a) (frameOf a t) x) : Rel n w0 S0 S E ⟨tm, ob⟩ a w :=
  ⟨hd, hs, ht, hx, h.le, h.new, h.inn, h.obs, h.sep, h.below, h.own, h.high⟩
/-- arguments, as the evaluator knows them. -/
def TVs (S : Snap) (E : Nat → Value) (vs : Array Value) (ts : List T) : Prop := vs.size = ts.length ∧ ∀ (j : Nat) u x, vs[j]? = some u → ts[j]? = some x → TV S E (fun _ => undef) u x ∧ x.bare = true
/-- A FUNCTION THAT IS HANDED THINGS DOES WHAT ITS SPEC SAYS. -/
structure HSound (P : Program) (f : Nat) (hs : HSpc) : Prop where
  fn : ∃ fn, P.funcs[f]? = some fn ∧ fn.body.isNone = false ∧ (fn.name == "runtime.NumGoroutine") = false
  run : ∀ (b : Base P) (S : Snap) (E : Nat → Value) (ob : List (Nat × Ob)) (ts : List T) (vs : Array Value) (t : T) (obr : List (Nat × Ob)), RelH b S S E ob b.w → TVs S E vs ts → (hs ts ob).leaf = some (t, obr) →
    Calls P f vs b.w fun e w' => ∃ v S' E', e = .returned v ∧ S.le S' ∧ RelH b S S' E' obr w' ∧ TV S' E' (fun _ => undef) v t ∧ t.bare = true
structure Calling (P : Program) (C : Cfg) : Prop where
  call : ∀ f sp, C.call f = some sp → Sound P f sp
  hcall : ∀ f hs, C.hcall f = some hs → HSound P f hs

theorem scalar_V {C : Cfg} {ty : Ty} {r : D} {v : Value} {S' : Snap} (hs : scalarR C ty = true) (hok : okR C ty r = true) (hv : V S' v (asR C ty r)) : V S v (asR C ty r) := by
  have one : ∀ {t : Ty} {d : D} {u : Value}, (t = .bool ∨ (∃ k, t = .int k) ∨ t = .str) → V S' u (asD t d) → V S u (asD t d) := by
    intro t d u ht hu
    rcases ht with rfl | ⟨k, rfl⟩ | rfl
    · simp only [asD] at hu ⊢; cases hu; exact .bool _
    · simp only [asD] at hu ⊢; cases hu; exact .int _ _
    · simp only [asD] at hu ⊢
      generalize d.s = l at hu
      cases hu; exact .str _
  cases ty with
  | bool => exact one (.inl rfl) hv
  | int k => exact one (.inr (.inl ⟨k, rfl⟩)) hv
  | str => exact one (.inr (.inr rfl)) hv
  | tup ts =>
    simp only [asR] at hv ⊢
    generalize hL : (upto ts.length 0).map (fun j => asD (C.ty (ts.getD j 0)) (nth r.t j)) = L at hv
    cases hv with
    | tup vs cs hn hh =>
      refine .tup vs _ hn fun j u d hu hd => ?_
      have h1 := hh j u d hu hd
      rw [← hL, List.getElem?_map, Option.map_eq_some_iff] at hd
      obtain ⟨i, hi, rfl⟩ := hd
      have hi' : i < ts.length := by
        have := List.mem_of_getElem? hi
        rw [upto_eq, List.mem_range'_1] at this
        omega
      simp only [scalarR, List.all_eq_true] at hs
      have hsi := hs (ts.getD i 0) (by rw [List.getD_eq_getElem?_getD, List.getElem?_eq_getElem hi']; exact List.getElem_mem hi')
      refine one ?_ h1
      cases ht : C.ty (ts.getD i 0) <;> rw [ht] at hsi <;> first | exact .inl rfl | exact .inr (.inl ⟨_, rfl⟩) | exact .inr (.inr rfl) | (simp at hsi)
  | _ => simp [scalarR] at hs

theorem all_vs {S' : Snap} (hle : S.le S') {rd : Operand → T} (hrd : ∀ x, TV S E (frameOf a) (a.eval x) (rd x)) : ∀ (xs : List Operand) (ds : List D), allData s (xs.map rd) = some ds →
    (∀ k, k ∈ vecsOf (xs.map rd) → ∀ e sz ys, look s.ob k = some (.vec e sz ys) → V S' (E k) (.sl sz ys)) → Vs S' (xs.map a.eval) ds
  | [], ds, h, _ => by simp [allData] at h; subst h; exact Vs.nil _
  | x :: xs, ds, h, hk => by
    simp only [List.map_cons, allData] at h
    split at h
    · rename_i d ds' hd hds
      cases h
      refine Vs.cons (data_V (s := s) hle (hrd x) hd (fun k hkx => hk k (by simp [hkx, vecsOf]))) (all_vs hle hrd xs ds' hds (fun k hm => hk k ?_))
      simp only [List.map_cons]
      cases hx : rd x <;> simp only [vecsOf] <;> first | exact hm | exact List.mem_cons_of_mem _ hm
    · cases h

theorem Good.same_run {m m' : Sem Next} (hm : m.run P w = m'.run P w) {e : Eff} (hg : Good P n w0 S0 S E s a w m' e) : Good P n w0 S0 S E s a w m e := by
  cases e <;> simp only [Good, hm] at * <;> exact hg

theorem call_good (h : Rel n w0 S0 S E s a w) {C : Cfg} (hC : Calling P C) {f type : Nat} {at_ : Array TypeId} {args : Array Operand} {rd : Operand → T} (hrd : ∀ x, TV S E (frameOf a) (a.eval x) (rd x)) {sp : Spc} (hsp : C.call f = some sp) {ds : List D}
    (hds : allData s (args.toList.map rd) = some ds) (hc : (scalarR C (C.ty type) || (vecsOf (args.toList.map rd)).isEmpty) = true) {m : Sem Next} (hm : m = (do let d ← resolve a.eval { callee := .value (.func f), args := args, argTypes := at_ } type; invoke d.target d.args)) :
    Good P n w0 S0 S E s a w m (.ans (sp.pre ds) (sp.val ds) (okR C (C.ty type)) (asR C (C.ty type))) := by
  subst hm
  intro hr hok
  obtain ⟨⟨fn, hfn, hbody, hname⟩, hrun⟩ := hC.call f sp hsp
  refine ⟨f, args.map a.eval, ?_, ?_⟩
  · have h1 : ¬ fn.name = "runtime.NumGoroutine" := by simpa using hname
    have h2 : ¬ fn.body = none := fun e => by rw [e] at hbody; simp at hbody
    simp [resolve, Act.eval, Deferred.ofValue, invoke, callFunc, hfn, h1, h2]
  · cases hvv : (vecsOf (args.toList.map rd)).isEmpty with
    | true =>
      have hvs := all_vs (s := s) (Snap.le.refl S) hrd args.toList ds hds (fun k hk => by rw [List.isEmpty_iff.1 hvv] at hk; cases hk)
      refine (hrun w S (args.map a.eval) ds h.tab h.inn (by simpa using hvs) hr).mono fun e w' he => ?_
      obtain ⟨v, S', h1, h2, h3⟩ := he
      exact ⟨v, S', h1, h2, by rw [asR_eq hok]; exact h3⟩
    | false =>
      rw [hvv] at hc
      simp only [Bool.or_false] at hc
      obtain ⟨S', hle, hrel, hV⟩ := Rel.stowAll (vecsOf (args.toList.map rd)) h
      have hvs := all_vs (s := s) hle hrd args.toList ds hds hV
      refine (hrun w S' (args.map a.eval) ds h.tab hrel.inn (by simpa using hvs) hr).mono fun e w' he => ?_
      obtain ⟨v, S'', h1, h2, h3⟩ := he
      refine ⟨v, S, h1, ⟨h2.below, Snap.le.refl S, fun _ _ hu => .inl hu, h.inn.below h2.below⟩, ?_⟩
      rw [← asR_eq hok] at h3
      exact scalar_V hc hok h3


theorem cells_data {S' : Snap} (hle : S.le S') : ∀ (cs : List T) (vals : List Value) (ds : List D), vals.length = cs.length → (∀ (j : Nat) u c, vals[j]? = some u → cs[j]? = some c → TV S E (fun _ => undef) u c) → allData s cs = some ds →
    (∀ k, k ∈ vecsOf cs → ∀ e sz ys, look s.ob k = some (.vec e sz ys) → V S' (E k) (.sl sz ys)) → Vs S' vals ds
  | [], vals, ds, hl, _, hd, _ => by
    simp [allData] at hd; subst hd
    have : vals = [] := List.eq_nil_of_length_eq_zero hl
    subst this; exact Vs.nil _
  | c :: cs, [], ds, hl, _, _, _ => by simp at hl
  | c :: cs, v :: vals, ds, hl, hv, hd, hk => by
    simp only [allData] at hd
    split at hd
    · rename_i d ds' hc hds
      cases hd
      refine Vs.cons (data_V (s := s) hle (hv 0 v c rfl rfl) hc fun k hkx => hk k (by simp [hkx, vecsOf])) (cells_data hle cs vals ds' (by simpa using hl) (fun j u c' hu hc' => hv (j + 1) u c' (by simpa using hu) (by simpa using hc')) hds fun k hm => hk k ?_)
      cases c <;> simp only [vecsOf] <;> first | exact hm | exact List.mem_cons_of_mem _ hm
    · cases hd

theorem loadAgg_good (h : Rel n w0 S0 S E s a w) {t : TypeId} {v : Value} {p : T} (hp : TV S E (frameOf a) v p) : Good P n w0 S0 S E s a w (do pure (.value (← Instr.loadAt t v))) (loadAgg s (tyOf P t) p) := by
  unfold loadAgg
  split
  · rename_i k off hg
    obtain ⟨g, hE, rfl⟩ := id hp
    split
    · rename_i cs hk
      split
      · rename_i ds hds
        cases hb : Nat.beq ds.length (tyOf P t).n with
        | false => trivial
        | true =>
          simp only [cond_true]
          obtain ⟨vs, _, hn, _, _, hc, hcell⟩ := box_at h hk hE
          have hvl : ((vs.toList.drop off).take (tyOf P t).n).length = ((cs.drop off).take (tyOf P t).n).length := by simp [hn]
          have hvc : ∀ (j : Nat) u, ((vs.toList.drop off).take (tyOf P t).n)[j]? = some u → vs[off + j]? = some u ∧ (∀ c, ((cs.drop off).take (tyOf P t).n)[j]? = some c → cs[off + j]? = some c) := by
            intro j u hu
            rw [List.getElem?_take] at hu
            split at hu
            · rename_i hj
              refine ⟨by simpa using hu, fun c hcj => ?_⟩
              rw [List.getElem?_take, if_pos hj] at hcj
              simpa using hcj
            · cases hu
          have htv : ∀ (j : Nat) u c, ((vs.toList.drop off).take (tyOf P t).n)[j]? = some u → ((cs.drop off).take (tyOf P t).n)[j]? = some c → TV S E (fun _ => undef) u c := fun j u c hu hcj =>
            (hc (off + j) u c (hvc j u hu).1 ((hvc j u hu).2 c hcj)).2.2
          have hat : ∀ (j : Nat) u, ((vs.toList.drop off).take (tyOf P t).n)[j]? = some u → w.cell? ((⟨g, off, none⟩ : Addr).add j) = some u ∧ u.oneCell' = true := fun j u hu => by
            have h1 := (hvc j u hu).1
            rw [add_none, hcell]
            have hlt : off + j < cs.length := by rw [← hn]; exact (Array.getElem?_eq_some_iff.1 h1).1
            exact ⟨h1, (hc (off + j) u _ h1 (List.getElem?_eq_getElem hlt)).1⟩
          split
          · rename_i hv
            have hvs := cells_data (s := s) (Snap.le.refl S) _ _ ds hvl htv hds (fun k hk => by rw [hv] at hk; cases hk)
            exact load_of h hvs hat fun _ => .inl ⟨hg, nbeq_eq hb, rfl⟩
          · rename_i k' ks hv
            intro _
            obtain ⟨S', hle, hrel, hV⟩ := Rel.stowAll (k' :: ks) h
            have hvs := cells_data (s := s) hle _ _ ds hvl htv hds (fun k hk => hV k (by rw [hv] at hk; exact hk))
            obtain ⟨v, w', S'', h1, h2, h3, h4⟩ := load_of (P := P) (t := t) (c := true) (x := .d (.agg ds)) hrel hvs hat (fun _ => .inl ⟨hg, nbeq_eq hb, rfl⟩) rfl
            exact ⟨.value v, v, w', S'', E, h1, .inl rfl, hrel.grew h2, hle.trans h2.le, h3, h4⟩
      · trivial
    · trivial
  · exact load_good h hp

/-- EACH OPERATION DOES WHAT THE EVALUATOR SAYS. -/
theorem effOp_good (h : Rel n w0 S0 S E s a w) {C : Cfg} (hT : Told P C) (hC : Calling P C) (o : Oper) {gs : List (Nat × Bool)} (hgs : ∀ p, p ∈ gs → frameOf a p.1 = .bool p.2) (guarded : Bool) (hdst : ∀ d, o.dst = some d → d < HB) :
    Good P n w0 S0 S E s a w (execOp a.eval o) (effOp C o s (fun more ty x => opd s (more ++ gs) ty x) guarded) := by
  have hrd : ∀ ty x, TV S E (frameOf a) (a.eval x) (opd s gs ty x) := fun ty x => (opd_tv h hgs ty x).1
  have hbr : ∀ ty x, (opd s gs ty x).bare = true := fun ty x => (opd_tv h hgs ty x).2
  have hmore : ∀ t b, frameOf a t = .bool b → ∀ ty x, TV S E (frameOf a) (a.eval x) (opd s ((t, b) :: gs) ty x) := fun t b ht ty x => (opd_tv h (gs := (t, b) :: gs) (fun p hp => by
    rcases List.mem_cons.1 hp with rfl | hp
    · exact ht
    · exact hgs p hp) ty x).1
  have hmove : ∀ (dst : Option Nat) (x : Operand) (ty : Ty), Good P n w0 S0 S E s a w (pure (.value (a.eval x))) (match opd s gs ty x with
    | .undef => .fail
    | t => .val true t) := by
    intro dst x ty
    have h1 := hrd ty x
    have h2 := hbr ty x
    generalize opd s gs ty x = t at h1 h2
    cases t with
    | undef => trivial
    | vec k => exact copy_good h h1 rfl
    | g t w' x => simp [T.bare] at h2
    | d x => exact copy_good h h1 rfl
    | nils z => exact copy_good h h1 rfl
    | ptr k off => exact copy_good h h1 rfl
    | ptrA k off len sz i o => exact copy_good h h1 rfl
    | ptrS x off => exact copy_good h h1 rfl
    | vptr k sz i o => exact copy_good h h1 rfl
    | fn f => exact copy_good h h1 rfl
    | sd k => exact copy_good h h1 rfl
  obtain ⟨dst, op, type, pos, after, guard⟩ := o
  cases op <;> simp only [effOp, execOp, List.nil_append, List.cons_append] <;> try trivial
  case move x => exact hmove dst x _
  case assign x => exact hmove dst x _
  case pick c x y =>
    split
    · rename_i b t hb
      have h1 := hrd .bool (.tmp t)
      rw [hb] at h1
      have hft : frameOf a t = .bool b := by
        have h2 : V S (frameOf a t) (.bool b) := h1
        cases hq : frameOf a t <;> rw [hq] at h2 <;> cases h2 <;> rfl
      split
      · rename_i p q hp hq
        refine pick_good h h1 (fun hbt => ?_) (fun hbf => ?_)
        · subst hbt; rw [← hp]; exact hmore t true hft _ _
        · subst hbf; rw [← hq]; exact hmore t false hft _ _
      · trivial
    · trivial
  case alloc e =>
    cases dst with
    | none => trivial
    | some d =>
      cases guarded with
      | true => trivial
      | false => simp only [cond_false]; exact alloc_good h hT.zero (hdst d rfl)
  case box e x =>
    split
    · rename_i d cs hc
      cases guarded with
      | true => trivial
      | false =>
        simp only [cond_false]
        rw [hT.ty] at hc
        exact box_good h (hdst _ rfl) (hrd _ x) hc
    · trivial
  case build t ps =>
    cases hnt : Nat.blt t C.nt with
    | false => trivial
    | true =>
      simp only [Bool.not_true, cond_false]
      cases hopn : look C.opn t with
      | some q => exact con_good h hT (fun x => hrd .oth x) (Nat.le_of_ble_eq_true hnt) hdst
      | none => exact build_good h hT (fun x => hrd .oth x) (Nat.le_of_ble_eq_true hnt)
  case buildSlice t m ps =>
    cases hnt : Nat.blt t C.nt with
    | false => trivial
    | true =>
      simp only [Bool.not_true, cond_false]
      split
      · rename_i ef hef
        split at hef
        · rename_i x hps
          exact lit_good h hT (fun x => hrd .oth x) (Nat.le_of_ble_eq_true hnt) hdst hps hef
        · cases hef
      rename_i hef
      clear hef
      split
      · rename_i e sz d ds hty hds
        exact buildSlice_good h hT (fun x => hrd .oth x) (hdst _ rfl) (Nat.le_of_ble_eq_true hnt) hty hds
      · trivial
  case load t x => rw [hT.ty]; exact loadAgg_good h (hrd .oth x)
  case store t x y =>
    cases guarded with
    | true => trivial
    | false => simp only [cond_false]; rw [hT.ty]; exact store_good h (hrd .oth x) (hrd _ y)
  case nilCheck x =>
    have h1 := hrd .oth x
    have h2 := hbr .oth x
    generalize opd s gs .oth x = t at h1 h2
    cases t with
    | ptr k off => obtain ⟨g, _, hv⟩ := id h1; exact nilCheck_good h hv h1 rfl (by rw [hv])
    | ptrS y off => obtain ⟨g, vals, _, hv⟩ := id h1; exact nilCheck_good h hv h1 rfl (by rw [hv])
    | ptrA k off len sz i o => obtain ⟨g, _, hv, _⟩ := id h1; exact nilCheck_good h hv h1 rfl (by rw [hv])
    | vptr k sz i o => obtain ⟨g, len, cap, _, hv, _⟩ := id h1; exact nilCheck_good h hv h1 rfl (by rw [hv])
    | _ => trivial
  case binOp op t x y q =>
    rw [hT.ty]
    exact bin_good h hT.ty (hT.eqs t) (hrd _ x) (hrd _ y)
  case unOp op t x => exact un_good h (hrd _ x)
  case convert t u x =>
    cases hb : (Nat.beq t u && (C.ty t).isSl) with
    | true =>
      simp only [Bool.and_eq_true] at hb
      have := nbeq_eq hb.1
      subst this
      cases guarded with
      | true => trivial
      | false =>
        simp only [cond_true, cond_false]
        rw [hT.ty]
        exact bytes_good h hT.ty (hrd _ x)
    | false =>
      simp only [cond_false]
      have hconv : Good P n w0 S0 S E s a w (do pure (.value (← convert t u (a.eval x)))) (convE C s (C.ty t) (C.ty u) (opd s gs (C.ty t) x)) := by
        rw [hT.ty, hT.ty]
        exact conv_good h hT.ty hT.selfs (hrd _ x)
      cases dst with
      | none => exact hconv
      | some d =>
        simp only []
        split
        · rw [hT.ty, hT.ty]
          exact raw_good h hT.ty (hdst d rfl) (hrd _ x)
        · exact hconv
  case fieldAddr t x f =>
    rw [hT.ty]
    exact fieldAddr_good h hT.ty (hrd _ x)
  case field t x f =>
    split
    · rename_i m fs cs hty hx
      split
      · rename_i u off hf
        cases hl : Nat.beq cs.length m with
        | false => trivial
        | true =>
          simp only [cond_true]
          rw [hT.ty] at hty ⊢
          exact field_good h hty hf (nbeq_eq hl) (by rw [← hx]; exact hrd _ x)
      · trivial
    · trivial
  case indexAddr t x i =>
    cases hnt : Nat.blt t C.nt with
    | false => trivial
    | true =>
    simp only [Bool.not_true, cond_false]
    split
    · rename_i k m hi
      have h1 := hrd .oth i
      rw [hi] at h1
      have hv : a.eval i = .int k m := by
        have h2 : V S (a.eval i) (.int k m) := h1
        generalize a.eval i = u at h2
        cases h2; rfl
      rw [hT.ty, hv]
      exact indexAddr_good (hT.elem t (Nat.le_of_ble_eq_true hnt)) h (hrd _ x)
    · trivial
  case makeMap t r =>
    cases r with
    | some _ => trivial
    | none =>
      cases dst with
      | none => trivial
      | some d =>
        cases hb : (guarded || !C.sets.any (Nat.beq t)) with
        | true => simp only [cond_true]; trivial
        | false => simp only [cond_false]; exact makeMap_good h (hdst _ rfl)
  case lookup t x i ok =>
    cases ok with
    | true => trivial
    | false =>
      simp only [Bool.false_or]
      cases hb : C.sets.any (Nat.beq t) with
      | false => trivial
      | true =>
        simp only [Bool.not_true, cond_false]
        split
        · rename_i k l hx hi
          split
          · rename_i ls hk
            exact lookup_good h (hT.sets t hb) hk (by rw [← hx]; exact hrd _ x) (by rw [← hi]; exact hrd _ i)
          · trivial
        · trivial
  case mapUpdate t m i x =>
    cases hb : (guarded || !C.sets.any (Nat.beq t)) with
    | true => simp only [cond_true]; trivial
    | false =>
      simp only [cond_false]
      simp only [Bool.or_eq_false_iff, Bool.not_eq_false'] at hb
      split
      · rename_i k l b hm hi hx
        split
        · rename_i ls hk
          exact mapUpdate_good h (hT.sets t hb.2) hk (by rw [← hm]; exact hrd _ m) (by rw [← hi]; exact hrd _ i) (by rw [← hx]; exact hrd _ x)
        · trivial
      · trivial
  case index t x i =>
    split
    · rename_i l k m hty hx hi
      have h1 := hrd .oth i
      rw [hi] at h1
      have hv : a.eval i = .int k m := by
        have h2 : V S (a.eval i) (.int k m) := h1
        generalize a.eval i = u at h2
        cases h2; rfl
      rw [hT.ty] at hty
      rw [hv]
      exact index_good h hty (by rw [← hx]; exact hrd _ x)
    · trivial
  case slice t x lo hi mx =>
    cases mx with
    | some _ => trivial
    | none =>
      simp only []
      cases hnt : Nat.blt t C.nt with
      | false => trivial
      | true =>
      simp only [Bool.not_true, cond_false]
      split
      · trivial
      · rename_i ty hne
        rw [hT.ty]
        refine slice_good h (hT.elem t (Nat.le_of_ble_eq_true hnt)) (hrd _ x) ⟨fun t ht => ?_, fun hn => ?_⟩ ⟨fun t ht => ?_, fun hn => ?_⟩
        · obtain ⟨y, rfl, rfl⟩ := Option.map_eq_some_iff.1 ht; exact ⟨_, rfl, hrd _ y⟩
        · cases lo <;> first | rfl | cases hn
        · obtain ⟨y, rfl, rfl⟩ := Option.map_eq_some_iff.1 ht; exact ⟨_, rfl, hrd _ y⟩
        · cases hi <;> first | rfl | cases hn
  case makeSlice t l c =>
    cases hnt : Nat.blt t C.nt with
    | false => trivial
    | true =>
    simp only [Bool.not_true, cond_false]
    split
    · rename_i e sz d kl nl kc nc hty hl hc
      cases guarded with
      | true => trivial
      | false =>
        simp only [cond_false]
        have h1 := hrd .oth l
        have h2 := hrd .oth c
        rw [hl] at h1
        rw [hc] at h2
        have hv : a.eval l = .int kl nl := by
          have h3 : V S (a.eval l) (.int kl nl) := h1
          generalize a.eval l = u at h3
          cases h3; rfl
        have hv2 : a.eval c = .int kc nc := by
          have h3 : V S (a.eval c) (.int kc nc) := h2
          generalize a.eval c = u at h3
          cases h3; rfl
        rw [hv, hv2]
        exact makeSlice_good h hT (hdst _ rfl) (Nat.le_of_ble_eq_true hnt) hty
    · trivial
  case extract x i =>
    split
    · rename_i ds hx
      cases hi : Nat.blt i ds.length with
      | false => trivial
      | true =>
        simp only [cond_true]
        exact extract_good h (Nat.le_of_ble_eq_true hi) (by rw [← hx]; exact hrd _ x)
    · trivial
  case call c =>
    obtain ⟨callee, args, argTypes⟩ := c
    have arg1 : ∀ {x : Operand}, args.toList = [x] → args.map a.eval = #[a.eval x] := fun {x} hx => by
      apply Array.ext'; simp [hx]
    have arg2 : ∀ {x y : Operand}, args.toList = [x, y] → args.map a.eval = #[a.eval x, a.eval y] := fun {x y} hx => by
      apply Array.ext'; simp [hx]
    have run_builtin : ∀ (b : Builtin) (e : Eff), (∀ cs, Good P n w0 S0 S E s a w (builtin b argTypes type cs (args.map a.eval)) e) →
        Good P n w0 S0 S E s a w (do let d ← resolve a.eval { callee := Callee.builtin b, args := args, argTypes := argTypes } type; invoke d.target d.args) e := by
      intro b e hg
      refine Good.same_run (m' := builtin b argTypes type (args.map fun | .const _ => true | _ => false) (args.map a.eval)) ?_ (hg _)
      simp only [resolve, invoke, Sem.run_bind, Sem.run_pure, Result.andThen_ok]
      rfl
    simp only []
    split
    · -- len
      rename_i x hx
      split
      · rename_i t ts hts
        refine run_builtin _ _ fun cs => ?_
        rw [arg1 hx, hT.ty]
        exact len_good h (t := t) (v := a.eval x) (by rw [← Array.getElem?_toList, hts]; rfl) rfl (hrd _ x)
      · trivial
    · rename_i x y hx
      split
      · rename_i k u k' v h1 h2
        cases hb : beqK k k' with
        | false => trivial
        | true =>
          have := beqK_eq hb; subst this
          refine run_builtin _ _ fun cs => ?_
          rw [arg2 hx]
          exact min_good h (by rw [← h1]; exact hrd _ x) (by rw [← h2]; exact hrd _ y)
      · trivial
    · rename_i x y hx
      split
      · rename_i k u k' v h1 h2
        cases hb : beqK k k' with
        | false => trivial
        | true =>
          have := beqK_eq hb; subst this
          refine run_builtin _ _ fun cs => ?_
          rw [arg2 hx]
          exact max_good h (by rw [← h1]; exact hrd _ x) (by rw [← h2]; exact hrd _ y)
      · trivial
    · rename_i x y hx
      cases hb : (guarded || !Nat.blt (argTypes.getD 0 0) C.nt) with
      | true => trivial
      | false =>
        simp only [cond_false]
        simp only [Bool.or_eq_false_iff, Bool.not_eq_false'] at hb
        cases hsame : same2 argTypes.toList with
        | false =>
          simp only [cond_false]
          cases htwo : Nat.beq argTypes.size 2 with
          | false => trivial
          | true =>
            simp only [Bool.not_true, cond_false]
            have htwo := nbeq_eq htwo
            obtain ⟨t, tu, rfl⟩ : ∃ t tu, argTypes = #[t, tu] := by
              refine ⟨argTypes[0], argTypes[1], ?_⟩
              apply Array.ext (by simpa using htwo)
              intro i h1 h2
              have : i = 0 ∨ i = 1 := by omega
              rcases this with rfl | rfl <;> rfl
            refine run_builtin _ _ fun cs => ?_
            rw [arg2 hx]
            exact appendS_good h hT hdst (hrd _ x) (hrd _ y)
        | true =>
        simp only [cond_true]
        have hat : ∃ t, argTypes = #[t, t] := by
          have h2 := hsame
          unfold same2 at h2
          split at h2
          · rename_i t u he
            have := nbeq_eq h2; subst this
            exact ⟨t, Array.ext' (by simpa using he)⟩
          · cases h2
        obtain ⟨t, rfl⟩ := hat
        refine run_builtin _ _ fun cs => ?_
        rw [arg2 hx]
        split
        · rename_i ef hef
          exact appendO_good h hT (Nat.le_of_ble_eq_true hb.2) hdst (hrd _ x) (hrd _ y) hef
        · exact append_good h hT (Nat.le_of_ble_eq_true hb.2) hdst (hrd _ x) (hrd _ y)
    · rename_i x hx
      split
      · rename_i k e hv hty
        split
        · rename_i e' sz xs hk
          refine run_builtin _ _ fun cs => ?_
          rw [arg1 hx]
          rw [hT.ty] at hty
          exact sliceData_good h hty hk (by rw [← hv]; exact hrd _ x)
        · trivial
      · rename_i z e hv hty
        refine run_builtin _ _ fun cs => ?_
        rw [arg1 hx]
        have h1 : a.eval x = .slice none 0 0 := by
          have := hrd (C.ty (argTypes.getD 0 0)) x
          rw [hv] at this; exact this
        rw [h1]
        exact .same h fun _ => ⟨.pointer none, by simp [builtin, Lib.run_unsafeSliceData_nil], V.nil, rfl⟩
      · trivial
    · rename_i x y hx
      have two : Nat.beq argTypes.size 2 = true → ∃ t tu, argTypes = #[t, tu] := fun htwo => by
        have htwo := nbeq_eq htwo
        refine ⟨argTypes[0], argTypes[1], ?_⟩
        apply Array.ext (by simpa using htwo)
        intro i h1 h2
        have : i = 0 ∨ i = 1 := by omega
        rcases this with rfl | rfl <;> rfl
      split
      · rename_i k m e hv1 hv2 hty
        split
        · rename_i e' sz xs hk hte
          cases hb : (guarded || !Nat.beq e e' || !Nat.beq sz 1 || !Nat.beq argTypes.size 2 || !Nat.blt e MK) with
          | true => trivial
          | false =>
            simp only [Bool.or_eq_false_iff, Bool.not_eq_false'] at hb
            obtain ⟨⟨⟨⟨_, h1⟩, h2⟩, h3⟩, h4⟩ := hb
            have h1 := nbeq_eq h1
            have h2 := nbeq_eq h2
            have hMK : e < MK := Nat.le_of_ble_eq_true h4
            subst h1; subst h2
            obtain ⟨t, tu, rfl⟩ := two h3
            simp only [cond_false]
            refine run_builtin _ _ fun cs => ?_
            rw [arg2 hx]
            rw [hT.ty] at hty hte
            exact unsafeString_good h hMK (by simpa using hty) hte hk (by rw [← hv1]; exact hrd _ x) (by rw [← hv2]; exact hrd _ y)
        · trivial
      · rename_i m e hv1 hv2 hty
        cases h3 : Nat.beq argTypes.size 2 with
        | false => trivial
        | true =>
          obtain ⟨t, tu, rfl⟩ := two h3
          simp only [Bool.not_true, cond_false]
          refine run_builtin _ _ fun cs => ?_
          rw [arg2 hx]
          exact unsafeString_nil h (by rw [← hv1]; exact hrd _ x) (by rw [← hv2]; exact hrd _ y)
      · trivial
    · rename_i args' f
      cases hext : Nat.beq (C.ext f) 1 with
      | true =>
        simp only [cond_true]
        split
        · rename_i k o hargs
          obtain ⟨x, hxl, hxv⟩ : ∃ x, args.toList = [x] ∧ opd s gs .oth x = .ptr k o := by
            cases hl : args.toList with
            | nil => rw [hl] at hargs; cases hargs
            | cons x r => cases r with
              | nil => rw [hl] at hargs; simp only [List.map_cons, List.map_nil, List.cons.injEq, and_true] at hargs; exact ⟨x, rfl, hargs⟩
              | cons y r => rw [hl] at hargs; simp at hargs
          refine .same h fun _ => ⟨a.eval x, ?_, by rw [← hxv]; exact hrd _ x, rfl⟩
          have := hT.ext1 f hext (a.eval x) w
          simp only [resolve, Act.eval, Deferred.ofValue, invoke, Sem.run_bind, Sem.run_pure, Result.andThen_ok, Array.append_empty]
          rw [arg1 hxl]
          exact this
        · trivial
      | false =>
      simp only [cond_false]
      split
      · rename_i sp ds hsp hds
        cases hc : (scalarR C (C.ty type) || (vecsOf (args.toList.map (opd s gs .oth))).isEmpty) with
        | false => trivial
        | true =>
          simp only [cond_true]
          exact call_good h hC (fun x => hrd .oth x) hsp hds hc rfl
      · trivial
    · trivial

end Go.Ev
