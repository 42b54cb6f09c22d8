/- The evaluator 'Ev': a region that draws its order. -/
import Derived.Test.YtollfgfhepjfkaaDoorEv14h
namespace Go.Ev
open Go Go.RowKit

variable {P : Program} {n : Nat} {w0 : Base P} {S0 S : Snap} {E : Nat → Value} {s : A} {a : Act} {w : World}

/-! ### less is told -/
theorem memN_iff {l : List Nat} {i : Nat} : memN l i = true ↔ i ∈ l := by
  unfold memN
  rw [List.any_eq_true]
  constructor
  · rintro ⟨j, hj, hb⟩
    have := nbeq_eq hb; subst this; exact hj
  · intro h; exact ⟨i, h, Nat.beq_refl i⟩
theorem meets_iff {a b : List Nat} : meets a b = true ↔ ∃ i, i ∈ a ∧ i ∈ b := by
  unfold meets
  rw [List.any_eq_true]
  exact ⟨fun ⟨j, h1, h2⟩ => ⟨j, h1, memN_iff.1 h2⟩, fun ⟨j, h1, h2⟩ => ⟨j, h1, memN_iff.2 h2⟩⟩
theorem meets_not {a b : List Nat} (h : meets a b = false) : ∀ i, i ∈ a → i ∈ b → False := fun i h1 h2 => by
  have := meets_iff.2 ⟨i, h1, h2⟩
  rw [h] at this; cases this

def Ob.refs (d : Nat) (o : Ob) : Bool := o.ts.any (T.refs d)
theorem refs_site {d : Nat} : ∀ {t : T}, t.refs d = true → d ∈ t.site
  | .ptr j _, h => by simp only [T.refs] at h; simp [T.site, nbeq_eq h]
  | .ptrA j _ _ _ _ _, h => by simp only [T.refs] at h; simp [T.site, nbeq_eq h]
  | .vec j, h => by simp only [T.refs] at h; simp [T.site, nbeq_eq h]
  | .sd j, h => by simp only [T.refs] at h; simp [T.site, nbeq_eq h]
  | .vptr j _ _ _, h => by simp only [T.refs] at h; simp [T.site, nbeq_eq h]
  | .g _ _ t, h => refs_site (t := t) h
  | .undef, h => by simp [T.refs] at h
  | .d _, h => by simp [T.refs] at h
  | .nils _, h => by simp [T.refs] at h
  | .ptrS _ _, h => by simp [T.refs] at h
  | .fn _, h => by simp [T.refs] at h
theorem ob_refs_site {d : Nat} {o : Ob} (h : o.refs d = true) : d ∈ o.site := by
  obtain ⟨c, hc, hr⟩ := List.any_eq_true.1 h
  exact List.mem_flatMap.2 ⟨c, hc, refs_site hr⟩
theorem mapT_ts (f : T → T) (o : Ob) : (o.mapT f).ts = o.ts.map f := by cases o <;> rfl
theorem kill_noop {d : Nat} {o : Ob} (h : o.refs d = false) : o.kill d = o := by
  have h1 : ∀ c ∈ o.ts, c.kill d = c := fun c hc => by
    unfold Ob.refs at h
    rw [List.any_eq_false] at h
    have := h c hc
    simp [T.kill, this]
  unfold Ob.kill
  cases o <;> simp only [Ob.mapT, Ob.ts] at h1 ⊢ <;> congr 1 <;> exact (List.map_congr_left h1).trans (List.map_id' _)
theorem kill_ts {d : Nat} (o : Ob) : (o.kill d).refs d = false := by
  unfold Ob.refs Ob.kill
  rw [mapT_ts, List.any_map, List.any_eq_false]
  intro c _
  simp [Function.comp, kill_refs]
structure Wk (s' s : A) : Prop where
  tm : ∀ j x, look s'.tm j = some x → x = .undef ∨ look s.tm j = some x
  ob : ∀ j o, look s'.ob j = some o → ∃ o', look s.ob j = some o' ∧ ∀ d, o.refs d = true → o'.refs d = true
theorem Wk.refl (s : A) : Wk s s := ⟨fun _ _ h => .inr h, fun _ o h => ⟨o, h, fun _ h => h⟩⟩
theorem Wk.trans {s s' s'' : A} (h : Wk s'' s') (h' : Wk s' s) : Wk s'' s := by
  refine ⟨fun j x hx => ?_, fun j o ho => ?_⟩
  · rcases h.tm j x hx with h1 | h1
    · exact .inl h1
    · exact h'.tm j x h1
  · obtain ⟨o', h1, h2⟩ := h.ob j o ho
    obtain ⟨o'', h3, h4⟩ := h'.ob j o' h1
    exact ⟨o'', h3, fun d hd => h4 d (h2 d hd)⟩
theorem wk_drop (s : A) (d : Nat) : Wk ⟨dropG d s.tm, s.ob⟩ s := by
  refine ⟨fun j x hx => ?_, fun j o ho => ⟨o, ho, fun _ h => h⟩⟩
  simp only [look_dropG, Option.map_eq_some_iff] at hx
  obtain ⟨y, hy, rfl⟩ := hx
  cases y with
  | g t b y =>
    simp only [T.unG]
    cases Nat.beq t d
    · exact .inr hy
    · exact .inl rfl
  | _ => exact .inr hy
theorem wk_kill (s : A) (d : Nat) : Wk (s.kill d) s := by
  refine ⟨fun j x hx => ?_, fun j o ho => ?_⟩
  · simp only [A.kill, look_map, Option.map_eq_some_iff] at hx
    obtain ⟨y, hy, rfl⟩ := hx
    unfold T.kill
    cases y.refs d
    · exact .inr hy
    · exact .inl rfl
  · simp only [A.kill, look_map, look_drop, Option.map_eq_some_iff] at ho
    obtain ⟨y, hy, rfl⟩ := ho
    split at hy
    · cases hy
    · refine ⟨y, hy, fun k hk => ?_⟩
      unfold Ob.kill Ob.refs at *
      rw [mapT_ts, List.any_map] at hk
      obtain ⟨c, hc, hr⟩ := List.any_eq_true.1 hk
      refine List.any_eq_true.2 ⟨c, hc, ?_⟩
      simp only [Function.comp, T.kill] at hr
      cases hd : c.refs d
      · rw [hd] at hr; exact hr
      · rw [hd] at hr; simp [T.refs] at hr

theorem Rel.weak (h : Rel n w0 S0 S E s a w) {tm' : List (Nat × T)} (ht : ∀ t x, look tm' t = some x → x = .undef ∨ look s.tm t = some x) : Rel n w0 S0 S E ⟨tm', s.ob⟩ a w := by
  refine ⟨h.defers, h.size, fun t x hx => ?_, fun t x hx => ?_, h.le, h.new, h.inn, h.ob, h.sep, h.below, h.own, h.high⟩
  · rcases ht t x hx with rfl | h1
    · rfl
    · exact h.thin t x h1
  · rcases ht t x hx with rfl | h1
    · trivial
    · exact h.tm t x h1
theorem Rel.preD : ∀ (ops : List Oper) {s : A}, Rel n w0 S0 S E s a w → Rel n w0 S0 S E (preD s ops) a w
  | [], _, h => h
  | o :: r, s, h => by
    unfold Ev.preD
    split
    · rename_i d hd
      have h1 : Rel n w0 S0 S E ⟨dropG d s.tm, s.ob⟩ a w := h.weak (wk_drop s d).tm
      cases isMaker o.op with
      | true => exact Rel.preD r (h1.kill d)
      | false => exact Rel.preD r h1
    · exact Rel.preD r h

/-- nothing is guarded by d; nothing leads to d. -/
def NoG (s : A) (d : Nat) : Prop := ∀ j t b x, look s.tm j = some (.g t b x) → t ≠ d
structure NoRef (s : A) (d : Nat) : Prop where
  tm : ∀ j x, look s.tm j = some x → x.refs d = false
  ob : ∀ j o, look s.ob j = some o → o.refs d = false
  no : look s.ob d = none
theorem NoG.weak {s s' : A} {d : Nat} (h : NoG s d) (hw : Wk s' s) : NoG s' d := fun j t b x hx => by
  rcases hw.tm j _ hx with h1 | h1
  · cases h1
  · exact h j t b x h1
theorem NoRef.weak {s s' : A} {d : Nat} (h : NoRef s d) (hw : Wk s' s) : NoRef s' d := by
  refine ⟨fun j x hx => ?_, fun j o ho => ?_, ?_⟩
  · rcases hw.tm j x hx with rfl | h1
    · rfl
    · exact h.tm j x h1
  · obtain ⟨o', h1, h2⟩ := hw.ob j o ho
    cases hr : o.refs d with
    | false => rfl
    | true => have := h.ob j o' h1; rw [h2 d hr] at this; cases this
  · cases hl : look s'.ob d with
    | none => rfl
    | some o => obtain ⟨o', h1, _⟩ := hw.ob d o hl; rw [h.no] at h1; cases h1
theorem wk_preD : ∀ (ops : List Oper) (s : A), Wk (preD s ops) s
  | [], s => Wk.refl s
  | o :: r, s => by
    unfold preD
    split
    · rename_i d hd
      refine (wk_preD r _).trans ?_
      cases isMaker o.op with
      | true => exact (wk_kill _ d).trans (wk_drop s d)
      | false => exact wk_drop s d
    · exact wk_preD r s
theorem preD_clean : ∀ (ops : List Oper) (s : A) (o : Oper), o ∈ ops → ∀ d, o.dst = some d → NoG (preD s ops) d ∧ (isMaker o.op = true → NoRef (preD s ops) d)
  | [], _, o, h, _, _ => by cases h
  | p :: r, s, o, h, d, hd => by
    rcases List.mem_cons.1 h with rfl | h1
    · unfold preD
      rw [hd]
      simp only []
      have hg : NoG (⟨dropG d s.tm, s.ob⟩ : A) d := by
        intro j t b x hx e
        subst e
        simp only [look_dropG, Option.map_eq_some_iff] at hx
        obtain ⟨y, hy, hyx⟩ := hx
        cases y with
        | g t' b' y' =>
          simp only [T.unG] at hyx
          cases hb : Nat.beq t' t with
          | true => rw [hb] at hyx; cases hyx
          | false => rw [hb] at hyx; cases hyx; simp at hb
        | _ => cases hyx
      refine ⟨?_, fun hm => ?_⟩
      · cases isMaker o.op with
        | true => exact NoG.weak hg ((wk_preD r _).trans (wk_kill _ d))
        | false => exact NoG.weak hg (wk_preD r _)
      · rw [hm]
        simp only [cond_true]
        refine NoRef.weak ?_ (wk_preD r _)
        refine ⟨fun j x hx => ?_, fun j ob ho => ?_, by simp [A.kill, look_map, look_drop]⟩
        · simp only [A.kill, look_map, Option.map_eq_some_iff] at hx
          obtain ⟨y, _, rfl⟩ := hx
          exact kill_refs d y
        · simp only [A.kill, look_map, look_drop, Option.map_eq_some_iff] at ho
          obtain ⟨y, _, rfl⟩ := ho
          exact kill_ts y
    · unfold preD
      split
      · exact preD_clean r _ o h1 d hd
      · exact preD_clean r _ o h1 d hd

/-! ### one operation -/
theorem look_pick {α : Type} (l : List (Nat × α)) : ∀ (ts : List Nat) (j : Nat), look (ts.filterMap fun t => (look l t).map fun x => (t, x)) j = if j ∈ ts then look l j else none
  | [], j => by simp [look]
  | t :: ts, j => by
    simp only [List.filterMap_cons]
    cases h : look l t with
    | none =>
      simp only [Option.map_none, look_pick l ts j]
      by_cases hj : j = t
      · subst hj; simp [h]
      · simp [hj]
    | some x =>
      simp only [Option.map_some, look_cons, look_pick l ts j]
      by_cases hj : j = t
      · subst hj; simp [h]
      · simp [hj]
theorem Rel.pick (h : Rel n w0 S0 S E s a w) (ts ks : List Nat) : Rel n w0 S0 S E (s.pickOut ts ks) a w := by
  refine h.less (fun t x hx => ?_) (fun k o ho => ?_)
  · simp only [A.pickOut, look_pick] at hx
    split at hx
    · exact hx
    · cases hx
  · simp only [A.pickOut, look_pick] at ho
    split at ho
    · exact ho
    · cases ho

/-- two states agree where entry e looks. -/
structure Agree (e : Lg) (s s' : A) : Prop where
  tm : ∀ t, t ∈ e.rt → look s.tm t = look s'.tm t
  ob : ∀ k, k ∈ e.ro → look s.ob k = look s'.ob k
structure Cln (e : Lg) (s : A) : Prop where
  g : ∀ d t, e.wt = some (d, t) → NoG s d
  nr : ∀ d, d ∈ e.made → NoRef s d

theorem pick_congr {s s' : A} {ts ks : List Nat} (h1 : ∀ t, t ∈ ts → look s.tm t = look s'.tm t) (h2 : ∀ k, k ∈ ks → look s.ob k = look s'.ob k) : s.pickOut ts ks = s'.pickOut ts ks := by
  have key : ∀ {α : Type} (l l' : List (Nat × α)) (ts : List Nat), (∀ t, t ∈ ts → look l t = look l' t) → ts.filterMap (fun t => (look l t).map fun x => (t, x)) = ts.filterMap (fun t => (look l' t).map fun x => (t, x)) := by
    intro α l l' ts
    induction ts with
    | nil => intro _; rfl
    | cons t ts ih =>
      intro h
      simp only [List.filterMap_cons, h t (by simp), ih (fun t' ht' => h t' (by simp [ht']))]
  unfold A.pickOut
  rw [key _ _ _ h1, key _ _ _ h2]

theorem app_tm (e : Lg) (s : A) (t : Nat) : look (e.app s).tm t = (match e.wt with | some (d, x) => if t = d then some x else look s.tm t | none => look s.tm t) := by
  unfold Lg.app
  cases e.wt with
  | none => rfl
  | some p => simp [look_put]
theorem look_appW (l : List (Nat × Ob)) (k : Nat) : ∀ (ws : List (Nat × Option Ob)), look (appW l ws) k = (match look ws k with | some y => y | none => look l k)
  | [] => rfl
  | (j, some o) :: r => by
    simp only [appW, look_put, look_cons]
    by_cases h : k = j
    · simp [h]
    · rw [if_neg h, if_neg h]; exact look_appW l k r
  | (j, none) :: r => by
    simp only [appW, look_drop, look_cons]
    by_cases h : k = j
    · simp [h]
    · rw [if_neg h, if_neg h]; exact look_appW l k r
theorem app_ob (e : Lg) (s : A) (k : Nat) : look (e.app s).ob k = (match look e.wo k with | some y => y | none => look s.ob k) := look_appW s.ob k e.wo
theorem look_key {α : Type} {l : List (Nat × α)} {k : Nat} {x : α} (h : look l k = some x) : k ∈ l.map (·.1) := by
  induction l with
  | nil => simp [look] at h
  | cons p r ih =>
    obtain ⟨j, y⟩ := p
    rw [look_cons] at h
    by_cases hk : k = j
    · simp [hk]
    · rw [if_neg hk] at h; simp [ih h]

theorem unG_id {d : Nat} {x : T} (h : ∀ t b y, x = .g t b y → t ≠ d) : x.unG d = x := by
  cases x with
  | g t b y => simp only [T.unG]; rw [nbeq_ne (h t b y rfl)]; rfl
  | _ => rfl
/-- a temporary is written, nothing being guarded by it -/
theorem set_less {s' : A} {dst : Option Nat} {t : T} {e : Lg} (h : Rel n w0 S0 S E (s'.set dst t) a w) (hw : e.wt = match (generalizing := false) dst with | some d => some (d, t) | none => none) (htm : ∀ j, look s'.tm j = look s.tm j) (hob : ∀ k, look (e.app s).ob k = look s'.ob k)
    (hc : ∀ d t, e.wt = some (d, t) → NoG s d) : Rel n w0 S0 S E (e.app s) a w := by
  refine h.less (fun j x hx => ?_) (fun k o ho => ?_)
  · rw [app_tm, hw] at hx
    cases dst with
    | none => simp only [A.set]; rw [htm]; exact hx
    | some d =>
      simp only [A.set, look_put, look_dropG] at hx ⊢
      split at hx
      · rename_i hj; rw [if_pos hj]; exact hx
      · rename_i hj
        rw [if_neg hj, htm, hx]
        simp only [Option.map_some]
        rw [unG_id (fun t' b y hxy => hc d t hw j t' b y (by rw [hx, hxy]))]
  · rw [hob] at ho
    cases dst <;> exact ho

/-- where the guard does not hold -/
theorem entry_skip {C : Cfg} {o : Oper} {g : Guard} {ops : Array Oper} (hg : guardOf ops.toList o = some g) (hdst : okDst C o.dst g = true) {e : Lg} {t : T} (hb : t.bare = true) (hw : e.wt = match (generalizing := false) o.dst with | some d => some (d, wrapG g t) | none => none) (hwo : e.wo = [])
    (h : Rel C.n w0 S0 S E s a w) (hc : ∀ d t, e.wt = some (d, t) → NoG s d) (hng : ¬ GuardOk (frameOf a) g) : Rel C.n w0 S0 S E (e.app s) (a.put o.dst undef) w := by
  cases g with
  | none => exact absurd trivial hng
  | some p =>
    refine set_less (s' := s) (t := wrapG (some p) t) (dst := o.dst) ?_ hw (fun _ => rfl) (fun k => by rw [app_ob, hwo]; rfl) hc
    refine h.setO (fun d hd => (okDst_lt hdst d hd).1) (wrapG_thin hb) fun d hd => ?_
    have h1 : ¬ GuardOk (frameOf (a.put (some d) undef)) (some p) := fun hcc => hng ((guard_put h.size hdst undef hd).1 hcc)
    exact wrapG_skip h1

theorem wrap_site {g : Guard} {t : T} {k : Nat} (h : (wrapG g t).refs k = true) : t.refs k = true := by
  cases g <;> exact h
theorem wrap_g {g : Guard} {t : T} {t' : Nat} {b : Bool} {x : T} (hb : t.bare = true) (h : wrapG g t = .g t' b x) : g = some (t', b) := by
  cases g with
  | none => simp only [wrapG] at h; subst h; simp [T.bare] at hb
  | some p => obtain ⟨p1, p2⟩ := p; simp only [wrapG, T.g.injEq] at h; obtain ⟨h1, h2, _⟩ := h; subst h1; subst h2; rfl
theorem memG {gt : List Nat} {g : Guard} (h : (match g with | some p => memN gt p.1 | none => true) = true) {t : Nat} {b : Bool} (hg : g = some (t, b)) : t ∈ gt := by
  subst hg; exact memN_iff.1 h

theorem entry_step1 {C : Cfg} (hT : Told P C) (hC : Calling P C) {ops : Array Oper} {o : Oper} {g : Guard} (hg : guardOf ops.toList o = some g) {rt gt ro bel : List Nat} {s1 : A} {ρ : Type} {K : Lg → Option ρ} {r : ρ}
    (he : entryD1 C std o g rt gt ro bel (s1.pickOut rt ro) K = some r) :
    ∃ e, K e = some r ∧ e.rt = rt ∧ e.gt = gt ∧ e.below = bel ∧ (∀ d t, e.wt = some (d, t) → o.dst = some d ∧ (∀ k, t.refs k = true → k ∈ e.ro) ∧ ∀ t' b x, t = .g t' b x → t' ∈ gt) ∧ (∀ k b, look e.wo k = some (some b) → ∀ d, b.refs d = true → d ∈ e.ro) ∧
      (∀ d, d ∈ e.made → isMaker o.op = true ∧ o.dst = some d ∧ d ∈ e.ks) ∧ ∀ {w0 : Base P} {S0 S : Snap} {E : Nat → Value} {s : A} {a : Act} {w : World} (_ : Rel C.n w0 S0 S E s a w), Agree e s s1 → Cln e s →
      ∀ {N : Act → World → Prop} {Q : Exit → Act → World → Prop}, (∀ S' E' a' w', Rel C.n w0 S0 S' E' (e.app s) a' w' → N a' w') → if Region.wanted o (yielded ops a.tmps) then o.wp P a w N Q else N (a.put o.dst undef) w := by
  unfold entryD1 at he
  dsimp only [std] at he
  obtain ⟨hd0, he⟩ := bif_some he
  simp only [Bool.and_eq_true] at hd0
  obtain ⟨hdst, hgm⟩ := hd0
  have hlt := fun d hd => (okDst_lt hdst d hd).1
  -- what the operation does at what it looks at
  have good : ∀ {e : Lg}, e.rt = rt → (∀ k, k ∈ ro → k ∈ e.ro) → ∀ {w0 : Base P} {S0 S : Snap} {E : Nat → Value} {s : A} {a : Act} {w : World} (_ : Rel C.n w0 S0 S E s a w), Agree e s s1 → GuardOk (frameOf a) g →
      gval (s1.pickOut rt ro) 9 g = true ∧ Good P C.n w0 S0 S E (s1.pickOut rt ro) a w (execOp a.eval o) (effOp C o (s1.pickOut rt ro) (fun more ty x => opd (s1.pickOut rt ro) (more ++ ups (s1.pickOut rt ro) 9 g) ty x) g.isSome) := by
    intro e hrt hro w0 S0 S E s a w h hag hgd
    have hv : s.pickOut rt ro = s1.pickOut rt ro := pick_congr (fun t ht => hag.tm t (by rw [hrt]; exact ht)) (fun k hk => hag.ob k (hro k hk))
    have hr := h.pick rt ro
    rw [hv] at hr
    exact ⟨gval_ok hr 9 g hgd, effOp_good hr hT hC o (ups_ok hr 9 g hgd) g.isSome (fun d hd => lt_HB (okDst_H hdst d hd))⟩
  split at he
  · rename_i c t heff
    obtain ⟨hb, he⟩ := bif_some he
    obtain ⟨hc, hK⟩ := chk_some he
    refine ⟨_, hK, rfl, rfl, rfl, ?_, ?_, ?_, ?_⟩
    · intro d t' hw
      cases hod : o.dst with
      | none => rw [hod] at hw; cases hw
      | some d' =>
        rw [hod] at hw
        simp only [Option.some.injEq, Prod.mk.injEq] at hw
        obtain ⟨rfl, rfl⟩ := hw
        exact ⟨rfl, fun k hk => List.mem_append_left _ (refs_site (wrap_site hk)), fun t' b x hx => memG hgm (wrap_g hb hx)⟩
    · intro k b hk; simp [look] at hk
    · intro d hm; cases hm
    · intro w0 S0 S E s a w h hag hcl N Q hN
      by_cases hgd : GuardOk (frameOf a) g
      · rw [if_pos ((wanted_guard hg).2 hgd)]
        obtain ⟨hgv, hgood⟩ := good (e := ⟨rt, gt, t.site ++ ro, _, [], [], bel⟩) rfl (fun k hk => List.mem_append_right _ hk) h hag hgd
        rw [heff] at hgood
        obtain ⟨v, w', S', hr, hgr, htv, _⟩ := hgood (orG_true hc hgv)
        unfold Oper.wp
        rw [hr, Oper.upon_value]
        refine hN S' E _ _ (set_less (s' := s) (t := wrapG g t) (dst := o.dst) ?_ rfl (fun _ => rfl) (fun k => rfl) hcl.g)
        exact (h.grew hgr).setO hlt (wrapG_thin hb) fun d hd => wrapG_tv ((guard_put h.size hdst v hd).2 hgd) hb (TV.tm (tm' := frameOf a) hb htv)
      · rw [if_neg (fun e => hgd ((wanted_guard hg).1 e))]
        exact hN S E _ _ (entry_skip hg hdst hb rfl rfl h hcl.g hgd)
  · rename_i c k b t heff
    obtain ⟨hgn, he⟩ := bif_none he
    obtain ⟨hc, hK⟩ := chk_some he
    simp only [Bool.or_eq_false_iff, Bool.not_eq_false'] at hgn
    obtain ⟨hgn, htb0⟩ := hgn
    have hg0 : g = none := by cases g with | none => rfl | some p => simp at hgn
    refine ⟨_, hK, rfl, rfl, rfl, ?_, ?_, ?_, ?_⟩
    · intro d t' hw
      cases hod : o.dst with
      | none => rw [hod] at hw; cases hw
      | some d' =>
        rw [hod] at hw
        simp only [Option.some.injEq, Prod.mk.injEq] at hw
        obtain ⟨rfl, rfl⟩ := hw
        exact ⟨rfl, fun k hk => List.mem_append_left _ (refs_site hk), fun t' b x hx => by
          subst hx; simp [T.bare] at htb0⟩
    · intro k' b' hk d hd
      simp only [look_cons] at hk
      split at hk
      · simp only [Option.some.injEq] at hk
        subst hk
        exact List.mem_append_right _ (List.mem_append_left _ (ob_refs_site hd))
      · simp [look] at hk
    · intro d hm; cases hm
    · intro w0 S0 S E s a w h hag hcl N Q hN
      have hgd : GuardOk (frameOf a) g := by rw [hg0]; trivial
      rw [if_pos ((wanted_guard hg).2 hgd)]
      obtain ⟨hgv, hgood⟩ := good (e := ⟨rt, gt, t.site ++ (b.site ++ ro), _, [(k, some b)], [], bel⟩) rfl (fun k hk => List.mem_append_right _ (List.mem_append_right _ hk)) h hag hgd
      rw [heff] at hgood
      obtain ⟨nx, v, w', hr, hnx, hk, hch, hov, htv, htb⟩ := hgood hc
      obtain ⟨ob, hob⟩ := Option.isSome_iff_exists.1 hk
      have hob' : look s.ob k = some ob := by
        have hv : s.pickOut rt ro = s1.pickOut rt ro := pick_congr (fun t ht => hag.tm t ht) (fun k hk => hag.ob k (List.mem_append_right _ (List.mem_append_right _ hk)))
        rw [← hv] at hob
        simp only [A.pickOut, look_pick] at hob
        split at hob
        · exact hob
        · cases hob
      have hrel := h.chg hob' hch hov
      unfold Oper.wp
      have fin : ∀ v, TV S E (frameOf a) v t → Rel C.n w0 S0 S E (Lg.app s ⟨rt, gt, t.site ++ (b.site ++ ro), match o.dst with | some d => some (d, t) | none => none, [(k, some b)], [], bel⟩) (a.put o.dst v) w' := fun v hv =>
        set_less (s' := ⟨s.tm, put s.ob k b⟩) (t := t) (dst := o.dst) (hrel.setO hlt (bare_thin htb) fun d hd => TV.tm htb hv) rfl (fun _ => rfl) (fun _ => rfl) hcl.g
      rcases hnx with rfl | ⟨rfl, rfl⟩
      · rw [hr, Oper.upon_value]; exact hN S E _ _ (fin v htv)
      · rw [hr, Oper.upon_skip]; exact hN S E _ _ (fin undef htv)
  · rename_i c d b t heff
    obtain ⟨hgn, he⟩ := bif_none he
    obtain ⟨hc, hK⟩ := chk_some he
    simp only [Bool.or_eq_false_iff, Bool.not_eq_false'] at hgn
    obtain ⟨⟨⟨hgn, htb⟩, hmk⟩, hdd⟩ := hgn
    have hg0 : g = none := by cases g with | none => rfl | some p => simp at hgn
    have hod : o.dst = some d := by
      cases hod : o.dst with
      | none => rw [hod] at hdd; have := nbeq_eq hdd; simp at this
      | some d' => rw [hod] at hdd; have := nbeq_eq hdd; simp at this; rw [this]
    refine ⟨_, hK, rfl, rfl, rfl, ?_, ?_, ?_, ?_⟩
    · intro d' t' hw
      rw [hod] at hw
      simp only [Option.some.injEq, Prod.mk.injEq] at hw
      obtain ⟨rfl, rfl⟩ := hw
      exact ⟨hod, fun k hk => List.mem_append_left _ (refs_site hk), fun t' b' x hx => by
        subst hx; simp [T.bare] at htb⟩
    · intro k' b' hk d' hd
      simp only [look_cons] at hk
      split at hk
      · simp only [Option.some.injEq] at hk
        subst hk
        exact List.mem_append_right _ (List.mem_append_left _ (ob_refs_site hd))
      · simp [look] at hk
    · intro d' hd'
      simp only [List.mem_singleton] at hd'
      subst hd'
      exact ⟨hmk, hod, by simp [Lg.ks]⟩
    · intro w0 S0 S E s a w h hag hcl N Q hN
      have hgd : GuardOk (frameOf a) g := by rw [hg0]; trivial
      rw [if_pos ((wanted_guard hg).2 hgd)]
      obtain ⟨hgv, hgood⟩ := good (e := ⟨rt, gt, t.site ++ (b.site ++ ro), _, [(d, some b)], [d], bel⟩) rfl (fun k hk => List.mem_append_right _ (List.mem_append_right _ hk)) h hag hgd
      rw [heff] at hgood
      obtain ⟨hdH, v, w', hr, hm, htv, hb⟩ := hgood hc
      unfold Oper.wp
      rw [hr, Oper.upon_value]
      have hnr := hcl.nr d (by simp)
      refine hN S _ _ _ (set_less (s' := s.new d b) (t := t) (dst := o.dst) ((h.made hdH hm).setO hlt (bare_thin hb) fun d hd => TV.tm hb htv) rfl (fun j => ?_) (fun k => ?_) hcl.g)
      · simp only [A.new, A.kill, look_map]
        cases hl : look s.tm j with
        | none => rfl
        | some x => simp [T.kill, hnr.tm j x hl]
      · rw [app_ob]
        simp only [A.new, A.kill, look_cons, look_map, look_drop]
        by_cases hkd : k = d
        · simp [hkd]
        · simp only [if_neg hkd, look]
          cases hl : look s.ob k with
          | none => rfl
          | some x =>
            have hx := hnr.ob k x hl
            simp [kill_noop hx]
  · rename_i c d k0 b t heff
    obtain ⟨hgn, he⟩ := bif_none he
    obtain ⟨hc, hK⟩ := chk_some he
    simp only [Bool.or_eq_false_iff, Bool.not_eq_false'] at hgn
    obtain ⟨⟨⟨hgn, htb⟩, hmk⟩, hdd⟩ := hgn
    have hg0 : g = none := by cases g with | none => rfl | some p => simp at hgn
    have hod : o.dst = some d := by
      cases hod : o.dst with
      | none => rw [hod] at hdd; have := nbeq_eq hdd; simp at this
      | some d' => rw [hod] at hdd; have := nbeq_eq hdd; simp at this; rw [this]
    refine ⟨_, hK, rfl, rfl, rfl, ?_, ?_, ?_, ?_⟩
    · intro d' t' hw
      rw [hod] at hw
      simp only [Option.some.injEq, Prod.mk.injEq] at hw
      obtain ⟨rfl, rfl⟩ := hw
      exact ⟨hod, fun k hk => List.mem_append_left _ (refs_site hk), fun t' b' x hx => by
        subst hx; simp [T.bare] at htb⟩
    · intro k' b' hk d' hd
      simp only [look_cons] at hk
      split at hk
      · simp only [Option.some.injEq] at hk
        subst hk
        exact List.mem_append_right _ (List.mem_append_left _ (ob_refs_site hd))
      · split at hk
        · simp at hk
        · simp [look] at hk
    · intro d' hd'
      simp only [List.mem_singleton] at hd'
      subst hd'
      exact ⟨hmk, hod, by simp [Lg.ks]⟩
    · intro w0 S0 S E s a w h hag hcl N Q hN
      have hgd : GuardOk (frameOf a) g := by rw [hg0]; trivial
      rw [if_pos ((wanted_guard hg).2 hgd)]
      obtain ⟨hgv, hgood⟩ := good (e := ⟨rt, gt, t.site ++ (b.site ++ ro), _, [(d, some b), (k0, none)], [d], bel⟩) rfl (fun k hk => List.mem_append_right _ (List.mem_append_right _ hk)) h hag hgd
      rw [heff] at hgood
      obtain ⟨hdH, v, w', hr, hk0, hm, htv, hb⟩ := hgood hc
      have hk0' : (look s.ob k0).isSome = true := by
        obtain ⟨ob, hob⟩ := Option.isSome_iff_exists.1 hk0
        have hv : s.pickOut rt ro = s1.pickOut rt ro := pick_congr (fun t ht => hag.tm t ht) (fun k hk => hag.ob k (List.mem_append_right _ (List.mem_append_right _ hk)))
        rw [← hv] at hob
        simp only [A.pickOut, look_pick] at hob
        split at hob
        · simp [hob]
        · cases hob
      unfold Oper.wp
      rw [hr, Oper.upon_value]
      have hnr := hcl.nr d (by simp)
      refine hN S _ _ _ (set_less (s' := (⟨s.tm, drop k0 s.ob⟩ : A).new d b) (t := t) (dst := o.dst) ((h.moved hdH hk0' hm).setO hlt (bare_thin hb) fun d hd => TV.tm hb htv) rfl (fun j => ?_) (fun k => ?_) hcl.g)
      · simp only [A.new, A.kill, look_map]
        cases hl : look s.tm j with
        | none => rfl
        | some x => simp [T.kill, hnr.tm j x hl]
      · rw [app_ob]
        simp only [A.new, A.kill, look_cons, look_map, look_drop]
        by_cases hkd : k = d
        · simp [hkd]
        · simp only [if_neg hkd, look_cons, look]
          by_cases hkk : k = k0
          · simp [hkk]
          simp only [if_neg hkk]
          cases hl : look s.ob k with
          | none => rfl
          | some x =>
            have hx := hnr.ob k x hl
            simp [kill_noop hx]
  · rename_i c p1 ok nf heff
    obtain ⟨hc, hK⟩ := chk_some he
    refine ⟨_, hK, rfl, rfl, rfl, ?_, ?_, ?_, ?_⟩
    · intro d t' hw
      cases hod : o.dst with
      | none => rw [hod] at hw; cases hw
      | some d' =>
        rw [hod] at hw
        simp only [Option.some.injEq, Prod.mk.injEq] at hw
        obtain ⟨rfl, rfl⟩ := hw
        exact ⟨rfl, fun k hk => by have := wrap_site hk; simp [T.refs] at this, fun t' b x hx => memG hgm (wrap_g (t := .d _) rfl hx)⟩
    · intro k b hk; simp [look] at hk
    · intro d hm; cases hm
    · intro w0 S0 S E s a w h hag hcl N Q hN
      by_cases hgd : GuardOk (frameOf a) g
      · rw [if_pos ((wanted_guard hg).2 hgd)]
        obtain ⟨hgv, hgood⟩ := good (e := ⟨rt, gt, ro, _, [], [], bel⟩) rfl (fun k hk => hk) h hag hgd
        rw [heff] at hgood
        have hc := orG_true hc hgv
        simp only [Bool.and_eq_true] at hc
        obtain ⟨f, args, hr, hcall⟩ := hgood hc.2 hc.1
        unfold Oper.wp
        rw [hr, Oper.upon_enter]
        refine hcall.mono fun e w' hh => ?_
        obtain ⟨v, S', rfl, hgr, hV⟩ := hh
        refine hN S' E _ _ (set_less (s' := s) (t := wrapG g (.d (nf p1))) (dst := o.dst) ?_ rfl (fun _ => rfl) (fun k => rfl) hcl.g)
        exact (h.grew hgr).setO hlt (wrapG_thin rfl) fun d hd => wrapG_tv (t := .d (nf p1)) (tm := frameOf a) ((guard_put h.size hdst v hd).2 hgd) rfl hV
      · rw [if_neg (fun e => hgd ((wanted_guard hg).1 e))]
        exact hN S E _ _ (entry_skip (t := .d _) hg hdst rfl rfl rfl h hcl.g hgd)
  · cases he

theorem entry_step {C : Cfg} (hT : Told P C) (hC : Calling P C) {ops : Array Oper} {o : Oper} {g : Guard} (hg : guardOf ops.toList o = some g) {rt gt ro bel : List Nat} {s1 : A} {ρ : Type} {K : Lg → Option ρ} {r : ρ}
    (he : entryD C std o g rt gt ro bel (s1.pickOut rt ro) K = some r) :
    ∃ e, K e = some r ∧ e.rt = rt ∧ e.gt = gt ∧ e.below = bel ∧ (∀ d t, e.wt = some (d, t) → o.dst = some d ∧ (∀ k, t.refs k = true → k ∈ e.ro) ∧ ∀ t' b x, t = .g t' b x → t' ∈ gt) ∧ (∀ k b, look e.wo k = some (some b) → ∀ d, b.refs d = true → d ∈ e.ro) ∧
      (∀ d, d ∈ e.made → isMaker o.op = true ∧ o.dst = some d ∧ d ∈ e.ks) ∧ ∀ {w0 : Base P} {S0 S : Snap} {E : Nat → Value} {s : A} {a : Act} {w : World} (_ : Rel C.n w0 S0 S E s a w), Agree e s s1 → Cln e s →
      ∀ {N : Act → World → Prop} {Q : Exit → Act → World → Prop}, (∀ S' E' a' w', Rel C.n w0 S0 S' E' (e.app s) a' w' → N a' w') → if Region.wanted o (yielded ops a.tmps) then o.wp P a w N Q else N (a.put o.dst undef) w := by
  unfold entryD at he
  split at he
  · rename_i hs args ho
    unfold entryH at he
    dsimp only at he
    split at he
    · rename_i d hod
      have hfail : (std : Br ρ (Option ρ)).fail = none := rfl
      rw [hfail] at he
      replace he := bif_none he
      obtain ⟨hck, he⟩ := he
      simp only [Bool.or_eq_false_iff, Bool.not_eq_false'] at hck
      obtain ⟨⟨hgn, hdst⟩, hall⟩ := hck
      have hg0 : g = none := by cases g with | none => rfl | some p => simp at hgn
      subst hg0
      have hlt := fun d hd => (okDst_lt hdst d hd).1
      generalize hts : args.map (opd (s1.pickOut rt ro) [] .oth) = ts at he hall
      replace he := fold_leaf he
      obtain ⟨t, obr, hleaf, he⟩ := he
      split at he
      · rename_i k e sz xs hown
        have hres : t = .vec k ∧ obr = [(k, .vec e sz xs)] := by
          unfold ownRes at hown
          split at hown
          · obtain ⟨hb, hx⟩ := bif_some hown
            simp only [Bool.and_eq_true] at hb
            have := nbeq_eq hb.1
            simp only [Option.some.injEq, Prod.mk.injEq] at hx
            obtain ⟨rfl, rfl, rfl, rfl⟩ := hx
            subst this
            exact ⟨rfl, rfl⟩
          · cases hown
        obtain ⟨rfl, rfl⟩ := hres
        have hmk : isMaker o.op = true := by
          unfold hcallOf at ho
          split at ho
          · rename_i c hop
            split at ho
            · rename_i f hcal
              rw [hop]; simp [isMaker, hcal]
            · simp at ho
          · simp at ho
        refine ⟨_, he, rfl, rfl, rfl, ?_, ?_, ?_, ?_⟩
        · intro d' t' hw
          rw [hod]
          simp only [Option.some.injEq, Prod.mk.injEq] at hw
          obtain ⟨rfl, rfl⟩ := hw
          refine ⟨rfl, fun k hk => ?_, fun t' b x hx => by cases hx⟩
          have : d = k := (by simpa [T.refs] using hk : k = d).symm
          subst this
          exact List.mem_cons_self
        · intro k' b' hk d' hd
          simp only [look_cons] at hk
          split at hk
          · simp only [Option.some.injEq] at hk
            subst hk
            simp [Ob.refs, Ob.ts] at hd
          · simp [look] at hk
        · intro d' hd'
          simp only [List.mem_singleton] at hd'
          subst hd'
          exact ⟨hmk, hod, by simp [Lg.ks]⟩
        · intro w0 S0 S E s a w h hag hcl N Q hN
          rw [if_pos ((wanted_guard hg).2 trivial)]
          have hv : s.pickOut rt ro = s1.pickOut rt ro := pick_congr (fun t ht => hag.tm t ht) (fun k hk => hag.ob k (List.mem_cons_of_mem _ hk))
          have hr := h.pick rt ro
          rw [hv] at hr
          have hdH : d < HB := lt_HB (okDst_H hdst d hod)
          unfold hcallOf at ho
          split at ho
          · rename_i c hop
            split at ho
            · rename_i f hcal
              split at ho
              · rename_i hs' hhs
                simp only [Option.some.injEq, Prod.mk.injEq] at ho
                obtain ⟨rfl, hargs⟩ := ho
                generalize hca : c.args = cargs at hargs
                subst hargs
                obtain ⟨⟨fn, hfn, hbody, hname⟩, hrun⟩ := hC.hcall f hs' hhs
                let b : Base P := ⟨w, w.heap.size, fun g => g < w.heap.size, fun _ => undef, fun _ hg => hg, fun _ hg => hg, Nat.le_refl _, h.tab, h.tab.lt⟩
                have htv : TVs S (fun _ => undef) (cargs.map a.eval) ts := by
                  refine ⟨by simp [← hts], fun j u x hu hx => ?_⟩
                  have hxd := List.all_eq_true.1 hall x (List.mem_of_getElem? hx)
                  simp only [← hts, List.getElem?_map, Option.map_eq_some_iff] at hx
                  obtain ⟨y, hy, rfl⟩ := hx
                  simp only [Array.getElem?_map, Option.map_eq_some_iff] at hu
                  obtain ⟨y', hy', rfl⟩ := hu
                  have : y = y' := by rw [← Array.getElem?_toList] at hy'; rw [hy] at hy'; cases hy'; rfl
                  subst this
                  have h1 := opd_tv hr (gs := []) (fun p hp => by cases hp) .oth y
                  generalize opd (s1.pickOut rt ro) [] .oth y = x at h1 hxd
                  cases x <;> simp [T.isD] at hxd
                  exact ⟨h1.1, rfl⟩
                have hH0 : RelH b S S (fun _ => undef) [] w := ⟨Snap.le.refl S, fun _ _ hu => .inl hu, h.inn, fun k o hk => by simp [look] at hk, fun k k' g hk => by simp [look] at hk, ⟨rfl, rfl, rfl, Nat.le_refl _, fun _ _ => rfl⟩, fun k g hk => by simp [look] at hk, fun _ _ => rfl⟩
                have hcalls := hrun b S (fun _ => undef) [] ts (cargs.map a.eval) (.vec k) [(k, .vec e sz xs)] hH0 htv hleaf
                have hexec : (execOp a.eval o).run P w = .ok (.enter f (cargs.map a.eval)) w := by
                  have h1 : ¬ fn.name = "runtime.NumGoroutine" := by simpa using hname
                  have h2 : ¬ fn.body = none := fun e => by rw [e] at hbody; simp at hbody
                  simp [execOp, hop, resolve, hcal, hca, Act.eval, Deferred.ofValue, invoke, callFunc, hfn, h1, h2]
                unfold Oper.wp
                rw [hexec, Oper.upon_enter]
                refine hcalls.mono fun e' w' hh => ?_
                obtain ⟨v, S', E1, rfl, hle, hH, hv', _⟩ := hh
                have hvk : v = E1 k := hv'
                have hgr : Grew S S' w w' := ⟨⟨hH.below.os, hH.below.tape, hH.below.output, hH.below.size, hH.below.block⟩, hle, fun a' u hu => (hH.new a' u hu).imp id And.left, hH.inn⟩
                have h1 := h.grew hgr
                have hov := hH.obs k (.vec e sz xs) (by simp [look_cons])
                obtain ⟨vals, hown', hxs, hvs, hone, hz⟩ := hov
                rw [← hvk] at hown' hz
                have hfar : ∀ g, blk v = some g → w.heap.size ≤ g := fun g hg => (hown'.lt hg).1
                have hown0 : ownR w' w0.B e sz v xs.length vals := hown'.at_ rfl (fun _ _ => rfl) (fun g _ hg => Nat.le_trans h.bsize hg)
                have h2 : Rel C.n w0 S0 S' (fun j => if j = d then v else E j) (s.new d (.vec e sz xs)) a w' := by
                  refine h1.make hdH (row := blk v) ⟨rfl, rfl, rfl, Nat.le_refl _, fun _ _ _ => rfl⟩ (fun g hg => ⟨⟨Nat.le_trans h.bsize (hfar g hg), h.fresh (hfar g hg)⟩, hz g hg, fun j _ hj hjg => ?_⟩) (fun g hg => .inl hg) ⟨vals, by simpa using hown0, hxs, hvs, hone, fun g hg => hz g (by simpa using hg)⟩
                  obtain ⟨oj, hoj⟩ := Option.isSome_iff_exists.1 hj
                  have := ((h.ob j oj hoj).lt hjg).1
                  have := hfar g hg
                  omega
                have hnr := hcl.nr d (by simp)
                refine hN S' _ _ _ (set_less (s' := s.new d (.vec e sz xs)) (t := .vec d) (dst := o.dst) (h2.setO hlt (bare_thin rfl) fun d' hd => by simp [TV]) (by rw [hod]) (fun j => ?_) (fun k => ?_) hcl.g)
                · simp only [A.new, A.kill, look_map]
                  cases hl : look s.tm j with
                  | none => rfl
                  | some x => simp [T.kill, hnr.tm j x hl]
                · rw [app_ob]
                  simp only [A.new, A.kill, look_cons, look_map, look_drop]
                  by_cases hkd : k = d
                  · simp [hkd]
                  · simp only [if_neg hkd, look]
                    cases hl : look s.ob k with
                    | none => rfl
                    | some x =>
                      have hx := hnr.ob k x hl
                      simp [kill_noop hx]
              · simp at ho
            · simp at ho
          · simp at ho
      · cases he
    · cases he
  · exact entry_step1 hT hC hg he

end Go.Ev
