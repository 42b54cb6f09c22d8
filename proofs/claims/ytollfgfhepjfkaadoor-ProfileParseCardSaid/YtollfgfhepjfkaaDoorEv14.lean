/- The evaluator 'Ev': one operation of a region, and a region that draws no order. -/
import Derived.Test.YtollfgfhepjfkaaDoorEv13
namespace Go.Ev
open Go Go.RowKit

variable {P : Program} {n : Nat} {w0 : Base P} {S0 S : Snap} {E : Nat → Value} {s : A} {a : Act} {w : World}

theorem chk_some {α : Type} {c : Bool} {k : Option α} {r : α} (h : chk c k = some r) : c = true ∧ k = some r := by
  cases c
  · simp [chk] at h
  · exact ⟨rfl, h⟩
theorem bif_some {α : Type} {c : Bool} {k : Option α} {r : α} (h : (bif c then k else none) = some r) : c = true ∧ k = some r := by
  cases c
  · simp at h
  · exact ⟨rfl, h⟩
theorem bif_none {α : Type} {c : Bool} {k : Option α} {r : α} (h : (bif c then none else k) = some r) : c = false ∧ k = some r := by
  cases c
  · exact ⟨rfl, h⟩
  · simp at h

theorem wanted_guard {ops : Array Oper} {o : Oper} {g : Guard} (hg : guardOf ops.toList o = some g) : Region.wanted o (yielded ops a.tmps) = true ↔ GuardOk (frameOf a) g := by
  unfold guardOf at hg
  unfold Region.wanted
  cases hog : o.guard with
  | none => simp [hog] at hg; subst hg; simp [GuardOk]
  | some jw =>
    obtain ⟨j, b⟩ := jw
    simp only [hog] at hg ⊢
    split at hg
    · rename_i p hp
      split at hg
      · rename_i t ht
        cases hg
        have hp' : ops[j]? = some p := by simpa using hp
        simp only [yielded, hp', Option.bind_some, ht, GuardOk, frameOf, Array.getD_eq_getD_getElem?]
        cases hq : a.tmps[t]? with
        | none => simp [undef]
        | some v => cases v <;> simp
      · cases hg
    · cases hg

theorem gval_ok (h : Rel n w0 S0 S E s a w) : ∀ (m : Nat) (g : Guard), GuardOk (frameOf a) g → gval s m g = true
  | 0, _, _ => rfl
  | _ + 1, none, _ => rfl
  | m + 1, some (t, b), hg => by
    have hg' : frameOf a t = .bool b := hg
    unfold gval
    simp only [gconds]
    split
    · rename_i x hx
      have h1 := h.tm t _ hx
      rw [hg'] at h1
      have h2 : V S (.bool b) (.bool x) := h1
      cases h2
      cases b <;> rfl
    · rename_i t' b' x hx
      have h1 := h.tm t _ hx
      have hgd : GuardOk (frameOf a) (some (t', b')) := by
        refine Classical.byContradiction fun hn => ?_
        have := h1.2 hn
        rw [hg'] at this
        cases this
      have h2 := h1.1 hgd
      rw [hg'] at h2
      have h3 : V S (.bool b) (.bool x) := h2
      cases h3
      have := gval_ok h m (some (t', b')) hgd
      unfold gval at this
      cases hgc : gconds s m (some (t', b')) with
      | nil => cases b <;> rfl
      | cons p r => rw [hgc] at this; simp only [allG, this, oneG]; cases b <;> rfl
    · rfl

theorem orG_true {s : A} {m : Nat} {g : Guard} {c : Bool} (h : orG c (gconds s m g) = true) (hg : gval s m g = true) : c = true := by
  unfold orG at h
  unfold gval at hg
  split at h
  · exact h
  · rw [hg] at h; simpa using h

theorem Rel.setO (h : Rel n w0 S0 S E s a w) {dst : Option Nat} {v : Value} {t : T} (hd : ∀ d, dst = some d → d < n) (ht : t.thin = true) (hv : ∀ d, dst = some d → TV S E (frameOf (a.put (some d) v)) v t) :
    Rel n w0 S0 S E (s.set dst t) (a.put dst v) w := by
  cases dst with
  | none => exact h
  | some d => exact h.set (hd d rfl) ht (hv d rfl)

theorem okDst_lt {C : Cfg} {dst : Option Nat} {g : Guard} (h : okDst C dst g = true) : ∀ d, dst = some d → d < C.n ∧ ∀ t b, g = some (t, b) → t ≠ d := by
  intro d hd
  subst hd
  simp only [okDst, Bool.and_eq_true] at h
  refine ⟨Nat.le_of_ble_eq_true h.1.1, fun t b hg => ?_⟩
  subst hg
  intro e
  subst e
  have := h.2
  simp at this

theorem okDst_H {C : Cfg} {dst : Option Nat} {g : Guard} (h : okDst C dst g = true) : ∀ d, dst = some d → d < 1000 := by
  intro d hd
  subst hd
  simp only [okDst, Bool.and_eq_true] at h
  exact Nat.le_of_ble_eq_true h.1.2
theorem lt_HB {d : Nat} (h : d < 1000) : d < HB := by unfold HB; omega

/-- the guard holds behind the writing too -/
theorem guard_put {C : Cfg} (hn : C.n ≤ a.tmps.size) {dst : Option Nat} {g : Guard} (h : okDst C dst g = true) (v : Value) {d : Nat} (hd : dst = some d) : GuardOk (frameOf (a.put (some d) v)) g ↔ GuardOk (frameOf a) g := by
  obtain ⟨h1, h2⟩ := okDst_lt h d hd
  cases g with
  | none => simp [GuardOk]
  | some p =>
    obtain ⟨t, b⟩ := p
    simp only [GuardOk]
    rw [frame_put (Nat.lt_of_lt_of_le h1 hn), if_neg (h2 t b rfl)]

/-- ONE OPERATION. -/
theorem op_step1 {C : Cfg} (hT : Told P C) (hC : Calling P C) (h : Rel C.n w0 S0 S E s a w) {ops : Array Oper} {o : Oper} {ρ : Type} {K : A → Option ρ} {r : ρ} (he : evOp1 C std ops.toList o s K = some r) {N : Act → World → Prop} {Q : Exit → Act → World → Prop}
    (hN : ∀ s' S' E' a' w', Rel C.n w0 S0 S' E' s' a' w' → K s' = some r → N a' w') :
    if Region.wanted o (yielded ops a.tmps) then o.wp P a w N Q else N (a.put o.dst undef) w := by
  unfold evOp1 at he
  dsimp only [std] at he
  split at he
  · cases he
  · rename_i g hg
    have hwant := wanted_guard (a := a) hg
    have hups : GuardOk (frameOf a) g → ∀ p, p ∈ ups s 9 g → frameOf a p.1 = .bool p.2 := fun hgd => ups_ok h 9 g hgd
    obtain ⟨hdst, he⟩ := bif_some he
    have hlt := fun d hd => (okDst_lt hdst d hd).1
    -- not wanted: the temporary holds nothing
    have skip : ∀ {t : T} {t0 : Nat} {b : Bool}, g = some (t0, b) → t.bare = true → K (s.set o.dst (wrapG g t)) = some r → ¬ GuardOk (frameOf a) g → N (a.put o.dst undef) w := by
      intro t t0 b hgs hb hK hng
      refine hN _ S E _ _ (h.setO hlt (wrapG_thin hb) fun d hd => ?_) hK
      have h1 : ¬ GuardOk (frameOf (a.put (some d) undef)) g := fun hc => hng ((guard_put h.size hdst undef hd).1 hc)
      subst hgs
      exact wrapG_skip h1
    have none_ok : g = none → GuardOk (frameOf a) g := fun e => by subst e; trivial
    have some_of : ¬ GuardOk (frameOf a) g → ∃ t0 b, g = some (t0, b) := fun hng => by
      cases g with
      | none => exact absurd trivial hng
      | some p => exact ⟨p.1, p.2, rfl⟩
    by_cases hgd : GuardOk (frameOf a) g
    · rw [if_pos (hwant.2 hgd)]
      have hgv := gval_ok h 9 g hgd
      have hgood := effOp_good h hT hC o (hups hgd) g.isSome (fun d hd => lt_HB (okDst_H hdst d hd))
      unfold Oper.wp
      split at he
      · cases he
      · rename_i c t heff
        rw [heff] at hgood
        obtain ⟨_, he⟩ := bif_some he
        obtain ⟨hc, hK⟩ := chk_some he
        obtain ⟨v, w', S', hr, hgr, htv, hb⟩ := hgood (orG_true hc hgv)
        rw [hr, Oper.upon_value]
        exact hN _ S' E _ _ ((h.grew hgr).setO hlt (wrapG_thin hb) fun d hd => wrapG_tv ((guard_put h.size hdst v hd).2 hgd) hb (TV.tm (tm' := frameOf a) hb htv)) hK
      · rename_i c k b t heff
        rw [heff] at hgood
        obtain ⟨_, he⟩ := bif_none he
        obtain ⟨hc, hK⟩ := chk_some he
        obtain ⟨nx, v, w', hr, hnx, hk, hch, hov, htv, hb⟩ := hgood hc
        obtain ⟨ob, hob⟩ := Option.isSome_iff_exists.1 hk
        have hrel := h.chg hob hch hov
        rcases hnx with rfl | ⟨rfl, rfl⟩
        · rw [hr, Oper.upon_value]
          exact hN _ S E _ _ (hrel.setO (t := t) hlt (bare_thin hb) fun d hd => TV.tm hb htv) hK
        · rw [hr, Oper.upon_skip]
          exact hN _ S E _ _ (hrel.setO (t := t) hlt (bare_thin hb) fun d hd => TV.tm hb htv) hK
      · rename_i c d b t heff
        rw [heff] at hgood
        obtain ⟨_, he⟩ := bif_none he
        obtain ⟨hc, hK⟩ := chk_some he
        obtain ⟨hdH, v, w', hr, hm, htv, hb⟩ := hgood hc
        rw [hr, Oper.upon_value]
        exact hN _ S _ _ _ ((h.made hdH hm).setO hlt (bare_thin hb) fun d hd => TV.tm hb htv) hK
      · rename_i c d k b t heff
        rw [heff] at hgood
        obtain ⟨_, he⟩ := bif_none he
        obtain ⟨hc, hK⟩ := chk_some he
        obtain ⟨hdH, v, w', hr, hk, hm, htv, hb⟩ := hgood hc
        rw [hr, Oper.upon_value]
        exact hN _ S _ _ _ ((h.moved hdH hk hm).setO hlt (bare_thin hb) fun d hd => TV.tm hb htv) hK
      · rename_i c s' t heff
        rw [heff] at hgood
        obtain ⟨_, he⟩ := bif_none he
        obtain ⟨hc, hK⟩ := chk_some he
        obtain ⟨nx, v, w', S', E', hr, hnx, hrel, hle, htv, hb⟩ := hgood hc
        rcases hnx with rfl | ⟨rfl, rfl⟩
        · rw [hr, Oper.upon_value]
          exact hN _ S' E' _ _ (hrel.setO hlt (bare_thin hb) fun d hd => TV.tm hb htv) hK
        · rw [hr, Oper.upon_skip]
          exact hN _ S' E' _ _ (hrel.setO hlt (bare_thin hb) fun d hd => TV.tm hb htv) hK
      · rename_i c p1 ok nf heff
        rw [heff] at hgood
        obtain ⟨hc, hK⟩ := chk_some he
        have hc := orG_true hc hgv
        simp only [Bool.and_eq_true] at hc
        obtain ⟨f, args, hr, hcall⟩ := hgood hc.2 hc.1
        rw [hr, Oper.upon_enter]
        refine hcall.mono fun e w' hh => ?_
        obtain ⟨v, S', rfl, hgr, hV⟩ := hh
        exact hN _ S' E _ _ ((h.grew hgr).setO hlt (wrapG_thin rfl) fun d hd => wrapG_tv (t := .d (nf p1)) (tm := frameOf a) ((guard_put h.size hdst v hd).2 hgd) rfl hV) hK
    · have hnw : ¬ (Region.wanted o (yielded ops a.tmps) = true) := fun e => hgd (hwant.1 e)
      rw [if_neg hnw]
      obtain ⟨t0, b0, hg0⟩ := some_of hgd
      have hgs : g.isSome = true := by rw [hg0]; rfl
      split at he
      · cases he
      · rename_i c t heff
        obtain ⟨hb, he⟩ := bif_some he
        obtain ⟨hc, hK⟩ := chk_some he
        exact skip hg0 hb hK hgd
      · rw [hgs] at he; simp at he
      · rw [hgs] at he; simp at he
      · rw [hgs] at he; simp at he
      · rw [hgs] at he; simp at he
      · obtain ⟨hc, hK⟩ := chk_some he
        exact skip (t := .d _) hg0 rfl hK hgd

theorem stowAll_look : ∀ (ks : List Nat) {s : A} {k : Nat} {o : Ob}, look s.ob k = some o → (∀ e sz xs, o ≠ .vec e sz xs) → ∃ o', look (s.stowAll ks).ob k = some o'
  | [], s, k, o, h, _ => ⟨o, h⟩
  | j :: ks, s, k, o, h, hv => by
    simp only [A.stowAll]
    split
    · rename_i e sz xs hj
      have hne : k ≠ j := fun e' => by subst e'; rw [h] at hj; cases hj; exact hv _ _ _ rfl
      refine stowAll_look ks (o := o.stow j sz xs) ?_ ?_
      · simp only [A.stow, look_map, look_drop, if_neg hne, h]; rfl
      · intro e' sz' xs' he
        cases o <;> simp [Ob.stow, Ob.mapT] at he
        exact hv _ _ _ rfl
    · exact stowAll_look ks h hv

/-- AN OPEN LAST ROW IS CLOSED. -/
theorem Rel.close (h : Rel n w0 S0 S E s a w) (k : Nat) : ∃ S', S.le S' ∧ Rel n w0 S0 S' E (s.close k) a w := by
  unfold A.close
  split
  · rename_i e sz xs cs hk
    split
    · rename_i ds hds
      cases hb : Nat.beq ds.length sz with
      | false => exact ⟨S, Snap.le.refl S, h⟩
      | true =>
        have hb := nbeq_eq hb
        obtain ⟨S', hle, hrel, hV⟩ := Rel.stowAll (vecsOf cs) h
        obtain ⟨o', ho'⟩ := stowAll_look (vecsOf cs) hk (fun _ _ _ he => by cases he)
        have hov := hrel.ob k o' ho'
        obtain ⟨vals, ho, hx, hl, hv, h1, hc, hz⟩ := h.ob k _ hk
        have hvl : vals.length = xs.length * sz + sz := by rw [ho.1, Nat.add_mul, Nat.one_mul]
        have hvs : Vs S' (vals.drop (xs.length * sz)) ds := cells_data (s := s) hle cs _ ds (by simp; omega) (fun j u c hu hc' => (hc j u c (by simpa using hu) hc').2) hds hV
        refine ⟨S', hle, hrel.change ho' rfl rfl rfl rfl (fun _ _ => rfl) ⟨vals, by simpa using ownR_of ho, fun x hx' => ?_, ?_, h1, fun g hg a' ha => hov.off hg a' ha⟩⟩
        · rcases List.mem_append.1 hx' with h2 | h2
          · exact hx x h2
          · simp at h2; subst h2; exact hb
        · rw [flat_append]
          have := (hv.mono hle).append hvs
          rw [List.take_append_drop] at this
          simpa [flat, D.cells] using this
    · exact ⟨S, Snap.le.refl S, h⟩
  · exact ⟨S, Snap.le.refl S, h⟩
theorem Rel.closeR : ∀ (rs : List ResultVar) {S : Snap} {s : A} (_ : Rel n w0 S0 S E s a w), ∃ S', S.le S' ∧ Rel n w0 S0 S' E (s.closeR rs) a w
  | [], S, s, h => ⟨S, Snap.le.refl S, h⟩
  | r :: rs, S, s, h => by
    cases r with
    | tmp t =>
      simp only [A.closeR]
      split
      · rename_i k hk
        obtain ⟨S1, hle1, h1⟩ := h.close k
        obtain ⟨S2, hle2, h2⟩ := Rel.closeR rs h1
        exact ⟨S2, hle1.trans hle2, h2⟩
      · exact Rel.closeR rs h
    | _ => exact Rel.closeR rs h

theorem Rel.preCall (h : Rel n w0 S0 S E s a w) (C : Cfg) (o : Oper) : ∃ S', Rel n w0 S0 S' E (s.preCall C o) a w := by
  unfold A.preCall
  split
  · split
    · cases scalarR C (C.ty o.type)
      · simp only [cond_false]
        obtain ⟨S', _, h', _⟩ := Rel.stowAll _ h
        exact ⟨S', h'⟩
      · exact ⟨S, h⟩
    · split
      · split
        · obtain ⟨S', _, h'⟩ := h.close _
          exact ⟨S', h'⟩
        · exact ⟨S, h⟩
      · exact ⟨S, h⟩
    · exact ⟨S, h⟩
  · exact ⟨S, h⟩
end Go.Ev
