/- The evaluator 'Ev': calls that are handed things (boxes, rows of the call's own): names, the things that are handed on and come back. -/
import Derived.Test.YtollfgfhepjfkaaDoorEv14
namespace Go.Ev
open Go Go.RowKit

variable {P : Program} {n : Nat} {w0 : Base P} {S0 S : Snap} {E : Nat → Value} {s : A} {a : Act} {w : World}

theorem fold_leaf {ρ : Type} {K : T → List (Nat × Ob) → Option ρ} {r : ρ} : ∀ {h : HTree}, h.fold std K = some r → ∃ t ob, h.leaf = some (t, ob) ∧ K t ob = some r
  | .fail, h => by simp [HTree.fold, std] at h
  | .chk c k, h => by
    simp only [HTree.fold, std] at h
    obtain ⟨hc, hk⟩ := chk_some h
    obtain ⟨t, ob, h1, h2⟩ := fold_leaf (h := k) hk
    exact ⟨t, ob, by simp only [HTree.leaf, hc]; exact h1, h2⟩
  | .ite c x y, h => by
    cases c with
    | true => obtain ⟨t, ob, h1, h2⟩ := fold_leaf (h := x) (by simpa [HTree.fold, std] using h); exact ⟨t, ob, h1, h2⟩
    | false => obtain ⟨t, ob, h1, h2⟩ := fold_leaf (h := y) (by simpa [HTree.fold, std] using h); exact ⟨t, ob, h1, h2⟩
  | .ret t ob, h => ⟨t, ob, rfl, h⟩

theorem bare_mapN (f : Nat → Option Nat) (t : T) : (t.mapN f).bare = true := by
  cases t <;> simp only [T.mapN] <;> first | rfl | (split <;> rfl)
theorem TV.mapN {f : Nat → Option Nat} {E' : Nat → Value} {tm tm' : Nat → Value} {v : Value} (hf : ∀ k j, f k = some j → E' j = E k) {t : T} (hb : t.bare = true) (h : TV S E tm v t) : TV S E' tm' v (t.mapN f) := by
  cases t with
  | g a b t => simp [T.bare] at hb
  | ptr k off => simp only [T.mapN]; split
                 · rename_i j hj; simp only [TV, hf k j hj] at h ⊢; exact h
                 · trivial
  | ptrA k off len sz i o => simp only [T.mapN]; split
                             · rename_i j hj; simp only [TV, hf k j hj] at h ⊢; exact h
                             · trivial
  | vec k => simp only [T.mapN]; split
             · rename_i j hj; simp only [TV, hf k j hj] at h ⊢; exact h
             · trivial
  | sd k => simp only [T.mapN]; split
            · rename_i j hj; simp only [TV, hf k j hj] at h ⊢; exact h
            · trivial
  | vptr k sz i o => simp only [T.mapN]; split
                     · rename_i j hj; simp only [TV, hf k j hj] at h ⊢; exact h
                     · trivial
  | _ => exact h
theorem OV.mapN {B k j : Nat} {o : Ob} {f : Nat → Option Nat} {E' : Nat → Value} (hf : ∀ k j, f k = some j → E' j = E k) (hj : E' j = E k) (h : OV S E B w k o) : OV S E' B w j (o.mapN f) :=
  OV.map h hj (fun _ _ => rfl) id (fun g hg a' ha => h.off hg a' ha) (fun c _ hb => ⟨bare_mapN f c, fun u hu => TV.mapN hf hb hu⟩)
theorem TV.congr {E' : Nat → Value} {tm : Nat → Value} {v : Value} : ∀ {t : T}, (∀ k, t.refs k = true → E' k = E k) → TV S E tm v t → TV S E' tm v t
  | .undef, _, _ => trivial
  | .d _, _, h => h
  | .nils _, _, h => h
  | .ptr j _, hr, h => by simp only [TV, hr j (by simp [T.refs])] at *; exact h
  | .ptrA j _ _ _ _ _, hr, h => by simp only [TV, hr j (by simp [T.refs])] at *; exact h
  | .ptrS _ _, _, h => h
  | .vec j, hr, h => by simp only [TV, hr j (by simp [T.refs])] at *; exact h
  | .vptr j _ _ _, hr, h => by simp only [TV, hr j (by simp [T.refs])] at *; exact h
  | .fn _, _, h => h
  | .sd j, hr, h => by simp only [TV, hr j (by simp [T.refs])] at *; exact h
  | .g _ _ t, hr, h => ⟨fun hg => TV.congr (t := t) (fun k hk => hr k (by simpa [T.refs] using hk)) (h.1 hg), h.2⟩
theorem TV.killL {nw : List Nat} {E' : Nat → Value} {tm : Nat → Value} {v : Value} {t : T} (hE : ∀ k, k ∉ nw → E' k = E k) (h : TV S E tm v t) : TV S E' tm v (t.killL nw) := by
  unfold T.killL
  cases hr : nw.any (fun k => t.refs k) with
  | true => trivial
  | false =>
    simp only [cond_false]
    refine TV.congr (fun k hk => hE k fun hm => ?_) h
    rw [List.any_eq_false] at hr
    exact hr k hm hk
theorem killL_bare {nw : List Nat} {t : T} (h : t.bare = true) : (t.killL nw).bare = true := by
  unfold T.killL
  cases nw.any (fun k => t.refs k) <;> first | rfl | exact h
theorem killL_thin {nw : List Nat} {t : T} (h : t.thin = true) : (t.killL nw).thin = true := by
  unfold T.killL
  cases nw.any (fun k => t.refs k) <;> first | rfl | exact h
theorem OV.killL {B j : Nat} {o : Ob} {nw : List Nat} {E' : Nat → Value} (hE : ∀ k, k ∉ nw → E' k = E k) (hj : j ∉ nw) (h : OV S E B w j o) : OV S E' B w j (o.killL nw) :=
  OV.map h (hE j hj) (fun _ _ => rfl) id (fun g hg a' ha => h.off hg a' ha) (fun c _ hb => ⟨killL_bare hb, fun u hu => TV.killL hE hu⟩)

/-! ### names -/
theorem mem_memN {l : List Nat} {i : Nat} : memN l i = true ↔ i ∈ l := by
  unfold memN
  rw [List.any_eq_true]
  constructor
  · rintro ⟨x, hx, hb⟩
    have := nbeq_eq hb
    subst this; exact hx
  · exact fun h => ⟨i, h, by simp⟩
theorem memN_not {l : List Nat} {i : Nat} (h : memN l i = false) : i ∉ l := fun hm => by rw [mem_memN.2 hm] at h; cases h

theorem reach_ok (ob : List (Nat × Ob)) : ∀ (f : Nat) (todo acc : List Nat), (acc.Nodup ∧ ∀ k, k ∈ acc → (look ob k).isSome) → ((reach f ob todo acc).Nodup ∧ ∀ k, k ∈ reach f ob todo acc → (look ob k).isSome)
  | 0, _, acc, h => h
  | f + 1, [], acc, h => h
  | f + 1, k :: r, acc, h => by
    simp only [reach]
    cases hm : memN acc k with
    | true => exact reach_ok ob f r acc h
    | false =>
      simp only [cond_false]
      split
      · rename_i o ho
        refine reach_ok ob f _ _ ⟨?_, fun j hj => ?_⟩
        · rw [List.nodup_append]
          exact ⟨h.1, by simp, fun x hx y hy e => by
            simp only [List.mem_singleton] at hy
            exact memN_not hm (by rw [← hy, ← e]; exact hx)⟩
        · rcases List.mem_append.1 hj with h1 | h1
          · exact h.2 j h1
          · simp only [List.mem_singleton] at h1; subst h1; simp [ho]
      · exact reach_ok ob f r acc h

theorem pos_get : ∀ (l : List Nat) (k i0 i : Nat), pos l k i0 = some i → i0 ≤ i ∧ l[i - i0]? = some k
  | [], k, i0, i, h => by simp [pos] at h
  | x :: r, k, i0, i, h => by
    simp only [pos] at h
    cases hb : Nat.beq x k with
    | true =>
      rw [hb] at h; simp only [cond_true, Option.some.injEq] at h; subst h
      have := nbeq_eq hb; subst this
      simp
    | false =>
      rw [hb] at h; simp only [cond_false] at h
      obtain ⟨h1, h2⟩ := pos_get r k (i0 + 1) i h
      refine ⟨by omega, ?_⟩
      rw [show i - i0 = (i - (i0 + 1)) + 1 by omega]
      simpa using h2
theorem inName_get {L : List Nat} {k j : Nat} (h : inName L k = some j) : ∃ i, j = HB + i ∧ L[i]? = some k := by
  unfold inName at h
  split at h
  · rename_i i hi
    cases h
    obtain ⟨_, h2⟩ := pos_get L k 0 i hi
    exact ⟨i, rfl, by simpa using h2⟩
  · cases h
theorem inObs_look (ob : List (Nat × Ob)) (L : List Nat) : ∀ (r : List Nat) (i0 j : Nat) (o' : Ob), look (inObs ob L i0 r) j = some o' → ∃ i k o, j = HB + (i0 + i) ∧ r[i]? = some k ∧ look ob k = some o ∧ o' = o.mapN (inName L)
  | [], i0, j, o', h => by simp [inObs, look] at h
  | k :: r, i0, j, o', h => by
    simp only [inObs] at h
    have rest : look (inObs ob L (i0 + 1) r) j = some o' → ∃ i k' o, j = HB + (i0 + i) ∧ (k :: r)[i]? = some k' ∧ look ob k' = some o ∧ o' = o.mapN (inName L) := fun h => by
      obtain ⟨i, k', o, h1, h2, h3, h4⟩ := inObs_look ob L r (i0 + 1) j o' h
      exact ⟨i + 1, k', o, by rw [h1]; omega, by simpa using h2, h3, h4⟩
    split at h
    · rename_i o ho
      rw [look_cons] at h
      split at h
      · rename_i e
        cases h
        exact ⟨0, k, o, by rw [e]; omega, rfl, ho, rfl⟩
      · exact rest h
    · exact rest h

/-- what the names of who is called stand for. -/
def inE (E : Nat → Value) (L : List Nat) (k : Nat) : Value := if HB ≤ k then (match L[k - HB]? with | some j => E j | none => undef) else undef
theorem inE_at {L : List Nat} {i k : Nat} (h : L[i]? = some k) : inE E L (HB + i) = E k := by
  unfold inE
  rw [if_pos (Nat.le_add_right _ _), show HB + i - HB = i by omega, h]

/-- where such a call begins. -/
def inBase (h : Rel n w0 S0 S E s a w) (L : List Nat) (hL : ∀ k, k ∈ L → (look s.ob k).isSome) : Base P where
  w := w
  B := w0.B
  G := fun g => g < w.heap.size ∧ ∀ k, k ∈ L → blk (E k) ≠ some g
  E0 := inE E L
  lt := fun g hg => hg.1
  low := fun g hg => ⟨Nat.lt_of_lt_of_le hg h.bsize, fun k hk hb => by
    obtain ⟨o, ho⟩ := Option.isSome_iff_exists.1 (hL k hk)
    have := ((h.ob k o ho).lt hb).2
    omega⟩
  le := h.bsize
  tab := h.tab
  tabG := fun g hg => ⟨Nat.lt_of_lt_of_le (w0.lt g (w0.tabG g hg)) h.below.size, fun k hk hb => h.own k g (hL k hk) hb (w0.tabG g hg)⟩

theorem RelH.enter (h : Rel n w0 S0 S E s a w) {L : List Nat} (hnd : L.Nodup) (hL : ∀ k, k ∈ L → (look s.ob k).isSome) : RelH (inBase h L hL) S S (inE E L) (inObs s.ob L 0 L) w := by
  have at_ : ∀ k, (look (inObs s.ob L 0 L) k).isSome → ∃ i j, k = HB + i ∧ L[i]? = some j := fun k hk => by
    obtain ⟨o, ho⟩ := Option.isSome_iff_exists.1 hk
    obtain ⟨i, j, _, h1, h2, _, _⟩ := inObs_look s.ob L L 0 k o ho
    exact ⟨i, j, by rw [h1]; omega, h2⟩
  have hf : ∀ k j, inName L k = some j → inE E L j = E k := fun k j hj => by
    obtain ⟨i, rfl, hi⟩ := inName_get hj
    exact inE_at hi
  refine ⟨Snap.le.refl S, fun _ _ hu => .inl hu, h.inn, fun k o' hk => ?_, fun k k' g hk hk' hne hg hg' => ?_, ⟨rfl, rfl, rfl, Nat.le_refl _, fun _ _ => rfl⟩, fun k g hk hg hG => ?_, fun _ _ => rfl⟩
  · obtain ⟨i, j, o, rfl, h2, h3, rfl⟩ := inObs_look s.ob L L 0 k o' hk
    rw [Nat.zero_add]
    exact OV.mapN hf (inE_at h2) (h.ob j o h3)
  · obtain ⟨i, j, rfl, hi⟩ := at_ k hk
    obtain ⟨i', j', rfl, hi'⟩ := at_ k' hk'
    rw [inE_at hi] at hg
    rw [inE_at hi'] at hg'
    have hij : j ≠ j' := fun e => by
      subst e
      have h1 := (List.getElem?_eq_some_iff.1 hi)
      have h2 := (List.getElem?_eq_some_iff.1 hi')
      obtain ⟨q1, q2⟩ := h1
      obtain ⟨q3, q4⟩ := h2
      have hp := List.pairwise_iff_getElem.1 hnd
      have h3 : ¬ i < i' := fun hlt => hp i i' q1 q3 hlt (q2.trans q4.symm)
      have h4 : ¬ i' < i := fun hlt => hp i' i q3 q1 hlt (q4.trans q2.symm)
      exact hne (by rw [show i = i' by omega])
    exact h.sep j j' g (hL j (List.mem_of_getElem? hi)) (hL j' (List.mem_of_getElem? hi')) hij hg hg'
  · obtain ⟨i, j, rfl, hi⟩ := at_ k hk
    rw [inE_at hi] at hg
    exact hG.2 j (List.mem_of_getElem? hi) hg

theorem newNames_iff {d : Nat} {keys : List Nat} {j : Nat} : j ∈ newNames d keys ↔ ∃ k, k ∈ keys ∧ k < 1024 ∧ j = (d + 1) * 1024 + k := by
  unfold newNames
  simp only [List.mem_map, List.mem_filter]
  constructor
  · rintro ⟨k, ⟨h1, h2⟩, rfl⟩
    exact ⟨k, h1, Nat.le_of_ble_eq_true h2, rfl⟩
  · rintro ⟨k, h1, h2, rfl⟩
    exact ⟨k, ⟨h1, Nat.ble_eq_true_of_le h2⟩, rfl⟩

theorem backObs_look (g : Nat → Option Nat) (l : List (Nat × Ob)) : ∀ (r : List (Nat × Ob)) (j : Nat) (o' : Ob), look (backObs g r l) j = some o' → (∃ k o, g k = some j ∧ look r k = some o ∧ o' = o.mapN g) ∨ look l j = some o'
  | [], j, o', h => .inr h
  | (k, o) :: r, j, o', h => by
    simp only [backObs] at h
    have rest : look (backObs g r l) j = some o' → g k ≠ some j → (∃ k' o1, g k' = some j ∧ look ((k, o) :: r) k' = some o1 ∧ o' = o1.mapN g) ∨ look l j = some o' := fun h hne => by
      rcases backObs_look g l r j o' h with ⟨k', o1, h1, h2, h3⟩ | h1
      · refine .inl ⟨k', o1, h1, ?_, h3⟩
        rw [look_cons, if_neg (fun e => hne (by rw [← e]; exact h1))]
        exact h2
      · exact .inr h1
    split at h
    · rename_i j0 hj0
      rw [look_cons] at h
      split at h
      · rename_i e
        cases h; subst e
        exact .inl ⟨k, o, hj0, by rw [look_cons, if_pos rfl], rfl⟩
      · rename_i hne
        exact rest h fun e => hne (by rw [hj0] at e; cases e; rfl)
    · rename_i hn
      exact rest h fun e => by rw [hn] at e; cases e
theorem rest_look {L nw : List Nat} : ∀ (l : List (Nat × Ob)) (j : Nat) (o' : Ob), look ((l.filter fun p => !memN L p.1).map fun p => (p.1, p.2.killL nw)) j = some o' → ∃ o, look l j = some o ∧ j ∉ L ∧ o' = o.killL nw
  | [], j, o', h => by simp [look] at h
  | (k, o) :: r, j, o', h => by
    simp only [List.filter_cons] at h
    by_cases hk : memN L k = true
    · rw [if_neg (by simp [hk])] at h
      obtain ⟨o1, h1, h2, h3⟩ := rest_look r j o' h
      refine ⟨o1, ?_, h2, h3⟩
      rw [look_cons, if_neg (fun e => h2 (by rw [e]; exact mem_memN.1 hk))]
      exact h1
    · rw [if_pos (by simp [hk]), List.map_cons, look_cons] at h
      split at h
      · rename_i e
        cases h; subst e
        exact ⟨o, by rw [look_cons, if_pos rfl], fun hm => hk (mem_memN.2 hm), rfl⟩
      · rename_i hne
        obtain ⟨o1, h1, h2, h3⟩ := rest_look r j o' h
        exact ⟨o1, by rw [look_cons, if_neg hne]; exact h1, h2, h3⟩

/-- BEHIND SUCH A CALL. -/
theorem Rel.after (h : Rel n w0 S0 S E s a w) {L : List Nat} (hL : ∀ k, k ∈ L → (look s.ob k).isSome) {d : Nat} (hd : d < 500) {S' : Snap} {E1 : Nat → Value} {obr : List (Nat × Ob)} {w' : World}
    (hle : S.le S') (hH : RelH (inBase h L hL) S S' E1 obr w') (hfr : ∀ k, k ∈ newNames d (obr.map (·.1)) → look s.ob k = none) :
    ∃ E', Rel n w0 S0 S' E' (s.after L d obr) a w' ∧ ∀ k j, backName L d (obr.map (·.1)) k = some j → E' j = E1 k := by
  let nw := newNames d (obr.map (·.1))
  let E' : Nat → Value := fun j => if j ∈ nw then E1 (j - (d + 1) * 1024) else E j
  have hE : ∀ k, k ∉ nw → E' k = E k := fun k hk => by show (if _ then _ else _) = _; rw [if_neg hk]
  have hnob : ∀ k, (look s.ob k).isSome → k ∉ nw := fun k hk hm => by rw [hfr k hm] at hk; cases hk
  have hf : ∀ k j, backName L d (obr.map (·.1)) k = some j → E' j = E1 k := fun k j hkj => by
    unfold backName at hkj
    cases hb : Nat.ble HB k with
    | true =>
      rw [hb] at hkj
      simp only [cond_true] at hkj
      have hk := Nat.le_of_ble_eq_true hb
      rw [hE j (hnob j (hL j (List.mem_of_getElem? hkj)))]
      have h1 : E1 k = inE E L k := hH.high k hk
      rw [h1, show k = HB + (k - HB) by omega, inE_at hkj]
    | false =>
      rw [hb] at hkj
      simp only [cond_false] at hkj
      cases hc : (Nat.blt k 1024 && memN (obr.map (·.1)) k) with
      | false => rw [hc] at hkj; cases hkj
      | true =>
        rw [hc] at hkj
        simp only [cond_true, Option.some.injEq] at hkj
        simp only [Bool.and_eq_true] at hc
        subst hkj
        have hm : (d + 1) * 1024 + k ∈ nw := newNames_iff.2 ⟨k, mem_memN.1 hc.2, Nat.le_of_ble_eq_true hc.1, rfl⟩
        show (if _ then _ else _) = _
        rw [if_pos hm, Nat.add_sub_cancel_left]
  have hGG : ∀ g, w0.G g → (inBase h L hL).G g := fun g hg => ⟨Nat.lt_of_lt_of_le (w0.lt g hg) h.below.size, fun k hk hb => h.own k g (hL k hk) hb hg⟩
  -- what is not handed on stays as it was
  have hrest : ∀ j o g, look s.ob j = some o → j ∉ L → blk (E j) = some g → (inBase h L hL).G g := fun j o g hj hjL hg =>
    ⟨((h.ob j o hj).lt hg).1, fun k hk hb => h.sep k j g (hL k hk) (by simp [hj]) (fun e => hjL (by rw [← e]; exact hk)) hb hg⟩
  have hlook : ∀ j o', look (s.after L d obr).ob j = some o' → (∃ k o, backName L d (obr.map (·.1)) k = some j ∧ look obr k = some o ∧ o' = o.mapN (backName L d (obr.map (·.1)))) ∨ ∃ o, look s.ob j = some o ∧ j ∉ L ∧ o' = o.killL nw := fun j o' hj => by
    rcases backObs_look _ _ obr j o' hj with h1 | h1
    · exact .inl h1
    · exact .inr (rest_look s.ob j o' h1)
  refine ⟨E', ⟨h.defers, h.size, ?_, ?_, h.le.trans hle, ?_, hH.inn, ?_, ?_, h.below.trans hH.below.os hH.below.tape hH.below.output hH.below.size (fun g hg => hH.below.block g (hGG g hg)), ?_, ?_⟩, hf⟩
  · intro t x hx
    simp only [A.after, look_map, Option.map_eq_some_iff] at hx
    obtain ⟨y, hy, rfl⟩ := hx
    exact killL_thin (h.thin t y hy)
  · intro t x hx
    simp only [A.after, look_map, Option.map_eq_some_iff] at hx
    obtain ⟨y, hy, rfl⟩ := hx
    exact (TV.killL hE (h.tm t y hy)).mono hle
  · intro a' u hu
    rcases hH.new a' u hu with h1 | ⟨h1, h2⟩
    · exact h.new a' u h1
    · exact .inr ⟨h1, fun hG => h2 (hGG _ hG)⟩
  · intro j o' hj
    rcases hlook j o' hj with ⟨k, o, h1, h2, rfl⟩ | ⟨o, h1, h2, rfl⟩
    · exact OV.mapN hf (hf k j h1) (hH.obs k o h2)
    · refine OV.killL hE (hnob j (by simp [h1])) ((h.ob j o h1).move hle (fun g hg => hH.below.block g (hrest j o g h1 h2 hg)) (fun g hg a' ha => ?_))
      cases hSa : S' a' with
      | none => rfl
      | some u =>
        rcases hH.new a' u hSa with h3 | ⟨_, h3⟩
        · rw [(h.ob j o h1).off hg a' ha] at h3; cases h3
        · exact absurd (by rw [ha]; exact hrest j o g h1 h2 hg) h3
  · intro i j g hi hj hij hgi hgj
    obtain ⟨oi, hi⟩ := Option.isSome_iff_exists.1 hi
    obtain ⟨oj, hj⟩ := Option.isSome_iff_exists.1 hj
    rcases hlook i oi hi with ⟨k, o, h1, h2, _⟩ | ⟨o, h1, h2, _⟩
    · rw [hf k i h1] at hgi
      rcases hlook j oj hj with ⟨k', o', h3, h4, _⟩ | ⟨o', h3, h4, _⟩
      · rw [hf k' j h3] at hgj
        exact hH.sep k k' g (by simp [h2]) (by simp [h4]) (fun e => hij (by subst e; rw [h1] at h3; cases h3; rfl)) hgi hgj
      · rw [hE j (hnob j (by simp [h3]))] at hgj
        exact hH.own k g (by simp [h2]) hgi (hrest j o' g h3 h4 hgj)
    · rw [hE i (hnob i (by simp [h1]))] at hgi
      rcases hlook j oj hj with ⟨k', o', h3, h4, _⟩ | ⟨o', h3, h4, _⟩
      · rw [hf k' j h3] at hgj
        exact hH.own k' g (by simp [h4]) hgj (hrest i o g h1 h2 hgi)
      · rw [hE j (hnob j (by simp [h3]))] at hgj
        exact h.sep i j g (by simp [h1]) (by simp [h3]) hij hgi hgj
  · intro j g hj hg
    obtain ⟨oj, hj⟩ := Option.isSome_iff_exists.1 hj
    rcases hlook j oj hj with ⟨k, o, h1, h2, _⟩ | ⟨o, h1, _, _⟩
    · rw [hf k j h1] at hg
      exact fun hG => hH.own k g (by simp [h2]) hg (hGG g hG)
    · rw [hE j (hnob j (by simp [h1]))] at hg
      exact h.own j g (by simp [h1]) hg
  · intro k hk
    rw [hE k fun hm => ?_]
    · exact h.high k hk
    · obtain ⟨i, _, hi, rfl⟩ := newNames_iff.1 hm
      unfold HB at hk
      omega

/-- A CALL THAT IS HANDED THINGS. -/
theorem op_stepH {C : Cfg} (hC : Calling P C) (h : Rel C.n w0 S0 S E s a w) {ops : Array Oper} {o : Oper} {hs : HSpc} {args : List Operand} (ho : hcallOf C o = some (hs, args)) {ρ : Type} {K : A → Option ρ} {r : ρ} (he : evH1 C std o hs args s K = some r) {N : Act → World → Prop} {Q : Exit → Act → World → Prop}
    (hN : ∀ s' S' E' a' w', Rel C.n w0 S0 S' E' s' a' w' → K s' = some r → N a' w') :
    if Region.wanted o (yielded ops a.tmps) then o.wp P a w N Q else N (a.put o.dst undef) w := by
  unfold evH1 at he
  have hfail : (std : Br ρ (Option ρ)).fail = none := rfl
  simp only [hfail] at he
  obtain ⟨hck, he⟩ := bif_none he
  simp only [Bool.or_eq_false_iff, Bool.not_eq_false'] at hck
  obtain ⟨⟨hgn, hdst⟩, hd⟩ := hck
  have hd := Nat.le_of_ble_eq_true hd
  have hgo : guardOf ops.toList o = some none := by
    unfold guardOf
    cases hg : o.guard with
    | none => rfl
    | some p => rw [hg] at hgn; simp at hgn
  rw [if_pos ((wanted_guard hgo).2 trivial)]
  have hlt := fun d hd => (okDst_lt hdst d hd).1
  generalize hts : args.map (opd s [] .oth) = ts at he
  generalize hLd : reach 1000 s.ob (ts.flatMap T.site) [] = L at he
  have hLok := reach_ok s.ob 1000 (ts.flatMap T.site) [] ⟨by simp, fun k hk => by cases hk⟩
  rw [hLd] at hLok
  obtain ⟨hnd, hL⟩ := hLok
  replace he := fold_leaf he
  obtain ⟨t, obr, hleaf, he⟩ := he
  replace he := bif_none he
  obtain ⟨hfr, hK⟩ := he
  simp only [Bool.or_eq_false_iff, Bool.not_eq_false'] at hfr
  obtain ⟨hfr, htb⟩ := hfr
  -- the call
  unfold hcallOf at ho
  split at ho
  · rename_i c hop
    split at ho
    · rename_i f hcal
      split at ho
      · rename_i hs' hhs
        simp only [Option.some.injEq, Prod.mk.injEq] at ho
        obtain ⟨rfl, hargs⟩ := ho
        generalize hca : c.args = cargs at hargs
        subst hargs
        obtain ⟨⟨fn, hfn, hbody, hname⟩, hrun⟩ := hC.hcall f hs' hhs
        have hf : ∀ k j, inName L k = some j → inE E L j = E k := fun k j hj => by
          obtain ⟨i, rfl, hi⟩ := inName_get hj
          exact inE_at hi
        have htv : TVs S (inE E L) (cargs.map a.eval) (ts.map (T.mapN (inName L))) := by
          refine ⟨by simp [← hts], fun j u x hu hx => ?_⟩
          simp only [← hts, List.map_map, List.getElem?_map, Option.map_eq_some_iff] at hx
          obtain ⟨y, hy, rfl⟩ := hx
          simp only [Array.getElem?_map, Option.map_eq_some_iff] at hu
          obtain ⟨y', hy', rfl⟩ := hu
          have : y = y' := by rw [← Array.getElem?_toList] at hy'; rw [hy] at hy'; cases hy'; rfl
          subst this
          have h1 := opd_tv h (gs := []) (fun p hp => by cases hp) .oth y
          exact ⟨TV.mapN hf h1.2 h1.1, bare_mapN _ _⟩
        have hcalls := hrun (inBase h L hL) S (inE E L) (inObs s.ob L 0 L) (ts.map (T.mapN (inName L))) (cargs.map a.eval) t obr (RelH.enter h hnd hL) htv hleaf
        have hexec : (execOp a.eval o).run P w = .ok (.enter f (cargs.map a.eval)) w := by
          have h1 : ¬ fn.name = "runtime.NumGoroutine" := by simpa using hname
          have h2 : ¬ fn.body = none := fun e => by rw [e] at hbody; simp at hbody
          simp [execOp, hop, resolve, hcal, hca, Act.eval, Deferred.ofValue, invoke, callFunc, hfn, h1, h2]
        unfold Oper.wp
        rw [hexec, Oper.upon_enter]
        refine hcalls.mono fun e w' hh => ?_
        obtain ⟨v, S', E1, rfl, hle, hH, hv, htb'⟩ := hh
        obtain ⟨E', hrel, hback⟩ := h.after hL hd hle hH (fun k hk => by
          rw [List.any_eq_false] at hfr
          have := hfr k hk
          cases hq : look s.ob k with
          | none => rfl
          | some _ => rw [hq] at this; simp at this)
        exact hN _ S' E' _ _ (hrel.setO hlt (bare_thin (bare_mapN _ _)) fun d hd => TV.mapN hback htb' hv) hK
      · simp at ho
    · simp at ho
  · simp at ho

theorem op_step {C : Cfg} (hT : Told P C) (hC : Calling P C) (h : Rel C.n w0 S0 S E s a w) {ops : Array Oper} {o : Oper} {ρ : Type} {K : A → Option ρ} {r : ρ} (he : evOp C std ops.toList o s K = some r) {N : Act → World → Prop} {Q : Exit → Act → World → Prop}
    (hN : ∀ s' S' E' a' w', Rel C.n w0 S0 S' E' s' a' w' → K s' = some r → N a' w') :
    if Region.wanted o (yielded ops a.tmps) then o.wp P a w N Q else N (a.put o.dst undef) w := by
  unfold evOp at he
  split at he
  · rename_i hs args ho
    exact op_stepH hC h ho he hN
  · obtain ⟨S', h'⟩ := h.preCall C o
    exact op_step1 hT hC h' he hN

end Go.Ev
