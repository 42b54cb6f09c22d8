/- The evaluator 'Ev': code, functions. -/
import Derived.Test.YtollfgfhepjfkaaDoorEv17
namespace Go.Ev
open Go Go.RowKit

variable {P : Program} {n : Nat} {w0 : Base P} {S0 S : Snap} {E : Nat → Value} {s : A} {a : Act} {w : World}

/-! ### what is kept -/
theorem look_filter {α : Type} (f : Nat → Bool) : ∀ (l : List (Nat × α)) (j : Nat) (x : α), look (l.filter fun p => f p.1) j = some x → look l j = some x
  | [], j, x, h => h
  | (k, y) :: r, j, x, h => by
    simp only [List.filter_cons] at h
    by_cases hk : f k = true
    · rw [if_pos hk, look_cons] at h
      rw [look_cons]
      by_cases hj : j = k
      · rw [if_pos hj] at h ⊢; exact h
      · rw [if_neg hj] at h ⊢; exact look_filter f r j x h
    · rw [if_neg hk] at h
      rw [look_cons]
      by_cases hj : j = k
      · subst hj
        -- filtered out
        have : ∀ (l : List (Nat × α)), look (l.filter fun p => f p.1) j = none := by
          intro l
          induction l with
          | nil => rfl
          | cons q l ih =>
            obtain ⟨k', y'⟩ := q
            simp only [List.filter_cons]
            by_cases hk' : f k' = true
            · rw [if_pos hk', look_cons, if_neg (fun e => hk (by rw [e]; exact hk')), ih]
            · rw [if_neg hk', ih]
        rw [this] at h; cases h
      · rw [if_neg hj]; exact look_filter f r j x h
theorem Rel.keep (h : Rel n w0 S0 S E s a w) (l : List Nat) : Rel n w0 S0 S E (s.keep l) a w :=
  h.less (fun t x hx => look_filter (fun i => l.any (Nat.beq i)) s.tm t x hx) fun _ _ ho => ho

theorem Rel.relabel (h : Rel n w0 S0 S E s a w) {t : Nat} {x : T} (hb : x.bare = true) (hx : TV S E (frameOf a) (frameOf a t) x) : Rel n w0 S0 S E (s.set (some t) x) a w := by
  have h1 : Rel n w0 S0 S E ⟨dropG t s.tm, s.ob⟩ a w := h.weak (wk_drop s t).tm
  refine ⟨h.defers, h.size, fun i y hy => ?_, fun i y hy => ?_, h.le, h.new, h.inn, h.ob, h.sep, h.below, h.own, h.high⟩
  · simp only [A.set, look_put] at hy
    split at hy
    · cases hy; exact bare_thin hb
    · exact h1.thin i y hy
  · simp only [A.set, look_put] at hy
    split at hy
    · rename_i e; cases hy; subst e; exact hx
    · exact h1.tm i y hy

theorem kill_mem {y : Ob} {d : Nat} {c : T} (hc : c ∈ (y.kill d).ts) : c.refs d = false := by
  have := kill_ts (d := d) y
  unfold Ob.refs at this
  rw [List.any_eq_false] at this
  have := this c hc
  simpa using this

theorem Rel.headVec (h : Rel n w0 S0 S E s a w) (t e sz : Nat) (htH : t < HB) : ∃ E', Rel n w0 S0 S E' (s.headVec t e sz) a w := by
  unfold A.headVec
  split
  · rename_i z hz
    have hv : frameOf a t = .slice none 0 0 := h.tm t _ hz
    have hm : Made S E w0.B w w t (.slice none 0 0) (.vec e sz []) := by
      refine ⟨⟨rfl, rfl, rfl, Nat.le_refl _, fun _ _ _ => rfl⟩, fun g hg => (by cases hg), ⟨[], ?_, fun x hx => by (cases hx), Vs.nil S, fun u hu => (by cases hu), fun g hg => ?_⟩⟩
      · simpa using ownR_of (World.ownsRow_nil w w0.B e sz)
      · simp [blk] at hg
    exact ⟨_, (h.made htH hm).relabel rfl (by rw [hv]; simp [TV])⟩
  · rename_i k _
    cases hkd : Nat.beq k t with
    | true => exact ⟨E, h⟩
    | false =>
      simp only [cond_false]
      have hne : k ≠ t := fun e => by subst e; simp at hkd
      split
      · rename_i e' sz' xs hl
        exact ⟨_, (h.kill t).ren (j := t) htH hne hl (by simp [A.kill, look_map, look_drop]) (fun i x hx => by
          simp only [A.kill, look_map, Option.map_eq_some_iff] at hx
          obtain ⟨y, _, rfl⟩ := hx
          exact kill_refs t y) (fun i o hi c hc => by
          simp only [A.kill, look_map, look_drop, Option.map_eq_some_iff] at hi
          obtain ⟨y, _, rfl⟩ := hi
          exact kill_mem hc)⟩
      · rename_i e' sz' xs cs' hl
        exact ⟨_, (h.kill t).ren (j := t) htH hne hl (by simp [A.kill, look_map, look_drop]) (fun i x hx => by
          simp only [A.kill, look_map, Option.map_eq_some_iff] at hx
          obtain ⟨y, _, rfl⟩ := hx
          exact kill_refs t y) (fun i o hi c hc => by
          simp only [A.kill, look_map, look_drop, Option.map_eq_some_iff] at hi
          obtain ⟨y, _, rfl⟩ := hi
          exact kill_mem hc)⟩
      · exact ⟨E, h⟩
  · exact ⟨E, h⟩
theorem cellName_lt (k i : Nat) : cellName k i < HB := by
  unfold cellName HB
  have h1 : k % 1024 < 1024 := Nat.mod_lt _ (by omega)
  have h2 : i % 64 < 64 := Nat.mod_lt _ (by omega)
  have h3 : (bif Nat.ble 1048576 k then 2048 else 0) ≤ 2048 := by cases Nat.ble 1048576 k <;> simp
  omega
theorem Rel.headCell (h : Rel n w0 S0 S E s a w) (k i e sz : Nat) : ∃ E', Rel n w0 S0 S E' (s.headCell k i e sz) a w := by
  unfold A.headCell
  have hjH := cellName_lt k i
  generalize cellName k i = j at hjH
  simp only []
  split
  · rename_i cs hk
    split
    · cases hb : Nat.beq k j with
      | true => exact ⟨E, h⟩
      | false =>
        simp only [cond_false]
        have hm : Made S E w0.B w w j (.slice none 0 0) (.vec e sz []) := by
          refine ⟨⟨rfl, rfl, rfl, Nat.le_refl _, fun _ _ _ => rfl⟩, fun g hg => (by cases hg), ⟨[], ?_, fun x hx => by (cases hx), Vs.nil S, fun u hu => (by cases hu), fun g hg => ?_⟩⟩
          · simpa using ownR_of (World.ownsRow_nil w w0.B e sz)
          · simp [blk] at hg
        have h1 := h.made hjH hm
        split
        · rename_i cs' hk'
          split
          · rename_i z hz
            have hlt : i < cs'.length := (List.getElem?_eq_some_iff.1 hz).1
            have hle : i + [T.vec j].length ≤ cs'.length := by simp; omega
            refine ⟨_, h1.change hk' rfl rfl rfl rfl (fun _ _ => rfl) ?_⟩
            obtain ⟨g, vs, hE, hh, hn, hB, hS, hc⟩ := h1.ob k _ hk'
            refine ⟨g, vs, hE, hh, by rw [over_length hle]; exact hn, hB, hS, fun q u c hu hcq => ?_⟩
            rw [over_get hle] at hcq
            by_cases hq : i ≤ q ∧ q < i + [T.vec j].length
            · rw [if_pos hq] at hcq
              have hqi : q = i := by simp at hq; omega
              subst hqi
              simp only [Nat.sub_self, List.getElem?_cons_zero, Option.some.injEq] at hcq
              subst hcq
              obtain ⟨q1, _, q3⟩ := hc q u (.nils z) hu hz
              have q3 : u = .slice none 0 0 := q3
              exact ⟨q1, rfl, by simp only [TV, if_true]; exact q3⟩
            · rw [if_neg hq] at hcq
              exact hc q u c hu hcq
          · exact ⟨E, h⟩
        · exact ⟨E, h⟩
    · rename_i x hx
      cases hb : Nat.beq x j with
      | true => exact ⟨E, h⟩
      | false =>
        simp only [cond_false]
        have hne : x ≠ j := fun e => by subst e; simp at hb
        split
        · rename_i e' sz' xs hl
          exact ⟨_, (h.kill j).ren (j := j) hjH hne hl (by simp [A.kill, look_map, look_drop]) (fun i x hx => by
            simp only [A.kill, look_map, Option.map_eq_some_iff] at hx
            obtain ⟨y, _, rfl⟩ := hx
            exact kill_refs j y) (fun i o hi c hc => by
            simp only [A.kill, look_map, look_drop, Option.map_eq_some_iff] at hi
            obtain ⟨y, _, rfl⟩ := hi
            exact kill_mem hc)⟩
        · exact ⟨E, h⟩
    · exact ⟨E, h⟩
  · rename_i e0 sz0 xs0 cs hk
    split
    · cases hb : Nat.beq k j with
      | true => exact ⟨E, h⟩
      | false =>
        simp only [cond_false]
        have hm : Made S E w0.B w w j (.slice none 0 0) (.vec e sz []) := by
          refine ⟨⟨rfl, rfl, rfl, Nat.le_refl _, fun _ _ _ => rfl⟩, fun g hg => (by cases hg), ⟨[], ?_, fun x hx => by (cases hx), Vs.nil S, fun u hu => (by cases hu), fun g hg => ?_⟩⟩
          · simpa using ownR_of (World.ownsRow_nil w w0.B e sz)
          · simp [blk] at hg
        have h1 := h.made hjH hm
        split
        · rename_i e' sz' xs' cs' hk'
          split
          · rename_i z hz
            have hlt : i < cs'.length := (List.getElem?_eq_some_iff.1 hz).1
            have hle : i + [T.vec j].length ≤ cs'.length := by simp; omega
            refine ⟨_, h1.change hk' rfl rfl rfl rfl (fun _ _ => rfl) ?_⟩
            obtain ⟨vals, ho, hx, hl, hv, hone, hc, hS⟩ := h1.ob k _ hk'
            refine ⟨vals, ho, hx, by rw [over_length hle]; exact hl, hv, hone, fun q u c hu hcq => ?_, hS⟩
            rw [over_get hle] at hcq
            by_cases hq : i ≤ q ∧ q < i + [T.vec j].length
            · rw [if_pos hq] at hcq
              have hqi : q = i := by simp at hq; omega
              subst hqi
              simp only [Nat.sub_self, List.getElem?_cons_zero, Option.some.injEq] at hcq
              subst hcq
              obtain ⟨_, q3⟩ := hc q u (.nils z) hu hz
              have q3 : u = .slice none 0 0 := q3
              exact ⟨rfl, by simp only [TV, if_true]; exact q3⟩
            · rw [if_neg hq] at hcq
              exact hc q u c hu hcq
          · exact ⟨E, h⟩
        · exact ⟨E, h⟩
    · rename_i x hx
      cases hb : Nat.beq x j with
      | true => exact ⟨E, h⟩
      | false =>
        simp only [cond_false]
        have hne : x ≠ j := fun e => by subst e; simp at hb
        split
        · rename_i e' sz' xs hl
          exact ⟨_, (h.kill j).ren (j := j) hjH hne hl (by simp [A.kill, look_map, look_drop]) (fun i x hx => by
            simp only [A.kill, look_map, Option.map_eq_some_iff] at hx
            obtain ⟨y, _, rfl⟩ := hx
            exact kill_refs j y) (fun i o hi c hc => by
            simp only [A.kill, look_map, look_drop, Option.map_eq_some_iff] at hi
            obtain ⟨y, _, rfl⟩ := hi
            exact kill_mem hc)⟩
        · exact ⟨E, h⟩
    · exact ⟨E, h⟩
  · exact ⟨E, h⟩
theorem Rel.heads (C : Cfg) : ∀ (l : List (Nat × Nat)) {s : A} {E : Nat → Value}, Rel n w0 S0 S E s a w → ∃ E', Rel n w0 S0 S E' (s.heads C l) a w
  | [], s, E, h => ⟨E, h⟩
  | (t, e) :: r, s, E, h => by
    unfold A.heads
    split
    · rename_i el sz _
      cases ht : Nat.blt t 1000 with
      | true =>
        simp only [cond_true]
        obtain ⟨E', h'⟩ := h.headVec t el sz (lt_HB (Nat.le_of_ble_eq_true ht))
        exact Rel.heads C r h'
      | false =>
        simp only [cond_false]
        obtain ⟨E', h'⟩ := h.headCell (t % 2097152) (t / 2097152 - 1) el sz
        exact Rel.heads C r h'
    · exact Rel.heads C r h
theorem Rel.scrub (h : Rel n w0 S0 S E s a w) (C : Cfg) (l : List Nat × List (Nat × Nat) × List Nat) : ∃ E', Rel n w0 S0 S E' (s.scrub C l) a w := by
  obtain ⟨E', h'⟩ := h.heads C l.2.1
  exact ⟨E', h'.pick _ _⟩

theorem Rel.stowD (h : Rel n w0 S0 S E s a w) (ops : List Oper) : ∃ S', Rel n w0 S0 S' E (s.stowD ops) a w := by
  unfold A.stowD
  cases ops.any isCallV && !ops.any isIdx
  · exact ⟨S, h⟩
  · simp only [cond_true]
    obtain ⟨S', _, h', _⟩ := Rel.stowAll _ h
    exact ⟨S', h'⟩

/-! ### code -/
def exitOf : Ex → Exit
  | .normal => .normal
  | .ret => .ret
  | .exit id => .exit id

theorem ops_sound {C : Cfg} (hT : Told P C) (hC : Calling P C) {ops : Array Oper} {ρ : Type} {K : A → Option ρ} {r : ρ} {Q : Exit → Act → World → Prop} : ∀ (l : List Oper) {S : Snap} {E : Nat → Value} {s : A} {a : Act} {w : World}, Rel C.n w0 S0 S E s a w → evOps C std ops.toList l s K = some r →
    (∀ s' S' E' a' w', Rel C.n w0 S0 S' E' s' a' w' → K s' = some r → Q .normal a' w') → wpList P ops Q l a w
  | [], _, _, _, _, _, h, he, hQ => hQ _ _ _ _ _ h he
  | o :: l, _, _, _, _, _, h, he, hQ => by
    simp only [evOps] at he
    have := op_step (Q := Q) (N := wpList P ops Q l) hT hC h he fun s' S' E' a' w' hrel hK => ops_sound hT hC l hrel hK hQ
    unfold wpList
    split
    · rename_i hw; rw [if_pos hw] at this; exact .inl this
    · rename_i hw; rw [if_neg hw] at this; exact this

theorem code_sound {C : Cfg} (hm : P.follows .mixedOrders = true) (hT : Told P C) (hC : Calling P C) (fuel : Nat) {ρ : Type} {r : ρ} : ∀ (c : Code) {s : A} {K : Kont (Option ρ)} {S : Snap} {E : Nat → Value} {a : Act} {w : World} {Q : Exit → Act → World → Prop}, Rel C.n w0 S0 S E s a w → evK C std fuel c s K = some r →
    (∀ ex s' S' E' a' w', Rel C.n w0 S0 S' E' s' a' w' → K ex s' = some r → Q (exitOf ex) a' w') → c.wp P Q a w := by
  intro c
  induction c with
  | skip => intro s K S E a w Q h he hQ; exact wp_skip (hQ .normal _ _ _ _ _ h he)
  | region id ops drawn =>
    intro s K S E a w Q h he hQ
    cases drawn with
    | false =>
      simp only [evK] at he
      exact wp_region_list (ops_sound hT hC ops.toList h he fun s' S' E' a' w' hrel hK => hQ .normal _ _ _ _ _ (hrel.keep _) hK)
    | true =>
      simp only [evK] at he
      obtain ⟨S', h'⟩ := h.stowD ops.toList
      exact drawn_sound hm hT hC h' he fun s' S' E' a' w' hrel hK => hQ .normal _ _ _ _ _ (hrel.keep _) hK
  | seq x y ihx ihy =>
    intro s K S E a w Q h he hQ
    simp only [evK] at he
    refine wp_seq (ihx h he fun ex s' S' E' a' w' hrel hK => ?_)
    cases ex with
    | normal => exact ihy hrel hK hQ
    | ret => exact hQ .ret _ _ _ _ _ hrel hK
    | exit id => exact hQ (.exit id) _ _ _ _ _ hrel hK
  | cond c x y ihx ihy =>
    intro s K S E a w Q h he hQ
    simp only [evK] at he
    split at he
    · rename_i b hb
      have h1 := (opd_tv h (gs := []) (fun p hp => by cases hp) .bool c).1
      rw [hb] at h1
      have h2 : V S (a.eval c) (.bool b) := h1
      have h3 : a.eval c = .bool b := by generalize a.eval c = u at h2; cases h2; rfl
      have hQ' : ∀ {ex : Ex} {s' : A} {S' : Snap} {E' : Nat → Value} {a' : Act} {w' : World}, Rel C.n w0 S0 S' E' s' a' w' → joinK std (joinId c x y) (C.join (joinId c x y)) K ex s' = some r → Q (exitOf ex) a' w' := by
        intro ex s' S' E' a' w' hrel hK
        cases hj : C.join (joinId c x y) with
        | none => rw [hj] at hK; exact hQ _ _ _ _ _ _ hrel hK
        | some l =>
          rw [hj] at hK
          cases ex with
          | normal => exact hQ .normal _ _ _ _ _ (hrel.pick l.1 l.2) hK
          | ret => exact hQ .ret _ _ _ _ _ hrel hK
          | exit i => exact hQ (.exit i) _ _ _ _ _ hrel hK
      cases b with
      | true => exact wp_cond_true h3 (ihx h he fun ex s' S' E' a' w' hrel hK => hQ' hrel hK)
      | false => exact wp_cond_false h3 (ihy h he fun ex s' S' E' a' w' hrel hK => hQ' hrel hK)
    · cases he
  | block id c ih =>
    intro s K S E a w Q h he hQ
    simp only [evK] at he
    refine wp_block (ih h he fun ex s' S' E' a' w' hrel hK => ?_)
    cases ex with
    | normal => exact hQ .normal _ _ _ _ _ hrel hK
    | ret => exact hQ .ret _ _ _ _ _ hrel hK
    | exit j =>
      simp only [blockK] at hK
      simp only [exitOf, Exit.inBlock]
      by_cases hj : j = id
      · subst hj
        simp only [Nat.beq_refl, cond_true] at hK
        rw [if_pos rfl]
        exact hQ .normal _ _ _ _ _ hrel hK
      · rw [nbeq_ne (Ne.symm hj)] at hK
        rw [if_neg hj]
        exact hQ (.exit j) _ _ _ _ _ hrel hK
  | loop c ih =>
    intro s K S E a w Q h he hQ
    simp only [evK] at he
    obtain ⟨E1, h1⟩ := h.scrub C (C.live (firstRegion c))
    generalize s.scrub C (C.live (firstRegion c)) = s1 at he h1
    generalize hscr : (fun s' : A => s'.scrub C (C.live (firstRegion c))) = scr at he
    let J : Nat → Act → World → Prop := fun m a w => ∃ s S E, Rel C.n w0 S0 S E s a w ∧ loopK (fun s' K' => evK C std fuel c s' K') scr m s K = some r
    have hJ : J fuel a w := ⟨s1, S, E1, h1, he⟩
    let I : Act → World → Prop := fun a w => ∃ m, J m a w
    have : ∀ a w, ∃ m, I a w → (J m a w ∧ ∀ k, J k a w → m ≤ k) := by
      intro a w
      by_cases hi : I a w
      · obtain ⟨m, hm⟩ := hi
        have : ∃ m, J m a w ∧ ∀ k, J k a w → m ≤ k := by
          induction m using Nat.strongRecOn with
          | _ m ihm =>
            by_cases hk : ∃ k, J k a w ∧ k < m
            · obtain ⟨k, h1, h2⟩ := hk
              exact ihm k h2 h1
            · exact ⟨m, hm, fun k hk' => Nat.le_of_not_lt fun hlt => hk ⟨k, hk', hlt⟩⟩
        obtain ⟨m', h'⟩ := this
        exact ⟨m', fun _ => h'⟩
      · exact ⟨0, fun hi' => absurd hi' hi⟩
    let μ : Act → World → Nat := fun a w => Classical.choose (this a w)
    have hμ : ∀ a w, I a w → J (μ a w) a w ∧ ∀ k, J k a w → μ a w ≤ k := fun a w hi => Classical.choose_spec (this a w) hi
    refine wp_loop I μ ⟨fuel, hJ⟩ fun a w hi => ?_
    obtain ⟨⟨s, S, E, hrel, hl⟩, hmin⟩ := hμ a w hi
    cases hmu : μ a w with
    | zero => rw [hmu] at hl; simp [loopK] at hl
    | succ m =>
      rw [hmu] at hl
      simp only [loopK] at hl
      refine ih hrel hl fun ex s' S' E'' a' w' hr' hK => ?_
      cases ex with
      | normal =>
        have hs2 : ∃ E', Rel C.n w0 S0 S' E' (scr s') a' w' := by subst hscr; exact hr'.scrub C _
        obtain ⟨E', hrel'⟩ := hs2
        have hJ' : J m a' w' := ⟨scr s', S', E', hrel', hK⟩
        have h2 := (hμ a' w' ⟨m, hJ'⟩).2 m hJ'
        exact ⟨⟨m, hJ'⟩, by omega⟩
      | ret => exact hQ .ret _ _ _ _ _ hr' hK
      | exit j => exact hQ (.exit j) _ _ _ _ _ hr' hK
  | ret => intro s K S E a w Q h he hQ; exact wp_ret (hQ .ret _ _ _ _ _ h he)
  | exit id => intro s K S E a w Q h he hQ; exact wp_exit (hQ (.exit id) _ _ _ _ _ h he)
  | _ => intro s K S E a w Q h he hQ; simp [evK, std] at he

end Go.Ev
