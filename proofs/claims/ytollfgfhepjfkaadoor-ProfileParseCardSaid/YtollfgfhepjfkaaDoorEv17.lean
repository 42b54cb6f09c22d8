/- The evaluator 'Ev': regions, code, functions. -/
import Derived.Test.YtollfgfhepjfkaaDoorEv16
namespace Go.Ev
open Go Go.RowKit

variable {P : Program} {n : Nat} {w0 : Base P} {S0 S : Snap} {E : Nat → Value} {s : A} {a : Act} {w : World}

theorem countP_lt {α : Type} {p q : α → Bool} : ∀ {l : List α} {x : α}, (∀ y, y ∈ l → q y = true → p y = true) → x ∈ l → p x = true → q x = false → l.countP q < l.countP p
  | [], x, _, hx, _, _ => by cases hx
  | y :: r, x, h, hx, hp, hq => by
    have hle : r.countP q ≤ r.countP p := List.countP_mono_left fun z hz => h z (by simp [hz])
    simp only [List.countP_cons]
    rcases List.mem_cons.1 hx with rfl | hx
    · rw [hp, hq]; simp; omega
    · have := countP_lt (l := r) (fun z hz => h z (by simp [hz])) hx hp hq
      have hy := h y (by simp)
      cases hqy : q y with
      | false => simp; omega
      | true => rw [hy hqy]; simp; omega

section drawn
variable {C : Cfg} {ops : Array Oper} {s0 : A} {lg : List Lg}

def unlisted (ops : Array Oper) (listed : Array Bool) : Nat := (List.range ops.size).countP fun i => !listed.getD i true

theorem any_sound (hc : Cert P C ops s0 lg) (hlen : lg.length = ops.size) (hclean : ∀ o, o ∈ ops.toList → ∀ d, o.dst = some d → NoG s0 d ∧ (isMaker o.op = true → NoRef s0 d)) {Q : Exit → Act → World → Prop}
    (hQ : ∀ S E a w, Rel C.n w0 S0 S E (runA lg s0) a w → Q .normal a w) :
    ∀ (fuel : Nat) (listed : Array Bool) (S : Snap) (E : Nat → Value) (a : Act) (w : World), listed.size = ops.size → unlisted ops listed ≤ fuel → Closed lg (fun i => listed.getD i false) →
      Rel C.n w0 S0 S E (runL (fun i => listed.getD i false) lg 0 s0) a w → wpAny P .any ops Q fuel listed a w := by
  have getD : ∀ {listed : Array Bool} {i : Nat}, listed.size = ops.size → i < ops.size → listed.getD i true = listed.getD i false := by
    intro listed i hs hi
    simp [Array.getD, hs, hi]
  have done : ∀ (listed : Array Bool) (S : Snap) (E : Nat → Value) (a : Act) (w : World), listed.size = ops.size → (∀ i, i < ops.size → listed.getD i false = true) → Rel C.n w0 S0 S E (runL (fun i => listed.getD i false) lg 0 s0) a w → Q .normal a w := by
    intro listed S E a w hs hall h
    have he : runL (fun i => listed.getD i false) lg 0 s0 = runA lg s0 := by
      have h1 := runA_runL lg lg.length 0 s0
      rw [List.take_length] at h1
      rw [h1]
      have : ∀ (l : List Lg) (i : Nat) (s : A), i + l.length = lg.length → runL (fun i => listed.getD i false) l i s = runL (fun j => Nat.blt j (0 + lg.length)) l i s := by
        intro l
        induction l with
        | nil => intro i s _; rfl
        | cons e r ih =>
          intro i s hi
          simp only [List.length_cons] at hi
          simp only [runL]
          have hb : Nat.blt i (0 + lg.length) = true := Nat.ble_eq_true_of_le (by omega)
          rw [if_pos (hall i (by omega)), if_pos hb]
          exact ih (i + 1) _ (by omega)
      exact this lg 0 s0 (by simp)
    rw [he] at h
    exact hQ S E a w h
  -- where nothing is ready, all are listed
  have all_of : ∀ (listed : Array Bool), listed.size = ops.size → Region.ready .any ops listed = [] → ∀ i, i < ops.size → listed.getD i false = true := by
    intro listed hs hr i
    induction i using Nat.strongRecOn with
    | _ i ih =>
      intro hi
      cases hl : listed.getD i false with
      | true => rfl
      | false =>
        have : i ∈ Region.ready .any ops listed := by
          refine mem_ready.2 ⟨by rw [getD hs hi]; exact hl, ops[i], by simp [hi], fun q hq hbq => ?_⟩
          have hlt := hc.edge i ops[i] lg[i] (by simp [hi]) (List.getElem?_eq_getElem (by omega)) q (by simpa using hq) (by rw [← binds_any]; exact hbq)
          exact ih q.on hlt (by omega)
        rw [hr] at this; cases this
  intro fuel
  induction fuel with
  | zero =>
    intro listed S E a w hs hu hcl h
    have hall : ∀ i, i < ops.size → listed.getD i false = true := by
      intro i hi
      cases hl : listed.getD i false with
      | true => rfl
      | false =>
        have : 0 < unlisted ops listed := List.countP_pos_iff.2 ⟨i, by simpa using hi, by rw [getD hs hi, hl]; rfl⟩
        omega
    refine ⟨?_, done listed S E a w hs hall h⟩
    cases hr : Region.ready .any ops listed with
    | nil => rfl
    | cons i r =>
      have hi : i ∈ Region.ready .any ops listed := by rw [hr]; simp
      obtain ⟨h1, o, ho, _⟩ := mem_ready.1 hi
      have hlt := (Array.getElem?_eq_some_iff.1 ho).1
      rw [getD hs hlt, hall i hlt] at h1; cases h1
  | succ fuel ih =>
    intro listed S E a w hs hu hcl h
    refine ⟨fun hr => done listed S E a w hs (all_of listed hs hr) h, fun i hi => ?_⟩
    obtain ⟨h1, o, ho, hall⟩ := mem_ready.1 hi
    have hlt := (Array.getElem?_eq_some_iff.1 ho).1
    rw [getD hs hlt] at h1
    have hL' : ∀ j, (listed.setIfInBounds i true).getD j false = (listed.getD j false || Nat.beq j i) := by
      intro j
      by_cases hj : j = i
      · subst hj; simp [Array.getD, hs, hlt]
      · rw [getD_set_ne false (Ne.symm hj), nbeq_ne hj, Bool.or_false]
    obtain ⟨q1, q2⟩ := sched_step hc hlen hclean hcl ho h1 (fun q hq hb => hall q hq hb) h (L' := fun j => (listed.setIfInBounds i true).getD j false) hL' (N := wpAny P .any ops Q fuel (listed.setIfInBounds i true)) (Q := Q) fun S' E' a' w' hrel =>
      ih _ S' E' a' w' (by simpa using hs) (by
        have : unlisted ops (listed.setIfInBounds i true) < unlisted ops listed := by
          refine countP_lt (x := i) (fun y hy hq => ?_) (by simpa using hlt) (by rw [getD hs hlt, h1]; rfl) ?_
          · by_cases hyi : y = i
            · subst hyi; rw [getD hs hlt, h1]; rfl
            · rw [getD_set_ne true (Ne.symm hyi)] at hq; exact hq
          · rw [getD (by simpa using hs) hlt, hL']; simp
        omega) (by
          -- closed
          intro j x hx hLj k hk
          have hLj : (listed.setIfInBounds i true).getD j false = true := hLj
          show (listed.setIfInBounds i true).getD k false = true
          rw [hL'] at hLj
          rw [hL']
          by_cases hj : j = i
          · subst hj
            have hbel := hc.below j o x ho hx
            have := below_in (m := j) hcl o.after.toList (fun q hq hb => hall q (by simpa using hq) (by rw [binds_any]; exact hb)) k (by rw [← hbel]; exact hk)
            have this : listed.getD k false = true := this
            rw [this]; rfl
          · rw [nbeq_ne hj, Bool.or_false] at hLj
            have this : listed.getD k false = true := hcl j x hx hLj k hk
            rw [this]; rfl) hrel
    unfold wpOp
    simp only [ho]
    split
    · rename_i hw; rw [if_pos hw] at q1; exact .inl q1
    · rename_i hw; rw [if_neg hw] at q1; exact q1

theorem drawn_sound (hm : P.follows .mixedOrders = true) (hT : Told P C) (hC : Calling P C) (h : Rel C.n w0 S0 S E s a w) {ρ : Type} {K : A → Option ρ} {r : ρ} (he : evDrawn C std ops.toList ops.toList 0 [] (preD s ops.toList) K = some r) {id : Nat} {Q : Exit → Act → World → Prop}
    (hQ : ∀ s' S' E' a' w', Rel C.n w0 S0 S' E' s' a' w' → K s' = some r → Q .normal a' w') : (Code.region id ops true).wp P Q a w := by
  obtain ⟨lg, hlen, hc, hK⟩ := drawn_cert (s0 := preD s ops.toList) hT hC ops.toList 0 [] (preD s ops.toList) rfl (fun j => by simp) rfl ⟨fun i o e _ h => by simp at h, fun i o e _ h => by simp at h, fun i j x e _ h => by simp at h, fun i o e _ h => by simp at h⟩ he
  simp only [Nat.zero_add, Array.length_toList] at hlen
  refine wp_region_any hm (any_sound hc hlen (fun o ho d hd => preD_clean ops.toList s o ho d hd) (fun S E a w hrel => hQ _ S E a w hrel hK) ops.size (Array.replicate ops.size false) S E a _ (by simp) ?_ ?_ ?_)
  · unfold unlisted
    exact Nat.le_trans List.countP_le_length (by simp)
  · intro j e _ hj
    simp only [Array.getD_eq_getD_getElem?, Array.getElem?_replicate] at hj
    split at hj <;> simp at hj
  · have h1 : Rel C.n w0 S0 S E (preD s ops.toList) a w := Rel.preD ops.toList h
    have h2 : runL (fun i => (Array.replicate ops.size false).getD i false) lg 0 (preD s ops.toList) = preD s ops.toList := by
      have : ∀ (l : List Lg) (i : Nat) (s : A), runL (fun i => (Array.replicate ops.size false).getD i false) l i s = s := by
        intro l
        induction l with
        | nil => intro i s; rfl
        | cons e r ih =>
          intro i s
          simp only [runL]
          rw [if_neg (by simp only [Array.getD_eq_getD_getElem?, Array.getElem?_replicate]; split <;> simp)]
          exact ih _ _
      exact this _ _ _
    rw [h2]
    exact h1.below' ⟨rfl, rfl, rfl, Nat.le_refl _, fun _ _ => rfl⟩
end drawn

end Go.Ev
