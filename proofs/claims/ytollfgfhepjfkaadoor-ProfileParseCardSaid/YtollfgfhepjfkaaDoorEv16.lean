/- The evaluator 'Ev': a region that draws its order: any order comes to the text's. -/
import Derived.Test.YtollfgfhepjfkaaDoorEv15
namespace Go.Ev
open Go Go.RowKit

variable {P : Program} {n : Nat} {w0 : Base P} {S0 S : Snap} {E : Nat → Value} {s : A} {a : Act} {w : World}

structure StepOk (P : Program) (C : Cfg) (ops : Array Oper) (o : Oper) (e : Lg) (s1 : A) : Prop where
  gt : ∀ t, t ∈ e.gt → t ∈ e.rt
  wt : ∀ d t, e.wt = some (d, t) → o.dst = some d ∧ (∀ k, t.refs k = true → k ∈ e.ro) ∧ ∀ t' b x, t = .g t' b x → t' ∈ e.gt
  wo : ∀ k b, look e.wo k = some (some b) → ∀ d, b.refs d = true → d ∈ e.ro
  made : ∀ d, d ∈ e.made → isMaker o.op = true ∧ o.dst = some d ∧ d ∈ e.ks
  step : ∀ {w0 : Base P} {S0 S : Snap} {E : Nat → Value} {s : A} {a : Act} {w : World} (_ : Rel C.n w0 S0 S E s a w), Agree e s s1 → Cln e s →
      ∀ {N : Act → World → Prop} {Q : Exit → Act → World → Prop}, (∀ S' E' a' w', Rel C.n w0 S0 S' E' (e.app s) a' w' → N a' w') → if Region.wanted o (yielded ops a.tmps) then o.wp P a w N Q else N (a.put o.dst undef) w

def runA (lg : List Lg) (s : A) : A := lg.foldl (fun s e => e.app s) s

structure Cert (P : Program) (C : Cfg) (ops : Array Oper) (s0 : A) (lg : List Lg) : Prop where
  step : ∀ i o e, ops[i]? = some o → lg[i]? = some e → StepOk P C ops o e (runA (lg.take i) s0)
  below : ∀ (i : Nat) o e, ops[i]? = some o → lg[i]? = some e → e.below = belowOf (lg.take i) o.after.toList
  pair : ∀ (i j : Nat) x e, i < j → lg[i]? = some x → lg[j]? = some e → okPair x i e = true
  edge : ∀ (i : Nat) o e, ops[i]? = some o → lg[i]? = some e → ∀ q, q ∈ o.after.toList → bindsB q.ground = true → q.on < i

theorem okEdges_all {i : Nat} : ∀ {l : List Edge}, okEdges i l = true → ∀ q, q ∈ l → bindsB q.ground = true → q.on < i
  | [], _, q, hq, _ => by cases hq
  | e :: r, h, q, hq, hb => by
    simp only [okEdges, Bool.and_eq_true, Bool.or_eq_true, Bool.not_eq_true'] at h
    rcases List.mem_cons.1 hq with rfl | hq
    · rcases h.1 with h1 | h1
      · rw [hb] at h1; cases h1
      · exact Nat.le_of_ble_eq_true h1
    · exact okEdges_all h.2 q hq hb
theorem okAll_all {e : Lg} : ∀ {l : List Lg} {j : Nat}, okAll e j l = true → ∀ i x, l[i]? = some x → okPair x (j + i) e = true
  | [], _, _, i, x, hx => by simp at hx
  | y :: r, j, h, i, x, hx => by
    simp only [okAll, Bool.and_eq_true] at h
    cases i with
    | zero => simp at hx; subst hx; exact h.1
    | succ i =>
      have := okAll_all (j := j + 1) h.2 i x (by simpa using hx)
      rwa [show j + 1 + i = j + (i + 1) by omega] at this

theorem drawn_cert {C : Cfg} (hT : Told P C) (hC : Calling P C) {ops : Array Oper} {s0 : A} {ρ : Type} {K : A → Option ρ} {r : ρ} :
    ∀ (rest : List Oper) (i : Nat) (lg : List Lg) (s : A), lg.length = i → (∀ j, rest[j]? = ops[i + j]?) → s = runA lg s0 → Cert P C ops s0 lg → evDrawn C std ops.toList rest i lg s K = some r →
      ∃ lg', lg'.length = i + rest.length ∧ Cert P C ops s0 lg' ∧ K (runA lg' s0) = some r
  | [], i, lg, s, hl, _, hs, hcert, he => ⟨lg, by simpa using hl, hcert, by simpa [evDrawn, hs] using he⟩
  | o :: rest, i, lg, s, hl, hr, hs, hcert, he => by
    have ho : ops[i]? = some o := by simpa using (hr 0).symm
    simp only [evDrawn] at he
    split at he
    · cases he
    · rename_i g hg
      obtain ⟨e, hK, h1, h2, h3, h4, h5, h6, h7⟩ := entry_step hT hC hg he
      obtain ⟨hok, hK⟩ := bif_some hK
      simp only [Bool.and_eq_true] at hok
      subst hl
      have hcert' : Cert P C ops s0 (lg ++ [e]) := by
        have old : ∀ {i : Nat} {x : Lg}, (lg ++ [e])[i]? = some x → (i < lg.length ∧ lg[i]? = some x) ∨ (i = lg.length ∧ x = e) := by
          intro i x hx
          rcases Nat.lt_trichotomy i lg.length with h | h | h
          · exact .inl ⟨h, by rwa [List.getElem?_append_left h] at hx⟩
          · subst h; simp at hx; exact .inr ⟨rfl, hx.symm⟩
          · rw [List.getElem?_eq_none (by simp; omega)] at hx; cases hx
        refine ⟨fun i o' x ho' hx => ?_, fun i o' x ho' hx => ?_, fun i j x y hij hx hy => ?_, fun i o' x ho' hx => ?_⟩
        · rcases old hx with ⟨hlt, hx⟩ | ⟨rfl, rfl⟩
          · rw [List.take_append_of_le_length (by omega)]; exact hcert.step i o' x ho' hx
          · rw [ho] at ho'; cases ho'
            rw [List.take_append_of_le_length (by omega), List.take_length]
            rw [← hs]
            exact ⟨fun t ht => by rw [h1]; rw [h2] at ht; exact List.mem_append_right _ ht, fun d t hw => by rw [h2]; exact h4 d t hw, h5, h6, h7⟩
        · rcases old hx with ⟨hlt, hx⟩ | ⟨rfl, rfl⟩
          · rw [List.take_append_of_le_length (by omega)]; exact hcert.below i o' x ho' hx
          · rw [ho] at ho'; cases ho'
            rw [List.take_append_of_le_length (by omega), List.take_length]; exact h3
        · rcases old hy with ⟨hlt, hy⟩ | ⟨rfl, rfl⟩
          · rcases old hx with ⟨_, hx⟩ | ⟨rfl, _⟩
            · exact hcert.pair i j x y hij hx hy
            · omega
          · rcases old hx with ⟨_, hx⟩ | ⟨rfl, _⟩
            · have := okAll_all hok.1 i x hx; rwa [Nat.zero_add] at this
            · omega
        · rcases old hx with ⟨hlt, hx⟩ | ⟨rfl, rfl⟩
          · exact hcert.edge i o' x ho' hx
          · rw [ho] at ho'; cases ho'
            exact okEdges_all hok.2
      obtain ⟨lg', q1, q2, q3⟩ := drawn_cert hT hC rest (lg.length + 1) (lg ++ [e]) (e.app s) (by simp) (fun j => by have := hr (j + 1); simpa [Nat.add_assoc, Nat.add_comm 1 j] using this) (by simp [runA, hs]) hcert' hK
      exact ⟨lg', by rw [q1]; simp; omega, q2, q3⟩

/-! ### some of the entries -/
def runL (L : Nat → Bool) : List Lg → Nat → A → A
  | [], _, s => s
  | e :: r, i, s => runL L r (i + 1) (if L i = true then e.app s else s)
/-- what is at a place at last. -/
def last {β : Type} (f : Lg → List (Nat × Option β)) (L : Nat → Bool) (t : Nat) : List Lg → Nat → Option β → Option β
  | [], _, x => x
  | e :: r, i, x => last f L t r (i + 1) (if L i = true then (match look (f e) t with | some y => y | none => x) else x)
def Lg.wtl (e : Lg) : List (Nat × Option T) := match e.wt with | some (d, t) => [(d, some t)] | none => []
theorem wtl_some {e : Lg} {t : Nat} {y : Option T} (h : look e.wtl t = some y) : ∃ x, y = some x ∧ e.wt = some (t, x) := by
  unfold Lg.wtl at h
  cases hw : e.wt with
  | none => rw [hw] at h; simp [look] at h
  | some p =>
    obtain ⟨d, x⟩ := p
    rw [hw] at h
    simp only [look_cons] at h
    split at h
    · rename_i e; subst e; simp only [Option.some.injEq] at h; exact ⟨x, h.symm, rfl⟩
    · simp [look] at h
theorem wtl_of {e : Lg} {t : Nat} {x : T} (h : e.wt = some (t, x)) : look e.wtl t = some (some x) := by
  unfold Lg.wtl
  rw [h, look_cons, if_pos rfl]
theorem wtl_ne {e : Lg} {t d : Nat} {x : T} (h : e.wt = some (d, x)) (hne : t ≠ d) : look e.wtl t = none := by
  unfold Lg.wtl
  rw [h, look_cons, if_neg hne]; rfl

theorem runL_tm (L : Nat → Bool) (t : Nat) : ∀ (lg : List Lg) (i : Nat) (s : A), look (runL L lg i s).tm t = last Lg.wtl L t lg i (look s.tm t)
  | [], _, _ => rfl
  | e :: r, i, s => by
    simp only [runL, last]
    rw [runL_tm L t r]
    congr 1
    split
    · rw [app_tm]
      cases hw : e.wt with
      | none => simp [Lg.wtl, hw, look]
      | some p =>
        obtain ⟨d, x⟩ := p
        simp only [Lg.wtl, hw, look_cons]
        by_cases h : t = d
        · simp [h]
        · simp [h, look]
    · rfl
theorem runL_ob (L : Nat → Bool) (t : Nat) : ∀ (lg : List Lg) (i : Nat) (s : A), look (runL L lg i s).ob t = last Lg.wo L t lg i (look s.ob t)
  | [], _, _ => rfl
  | e :: r, i, s => by
    simp only [runL, last]
    rw [runL_ob L t r]
    congr 1
    split
    · rw [app_ob]; cases look e.wo t <;> rfl
    · rfl
theorem runA_runL (lg : List Lg) (m : Nat) : ∀ (i : Nat) (s : A), runA (lg.take m) s = runL (fun j => Nat.blt j (i + m)) lg i s := by
  induction lg generalizing m with
  | nil => intro i s; simp [runA, runL]
  | cons e r ih =>
    intro i s
    cases m with
    | zero =>
      have : ∀ (l : List Lg) (j : Nat) (s : A), i ≤ j → runL (fun j => Nat.blt j (i + 0)) l j s = s := by
        intro l
        induction l with
        | nil => intro j s _; rfl
        | cons e l ih2 =>
          intro j s hj
          simp only [runL]
          have hb : Nat.blt j (i + 0) = false := by
            cases hq : Nat.blt j (i + 0)
            · rfl
            · have := Nat.le_of_ble_eq_true hq; omega
          rw [if_neg (by rw [hb]; simp)]
          exact ih2 (j + 1) s (by omega)
      rw [this _ _ _ (Nat.le_refl i)]; rfl
    | succ m =>
      simp only [List.take_succ_cons, runL]
      have hb : Nat.blt i (i + (m + 1)) = true := Nat.ble_eq_true_of_le (by omega)
      rw [if_pos hb]
      have := ih m (i + 1) (e.app s)
      rw [show i + 1 + m = i + (m + 1) by omega] at this
      exact this

theorem last_congr {β : Type} {f : Lg → List (Nat × Option β)} {L L' : Nat → Bool} {t : Nat} : ∀ (lg : List Lg) (i : Nat) (x : Option β), (∀ j e y, lg[j]? = some e → look (f e) t = some y → L (i + j) = L' (i + j)) → last f L t lg i x = last f L' t lg i x
  | [], _, _, _ => rfl
  | e :: r, i, x, h => by
    simp only [last]
    have h0 : (if L i = true then (match look (f e) t with | some y => y | none => x) else x) = (if L' i = true then (match look (f e) t with | some y => y | none => x) else x) := by
      cases hf : look (f e) t with
      | none => simp
      | some y =>
        have := h 0 e y rfl hf
        simp only [Nat.add_zero] at this
        rw [this]
    rw [h0]
    exact last_congr r (i + 1) _ fun j e' y hj hy => by have := h (j + 1) e' y (by simpa using hj) hy; rwa [show i + (j + 1) = i + 1 + j by omega] at this
theorem last_none {β : Type} {f : Lg → List (Nat × Option β)} {L : Nat → Bool} {t : Nat} : ∀ (lg : List Lg) (i : Nat) (x : Option β), (∀ j e y, lg[j]? = some e → look (f e) t = some y → L (i + j) = false) → last f L t lg i x = x
  | [], _, _, _ => rfl
  | e :: r, i, x, h => by
    simp only [last]
    have h0 : (if L i = true then (match look (f e) t with | some y => y | none => x) else x) = x := by
      cases hf : look (f e) t with
      | none => simp
      | some y =>
        have := h 0 e y rfl hf
        simp only [Nat.add_zero] at this
        simp [this]
    rw [h0]
    exact last_none r (i + 1) _ fun j e' y hj hy => by have := h (j + 1) e' y (by simpa using hj) hy; rwa [show i + (j + 1) = i + 1 + j by omega] at this
theorem last_at {β : Type} {f : Lg → List (Nat × Option β)} {L : Nat → Bool} {t : Nat} : ∀ (lg : List Lg) (i m : Nat) (x : Option β) (e : Lg) (y : Option β), lg[m]? = some e → look (f e) t = some y → L (i + m) = true →
    (∀ j e' y', m < j → lg[j]? = some e' → look (f e') t = some y' → L (i + j) = false) → last f L t lg i x = y
  | [], _, _, _, _, _, h, _, _, _ => by simp at h
  | e0 :: r, i, m, x, e, y, hm, hf, hL, hno => by
    simp only [last]
    cases m with
    | zero =>
      simp at hm
      subst hm
      simp only [Nat.add_zero] at hL
      rw [if_pos hL, hf]
      exact last_none r (i + 1) _ fun j e' y' hj hy => by have := hno (j + 1) e' y' (by omega) (by simpa using hj) hy; rwa [show i + (j + 1) = i + 1 + j by omega] at this
    | succ m =>
      exact last_at r (i + 1) m _ e y (by simpa using hm) hf (by rwa [show i + 1 + m = i + (m + 1) by omega]) fun j e' y' hj he' hy => by
        have := hno (j + 1) e' y' (by omega) (by simpa using he') hy; rwa [show i + (j + 1) = i + 1 + j by omega] at this
/-- where something is at last, it was there or was written. -/
theorem last_from {β : Type} {f : Lg → List (Nat × Option β)} {L : Nat → Bool} {t : Nat} : ∀ (lg : List Lg) (i : Nat) (x : Option β) (y : β), last f L t lg i x = some y → x = some y ∨ ∃ j e, lg[j]? = some e ∧ look (f e) t = some (some y) ∧ L (i + j) = true
  | [], _, _, _, h => .inl h
  | e :: r, i, x, y, h => by
    simp only [last] at h
    rcases last_from r (i + 1) _ y h with h1 | ⟨j, e', h1, h2, h3⟩
    · by_cases hL : L i = true
      · rw [if_pos hL] at h1
        cases hf : look (f e) t with
        | none => rw [hf] at h1; exact .inl h1
        | some z =>
          rw [hf] at h1
          simp only at h1
          subst h1
          exact .inr ⟨0, e, rfl, hf, by simpa using hL⟩
      · rw [if_neg hL] at h1; exact .inl h1
    · exact .inr ⟨j + 1, e', by simpa using h1, h2, by rwa [show i + (j + 1) = i + 1 + j by omega]⟩


theorem binds_any (e : Edge) : Region.binds .any e = bindsB e.ground := by
  unfold Region.binds bindsB
  cases e.ground <;> rfl

def Closed (lg : List Lg) (L : Nat → Bool) : Prop := ∀ j e, lg[j]? = some e → L j = true → ∀ i, i ∈ e.below → L i = true

theorem mem_addN {x i : Nat} {l : List Nat} (h : i ∈ addN x l) : i = x ∨ i ∈ l := by
  unfold addN at h
  cases hm : memN l x <;> rw [hm] at h
  · simpa using h
  · exact .inr h
theorem mem_unionN {i : Nat} : ∀ (a b : List Nat), i ∈ unionN a b → i ∈ a ∨ i ∈ b
  | [], b, h => .inr h
  | x :: a, b, h => by
    rcases mem_unionN a (addN x b) h with h1 | h1
    · exact .inl (by simp [h1])
    · rcases mem_addN h1 with rfl | h1
      · exact .inl (by simp)
      · exact .inr h1
theorem below_in {lg : List Lg} {L : Nat → Bool} (hcl : Closed lg L) {m : Nat} : ∀ (es : List Edge), (∀ q, q ∈ es → bindsB q.ground = true → L q.on = true) → ∀ i, i ∈ belowOf (lg.take m) es → L i = true
  | [], _, i, hi => by simp [belowOf] at hi
  | q :: r, h, i, hi => by
    simp only [belowOf] at hi
    cases hb : bindsB q.ground with
    | false => rw [hb] at hi; exact below_in hcl r (fun q' hq' => h q' (by simp [hq'])) i hi
    | true =>
      rw [hb] at hi
      simp only [cond_true] at hi
      have hq := h q (by simp) hb
      rcases mem_addN hi with rfl | hi
      · exact hq
      rcases mem_unionN _ _ hi with hi | hi
      · split at hi
        · rename_i x hx
          rw [List.getElem?_take] at hx
          split at hx
          · exact hcl _ x hx hq i hi
          · cases hx
        · cases hi
      · exact below_in hcl r (fun q' hq' => h q' (by simp [hq'])) i hi

section sched
variable {C : Cfg} {ops : Array Oper} {s0 : A} {lg : List Lg}

theorem pair_spec {x e : Lg} {i : Nat} (h : okPair x i e = true) :
    (∀ d, d ∈ fstN x.wt → d ∈ fstN e.wt → False) ∧ (∀ d, d ∈ fstN e.wt → d ∈ x.gt → False) ∧ ((∀ d, d ∈ e.made → d ∈ x.ro → False) ∧ ∀ d, d ∈ e.made → d ∈ x.ks → False) ∧
      (i ∈ e.below ∨ ((∀ d, d ∈ fstN x.wt → d ∈ e.rt → False) ∧ (∀ d, d ∈ fstN e.wt → d ∈ x.rt → False) ∧ (∀ d, d ∈ x.ks → d ∈ e.ro → False) ∧ (∀ d, d ∈ e.ks → d ∈ x.ro → False) ∧ ∀ d, d ∈ x.ks → d ∈ e.ks → False)) := by
  unfold okPair at h
  simp only [Bool.and_eq_true, Bool.or_eq_true, Bool.not_eq_true', Bool.and_eq_false_iff, Bool.or_eq_false_iff] at h
  obtain ⟨⟨⟨h1, h2⟩, h3⟩, h4⟩ := h
  refine ⟨meets_not h1, meets_not h2, ⟨meets_not h3.1, meets_not h3.2⟩, ?_⟩
  · rcases h4 with h4 | ⟨⟨⟨⟨q1, q2⟩, q3⟩, q4⟩, q5⟩
    · exact .inl (memN_iff.1 h4)
    · exact .inr ⟨meets_not q1, meets_not q2, meets_not q3, meets_not q4, meets_not q5⟩

theorem fst_mem {β : Type} {o : Option (Nat × β)} {d : Nat} {y : β} (h : o = some (d, y)) : d ∈ fstN o := by subst h; simp [fstN]

theorem sched_step (hc : Cert P C ops s0 lg) (hlen : lg.length = ops.size) (hclean : ∀ o, o ∈ ops.toList → ∀ d, o.dst = some d → NoG s0 d ∧ (isMaker o.op = true → NoRef s0 d))
    {L : Nat → Bool} (hcl : Closed lg L) {i0 : Nat} {o : Oper} (ho : ops[i0]? = some o) (hL0 : L i0 = false) (hready : ∀ q, q ∈ o.after → Region.binds .any q = true → L q.on = true)
    (h : Rel C.n w0 S0 S E (runL L lg 0 s0) a w) {L' : Nat → Bool} (hL' : ∀ j, L' j = (L j || Nat.beq j i0)) {N : Act → World → Prop} {Q : Exit → Act → World → Prop}
    (hN : ∀ S' E' a' w', Rel C.n w0 S0 S' E' (runL L' lg 0 s0) a' w' → N a' w') :
    (if Region.wanted o (yielded ops a.tmps) then o.wp P a w N Q else N (a.put o.dst undef) w) ∧ Closed lg L' := by
  have hi0 : i0 < lg.length := by rw [hlen]; exact (Array.getElem?_eq_some_iff.1 ho).1
  obtain ⟨e, he⟩ : ∃ e, lg[i0]? = some e := ⟨_, List.getElem?_eq_getElem hi0⟩
  have hstep := hc.step i0 o e ho he
  have hbel := hc.below i0 o e ho he
  have hbL : ∀ i, i ∈ e.below → L i = true := by
    rw [hbel]
    exact below_in hcl _ fun q hq hb => hready q (by simpa using hq) (by rw [binds_any]; exact hb)
  -- a later one that is listed is not ordered behind i0
  have later : ∀ j x, i0 < j → lg[j]? = some x → L j = true → ¬ i0 ∈ x.below := fun j x _ hx hLj hin => by
    have := hcl j x hx hLj i0 hin
    rw [hL0] at this; cases this
  have oL : ∀ j, j ≠ i0 → L' j = L j := fun j hj => by rw [hL' j, nbeq_ne hj, Bool.or_false]
  have agree : Agree e (runL L lg 0 s0) (runA (lg.take i0) s0) := by
    refine ⟨fun t ht => ?_, fun k hk => ?_⟩
    · rw [runA_runL lg i0 0 s0, runL_tm, runL_tm]
      refine last_congr lg 0 _ fun j x y hx hy => ?_
      simp only [Nat.zero_add]
      rcases Nat.lt_trichotomy j i0 with hj | hj | hj
      · have hb : Nat.blt j i0 = true := Nat.ble_eq_true_of_le hj
        rw [hb]
        rcases (pair_spec (hc.pair j i0 x e hj hx he)).2.2.2 with h1 | h1
        · exact hbL j h1
        · exact (h1.1 t (fst_mem (wtl_some hy).choose_spec.2) ht).elim
      · subst hj
        rw [hL0]
        cases hq : Nat.blt j j with
        | false => rfl
        | true => have := Nat.le_of_ble_eq_true hq; omega
      · have hb : Nat.blt j i0 = false := by
          cases hq : Nat.blt j i0 with
          | false => rfl
          | true => have := Nat.le_of_ble_eq_true hq; omega
        rw [hb]
        cases hLj : L j with
        | false => rfl
        | true =>
          rcases (pair_spec (hc.pair i0 j e x hj he hx)).2.2.2 with h1 | h1
          · exact (later j x hj hx hLj h1).elim
          · exact (h1.2.1 t (fst_mem (wtl_some hy).choose_spec.2) ht).elim
    · rw [runA_runL lg i0 0 s0, runL_ob, runL_ob]
      refine last_congr lg 0 _ fun j x y hx hy => ?_
      simp only [Nat.zero_add]
      rcases Nat.lt_trichotomy j i0 with hj | hj | hj
      · have hb : Nat.blt j i0 = true := Nat.ble_eq_true_of_le hj
        rw [hb]
        rcases (pair_spec (hc.pair j i0 x e hj hx he)).2.2.2 with h1 | h1
        · exact hbL j h1
        · exact (h1.2.2.1 k (look_key hy) hk).elim
      · subst hj
        rw [hL0]
        cases hq : Nat.blt j j with
        | false => rfl
        | true => have := Nat.le_of_ble_eq_true hq; omega
      · have hb : Nat.blt j i0 = false := by
          cases hq : Nat.blt j i0 with
          | false => rfl
          | true => have := Nat.le_of_ble_eq_true hq; omega
        rw [hb]
        cases hLj : L j with
        | false => rfl
        | true =>
          rcases (pair_spec (hc.pair i0 j e x hj he hx)).2.2.2 with h1 | h1
          · exact (later j x hj hx hLj h1).elim
          · exact (h1.2.2.2.1 k (look_key hy) hk).elim
  have stepAt : ∀ j x, lg[j]? = some x → ∃ o', ops[j]? = some o' ∧ StepOk P C ops o' x (runA (lg.take j) s0) := fun j x hx => by
    have hj : j < ops.size := by rw [← hlen]; exact (List.getElem?_eq_some_iff.1 hx).1
    exact ⟨ops[j], by simp [hj], hc.step j _ x (by simp [hj]) hx⟩
  have clean : Cln e (runL L lg 0 s0) := by
    refine ⟨fun d t hw j t' b x hx hd => ?_, fun d hm => ?_⟩
    · subst hd
      have hdst := (hstep.wt t' t hw).1
      rw [runL_tm] at hx
      rcases last_from lg 0 _ _ hx with h1 | ⟨i, y, hy, hyw, hLi⟩
      · exact (hclean o (by simpa using Array.mem_of_getElem? ho) t' hdst).1 j t' b x h1 rfl
      · simp only [Nat.zero_add] at hLi
        obtain ⟨o', _, hst⟩ := stepAt i y hy
        obtain ⟨_, hz, hyw⟩ := wtl_some hyw
        cases hz
        have hg : t' ∈ y.gt := (hst.wt j _ hyw).2.2 t' b x rfl
        rcases Nat.lt_trichotomy i i0 with hj | hj | hj
        · exact ((pair_spec (hc.pair i i0 y e hj hy he)).2.1 t' (fst_mem hw) hg).elim
        · subst hj; rw [hL0] at hLi; cases hLi
        · rcases (pair_spec (hc.pair i0 i e y hj he hy)).2.2.2 with h1 | h1
          · exact later i y hj hy hLi h1
          · exact (h1.1 t' (fst_mem hw) (hst.gt t' hg)).elim
    · obtain ⟨hmk, hdst, hdk⟩ := hstep.made d hm
      have hnr := (hclean o (by simpa using Array.mem_of_getElem? ho) d hdst).2 hmk
      -- an entry that leads to d is not listed
      have far : ∀ i y, lg[i]? = some y → L i = true → ¬ d ∈ y.ro ∧ ¬ d ∈ y.ks := by
        intro i y hy hLi
        rcases Nat.lt_trichotomy i i0 with hj | hj | hj
        · have := (pair_spec (hc.pair i i0 y e hj hy he)).2.2.1
          exact ⟨fun hq => this.1 d hm hq, fun hq => this.2 d hm hq⟩
        · subst hj; rw [hL0] at hLi; cases hLi
        · rcases (pair_spec (hc.pair i0 i e y hj he hy)).2.2.2 with h1 | h1
          · exact (later i y hj hy hLi h1).elim
          · exact ⟨fun hq => h1.2.2.1 d hdk hq, fun hq => h1.2.2.2.2 d hdk hq⟩
      refine ⟨fun j x hx => ?_, fun j ob hob => ?_, ?_⟩
      · rw [runL_tm] at hx
        rcases last_from lg 0 _ _ hx with h1 | ⟨i, y, hy, hyw, hLi⟩
        · exact hnr.tm j x h1
        · simp only [Nat.zero_add] at hLi
          obtain ⟨o', _, hst⟩ := stepAt i y hy
          cases hr : x.refs d with
          | false => rfl
          | true =>
            obtain ⟨_, hz, hyw⟩ := wtl_some hyw
            cases hz
            exact ((far i y hy hLi).1 ((hst.wt j x hyw).2.1 d hr)).elim
      · rw [runL_ob] at hob
        rcases last_from lg 0 _ _ hob with h1 | ⟨i, y, hy, hyw, hLi⟩
        · exact hnr.ob j ob h1
        · simp only [Nat.zero_add] at hLi
          obtain ⟨o', _, hst⟩ := stepAt i y hy
          cases hr : ob.refs d with
          | false => rfl
          | true => exact ((far i y hy hLi).1 (hst.wo j ob hyw d hr)).elim
      · cases hob : look (runL L lg 0 s0).ob d with
        | none => rfl
        | some ob =>
          rw [runL_ob] at hob
          rcases last_from lg 0 _ _ hob with h1 | ⟨i, y, hy, hyw, hLi⟩
          · rw [hnr.no] at h1; cases h1
          · simp only [Nat.zero_add] at hLi
            exact ((far i y hy hLi).2 (look_key hyw)).elim
  refine ⟨hstep.step h agree clean fun S' E' a' w' hrel => hN S' E' a' w' (hrel.less (fun t x hx => ?_) (fun k b hb => ?_)), ?_⟩
  · rw [runL_tm] at hx
    rw [app_tm, runL_tm]
    cases hw : e.wt with
    | none =>
      simp only []
      rw [← hx]
      refine last_congr lg 0 _ fun j y z hy hz => ?_
      simp only [Nat.zero_add]
      by_cases hj : j = i0
      · subst hj; rw [he] at hy; cases hy
        obtain ⟨_, _, hz⟩ := wtl_some hz
        rw [hw] at hz; cases hz
      · exact (oL j hj).symm
    | some p =>
      obtain ⟨d, z⟩ := p
      simp only []
      by_cases ht : t = d
      · subst ht
        rw [if_pos rfl, ← hx]
        refine (last_at lg 0 i0 _ e (some z) he (wtl_of hw) (by rw [Nat.zero_add, hL' i0]; simp) fun j y z' hj hy hz => ?_).symm
        simp only [Nat.zero_add]
        rw [oL j (by omega)]
        obtain ⟨_, _, hz⟩ := wtl_some hz
        exact ((pair_spec (hc.pair i0 j e y hj he hy)).1 t (fst_mem hw) (fst_mem hz)).elim
      · rw [if_neg ht, ← hx]
        refine last_congr lg 0 _ fun j y z' hy hz => ?_
        simp only [Nat.zero_add]
        by_cases hj : j = i0
        · subst hj; rw [he] at hy; cases hy; rw [wtl_ne hw ht] at hz; cases hz
        · exact (oL j hj).symm
  · rw [runL_ob] at hb
    rw [app_ob, runL_ob]
    cases hw : look e.wo k with
    | none =>
      simp only []
      rw [← hb]
      refine last_congr lg 0 _ fun j y z hy hz => ?_
      simp only [Nat.zero_add]
      by_cases hj : j = i0
      · subst hj; rw [he] at hy; cases hy; rw [hw] at hz; cases hz
      · exact (oL j hj).symm
    | some z =>
      simp only []
      rw [← hb]
      refine (last_at lg 0 i0 _ e z he hw (by rw [Nat.zero_add, hL' i0]; simp) fun j y z' hj hy hz => ?_).symm
      simp only [Nat.zero_add]
      rw [oL j (by omega)]
      cases hLj : L j with
      | false => rfl
      | true =>
        rcases (pair_spec (hc.pair i0 j e y hj he hy)).2.2.2 with h1 | h1
        · exact (later j y hj hy hLj h1).elim
        · exact (h1.2.2.2.2 k (look_key hw) (look_key hz)).elim
  · intro j x hx hLj i hi
    by_cases hj : j = i0
    · subst hj
      rw [he] at hx; cases hx
      rw [hL', hbL i hi]; rfl
    · rw [oL j hj] at hLj
      rw [hL', hcl j x hx hLj i hi]; rfl
end sched

end Go.Ev
