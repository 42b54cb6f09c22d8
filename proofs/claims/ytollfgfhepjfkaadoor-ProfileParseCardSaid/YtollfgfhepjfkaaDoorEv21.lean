/- The evaluator 'Ev': a function that is handed things and has no loop is its own spec: it is run over trees. -/
import Derived.Test.YtollfgfhepjfkaaDoorEv20
namespace Go.Ev
open Go Go.RowKit

def treeBr : Br (T × List (Nat × Ob)) HTree := ⟨.fail, .chk, .ite, fun _ _ _ _ _ => .fail, fun r => .ret r.1 r.2, fun _ k s => k s, fun k s => k s⟩

theorem leaf_chk {c : Bool} {k : HTree} {r : T × List (Nat × Ob)} (h : (HTree.chk c k).leaf = some r) : c = true ∧ k.leaf = some r := by
  cases c with
  | true => exact ⟨rfl, h⟩
  | false => simp [HTree.leaf] at h
theorem leaf_fail {r : T × List (Nat × Ob)} (h : HTree.fail.leaf = some r) : False := by simp [HTree.leaf] at h
theorem leaf_bif {c : Bool} {x y : HTree} {r : T × List (Nat × Ob)} (h : (bif c then x else y).leaf = some r) : (c = true ∧ x.leaf = some r) ∨ (c = false ∧ y.leaf = some r) := by
  cases c with
  | true => exact .inl ⟨rfl, h⟩
  | false => exact .inr ⟨rfl, h⟩

section
variable {C : Cfg} {r : T × List (Nat × Ob)}

theorem fold_hom {K : T → List (Nat × Ob) → HTree} {K' : T → List (Nat × Ob) → Option (T × List (Nat × Ob))} (hK : ∀ t ob, (K t ob).leaf = some r → K' t ob = some r) : ∀ (h : HTree), (h.fold treeBr K).leaf = some r → h.fold std K' = some r
  | .fail, h => (leaf_fail h).elim
  | .chk c k, h => by
    obtain ⟨h1, h2⟩ := leaf_chk h
    have := fold_hom hK k h2
    simp only [HTree.fold, std, chk, h1]
    exact this
  | .ite c x y, h => by
    cases c with
    | true => exact fold_hom hK x h
    | false => exact fold_hom hK y h
  | .ret t ob, h => hK t ob h

theorem op1_hom {ops : List Oper} {o : Oper} {s : A} {K : A → HTree} {K' : A → Option (T × List (Nat × Ob))} (hK : ∀ s, (K s).leaf = some r → K' s = some r) (h : (evOp1 C treeBr ops o s K).leaf = some r) : evOp1 C std ops o s K' = some r := by
  unfold evOp1 at h ⊢
  dsimp only [treeBr, std] at h ⊢
  have chk_ : ∀ {c : Bool} {k : HTree} {k' : Option (T × List (Nat × Ob))}, (k.leaf = some r → k' = some r) → (HTree.chk c k).leaf = some r → chk c k' = some r := fun hk hc => by
    obtain ⟨h1, h2⟩ := leaf_chk hc
    subst h1
    exact hk h2
  split
  · rename_i hg; rw [hg] at h; exact (leaf_fail h).elim
  · rename_i g hg
    rw [hg] at h
    simp only at h
    rcases leaf_bif h with ⟨h1, h⟩ | ⟨h1, h⟩
    · rw [h1]
      simp only [cond_true]
      split
      · rename_i he; rw [he] at h; exact (leaf_fail h).elim
      · rename_i c t he
        rw [he] at h
        rcases leaf_bif h with ⟨h2, h⟩ | ⟨h2, h⟩
        · rw [h2]; exact chk_ (hK _) h
        · exact (leaf_fail h).elim
      · rename_i c k b t he
        rw [he] at h
        rcases leaf_bif h with ⟨h2, h⟩ | ⟨h2, h⟩
        · exact (leaf_fail h).elim
        · rw [h2]; exact chk_ (hK _) h
      · rename_i c d b t he
        rw [he] at h
        rcases leaf_bif h with ⟨h2, h⟩ | ⟨h2, h⟩
        · exact (leaf_fail h).elim
        · rw [h2]; exact chk_ (hK _) h
      · rename_i c d k b t he
        rw [he] at h
        rcases leaf_bif h with ⟨h2, h⟩ | ⟨h2, h⟩
        · exact (leaf_fail h).elim
        · rw [h2]; exact chk_ (hK _) h
      · rename_i c s' t he
        rw [he] at h
        rcases leaf_bif h with ⟨h2, h⟩ | ⟨h2, h⟩
        · exact (leaf_fail h).elim
        · rw [h2]; exact chk_ (hK _) h
      · rename_i c x ok nf he
        rw [he] at h
        exact chk_ (hK _) h
    · exact (leaf_fail h).elim

theorem op_hom {ops : List Oper} {o : Oper} {s : A} {K : A → HTree} {K' : A → Option (T × List (Nat × Ob))} (hK : ∀ s, (K s).leaf = some r → K' s = some r) (h : (evOp C treeBr ops o s K).leaf = some r) : evOp C std ops o s K' = some r := by
  unfold evOp at h ⊢
  split
  · rename_i hs args ho
    rw [ho] at h
    unfold evH1 at h ⊢
    simp only at h ⊢
    rcases leaf_bif h with ⟨h2, h⟩ | ⟨h2, h⟩
    · exact (leaf_fail h).elim
    · rw [h2]
      refine fold_hom (fun t ob hh => ?_) _ h
      rcases leaf_bif hh with ⟨h3, hh⟩ | ⟨h3, hh⟩
      · exact (leaf_fail hh).elim
      · rw [h3]; exact hK _ hh
  · rename_i ho
    rw [ho] at h
    exact op1_hom hK h

theorem ops_hom {ops : List Oper} {K : A → HTree} {K' : A → Option (T × List (Nat × Ob))} (hK : ∀ s, (K s).leaf = some r → K' s = some r) : ∀ (l : List Oper) (s : A), (evOps C treeBr ops l s K).leaf = some r → evOps C std ops l s K' = some r
  | [], s, h => hK s h
  | o :: l, s, h => op_hom (fun s' hs' => ops_hom hK l s' hs') h

theorem entry1_hom {o : Oper} {g : Guard} {rt gt ro bel : List Nat} {v : A} {K : Lg → HTree} {K' : Lg → Option (T × List (Nat × Ob))} (hK : ∀ e, (K e).leaf = some r → K' e = some r) (h : (entryD1 C treeBr o g rt gt ro bel v K).leaf = some r) : entryD1 C std o g rt gt ro bel v K' = some r := by
  unfold entryD1 at h ⊢
  dsimp only [treeBr, std] at h ⊢
  have chk_ : ∀ {c : Bool} {k : HTree} {k' : Option (T × List (Nat × Ob))}, (k.leaf = some r → k' = some r) → (HTree.chk c k).leaf = some r → chk c k' = some r := fun hk hc => by
    obtain ⟨h1, h2⟩ := leaf_chk hc
    subst h1
    exact hk h2
  rcases leaf_bif h with ⟨h1, h⟩ | ⟨h1, h⟩
  · rw [h1]
    simp only [cond_true]
    generalize effOp C o v (fun more ty x => opd v (more ++ ups v 9 g) ty x) g.isSome = eff at h ⊢
    cases eff with
    | fail => exact (leaf_fail h).elim
    | st c s' t => exact (leaf_fail h).elim
    | val c t =>
      rcases leaf_bif h with ⟨h2, h⟩ | ⟨h2, h⟩
      · simp only [h2]; exact chk_ (hK _) h
      · exact (leaf_fail h).elim
    | chg c k b t =>
      rcases leaf_bif h with ⟨h2, h⟩ | ⟨h2, h⟩
      · exact (leaf_fail h).elim
      · simp only [h2]; exact chk_ (hK _) h
    | mk c d b t =>
      rcases leaf_bif h with ⟨h2, h⟩ | ⟨h2, h⟩
      · exact (leaf_fail h).elim
      · simp only [h2]; exact chk_ (hK _) h
    | mv c d k b t =>
      rcases leaf_bif h with ⟨h2, h⟩ | ⟨h2, h⟩
      · exact (leaf_fail h).elim
      · simp only [h2]; exact chk_ (hK _) h
    | ans c x ok nf => exact chk_ (hK _) h
  · exact (leaf_fail h).elim

theorem entry_hom {o : Oper} {g : Guard} {rt gt ro bel : List Nat} {v : A} {K : Lg → HTree} {K' : Lg → Option (T × List (Nat × Ob))} (hK : ∀ e, (K e).leaf = some r → K' e = some r) (h : (entryD C treeBr o g rt gt ro bel v K).leaf = some r) : entryD C std o g rt gt ro bel v K' = some r := by
  unfold entryD at h ⊢
  split
  · rename_i hs args ho
    rw [ho] at h
    unfold entryH at h ⊢
    simp only at h ⊢
    split
    · rename_i d hod
      rw [hod] at h ⊢
      simp only at h
      rcases leaf_bif h with ⟨h2, h⟩ | ⟨h2, h⟩
      · exact (leaf_fail h).elim
      · rw [h2]
        refine fold_hom (fun t ob hh => ?_) _ h
        cases hown : ownRes t ob with
        | none => simp only [hown] at hh; exact (leaf_fail hh).elim
        | some q =>
          obtain ⟨k, e, sz, xs⟩ := q
          simp only [hown] at hh ⊢
          exact hK _ hh
    · rename_i hod
      rw [hod] at h
      exact (leaf_fail h).elim
  · rename_i ho
    rw [ho] at h
    exact entry1_hom hK h

theorem drawn_hom {ops : List Oper} {K : A → HTree} {K' : A → Option (T × List (Nat × Ob))} (hK : ∀ s, (K s).leaf = some r → K' s = some r) : ∀ (l : List Oper) (i : Nat) (lg : List Lg) (s : A), (evDrawn C treeBr ops l i lg s K).leaf = some r → evDrawn C std ops l i lg s K' = some r
  | [], _, _, s, h => hK s h
  | o :: l, i, lg, s, h => by
    unfold evDrawn at h ⊢
    split
    · rename_i hg; rw [hg] at h; exact (leaf_fail h).elim
    · rename_i g hg
      rw [hg] at h
      refine entry_hom (fun e he => ?_) h
      rcases leaf_bif he with ⟨h2, he⟩ | ⟨h2, he⟩
      · rw [h2]; exact drawn_hom hK l (i + 1) _ _ he
      · exact (leaf_fail he).elim

theorem thenK_hom {k : A → HTree} {k' : A → Option (T × List (Nat × Ob))} {K : Kont HTree} {K' : Kont (Option (T × List (Nat × Ob)))} (hk : ∀ s, (k s).leaf = some r → k' s = some r) (hK : ∀ e s, (K e s).leaf = some r → K' e s = some r) : ∀ e s, (thenK k K e s).leaf = some r → thenK k' K' e s = some r
  | .normal, s, h => hk s h
  | .ret, s, h => hK .ret s h
  | .exit j, s, h => hK (.exit j) s h
theorem blockK_hom {id : Nat} {K : Kont HTree} {K' : Kont (Option (T × List (Nat × Ob)))} (hK : ∀ e s, (K e s).leaf = some r → K' e s = some r) : ∀ e s, (blockK id K e s).leaf = some r → blockK id K' e s = some r
  | .normal, s, h => hK .normal s h
  | .ret, s, h => hK .ret s h
  | .exit j, s, h => by
    simp only [blockK] at h ⊢
    rcases leaf_bif h with ⟨h2, h⟩ | ⟨h2, h⟩
    · rw [h2]; exact hK _ _ h
    · rw [h2]; exact hK _ _ h
theorem joinK_hom {id : Nat} {l : Option (List Nat × List Nat)} {K : Kont HTree} {K' : Kont (Option (T × List (Nat × Ob)))} (hK : ∀ e s, (K e s).leaf = some r → K' e s = some r) : ∀ e s, (joinK treeBr id l K e s).leaf = some r → joinK std id l K' e s = some r := by
  cases l with
  | none => exact hK
  | some l =>
    intro e s h
    cases e with
    | normal => exact hK .normal _ h
    | ret => exact hK .ret _ h
    | exit j => exact hK (.exit j) _ h

theorem code_hom (fuel : Nat) : ∀ (c : Code) (s : A) {K : Kont HTree} {K' : Kont (Option (T × List (Nat × Ob)))}, (∀ e s, (K e s).leaf = some r → K' e s = some r) → (evK C treeBr fuel c s K).leaf = some r → evK C std fuel c s K' = some r := by
  intro c
  induction c with
  | skip => intro s K K' hK h; exact hK _ _ h
  | region id ops drawn =>
    intro s K K' hK h
    cases drawn with
    | false => exact ops_hom (fun s' hs => hK _ _ hs) _ _ h
    | true => exact drawn_hom (fun s' hs => hK _ _ hs) _ _ _ _ h
  | seq x y ihx ihy => intro s K K' hK h; exact ihx s (thenK_hom (fun s' hs => ihy s' hK hs) hK) h
  | cond c x y ihx ihy =>
    intro s K K' hK h
    simp only [evK] at h ⊢
    split
    · rename_i b hb
      rw [hb] at h
      cases b with
      | true => exact ihx s (joinK_hom hK) h
      | false => exact ihy s (joinK_hom hK) h
    · rename_i hb
      split at h
      · rename_i b hb'; exact absurd hb' (hb b)
      · exact (leaf_fail h).elim
  | block id c ih => intro s K K' hK h; exact ih s (blockK_hom hK) h
  | loop c ih => intro s K K' hK h; exact (leaf_fail h).elim
  | ret => intro s K K' hK h; exact hK _ _ h
  | exit id => intro s K K' hK h; exact hK _ _ h
  | _ => intro s K K' hK h; exact (leaf_fail h).elim
end

/-- the function itself as a spec. -/
noncomputable def hsOf (C : Cfg) (fn : Func) : HSpc := fun ts ob => evHF C treeBr 1 fn ts ob
theorem hsOf_sound {P : Program} {C : Cfg} (hm : P.follows .mixedOrders = true) (hT : Told P C) (hC : Calling P C) {f : Nat} {fn : Func} {c : Code} (hf : P.funcs[f]? = some fn) (hb : fn.body = some c) (hname : (fn.name == "runtime.NumGoroutine") = false) : HSound P f (hsOf C fn) := by
  refine hfun_sound hm hT hC hf hb hname fun ts ob r h => ⟨1, ?_⟩
  unfold hsOf evHF at h
  unfold evHF
  rw [hb] at h ⊢
  simp only at h ⊢
  rcases leaf_bif h with ⟨h1, h⟩ | ⟨h1, h⟩
  · rw [h1]
    refine code_hom 1 c _ (fun e s hh => ?_) h
    cases e with
    | normal =>
      simp only [endH] at hh ⊢
      split
      · rename_i t s' hr; rw [hr] at hh; exact hh
      · rename_i hr; rw [hr] at hh; exact (leaf_fail hh).elim
    | ret =>
      simp only [endH] at hh ⊢
      split
      · rename_i t s' hr; rw [hr] at hh; exact hh
      · rename_i hr; rw [hr] at hh; exact (leaf_fail hh).elim
    | exit j => exact (leaf_fail hh).elim
  · exact (leaf_fail h).elim

end Go.Ev
