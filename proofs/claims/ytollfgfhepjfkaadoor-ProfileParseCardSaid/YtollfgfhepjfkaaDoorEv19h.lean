/- The evaluator 'Ev': functions that are handed things. -/
import Derived.Test.YtollfgfhepjfkaaDoorEv19
namespace Go.Ev
open Go Go.RowKit

variable {P : Program} {n : Nat} {w0 : Base P} {S0 S : Snap} {E : Nat → Value} {s : A} {a : Act} {w : World}

/-- other names -/
theorem RelH.ren {b : Base P} {ob ob' : List (Nat × Ob)} (h : RelH b S0 S E ob w) {E' : Nat → Value} {f : Nat → Option Nat} (hf : ∀ k j, f k = some j → E' j = E k)
    (hob : ∀ j o', look ob' j = some o' → ∃ k o, f k = some j ∧ look ob k = some o ∧ o' = o.mapN f) (hh : ∀ k, HB ≤ k → E' k = b.E0 k) : RelH b S0 S E' ob' w := by
  have hs : ∀ j, (look ob' j).isSome → ∃ k, f k = some j ∧ (look ob k).isSome := fun j hj => by
    obtain ⟨o', ho'⟩ := Option.isSome_iff_exists.1 hj
    obtain ⟨k, o, h1, h2, _⟩ := hob j o' ho'
    exact ⟨k, h1, by simp [h2]⟩
  refine ⟨h.le, h.new, h.inn, fun j o' hj => ?_, fun i j g hi hj hij hgi hgj => ?_, h.below, fun j g hj hg => ?_, hh⟩
  · obtain ⟨k, o, h1, h2, rfl⟩ := hob j o' hj
    exact OV.mapN hf (hf k j h1) (h.obs k o h2)
  · obtain ⟨k, h1, h2⟩ := hs i hi
    obtain ⟨k', h3, h4⟩ := hs j hj
    rw [hf k i h1] at hgi
    rw [hf k' j h3] at hgj
    exact h.sep k k' g h2 h4 (fun e => hij (by subst e; rw [h1] at h3; cases h3; rfl)) hgi hgj
  · obtain ⟨k, h1, h2⟩ := hs j hj
    rw [hf k j h1] at hg
    exact h.own k g h2 hg

theorem pickObs_look {f : Nat → Option Nat} {ob : List (Nat × Ob)} : ∀ (L : List Nat) (j : Nat) (o' : Ob), look (pickObs f ob L) j = some o' → ∃ k o, f k = some j ∧ look ob k = some o ∧ o' = o.mapN f
  | [], j, o', h => by simp [pickObs, look] at h
  | k :: r, j, o', h => by
    simp only [pickObs] at h
    split at h
    · rename_i o i ho hi
      rw [look_cons] at h
      split at h
      · rename_i e
        cases h; subst e
        exact ⟨k, o, hi, ho, rfl⟩
      · exact pickObs_look r j o' h
    · exact pickObs_look r j o' h

def outE (E : Nat → Value) (L : List Nat) (j : Nat) : Value := if HB ≤ j then E j else match (L.filter fun k => Nat.blt k HB)[j]? with | some k => E k | none => undef
theorem outE_name {L : List Nat} {k j : Nat} (h : outName L k = some j) : outE E L j = E k := by
  unfold outName at h
  cases hb : Nat.ble HB k with
  | true =>
    rw [hb] at h
    simp only [cond_true, Option.some.injEq] at h
    subst h
    unfold outE
    rw [if_pos (Nat.le_of_ble_eq_true hb)]
  | false =>
    rw [hb] at h
    simp only [cond_false] at h
    split at h
    · rename_i i hi
      obtain ⟨h1, h2⟩ := bif_some h
      cases h2
      have h3 : j < 1024 := Nat.le_of_ble_eq_true h1
      obtain ⟨_, h4⟩ := pos_get _ k 0 j hi
      unfold outE
      rw [if_neg (by unfold HB; omega)]
      rw [Nat.sub_zero] at h4
      rw [h4]
    · cases h

/-- results that are plain data -/
theorem res_run {C : Cfg} (hT : Told P C) (fn : Func) (hr : Rel n w0 S0 S E s a w) {ds' : List D} (hds : resD C s fn.results.toList = some ds') :
    ∃ v S'', (results fn a.tmps).run P w = .ok v w ∧ S.le S'' ∧ Rel n w0 S0 S'' E (s.stowAll (resK C s fn.results.toList)) a w ∧ V S'' v (tupD ds') := by
  obtain ⟨S'', hle, hr2, hV⟩ := Rel.stowAll (resK C s fn.results.toList) hr
  obtain ⟨vs', h1, h2⟩ := res_sound (P := P) hT hr hle fn.results.toList ds' hds hV
  have hrun : (results fn a.tmps).run P w = .ok (if h : vs'.toArray.size = 1 then vs'.toArray[0] else .tuple vs'.toArray) w := by
    rw [results_eq]
    simp only [Array.mapM_eq_mapM_toList, Sem.run_bind, Sem.run_map, h1]
    rfl
  refine ⟨_, S'', hrun, hle, hr2, ?_⟩
  have hl := h2.1
  cases vs' with
  | nil =>
    have : ds' = [] := by cases ds' with | nil => rfl | cons _ _ => simp at hl
    subst this
    exact .tup #[] [] rfl fun j u d hu => by simp at hu
  | cons v0 vr =>
    cases ds' with
    | nil => simp at hl
    | cons d0 dr =>
      cases vr with
      | nil =>
        have : dr = [] := by cases dr with | nil => rfl | cons _ _ => simp at hl
        subst this
        simpa [tupD] using h2.head
      | cons v1 vr =>
        cases dr with
        | nil => simp at hl
        | cons d1 dr =>
          simp only [tupD]
          rw [dif_neg (by simp)]
          exact .tup _ _ (by simpa using hl) fun j u d hu hd => h2.2 j u d (by simpa using hu) hd

theorem argTT_look : ∀ (ts : List T) (i t : Nat) (x : T), look (argTT i ts) t = some x → i ≤ t ∧ ts[t - i]? = some x
  | [], i, t, x, h => by simp [argTT, look] at h
  | d :: r, i, t, x, h => by
    simp only [argTT, look_cons] at h
    by_cases ht : t = i
    · subst ht
      rw [if_pos rfl] at h; cases h
      exact ⟨Nat.le_refl _, by simp⟩
    · rw [if_neg ht] at h
      obtain ⟨h2, h3⟩ := argTT_look r (i + 1) t x h
      refine ⟨by omega, ?_⟩
      rw [show t - i = (t - (i + 1)) + 1 by omega]
      simpa using h3

/-- A FUNCTION THAT IS HANDED THINGS, RUN OVER DATA, IS WHAT THE PROGRAM DOES. -/
theorem hfun_sound {C : Cfg} (hm : P.follows .mixedOrders = true) (hT : Told P C) (hC : Calling P C) {f : Nat} {fn : Func} {c : Code} (hf : P.funcs[f]? = some fn) (hb : fn.body = some c) (hname : (fn.name == "runtime.NumGoroutine") = false) {hs : HSpc}
    (hsp : ∀ ts ob r, (hs ts ob).leaf = some r → ∃ fuel, evHF C std fuel fn ts ob = some r) : HSound P f hs := by
  refine ⟨⟨fn, hf, by rw [hb]; rfl, hname⟩, fun b S E ob ts vs t obr hH hvs hleaf => ?_⟩
  obtain ⟨fuel, he⟩ := hsp ts ob _ hleaf
  unfold evHF at he
  rw [hb] at he
  have hfail : (std : Br (T × List (Nat × Ob)) (Option (T × List (Nat × Ob)))).fail = none := rfl
  simp only [hfail] at he
  obtain ⟨hck, he⟩ := bif_some he
  simp only [Bool.and_eq_true] at hck
  have hn := Nat.le_of_ble_eq_true hck.2
  refine calls_of_wp hf hb ?_
  have hrel : Rel C.n b S S E ⟨argTT 0 ts, ob⟩ { tmps := vs ++ Array.replicate (fn.ntmps - vs.size) undef, defers := [] } b.w := by
    have hat : ∀ t x, look (argTT 0 ts) t = some x → x.bare = true ∧ TV S E (frameOf { tmps := vs ++ Array.replicate (fn.ntmps - vs.size) undef, defers := [] }) (frameOf { tmps := vs ++ Array.replicate (fn.ntmps - vs.size) undef, defers := [] } t) x := fun t x hx => by
      obtain ⟨_, hd⟩ := argTT_look ts 0 t x hx
      rw [Nat.sub_zero] at hd
      have hlt : t < vs.size := by rw [hvs.1]; exact (List.getElem?_eq_some_iff.1 hd).1
      have hv : vs[t]? = some vs[t] := Array.getElem?_eq_getElem hlt
      have hfr : frameOf { tmps := vs ++ Array.replicate (fn.ntmps - vs.size) undef, defers := [] } t = vs[t] := by
        simp only [frameOf, Array.getD_eq_getD_getElem?, Array.getElem?_append, hlt, if_true, hv, Option.getD_some]
      obtain ⟨h1, h2⟩ := hvs.2 t _ x hv hd
      rw [hfr]
      exact ⟨h2, TV.tm h2 h1⟩
    exact hH.toRel rfl (by simp; omega) (fun t x hx => bare_thin (hat t x hx).1) (fun t x hx => (hat t x hx).2)
  have fin : ∀ {s' : A} {S' : Snap} {E' : Nat → Value} {a' : Act} {w' : World} {v : Value} {x : T}, Rel C.n b S S' E' s' a' w' → TV S' E' (fun _ => undef) v x → x.bare = true → outH ob.length x s'.ob = (t, obr) → (results fn a'.tmps).run P w' = .ok v w' →
      a'.defers = [] ∧ ∃ v, (results fn a'.tmps).run P w' = .ok v w' ∧ ∃ v' S'' E'', Ending.returned v = .returned v' ∧ S.le S'' ∧ RelH b S S'' E'' obr w' ∧ TV S'' E'' (fun _ => undef) v' t ∧ t.bare = true := by
    intro s' S' E' a' w' v x hr hv hb' ho hrun
    simp only [outH, Prod.mk.injEq] at ho
    obtain ⟨rfl, rfl⟩ := ho
    refine ⟨hr.defers, v, hrun, v, S', outE E' _, rfl, hr.le, hr.toH.ren (fun k j hj => outE_name hj) (fun j o' hj => pickObs_look _ j o' hj) (fun k hk => ?_), TV.mapN (fun k j hj => outE_name hj) hb' hv, bare_mapN _ _⟩
    unfold outE
    rw [if_pos hk]
    exact hr.high k hk
  have post : ∀ {s' : A} {S' : Snap} {E' : Nat → Value} {a' : Act} {w' : World}, Rel C.n b S S' E' s' a' w' → (match resH C s' fn.results.toList with | some (x, s2) => some (outH ob.length x s2.ob) | none => none) = some (t, obr) →
      a'.defers = [] ∧ ∃ v, (results fn a'.tmps).run P w' = .ok v w' ∧ ∃ v' S'' E'', Ending.returned v = .returned v' ∧ S.le S'' ∧ RelH b S S'' E'' obr w' ∧ TV S'' E'' (fun _ => undef) v' t ∧ t.bare = true := by
    intro s' S' E' a' w' hr hres
    split at hres
    · rename_i x s2 hx
      simp only [Option.some.injEq] at hres
      unfold resH at hx
      split at hx
      · rename_i hrs
        simp only [Option.some.injEq, Prod.mk.injEq] at hx
        obtain ⟨rfl, rfl⟩ := hx
        refine fin hr (v := .tuple #[]) (x := .d (.tup [])) (V.tup #[] [] rfl fun j u d hu => by simp at hu) rfl hres ?_
        have : fn.results = #[] := Array.ext' (by simpa using hrs)
        rw [results_eq, this]
        simp
      · rename_i q hrs
        split at hx
        · rename_i y hy
          obtain ⟨hyb, hx⟩ := bif_some hx
          simp only [Option.some.injEq, Prod.mk.injEq] at hx
          obtain ⟨rfl, rfl⟩ := hx
          refine fin hr (v := frameOf a' q) (TV.tm hyb (hr.tm q y hy)) hyb hres ?_
          have : fn.results = #[.tmp q] := Array.ext' (by simpa using hrs)
          rw [results_eq, this]
          simp [resOne, frameOf]
        · cases hx
      · split at hx
        · rename_i ds hds
          simp only [Option.some.injEq, Prod.mk.injEq] at hx
          obtain ⟨rfl, rfl⟩ := hx
          obtain ⟨v, S'', h1, h2, h3, h4⟩ := res_run hT fn hr hds
          exact fin h3 (x := .d _) h4 rfl hres h1
        · cases hx
    · cases hres
  refine code_sound hm hT hC fuel c hrel he fun ex s' S' E' a' w' hr hK => ?_
  cases ex with
  | normal => exact post hr hK
  | ret => exact post hr hK
  | exit id => cases hK

end Go.Ev
