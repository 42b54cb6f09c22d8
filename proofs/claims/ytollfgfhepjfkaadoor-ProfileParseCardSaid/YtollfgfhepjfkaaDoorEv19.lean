/- The evaluator 'Ev': functions. -/
import Derived.Test.YtollfgfhepjfkaaDoorEv18
namespace Go.Ev
open Go Go.RowKit

variable {P : Program} {n : Nat} {w0 : Base P} {S0 S : Snap} {E : Nat → Value} {s : A} {a : Act} {w : World}

theorem argT_look : ∀ (ds : List D) (i t : Nat) (x : T), look (argT i ds) t = some x → ∃ d, x = .d d ∧ i ≤ t ∧ ds[t - i]? = some d
  | [], i, t, x, h => by simp [argT, look] at h
  | d :: r, i, t, x, h => by
    simp only [argT, look_cons] at h
    by_cases ht : t = i
    · subst ht
      rw [if_pos rfl] at h; cases h
      exact ⟨d, rfl, Nat.le_refl _, by simp⟩
    · rw [if_neg ht] at h
      obtain ⟨d', h1, h2, h3⟩ := argT_look r (i + 1) t x h
      refine ⟨d', h1, by omega, ?_⟩
      rw [show t - i = (t - (i + 1)) + 1 by omega]
      simpa using h3

def resOne (tmps : Array Value) : ResultVar → Sem Value
  | .tmp t => pure (tmps.getD t undef)
  | .cell a t => do loadVar t (← asAddr (tmps.getD a undef))
theorem results_eq (fn : Func) (tmps : Array Value) : results fn tmps = (do let vs ← fn.results.mapM (resOne tmps); pure (if h : vs.size = 1 then vs[0] else .tuple vs)) := by
  unfold results
  congr 1
theorem res_sound {C : Cfg} (hT : Told P C) {S' : Snap} (h : Rel n w0 S0 S E s a w) (hle : S.le S') : ∀ (rs : List ResultVar) (ds : List D), resD C s rs = some ds → (∀ k, k ∈ resK C s rs → ∀ e sz xs, look s.ob k = some (.vec e sz xs) → V S' (E k) (.sl sz xs)) →
    ∃ vs : List Value, (rs.mapM (m := Sem) (resOne a.tmps)).run P w = Result.ok vs w ∧ Vs S' vs ds
  | [], ds, hd, _ => by simp [resD] at hd; subst hd; exact ⟨[], by simp, Vs.nil _⟩
  | .cell t ty :: r, ds, hd, hk => by
    simp only [resD] at hd
    split at hd
    · rename_i d ds' hx hds
      cases hd
      obtain ⟨vs, h1, h2⟩ := res_sound hT h hle r ds' hds fun k hkm => hk k (by simp only [resK, List.mem_append]; exact .inr hkm)
      have key : ∃ v, (resOne a.tmps (.cell t ty)).run P w = .ok v w ∧ V S' v d := by
        split at hx
        · rename_i cs hcs
          have hkv : ∀ k, k ∈ vecsOf cs → ∀ e sz xs, look s.ob k = some (.vec e sz xs) → V S' (E k) (.sl sz xs) := fun k hm => hk k (by simp only [resK, hcs, List.mem_append]; exact .inl hm)
          unfold cellCs at hcs
          split at hcs
          · rename_i k off hl
            split at hcs
            · rename_i bs hob
              cases hcs
              obtain ⟨g, hE, hfr⟩ := h.tm t _ hl
              obtain ⟨bvs, _, hn, _, _, hc, hcell⟩ := box_at h hob hE
              have hadr : a.tmps.getD t undef = .pointer (some ⟨g, off, none⟩) := hfr
              rw [hT.ty] at hx hkv
              unfold cellD at hx
              split at hx
              · rename_i es hes
                obtain ⟨hlen, hx⟩ := bif_some hx
                have hlen := nbeq_eq hlen
                have hvl : ((bvs.toList.drop off).take (tyOf P ty).n).length = ((bs.drop off).take (tyOf P ty).n).length := by simp [hn]
                have hvc : ∀ (j : Nat) u, ((bvs.toList.drop off).take (tyOf P ty).n)[j]? = some u → bvs[off + j]? = some u ∧ (∀ c, ((bs.drop off).take (tyOf P ty).n)[j]? = some c → bs[off + j]? = some c) := by
                  intro j u hu
                  rw [List.getElem?_take] at hu
                  split at hu
                  · rename_i hj
                    refine ⟨by simpa using hu, fun c hcj => ?_⟩
                    rw [List.getElem?_take, if_pos hj] at hcj
                    simpa using hcj
                  · cases hu
                have hvs := cells_data (s := s) hle _ _ es hvl (fun j u c hu hcj => (hc (off + j) u c (hvc j u hu).1 ((hvc j u hu).2 c hcj)).2.2) hes hkv
                have hat : ∀ (j : Nat) u, ((bvs.toList.drop off).take (tyOf P ty).n)[j]? = some u → w.cell? ((⟨g, off, none⟩ : Addr).add j) = some u ∧ u.oneCell' = true := fun j u hu => by
                  have h1 := (hvc j u hu).1
                  rw [add_none, hcell]
                  have hlt : off + j < bs.length := by rw [← hn]; exact (Array.getElem?_eq_some_iff.1 h1).1
                  exact ⟨h1, (hc (off + j) u _ h1 (List.getElem?_eq_getElem hlt)).1⟩
                split at hx
                · rename_i hg
                  cases hx
                  obtain ⟨u, hu⟩ := tyOf_und (P := P) (t := ty) (fun e => by rw [e] at hg; cases hg)
                  have := run_loadVar_agg hu hg (w := w) (a := ⟨g, off, none⟩) (vals := (bvs.toList.drop off).take (tyOf P ty).n) (by rw [hvs.1, hlen]) fun j u hu => (hat j u hu).1
                  exact ⟨_, by simp only [resOne, hadr, asAddr, Sem.run_bind, Sem.run_pure, Result.andThen_ok, this], V_agg_of (fun j u hu => (hat j u hu).2) hvs⟩
                · rename_i hg
                  split at hx
                  · rename_i d'
                    obtain ⟨hok, hx⟩ := bif_some hx
                    cases hx
                    obtain ⟨u, hu⟩ := tyOf_und (P := P) (t := ty) (ty_ne hok)
                    generalize (bvs.toList.drop off).take (tyOf P ty).n = vals at hvs hat
                    cases vals with
                    | nil => exact absurd hvs.1 (by simp)
                    | cons v0 vr =>
                      have h0 := (hat 0 v0 rfl).1
                      rw [add_zero] at h0
                      have := run_loadVar_one hu hg h0
                      exact ⟨v0, by simp only [resOne, hadr, asAddr, Sem.run_bind, Sem.run_pure, Result.andThen_ok, this], hvs.head⟩
                  · cases hx
              · cases hx
            · cases hcs
          · cases hcs
        · cases hx
      obtain ⟨v, hv1, hv2⟩ := key
      exact ⟨v :: vs, by simp only [List.mapM_cons, Sem.run_bind, hv1, Result.andThen_ok, h1, Sem.run_pure], Vs.cons hv2 h2⟩
    · cases hd
  | .tmp t :: r, ds, hd, hk => by
    simp only [resD] at hd
    split at hd
    · rename_i d ds' hx hds
      cases hd
      obtain ⟨vs, h1, h2⟩ := res_sound hT h hle r ds' hds fun k hkm => hk k (by simp only [resK, List.mem_append]; exact .inr hkm)
      split at hx
      · rename_i x hl
        have hV := data_V (s := s) hle (h.tm t x hl) hx fun k hkx => hk k (by subst hkx; simp [resK, hl])
        exact ⟨frameOf a t :: vs, by simp [List.mapM_cons, h1, frameOf, resOne], Vs.cons hV h2⟩
      · cases hx
    · cases hd

/-- A FUNCTION RUN OVER DATA IS WHAT THE PROGRAM DOES. -/
theorem fun_sound {C : Cfg} (hm : P.follows .mixedOrders = true) (hT : Told P C) (hC : Calling P C) {f : Nat} {fn : Func} {c : Code} (hf : P.funcs[f]? = some fn) (hb : fn.body = some c) (hname : (fn.name == "runtime.NumGoroutine") = false) {sp : Spc} (hsp : ∀ ds, sp.pre ds = true → ∃ fuel, evF C std fuel fn ds = some (sp.val ds)) : Sound P f sp := by
  refine ⟨⟨fn, hf, by rw [hb]; rfl, hname⟩, fun w S vs ds htab hin hvs hpre => ?_⟩
  obtain ⟨fuel, he⟩ := hsp ds hpre
  unfold evF at he
  rw [hb] at he
  dsimp only [std] at he
  obtain ⟨hck, he⟩ := bif_some he
  simp only [Bool.and_eq_true] at hck
  have hn := Nat.le_of_ble_eq_true hck.2
  refine calls_of_wp hf hb ?_
  have hlen : vs.size = ds.length := by have := hvs.1; simpa using this
  let b : Base P := ⟨w, w.heap.size, fun g => g < w.heap.size, fun _ => undef, fun _ hg => hg, fun _ hg => hg, Nat.le_refl _, htab, htab.lt⟩
  have hrel : Rel C.n b S S (fun _ => undef) ⟨argT 0 ds, []⟩ { tmps := vs ++ Array.replicate (fn.ntmps - vs.size) undef, defers := [] } w := by
    refine ⟨rfl, by simp; omega, fun t x hx => ?_, fun t x hx => ?_, Snap.le.refl S, fun _ _ hu => .inl hu, hin, fun k o hk => by simp [look] at hk, fun k k' g hk => by simp [look] at hk, ⟨rfl, rfl, rfl, Nat.le_refl _, fun _ _ => rfl⟩, fun k g hk => by simp [look] at hk, fun _ _ => rfl⟩
    · obtain ⟨d, rfl, _⟩ := argT_look ds 0 t x hx
      rfl
    · obtain ⟨d, rfl, _, hd⟩ := argT_look ds 0 t x hx
      rw [Nat.sub_zero] at hd
      have hlt : t < vs.size := by rw [hlen]; exact (List.getElem?_eq_some_iff.1 hd).1
      have hv : vs[t]? = some vs[t] := Array.getElem?_eq_getElem hlt
      have hfr : frameOf { tmps := vs ++ Array.replicate (fn.ntmps - vs.size) undef, defers := [] } t = vs[t] := by
        simp only [frameOf, Array.getD_eq_getD_getElem?, Array.getElem?_append, hlt, if_true, hv, Option.getD_some]
      show V S _ d
      rw [hfr]
      exact hvs.2 t _ d (by simp [hv]) hd
  have post : ∀ {s' : A} {S' : Snap} {E' : Nat → Value} {a' : Act} {w' : World}, Rel C.n b S S' E' s' a' w' → (match resD C (s'.closeR fn.results.toList) fn.results.toList with | some ds => some (tupD ds) | none => none) = some (sp.val ds) →
      a'.defers = [] ∧ ∃ v, (results fn a'.tmps).run P w' = .ok v w' ∧ ∃ v' S'', Ending.returned v = .returned v' ∧ Grew S S'' w w' ∧ V S'' v' (sp.val ds) := by
    intro s0 S1 E' a' w' hr0 hres
    obtain ⟨S', _, hr⟩ := hr0.closeR fn.results.toList
    generalize s0.closeR fn.results.toList = s' at hr hres
    split at hres
    · rename_i ds' hds
      simp only [Option.some.injEq] at hres
      obtain ⟨S'', hle, hr2, hV⟩ := Rel.stowAll (resK C s' fn.results.toList) hr
      obtain ⟨vs', h1, h2⟩ := res_sound (P := P) hT hr hle fn.results.toList ds' hds hV
      have hrun : (results fn a'.tmps).run P w' = .ok (if h : vs'.toArray.size = 1 then vs'.toArray[0] else .tuple vs'.toArray) w' := by
        rw [results_eq]
        simp only [Array.mapM_eq_mapM_toList, Sem.run_bind, Sem.run_map, h1]
        rfl
      refine ⟨hr.defers, _, hrun, _, S'', rfl, ⟨⟨hr2.below.os, hr2.below.tape, hr2.below.output, hr2.below.size, hr2.below.block⟩, hr2.le, fun a' u hu => (hr2.new a' u hu).imp id And.left, hr2.inn⟩, ?_⟩
      rw [← hres]
      have hl := h2.1
      cases vs' with
      | nil =>
        have : ds' = [] := by cases ds' with | nil => rfl | cons _ _ => simp at hl
        subst this
        exact .tup #[] [] rfl fun j u d hu => by simp at hu
      | cons v0 vr =>
        cases ds' with
        | nil => simp at hl
        | cons d0 dr =>
          cases vr with
          | nil =>
            have : dr = [] := by cases dr with | nil => rfl | cons _ _ => simp at hl
            subst this
            simpa [tupD] using h2.head
          | cons v1 vr =>
            cases dr with
            | nil => simp at hl
            | cons d1 dr =>
              simp only [tupD]
              rw [dif_neg (by simp)]
              exact .tup _ _ (by simpa using hl) fun j u d hu hd => h2.2 j u d (by simpa using hu) hd
    · cases hres
  refine code_sound hm hT hC fuel c hrel he fun ex s' S' E' a' w' hr hK => ?_
  cases ex with
  | normal => exact post hr hK
  | ret => exact post hr hK
  | exit id => cases hK

end Go.Ev
