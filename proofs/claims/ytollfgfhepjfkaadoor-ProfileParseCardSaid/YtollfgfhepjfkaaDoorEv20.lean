/- The evaluator 'Ev': what it is told of a program, and that it is so. -/
import Derived.Test.YtollfgfhepjfkaaDoorEv19h
namespace Go.Ev
open Go Go.RowKit

/-- a part of a code, by its place. -/
def part_ : List Nat → Code → Code
  | [], c => c
  | 0 :: r, .seq a _ => part_ r a
  | 1 :: r, .seq _ b => part_ r b
  | _ :: r, .block _ c => part_ r c
  | _ :: r, .loop c => part_ r c
  | 0 :: r, .cond _ a _ => part_ r a
  | 1 :: r, .cond _ _ b => part_ r b
  | _, _ => .skip
noncomputable def bodyOf (f : Func) : Code := match f.body with | some c => c | none => .skip
noncomputable def sub (f : Func) (p : List Nat) : Code := part_ p (bodyOf f)

/-- the operations of the region at a place. -/
noncomputable def opsAt (f : Func) (p : List Nat) : List Oper := match sub f p with | .region _ ops _ => ops.toList | _ => []

structure Ann where
  n : Nat
  glob : List Nat
  live : List (Nat × (List Nat × List (Nat × Nat) × List Nat))
  join : List (Nat × (List Nat × List Nat))

noncomputable def cfg (P : Program) (eqs sets : List Nat) (calls : List (Nat × Spc)) (a : Ann) : Cfg where
  n := a.n
  nt := P.types.size
  ty := tyOf P
  call := look calls
  hcall := fun _ => none
  selfs := []
  opn := []
  bts := []
  ext := fun _ => 0
  eqs := eqs
  sets := sets
  zero := zeroOf P
  glob := a.glob
  live := fun r => match look a.live r with | some x => x | none => ([], [], [])
  join := look a.join

def typeOk (P : Program) (t : Nat) : Bool := match P.underlying t with
  | some (.slice e) => match P.info? e with | some i => Nat.ble i.bytes 32768 | none => false
  | some (.array _ e) => (P.info? e).isSome
  | some (.struct fs) => fs.toList.all fun f => (P.info? f.type).isSome
  | _ => true
def typesOk (P : Program) : Bool := (upto P.types.size 0).all (typeOk P)

theorem types_all {P : Program} (h : typesOk P = true) {t : Nat} (ht : t < P.types.size) : typeOk P t = true := by
  unfold typesOk at h
  rw [List.all_eq_true] at h
  exact h t (by rw [upto_eq, List.mem_range'_1]; omega)

theorem told (P : Program) (eqs sets : List Nat) (calls : List (Nat × Spc)) (a : Ann) (h : typesOk P = true) (he : eqs.all (eqOkP P) = true) (hs : sets.all (setOkP P) = true) : Told P (cfg P eqs sets calls a) where
  ty := fun _ => rfl
  selfs := fun t ht => by simp [cfg] at ht
  bts := fun t ht => by simp [cfg] at ht
  ext1 := fun f hf => by simp [cfg] at hf
  zero := fun _ => rfl
  eqs := fun t ht => by
    obtain ⟨u, hu, hb⟩ := List.any_eq_true.1 ht
    have := nbeq_eq hb
    subst this
    exact List.all_eq_true.1 he t hu
  sets := fun t ht => by
    obtain ⟨u, hu, hb⟩ := List.any_eq_true.1 ht
    have := nbeq_eq hb
    subst this
    exact List.all_eq_true.1 hs t hu
  elem := fun t ht e hu => by
    rcases hu with hu | ⟨l, hu⟩
    · have := types_all h ht
      simp only [typeOk, hu] at this
      split at this
      · exact ⟨_, by assumption⟩
      · cases this
    · have := types_all h ht
      simp only [typeOk, hu] at this
      exact Option.isSome_iff_exists.1 this
  bytes := fun t ht e i hu hi => by
    have := types_all h ht
    simp only [typeOk, hu, hi] at this
    exact Nat.le_of_ble_eq_true this
  field := fun t ht fs hu f hf => by
    have := types_all h ht
    simp only [typeOk, hu] at this
    exact Option.isSome_iff_exists.1 (List.all_eq_true.1 this f hf)

theorem calling_nil (P : Program) (eqs sets : List Nat) (a : Ann) : Calling P (cfg P eqs sets [] a) := ⟨fun f sp h => by simp [cfg, look] at h, fun f hs h => by simp [cfg] at h⟩
theorem calling_cons {P : Program} {eqs sets : List Nat} {a : Ann} {calls : List (Nat × Spc)} {f : Nat} {sp : Spc} (h : Sound P f sp) (hr : Calling P (cfg P eqs sets calls a)) : Calling P (cfg P eqs sets ((f, sp) :: calls) a) := ⟨fun g sp' hg => by
  have hg' : look ((f, sp) :: calls) g = some sp' := hg
  rw [look_cons] at hg'
  split at hg'
  · rename_i e; cases hg'; subst e; exact h
  · exact hr.call g sp' hg', fun f hs h => by simp [cfg] at h⟩

/-- with calls that are handed things; types of things that unsafe pointers may be turned back to; types of bytes; functions without a body that hand their argument back -/
noncomputable def cfgH (P : Program) (eqs sets : List Nat) (x : List Nat × List Nat × List Nat × List (Nat × Nat)) (calls : List (Nat × Spc)) (hcalls : List (Nat × HSpc)) (a : Ann) : Cfg :=
  { cfg P eqs sets calls a with hcall := look hcalls, selfs := x.1, bts := x.2.1, ext := (fun f => bif x.2.2.1.any (Nat.beq f) then 1 else 0), opn := x.2.2.2 }
structure XOk (P : Program) (x : List Nat × List Nat × List Nat × List (Nat × Nat)) : Prop where
  selfs : x.1.all (selfOk P) = true
  bts : x.2.1.all (byteOk P) = true
  ext : ∀ f, f ∈ x.2.2.1 → ∀ (v : Value) (w : World), (callFunc f #[v]).run P w = .ok (.value v) w
theorem any_all {l : List Nat} {p : Nat → Bool} (h : l.all p = true) {t : Nat} (ht : l.any (Nat.beq t) = true) : p t = true := by
  obtain ⟨u, hu, hb⟩ := List.any_eq_true.1 ht
  have := nbeq_eq hb
  subst this
  exact List.all_eq_true.1 h t hu
theorem toldH {P : Program} {eqs sets : List Nat} {x : List Nat × List Nat × List Nat × List (Nat × Nat)} (hx : XOk P x) (calls : List (Nat × Spc)) (hcalls : List (Nat × HSpc)) (a : Ann) (h : typesOk P = true) (he : eqs.all (eqOkP P) = true) (hs : sets.all (setOkP P) = true) : Told P (cfgH P eqs sets x calls hcalls a) :=
  let q := told P eqs sets calls a h he hs
  ⟨q.ty, q.zero, q.eqs, fun _ ht => any_all hx.bts ht, fun _ ht => any_all hx.selfs ht, fun f hf => by
    simp only [cfgH] at hf
    cases hm : x.2.2.1.any (Nat.beq f) with
    | false => rw [hm] at hf; simp at hf
    | true =>
      obtain ⟨u, hu, hb⟩ := List.any_eq_true.1 hm
      have := nbeq_eq hb
      subst this
      exact hx.ext f hu, q.sets, q.elem, q.bytes, q.field⟩
theorem callingH_nil {P : Program} {eqs sets : List Nat} {x : List Nat × List Nat × List Nat × List (Nat × Nat)} {calls : List (Nat × Spc)} {a : Ann} (h : Calling P (cfg P eqs sets calls a)) : Calling P (cfgH P eqs sets x calls [] a) := ⟨h.call, fun f hs hh => by simp [cfgH, look] at hh⟩
theorem callingH_cons {P : Program} {eqs sets : List Nat} {x : List Nat × List Nat × List Nat × List (Nat × Nat)} {calls : List (Nat × Spc)} {hcalls : List (Nat × HSpc)} {a : Ann} {f : Nat} {hs : HSpc} (h : HSound P f hs) (hr : Calling P (cfgH P eqs sets x calls hcalls a)) : Calling P (cfgH P eqs sets x calls ((f, hs) :: hcalls) a) := ⟨hr.call, fun g hs' hg => by
  have hg' : look ((f, hs) :: hcalls) g = some hs' := hg
  rw [look_cons] at hg'
  split at hg'
  · rename_i e; cases hg'; subst e; exact h
  · exact hr.hcall g hs' hg'⟩

end Go.Ev
