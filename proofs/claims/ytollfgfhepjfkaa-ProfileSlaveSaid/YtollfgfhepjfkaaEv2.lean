/- The evaluator 'Ev': what a state stands for ('Rel'), and how it is handed on: a temporary is written, memory grows, a thing is made, changed, stowed. -/
import Derived.Test.YtollfgfhepjfkaaEv1
namespace Go.Ev
open Go Go.RowKit

def blk : Value → Option Nat
  | .pointer (some a) => some a.block
  | .slice (some a) _ _ => some a.block
  | .map (some g) => some g
  | _ => none
theorem blk_own {v : Value} {w : World} {B : Nat} {e : TypeId} {sz n : Nat} {xs : List Value} (h : w.ownsRow B e sz v n xs) : v.ownBlock = blk v := by
  rcases h.2 with ⟨rfl, _⟩ | ⟨g, cap, cur, rfl, _⟩ <;> rfl

/-- what the thing at a site is. -/
def OV (S : Snap) (E : Nat → Value) (B : Nat) (w : World) (k : Nat) : Ob → Prop
  | .box cs => ∃ g ty vs, E k = .pointer (some ⟨g, 0, none⟩) ∧ w.heap[g]? = some (.cells vs ty (0, 0)) ∧ vs.size = cs.length ∧ B ≤ g ∧ (∀ a : Addr, a.block = g → S a = none) ∧
      ∀ (j : Nat) u c, vs[j]? = some u → cs[j]? = some c → u.oneCell' = true ∧ c.bare = true ∧ TV S E (fun _ => undef) u c
  | .vec e sz xs => ∃ vals, w.ownsRow B e sz (E k) xs.length vals ∧ (∀ x, x ∈ xs → x.cells.length = sz) ∧ Vs S vals (flat xs) ∧ (∀ u, u ∈ vals → u.oneCell' = true) ∧
      ∀ g, blk (E k) = some g → ∀ a : Addr, a.block = g → S a = none
  | .set ls => ∃ g es clock, E k = .map (some g) ∧ w.heap[g]? = some (.map es clock) ∧ es.toList.map (fun e => (e.key, e.val)) = ls.map (fun l => (Value.string ⟨l.toArray⟩, Value.bool true)) ∧ B ≤ g ∧
      ∀ a : Addr, a.block = g → S a = none

/-- bare, or one guard around what is bare. -/
def T.thin : T → Bool
  | .g _ _ t => t.bare
  | _ => true

theorem bare_thin {t : T} (h : t.bare = true) : t.thin = true := by cases t <;> first | rfl | simp [T.bare] at h

def frameOf (a : Act) : Nat → Value := fun j => a.tmps.getD j undef

structure Rel (n : Nat) (w0 : World) (S0 S : Snap) (E : Nat → Value) (s : A) (a : Act) (w : World) : Prop where
  defers : a.defers = []
  size : n ≤ a.tmps.size
  thin : ∀ t x, look s.tm t = some x → x.thin = true
  tm : ∀ t x, look s.tm t = some x → TV S E (frameOf a) (frameOf a t) x
  le : S0.le S
  new : ∀ a' u, S a' = some u → S0 a' = some u ∨ w0.heap.size ≤ a'.block
  inn : S.inn w
  ob : ∀ k o, look s.ob k = some o → OV S E w0.heap.size w k o
  sep : ∀ k k' g, (look s.ob k).isSome → (look s.ob k').isSome → k ≠ k' → blk (E k) = some g → blk (E k') ≠ some g
  below : Below w0.heap.size w0 w

variable {n : Nat} {w0 : World} {S0 S : Snap} {E : Nat → Value} {s : A} {a : Act} {w : World}

/-- the blocks of sites are there. -/
theorem OV.lt {B : Nat} {k g : Nat} {o : Ob} (h : OV S E B w k o) (hg : blk (E k) = some g) : g < w.heap.size ∧ B ≤ g := by
  cases o with
  | box cs =>
    obtain ⟨g', ty, vs, hE, hh, _, hB, _⟩ := h
    rw [hE] at hg; simp [blk] at hg; subst hg
    exact ⟨(Array.getElem?_eq_some_iff.1 hh).1, hB⟩
  | vec e sz xs =>
    obtain ⟨vals, ho, _⟩ := h
    have := ho.lt g (by rw [blk_own ho]; exact hg)
    exact ⟨this.2, this.1⟩
  | set ls =>
    obtain ⟨g', es, cl, hE, hh, _, hB, _⟩ := h
    rw [hE] at hg; simp [blk] at hg; subst hg
    exact ⟨(Array.getElem?_eq_some_iff.1 hh).1, hB⟩

/-- another world, where the thing's own block is as it was, and the cells that stay grow. -/
theorem OV.move {B : Nat} {k : Nat} {o : Ob} {w' : World} {S' : Snap} (h : OV S E B w k o) (hS : S.le S') (hb : ∀ g, blk (E k) = some g → w'.heap[g]? = w.heap[g]?)
    (hS' : ∀ g, blk (E k) = some g → ∀ a : Addr, a.block = g → S' a = none) : OV S' E B w' k o := by
  cases o with
  | box cs =>
    obtain ⟨g, ty, vs, hE, hh, hn, hB, _, hc⟩ := h
    have hbk : blk (E k) = some g := by rw [hE]; rfl
    exact ⟨g, ty, vs, hE, by rw [hb g hbk]; exact hh, hn, hB, hS' g hbk, fun j u c hu hcj => let ⟨h1, h2, h3⟩ := hc j u c hu hcj; ⟨h1, h2, h3.mono hS⟩⟩
  | vec e sz xs =>
    obtain ⟨vals, ho, hx, hv, h1, _⟩ := h
    refine ⟨vals, ⟨ho.1, ?_⟩, hx, hv.mono hS, h1, hS'⟩
    rcases ho.2 with ⟨hE, h0⟩ | ⟨g, cap, cur, hE, hB, hh, hr⟩
    · exact .inl ⟨hE, h0⟩
    · exact .inr ⟨g, cap, cur, hE, hB, by rw [hb g (by rw [hE]; rfl)]; exact hh, hr⟩
  | set ls =>
    obtain ⟨g, es, cl, hE, hh, hm, hB, _⟩ := h
    have hbk : blk (E k) = some g := by rw [hE]; rfl
    exact ⟨g, es, cl, hE, by rw [hb g hbk]; exact hh, hm, hB, hS' g hbk⟩

/-- another account of the sites, which agrees but at k, where the thing does not lead to k. -/
theorem OV.upd {B : Nat} {k j : Nat} {o : Ob} {E' : Nat → Value} (hE : ∀ i, i ≠ k → E' i = E i) (hj : j ≠ k) (h : OV S E B w j o) : OV S E' B w j (o.kill k) := by
  cases o with
  | box cs =>
    obtain ⟨g, ty, vs, hEj, hh, hn, hB, hS, hc⟩ := h
    refine ⟨g, ty, vs, by rw [hE j hj]; exact hEj, hh, by simpa using hn, hB, hS, fun i u c hu hci => ?_⟩
    simp only [List.getElem?_map, Option.map_eq_some_iff] at hci
    obtain ⟨c', hc', rfl⟩ := hci
    obtain ⟨h1, h2, h3⟩ := hc i u c' hu hc'
    refine ⟨h1, ?_, TV.kill hE h3⟩
    unfold T.kill
    cases c'.refs k
    · exact h2
    · rfl
  | vec e sz xs =>
    obtain ⟨vals, ho, hx, hv, h1, hS⟩ := h
    exact ⟨vals, by rw [hE j hj]; exact ho, hx, hv, h1, by rw [hE j hj]; exact hS⟩
  | set ls =>
    obtain ⟨g, es, cl, hEj, hh, hm, hB, hS⟩ := h
    exact ⟨g, es, cl, by rw [hE j hj]; exact hEj, hh, hm, hB, hS⟩

/-- MEMORY GROWS: nothing that was there is changed, more cells stay. -/
theorem Rel.grow (h : Rel n w0 S0 S E s a w) {w' : World} {S' : Snap} (hb : Below w.heap.size w w') (hS : S.le S')
    (hnew : ∀ a' u, S' a' = some u → S a' = some u ∨ w.heap.size ≤ a'.block) (hin : S'.inn w') : Rel n w0 S0 S' E s a w' := by
  refine ⟨h.defers, h.size, h.thin, fun t x hx => (h.tm t x hx).mono hS, h.le.trans hS, ?_, hin, ?_, h.sep, h.below.trans (hb.mono h.below.size)⟩
  · intro a' u hu
    rcases hnew a' u hu with h1 | h1
    · exact h.new a' u h1
    · exact .inr (Nat.le_trans h.below.size h1)
  · intro k o hk
    refine (h.ob k o hk).move hS (fun g hg => hb.block g ((h.ob k o hk).lt hg).1) (fun g hg a' ha => ?_)
    cases hSa : S' a' with
    | none => rfl
    | some u =>
      rcases hnew a' u hSa with h1 | h1
      · have h2 : S a' = none := by
          have hov := h.ob k o hk
          cases o with
          | box cs =>
            obtain ⟨g', _, _, hE, _, _, _, hz, _⟩ := hov
            rw [hE] at hg; simp [blk] at hg; exact hz a' (by omega)
          | vec e sz xs =>
            obtain ⟨_, _, _, _, _, hz⟩ := hov
            exact hz g hg a' ha
          | set ls =>
            obtain ⟨g', _, _, hEj, _, _, _, hz⟩ := hov
            rw [hEj] at hg; simp [blk] at hg; exact hz a' (by omega)
        rw [h2] at h1; cases h1
      · have := ((h.ob k o hk).lt hg).1
        omega

theorem Rel.drewN (h : Rel n w0 S0 S E s a w) {w' : World} (hb : Below w.heap.size w w') (hc : ∀ a', w'.cell? a' = w.cell? a' ∨ w.cell? a' = none) : Rel n w0 S0 S E s a w' :=
  h.grow hb (Snap.le.refl S) (fun _ _ hu => .inl hu) (fun a' u hu => by
    have h1 := h.inn a' u hu
    rcases hc a' with h2 | h2
    · exact ⟨by rw [h2]; exact h1.1, h1.2⟩
    · rw [h2] at h1; cases h1.1)
theorem Snap.inn.below {S : Snap} {w w' : World} (h : S.inn w) (hb : Below w.heap.size w w') : S.inn w' := fun a' u hu => by
  have h1 := h a' u hu
  refine ⟨?_, h1.2⟩
  have hlt : a'.block < w.heap.size := World.block_lt_of_cell? w a' h1.1
  rw [hb.cell (p := a') hlt]
  exact h1.1
theorem Rel.below' (h : Rel n w0 S0 S E s a w) {w' : World} (hb : Below w.heap.size w w') : Rel n w0 S0 S E s a w' :=
  h.grow hb (Snap.le.refl S) (fun _ _ hu => .inl hu) (h.inn.below hb)

/-- A TEMPORARY IS WRITTEN. -/
theorem frame_put {a : Act} {d t : Nat} {v : Value} (hd : d < a.tmps.size) : frameOf (a.put (some d) v) t = if t = d then v else frameOf a t := by
  unfold frameOf Act.put
  simp only [Array.getD_eq_getD_getElem?, Array.getElem?_setIfInBounds]
  by_cases h : t = d
  · subst h; simp [hd]
  · simp [h, Ne.symm h]
theorem wrapG_thin {g : Guard} {t : T} (h : t.bare = true) : (wrapG g t).thin = true := by
  cases g with
  | none => cases t <;> first | rfl | simp [T.bare] at h
  | some p => exact h
/-- the guard holds. -/
def GuardOk (tm : Nat → Value) : Guard → Prop
  | none => True
  | some (t, w) => tm t = .bool w
theorem wrapG_tv {S : Snap} {E : Nat → Value} {tm tm' : Nat → Value} {v : Value} {g : Guard} {t : T} (hg : GuardOk tm' g) (hb : t.bare = true) (h : TV S E tm v t) : TV S E tm' v (wrapG g t) := by
  cases g with
  | none => exact TV.tm hb h
  | some p => exact ⟨fun _ => TV.tm hb h, fun hn => absurd hg hn⟩
theorem wrapG_skip {S : Snap} {E : Nat → Value} {tm : Nat → Value} {g : Nat} {w : Bool} {t : T} (hg : tm g ≠ .bool w) : TV S E tm undef (wrapG (some (g, w)) t) :=
  ⟨fun h => absurd h hg, fun _ => rfl⟩

theorem Rel.set (h : Rel n w0 S0 S E s a w) {d : Nat} {v : Value} {t : T} (hd : d < n) (ht : t.thin = true) (hv : TV S E (frameOf (a.put (some d) v)) v t) :
    Rel n w0 S0 S E (s.set (some d) t) (a.put (some d) v) w := by
  have hds : d < a.tmps.size := Nat.lt_of_lt_of_le hd h.size
  refine ⟨h.defers, by simpa [Act.put] using h.size, ?_, ?_, h.le, h.new, h.inn, h.ob, h.sep, h.below⟩
  · intro i x hx
    simp only [A.set, look_put, look_dropG] at hx
    split at hx
    · cases hx; exact ht
    · simp only [Option.map_eq_some_iff] at hx
      obtain ⟨y, hy, rfl⟩ := hx
      have := h.thin i y hy
      cases y <;> try exact this
      simp only [T.unG]
      rename_i t' w' y'
      cases Nat.beq t' d
      · exact this
      · rfl
  · intro i x hx
    simp only [A.set, look_put, look_dropG] at hx
    rw [frame_put hds]
    split at hx
    · rename_i hi
      cases hx
      rw [if_pos hi]
      exact hv
    · rename_i hi
      rw [if_neg hi]
      simp only [Option.map_eq_some_iff] at hx
      obtain ⟨y, hy, rfl⟩ := hx
      have h1 := h.tm i y hy
      have h2 := h.thin i y hy
      cases y with
      | g t' w' y' =>
        simp only [T.unG]
        cases hb : Nat.beq t' d with
        | true => trivial
        | false =>
          simp only [cond_false, TV]
          have hne : t' ≠ d := fun e => by subst e; simp at hb
          rw [frame_put hds, if_neg hne]
          exact ⟨fun hg => TV.tm h2 (h1.1 hg), h1.2⟩
      | _ => exact TV.tm (by rfl) h1

/-- nothing is written (an operation without a temporary). -/
theorem Rel.set_none (h : Rel n w0 S0 S E s a w) (v : Value) (t : T) : Rel n w0 S0 S E (s.set none t) (a.put none v) w := h

/-- A NEW THING AT SITE k: its block is none of those that are in use. 'row': the one old block that may have been written; it is no other site's, and no cell that stays lies in it. -/
theorem Rel.make (h : Rel n w0 S0 S E s a w) {k : Nat} {o : Ob} {v : Value} {w' : World} {row : Option Nat}
    (hw : w.grownBy w' row) (hrow : ∀ g, row = some g → w0.heap.size ≤ g ∧ (∀ a' : Addr, a'.block = g → S a' = none) ∧ ∀ j, j ≠ k → (look s.ob j).isSome → blk (E j) ≠ some g)
    (hv : ∀ g, blk v = some g → row = some g ∨ w.heap.size ≤ g)
    (ho : OV S (fun j => if j = k then v else E j) w0.heap.size w' k o) : Rel n w0 S0 S (fun j => if j = k then v else E j) (s.new k o) a w' := by
  have hE : ∀ j, j ≠ k → (fun j => if j = k then v else E j) j = E j := fun j hj => by simp [hj]
  have hold : ∀ g, g < w.heap.size → row ≠ some g → w'.heap[g]? = w.heap[g]? := fun g hg hr => hw.block g hg (fun e => hr e.symm)
  have hbw : Below w0.heap.size w w' := ⟨hw.os, hw.tape, hw.output, hw.size, fun g hg => hold g (Nat.lt_of_lt_of_le hg h.below.size) (fun e => by have := (hrow g e).1; omega)⟩
  refine ⟨h.defers, h.size, ?_, ?_, h.le, h.new, ?_, ?_, ?_, h.below.trans hbw⟩
  · intro t x hx
    simp only [A.new, A.kill, look_map, Option.map_eq_some_iff] at hx
    obtain ⟨y, hy, rfl⟩ := hx
    have := h.thin t y hy
    unfold T.kill
    cases y.refs k
    · exact this
    · rfl
  · intro t x hx
    simp only [A.new, A.kill, look_map, Option.map_eq_some_iff] at hx
    obtain ⟨y, hy, rfl⟩ := hx
    exact TV.kill hE (h.tm t y hy)
  · intro a' u hu
    have h1 := h.inn a' u hu
    refine ⟨?_, h1.2⟩
    have hlt : a'.block < w.heap.size := World.block_lt_of_cell? w a' h1.1
    rw [World.cell?_of_block (hold a'.block hlt (fun e => by have := (hrow _ e).2.1 a' rfl; rw [this] at hu; cases hu))]
    exact h1.1
  · intro j o' hj
    simp only [A.new, A.kill, look_cons] at hj
    split at hj
    · rename_i e
      cases hj; subst e; exact ho
    · rename_i hne
      simp only [look_map, look_drop, if_neg hne, Option.map_eq_some_iff] at hj
      obtain ⟨o2, ho2, rfl⟩ := hj
      have h1 := h.ob j o2 ho2
      refine OV.upd hE hne (h1.move (Snap.le.refl S) (fun g hg => hold g (h1.lt hg).1 (fun e => (hrow g e).2.2 j hne (by simp [ho2]) hg)) ?_)
      intro g hg a' ha
      cases o2 with
      | box cs =>
        obtain ⟨g', _, _, hEj, _, _, _, hz, _⟩ := h1
        rw [hEj] at hg; simp [blk] at hg; exact hz a' (by omega)
      | vec e sz xs =>
        obtain ⟨_, _, _, _, _, hz⟩ := h1
        exact hz g hg a' ha
      | set ls =>
        obtain ⟨g', _, _, hEj, _, _, _, hz⟩ := h1
        rw [hEj] at hg; simp [blk] at hg; exact hz a' (by omega)
  · have key : ∀ j g, j ≠ k → (look (s.new k o).ob j).isSome → blk v = some g → blk (E j) ≠ some g := by
      intro j g hj hs hg hjg
      simp only [A.new, A.kill, look_cons, if_neg hj, look_map, look_drop, Option.isSome_map] at hs
      rcases hv g hg with h1 | h1
      · exact (hrow g h1).2.2 j hj hs hjg
      · obtain ⟨o2, ho2⟩ := Option.isSome_iff_exists.1 hs
        have := ((h.ob j o2 ho2).lt hjg).1
        omega
    intro i j g hi hj hij hgi hgj
    by_cases hik : i = k
    · subst hik
      have hji : j ≠ i := Ne.symm hij
      simp only at hgi
      simp only [if_neg hji] at hgj
      exact key j g hji hj hgi hgj
    · by_cases hjk : j = k
      · subst hjk
        simp only [if_true] at hgj
        simp only [if_neg hik] at hgi
        exact key i g hik hi hgj hgi
      · simp only [if_neg hik] at hgi
        simp only [if_neg hjk] at hgj
        simp only [A.new, A.kill, look_cons, if_neg hik, if_neg hjk, look_map, look_drop, Option.isSome_map] at hi hj
        exact h.sep i j g hi hj hij hgi hgj

/-- what stands at a site no more. -/
theorem Rel.kill (h : Rel n w0 S0 S E s a w) (k : Nat) : Rel n w0 S0 S E (s.kill k) a w := by
  have hE : ∀ j, j ≠ k → E j = E j := fun _ _ => rfl
  refine ⟨h.defers, h.size, ?_, ?_, h.le, h.new, h.inn, ?_, ?_, h.below⟩
  · intro t x hx
    simp only [A.kill, look_map, Option.map_eq_some_iff] at hx
    obtain ⟨y, hy, rfl⟩ := hx
    have := h.thin t y hy
    unfold T.kill
    cases y.refs k
    · exact this
    · rfl
  · intro t x hx
    simp only [A.kill, look_map, Option.map_eq_some_iff] at hx
    obtain ⟨y, hy, rfl⟩ := hx
    exact TV.kill hE (h.tm t y hy)
  · intro j o' hj
    simp only [A.kill, look_map, look_drop, Option.map_eq_some_iff] at hj
    obtain ⟨o2, ho2, rfl⟩ := hj
    split at ho2
    · cases ho2
    · rename_i hne
      exact OV.upd hE hne (h.ob j o2 ho2)
  · intro i j g hi hj hij
    simp only [A.kill, look_map, look_drop, Option.isSome_map] at hi hj
    split at hi
    · simp at hi
    · split at hj
      · simp at hj
      · exact h.sep i j g hi hj hij

/-- memory has grown, and more cells stay. -/
structure Grew (S S' : Snap) (w w' : World) : Prop where
  below : Below w.heap.size w w'
  le : S.le S'
  new : ∀ a' u, S' a' = some u → S a' = some u ∨ w.heap.size ≤ a'.block
  inn : S'.inn w'
theorem Rel.grew (h : Rel n w0 S0 S E s a w) {w' : World} {S' : Snap} (hg : Grew S S' w w') : Rel n w0 S0 S' E s a w' := h.grow hg.below hg.le hg.new hg.inn
theorem Grew.refl {S : Snap} {w : World} (h : S.inn w) : Grew S S w w := ⟨Below.refl _ _, Snap.le.refl S, fun _ _ h => .inl h, h⟩

/-- of what was there only the thing at site k is another. -/
structure Chg (E : Nat → Value) (k : Nat) (w w' : World) : Prop where
  size : w'.heap.size = w.heap.size
  os : w'.os = w.os
  tape : w'.tape = w.tape
  output : w'.output = w.output
  block : ∀ g, blk (E k) ≠ some g → w'.heap[g]? = w.heap[g]?
/-- site d's thing is new. -/
structure Made (S : Snap) (E : Nat → Value) (B : Nat) (w w' : World) (d : Nat) (v : Value) (o : Ob) : Prop where
  grown : w.grownBy w' none
  far : ∀ g, blk v = some g → w.heap.size ≤ g
  ov : OV S (fun j => if j = d then v else E j) B w' d o
theorem Rel.made (h : Rel n w0 S0 S E s a w) {w' : World} {d : Nat} {v : Value} {o : Ob} (hm : Made S E w0.heap.size w w' d v o) : Rel n w0 S0 S (fun j => if j = d then v else E j) (s.new d o) a w' :=
  h.make hm.grown (fun g hg => by cases hg) (fun g hg => .inr (hm.far g hg)) hm.ov

/-- THE THING AT SITE k IS CHANGED in place: only its own block is. -/
theorem Rel.change (h : Rel n w0 S0 S E s a w) {k : Nat} {o o' : Ob} {w' : World} (hk : look s.ob k = some o)
    (hsz : w'.heap.size = w.heap.size) (hos : w'.os = w.os) (htape : w'.tape = w.tape) (hout : w'.output = w.output)
    (hb : ∀ g, blk (E k) ≠ some g → w'.heap[g]? = w.heap[g]?) (ho : OV S E w0.heap.size w' k o') : Rel n w0 S0 S E ⟨s.tm, put s.ob k o'⟩ a w' := by
  have hk0 := h.ob k o hk
  have hno : ∀ g, blk (E k) = some g → ∀ a' : Addr, a'.block = g → S a' = none := by
    intro g hg a' ha
    cases o with
    | box cs =>
      obtain ⟨g', _, _, hEj, _, _, _, hz, _⟩ := hk0
      rw [hEj] at hg; simp [blk] at hg; exact hz a' (by omega)
    | vec e sz xs =>
      obtain ⟨_, _, _, _, _, hz⟩ := hk0
      exact hz g hg a' ha
    | set ls =>
      obtain ⟨g', _, _, hEj, _, _, _, hz⟩ := hk0
      rw [hEj] at hg; simp [blk] at hg; exact hz a' (by omega)
  refine ⟨h.defers, h.size, h.thin, h.tm, h.le, h.new, ?_, ?_, ?_, ?_⟩
  · intro a' u hu
    have h1 := h.inn a' u hu
    refine ⟨?_, h1.2⟩
    rw [World.cell?_of_block (hb a'.block (fun e => by rw [hno _ e a' rfl] at hu; cases hu))]
    exact h1.1
  · intro j oj hj
    simp only [look_put] at hj
    split at hj
    · rename_i e; cases hj; subst e; exact ho
    · rename_i hne
      have h1 := h.ob j oj hj
      refine h1.move (Snap.le.refl S) (fun g hg => hb g (fun e => h.sep k j g (by simp [hk]) (by simp [hj]) (Ne.symm hne) e hg)) (fun g hg a' ha => ?_)
      cases oj with
      | box cs =>
        obtain ⟨g', _, _, hEj, _, _, _, hz, _⟩ := h1
        rw [hEj] at hg; simp [blk] at hg; exact hz a' (by omega)
      | vec e sz xs =>
        obtain ⟨_, _, _, _, _, hz⟩ := h1
        exact hz g hg a' ha
      | set ls =>
        obtain ⟨g', _, _, hEj, _, _, _, hz⟩ := h1
        rw [hEj] at hg; simp [blk] at hg; exact hz a' (by omega)
  · have hs : ∀ j, (look (put s.ob k o') j).isSome → (look s.ob j).isSome := by
      intro j hj
      simp only [look_put] at hj
      split at hj
      · rename_i e; subst e; simp [hk]
      · exact hj
    exact fun i j g hi hj hij => h.sep i j g (hs i hi) (hs j hj) hij
  · refine h.below.trans ⟨hos, htape, hout, by omega, fun g hg => hb g (fun e => ?_)⟩
    have := (hk0.lt e).2
    omega

theorem Rel.chg (h : Rel n w0 S0 S E s a w) {k : Nat} {o o' : Ob} {w' : World} (hk : look s.ob k = some o) (hc : Chg E k w w') (ho : OV S E w0.heap.size w' k o') : Rel n w0 S0 S E ⟨s.tm, put s.ob k o'⟩ a w' :=
  h.change hk hc.size hc.os hc.tape hc.output hc.block ho

/-- fewer things are told. -/
theorem Rel.less (h : Rel n w0 S0 S E s a w) {s' : A} (ht : ∀ t x, look s'.tm t = some x → look s.tm t = some x) (ho : ∀ k o, look s'.ob k = some o → look s.ob k = some o) : Rel n w0 S0 S E s' a w := by
  refine ⟨h.defers, h.size, fun t x hx => h.thin t x (ht t x hx), fun t x hx => h.tm t x (ht t x hx), h.le, h.new, h.inn, fun k o hk => h.ob k o (ho k o hk), ?_, h.below⟩
  intro i j g hi hj hij
  obtain ⟨oi, hi'⟩ := Option.isSome_iff_exists.1 hi
  obtain ⟨oj, hj'⟩ := Option.isSome_iff_exists.1 hj
  exact h.sep i j g (by simp [ho i oi hi']) (by simp [ho j oj hj']) hij

/-- THE ROWS AT SITE k ARE PLAIN DATA FROM HERE ON. -/
theorem Rel.stow (h : Rel n w0 S0 S E s a w) {k e sz : Nat} {xs : List D} (hk : look s.ob k = some (.vec e sz xs)) :
    ∃ S', S.le S' ∧ Rel n w0 S0 S' E (s.stow k sz xs) a w ∧ V S' (E k) (.sl sz xs) := by
  obtain ⟨vals, ho, hx, hv, h1, hz⟩ := h.ob k _ hk
  -- the cells that stay, with this row's
  have ex : ∃ S', S.le S' ∧ S'.inn w ∧ (∀ a' u, S' a' = some u → S a' = some u ∨ blk (E k) = some a'.block) ∧ V S' (E k) (.sl sz xs) := by
    rcases ho.2 with ⟨hE, h0⟩ | ⟨g, cap, cur, hE, hB, hh, hcap, hm, hcs, ht⟩
    · have : xs = [] := List.eq_nil_of_length_eq_zero h0
      subst this
      exact ⟨S, Snap.le.refl S, h.inn, fun _ _ hu => .inl hu, by rw [hE]; exact .slnil sz⟩
    · let S' : Snap := fun a' => if a'.block = g ∧ a'.spot = none then vals[a'.off]? else S a'
      have hbk : blk (E k) = some g := by rw [hE]; rfl
      have hle : S.le S' := by
        intro a' u hu
        have hne : ¬ (a'.block = g ∧ a'.spot = none) := fun ⟨e1, _⟩ => by rw [hz g hbk a' e1] at hu; cases hu
        show (if _ then _ else _) = _
        rw [if_neg hne]; exact hu
      refine ⟨S', hle, ?_, ?_, ?_⟩
      · intro a' u hu
        by_cases hc : a'.block = g ∧ a'.spot = none
        · have hu' : vals[a'.off]? = some u := by
            have : (if a'.block = g ∧ a'.spot = none then vals[a'.off]? else S a') = some u := hu
            rwa [if_pos hc] at this
          have := ho.cells (g := g) (by rw [hE]; rfl) a'.off u hu'
          rw [add_none] at this
          obtain ⟨b, of, sp⟩ := a'
          obtain ⟨e1, e2⟩ := hc
          simp at e1 e2 this
          subst e1; subst e2
          exact ⟨this, h1 u (List.mem_of_getElem? hu')⟩
        · have : (if a'.block = g ∧ a'.spot = none then vals[a'.off]? else S a') = some u := hu
          rw [if_neg hc] at this
          exact h.inn a' u this
      · intro a' u hu
        by_cases hc : a'.block = g ∧ a'.spot = none
        · exact .inr (by rw [hbk, hc.1])
        · have : (if a'.block = g ∧ a'.spot = none then vals[a'.off]? else S a') = some u := hu
          rw [if_neg hc] at this
          exact .inl this
      · rw [hE]
        refine .sl ⟨g, 0, none⟩ cap sz xs vals hcap hx ho.1 (fun j u hj => ?_) (fun j u d hu hd => (hv.2 j u d hu hd).mono hle)
        rw [add_none]
        show (if _ then _ else _) = _
        rw [if_pos ⟨rfl, rfl⟩]
        simpa using hj
  obtain ⟨S', hle, hin, hnew, hV⟩ := ex
  have tv : ∀ {tm : Nat → Value} {v : Value} {t : T}, TV S E tm v t → TV S' E tm v (t.stow k sz xs) := by
    intro tm v t
    induction t with
    | g a b t ih => exact fun ht => ⟨fun hg => ih (ht.1 hg), ht.2⟩
    | vec j =>
      intro ht
      simp only [T.stow]
      cases hb : Nat.beq k j with
      | true =>
        have := nbeq_eq hb; subst this
        simp only [cond_true, TV] at ht ⊢
        rw [ht]; exact hV
      | false => exact ht
    | undef => intro _; simp [T.stow, T.refs, TV]
    | d x => intro ht; exact V.mono hle ht
    | nils z => intro ht; exact ht
    | ptr j off =>
      intro ht; simp only [T.stow]; cases (T.ptr j off).refs k
      · exact ht
      · trivial
    | ptrA j off len z i o =>
      intro ht; simp only [T.stow]; cases (T.ptrA j off len z i o).refs k
      · exact ht
      · trivial
    | ptrS x off => intro ht; exact TV.mono hle ht
    | vptr j z i o =>
      intro ht; simp only [T.stow]; cases (T.vptr j z i o).refs k
      · exact ht
      · trivial
    | fn f => intro ht; exact ht
  have thin : ∀ t : T, (t.bare = true → (t.stow k sz xs).bare = true) ∧ (t.thin = true → (t.stow k sz xs).thin = true) := by
    intro t
    have hbare : ∀ t : T, t.bare = true → (t.stow k sz xs).bare = true := by
      intro t ht
      cases t <;> simp only [T.stow] <;> first | rfl | (simp [T.bare] at ht; done) | (split <;> rfl) | (cases Nat.beq k _ <;> rfl) | (cases (T.refs k _) <;> rfl)
    refine ⟨hbare t, fun ht => ?_⟩
    cases t with
    | g a b t => exact hbare t ht
    | _ => exact bare_thin (hbare _ rfl)
  refine ⟨S', hle, ⟨h.defers, h.size, ?_, ?_, h.le.trans hle, ?_, hin, ?_, ?_, h.below⟩, hV⟩
  · intro t x hx'
    simp only [A.stow, look_map, Option.map_eq_some_iff] at hx'
    obtain ⟨y, hy, rfl⟩ := hx'
    exact (thin y).2 (h.thin t y hy)
  · intro t x hx'
    simp only [A.stow, look_map, Option.map_eq_some_iff] at hx'
    obtain ⟨y, hy, rfl⟩ := hx'
    exact tv (h.tm t y hy)
  · intro a' u hu
    rcases hnew a' u hu with h2 | h2
    · exact h.new a' u h2
    · exact .inr ((h.ob k _ hk).lt h2).2
  · intro j o' hj
    simp only [A.stow, look_map, look_drop, Option.map_eq_some_iff] at hj
    obtain ⟨o2, ho2, rfl⟩ := hj
    split at ho2
    · cases ho2
    · rename_i hne
      have hov := h.ob j o2 ho2
      have hz' : ∀ g, blk (E j) = some g → ∀ a' : Addr, a'.block = g → S' a' = none := by
        intro g hg a' ha
        cases hSa : S' a' with
        | none => rfl
        | some u =>
          rcases hnew a' u hSa with h2 | h2
          · have : S a' = none := by
              cases o2 with
              | box cs =>
                obtain ⟨g', _, _, hEj, _, _, _, hq, _⟩ := hov
                rw [hEj] at hg; simp [blk] at hg; exact hq a' (by omega)
              | vec e2 sz2 ys =>
                obtain ⟨_, _, _, _, _, hq⟩ := hov
                exact hq g hg a' ha
              | set ls =>
                obtain ⟨g', _, _, hEj, _, _, _, hq⟩ := hov
                rw [hEj] at hg; simp [blk] at hg; exact hq a' (by omega)
            rw [this] at h2; cases h2
          · rw [ha] at h2
            exact absurd hg (h.sep k j g (by simp [hk]) (by simp [ho2]) (Ne.symm hne) h2)
      have hov' := hov.move hle (fun _ _ => rfl) hz'
      cases o2 with
      | vec e2 sz2 ys => exact hov'
      | set ls => exact hov'
      | box cs =>
        obtain ⟨g, ty, vs, hEj, hh, hn, hB, hSn, hc⟩ := hov
        refine ⟨g, ty, vs, hEj, hh, by simpa using hn, hB, hz' g (by rw [hEj]; rfl), fun i u c hu hci => ?_⟩
        simp only [List.getElem?_map, Option.map_eq_some_iff] at hci
        obtain ⟨c', hc', rfl⟩ := hci
        obtain ⟨q1, q2, q3⟩ := hc i u c' hu hc'
        exact ⟨q1, (thin c').1 q2, tv q3⟩
  · intro i j g hi hj hij
    simp only [A.stow, look_map, look_drop, Option.isSome_map] at hi hj
    split at hi
    · simp at hi
    · split at hj
      · simp at hj
      · exact h.sep i j g hi hj hij

/-- SITE k IS CALLED j (which nothing leads to). -/
theorem Rel.ren (h : Rel n w0 S0 S E s a w) {k j e sz : Nat} {xs : List D} (hkj : k ≠ j) (hk : look s.ob k = some (.vec e sz xs)) (hj : look s.ob j = none)
    (hr : ∀ t x, look s.tm t = some x → x.refs j = false) (hro : ∀ i cs, look s.ob i = some (.box cs) → ∀ c ∈ cs, c.refs j = false) :
    Rel n w0 S0 S (fun i => if i = j then E k else E i) (s.ren k j (.vec e sz xs)) a w := by
  have tv : ∀ {tm : Nat → Value} {v : Value} {t : T}, t.refs j = false → TV S E tm v t → TV S (fun i => if i = j then E k else E i) tm v (t.ren k j) := by
    intro tm v t
    induction t with
    | g a b t ih => exact fun hf ht => ⟨fun hg => ih (by simpa [T.refs] using hf) (ht.1 hg), ht.2⟩
    | vec i =>
      intro hf ht
      have hij : i ≠ j := fun e => by subst e; simp [T.refs] at hf
      simp only [T.ren]
      cases hb : Nat.beq k i with
      | true =>
        have := nbeq_eq hb; subst this
        simp only [cond_true, TV] at ht ⊢
        exact ht
      | false => simp only [cond_false, TV, if_neg hij] at ht ⊢; exact ht
    | undef => intro _ _; simp [T.ren, T.refs, TV]
    | d x => intro _ ht; exact ht
    | nils z => intro _ ht; exact ht
    | ptr i off =>
      intro hf ht; simp only [T.ren]; cases (T.ptr i off).refs k
      · exact TV.upd (k := j) (fun i hi => by simp [hi]) hf ht
      · trivial
    | ptrA i off len z q o =>
      intro hf ht; simp only [T.ren]; cases (T.ptrA i off len z q o).refs k
      · exact TV.upd (k := j) (fun i hi => by simp [hi]) hf ht
      · trivial
    | ptrS x off => intro _ ht; exact ht
    | vptr i z q o =>
      intro hf ht; simp only [T.ren]; cases (T.vptr i z q o).refs k
      · exact TV.upd (k := j) (fun i hi => by simp [hi]) hf ht
      · trivial
    | fn f => intro _ ht; exact ht
  have bare : ∀ t : T, t.bare = true → (t.ren k j).bare = true := by
    intro t ht
    cases t <;> simp only [T.ren] <;> first | rfl | (simp [T.bare] at ht; done) | (cases Nat.beq k _ <;> rfl) | (cases (T.refs k _) <;> rfl)
  have thin : ∀ t : T, t.thin = true → (t.ren k j).thin = true := by
    intro t ht
    cases t with
    | g a b t => exact bare t ht
    | _ => exact bare_thin (bare _ rfl)
  refine ⟨h.defers, h.size, ?_, ?_, h.le, h.new, h.inn, ?_, ?_, h.below⟩
  · intro t x hx
    simp only [A.ren, look_map, Option.map_eq_some_iff] at hx
    obtain ⟨y, hy, rfl⟩ := hx
    exact thin y (h.thin t y hy)
  · intro t x hx
    simp only [A.ren, look_map, Option.map_eq_some_iff] at hx
    obtain ⟨y, hy, rfl⟩ := hx
    exact tv (hr t y hy) (h.tm t y hy)
  · intro i o' hi
    simp only [A.ren, look_cons] at hi
    split at hi
    · rename_i e1
      cases hi; subst e1
      have := h.ob k _ hk
      simpa [OV] using this
    · rename_i hne
      simp only [look_map, look_drop, Option.map_eq_some_iff] at hi
      obtain ⟨o2, ho2, rfl⟩ := hi
      split at ho2
      · cases ho2
      · have hov := h.ob i o2 ho2
        cases o2 with
        | vec e2 sz2 ys => simpa [OV, Ob.ren, hne] using hov
        | set ls => simpa [OV, Ob.ren, hne] using hov
        | box cs =>
          obtain ⟨g, ty, vs, hEj, hh, hn, hB, hSn, hc⟩ := hov
          refine ⟨g, ty, vs, by simp [hne, hEj], hh, by simpa using hn, hB, hSn, fun i' u c hu hci => ?_⟩
          simp only [List.getElem?_map, Option.map_eq_some_iff] at hci
          obtain ⟨c', hc', rfl⟩ := hci
          obtain ⟨q1, q2, q3⟩ := hc i' u c' hu hc'
          exact ⟨q1, bare c' q2, tv (hro i cs ho2 c' (List.mem_of_getElem? hc')) q3⟩
  · intro p q g hp hq hpq hgp hgq
    have look' : ∀ i, i ≠ j → (look (s.ren k j (.vec e sz xs)).ob i).isSome → i ≠ k ∧ (look s.ob i).isSome := by
      intro i hi hs
      simp only [A.ren, look_cons, if_neg hi, look_map, look_drop, Option.isSome_map] at hs
      split at hs
      · simp at hs
      · rename_i hik; exact ⟨hik, hs⟩
    by_cases hpj : p = j
    · subst hpj
      have hqp : q ≠ p := Ne.symm hpq
      simp only at hgp
      simp only [if_neg hqp] at hgq
      obtain ⟨h2, h3⟩ := look' q hqp hq
      exact h.sep k q g (by simp [hk]) h3 (Ne.symm h2) hgp hgq
    · by_cases hqj : q = j
      · subst hqj
        simp only at hgq
        simp only [if_neg hpj] at hgp
        obtain ⟨h2, h3⟩ := look' p hpj hp
        exact h.sep k p g (by simp [hk]) h3 (Ne.symm h2) hgq hgp
      · simp only [if_neg hpj] at hgp
        simp only [if_neg hqj] at hgq
        obtain ⟨_, h3⟩ := look' p hpj hp
        obtain ⟨_, h4⟩ := look' q hqj hq
        exact h.sep p q g h3 h4 hpq hgp hgq

end Go.Ev
