/- The evaluator 'Ev': what a state stands for ('Rel'), and how it is handed on: a temporary is written, memory grows, a thing is made, changed, stowed. -/
import Derived.Test.YtollfgfhepjfkaaDoorEv1
import Derived.Lib.LaidTab
import Derived.Lib.ItoaNum
namespace Go.Ev
open Go Go.RowKit

def blk : Value → Option Nat
  | .pointer (some a) => some a.block
  | .slice (some a) _ _ => some a.block
  | .map (some g) => some g
  | _ => none
theorem blk_own {v : Value} {w : World} {B : Nat} {e : TypeId} {sz n : Nat} {xs : List Value} (h : w.ownsRow B e sz v n xs) : v.ownBlock = blk v := by
  rcases h.2 with ⟨rfl, _⟩ | ⟨g, cap, cur, rfl, _⟩ <;> rfl

/-- rows of the call's own: as 'ownsRow'; or with a mark behind the last cell. -/
def ownR (w : World) (B e sz : Nat) (v : Value) (n : Nat) (vals : List Value) : Prop :=
  vals.length = n * sz ∧ ((v = .slice none 0 0 ∧ n = 0) ∨ ∃ g cap cur, v = .slice (some ⟨g, 0, none⟩) n cap ∧ B ≤ g ∧ ∃ t fz, w.heap[g]? = some (.cells cur t fz) ∧ n ≤ cap ∧ cur.size = cap * sz ∧ cur.toList.take (n * sz) = vals ∧
    ((t = e ∧ fz = (0, 0) ∧ cap ≤ maxLen) ∨ (e = t + MK ∧ cap * sz ≤ fz.1)))
section
variable {w : World} {B e sz n : Nat} {v : Value} {vals : List Value}
theorem ownR_of (h : w.ownsRow B e sz v n vals) : ownR w B e sz v n vals := by
  refine ⟨h.1, ?_⟩
  rcases h.2 with h1 | ⟨g, cap, cur, h1, hB, hh, hcap, hm, hcs, ht⟩
  · exact .inl h1
  · exact .inr ⟨g, cap, cur, h1, hB, e, (0, 0), hh, hcap, hcs, ht, .inl ⟨rfl, rfl, hm⟩⟩
theorem ownR.own (h : ownR w B e sz v n vals) (he : e < MK) : w.ownsRow B e sz v n vals := by
  refine ⟨h.1, ?_⟩
  rcases h.2 with h1 | ⟨g, cap, cur, h1, hB, t, fz, hh, hcap, hcs, ht, hk⟩
  · exact .inl h1
  · rcases hk with ⟨rfl, rfl, hm⟩ | ⟨h2, _⟩
    · exact .inr ⟨g, cap, cur, h1, hB, hh, hcap, hm, hcs, ht⟩
    · omega
theorem ownR.lt (h : ownR w B e sz v n vals) {g : Nat} (hg : blk v = some g) : B ≤ g ∧ g < w.heap.size := by
  rcases h.2 with ⟨rfl, _⟩ | ⟨g', cap, cur, rfl, hB, t, fz, hh, _⟩
  · cases hg
  · simp [blk] at hg; subst hg
    exact ⟨hB, (Array.getElem?_eq_some_iff.1 hh).1⟩
theorem ownR.cells (h : ownR w B e sz v n vals) {g : Nat} (hg : blk v = some g) : ∀ (j : Nat) u, vals[j]? = some u → w.cell? ((⟨g, 0, none⟩ : Addr).add j) = some u := by
  intro j u hu
  rcases h.2 with ⟨rfl, _⟩ | ⟨g', cap, cur, rfl, _, t, fz, hgg, _, _, htake, _⟩
  · cases hg
  · simp [blk] at hg; subst hg
    have hadd : (⟨g', 0, none⟩ : Addr).add j = ⟨g', j, none⟩ := by unfold Addr.add; split <;> simp_all
    rw [hadd, cell_of_row w g' j cur t fz hgg]
    rw [← htake, List.getElem?_take] at hu
    split at hu
    · simpa using hu
    · cases hu
theorem ownR.at_ {w' : World} {B' : Nat} {v' : Value} (h : ownR w B e sz v n vals) (hv : v' = v) (hb : ∀ g, blk v = some g → w'.heap[g]? = w.heap[g]?) (hB : ∀ g, blk v = some g → B ≤ g → B' ≤ g) : ownR w' B' e sz v' n vals := by
  subst hv
  refine ⟨h.1, ?_⟩
  rcases h.2 with h1 | ⟨g, cap, cur, h1, h2, t, fz, hh, hr⟩
  · exact .inl h1
  · have hbk : blk v' = some g := by rw [h1]; rfl
    exact .inr ⟨g, cap, cur, h1, hB g hbk h2, t, fz, by rw [hb g hbk]; exact hh, hr⟩
end

/-- what the thing at a site is. -/
def OV (S : Snap) (E : Nat → Value) (B : Nat) (w : World) (k : Nat) : Ob → Prop
  | .box bt cs => ∃ g vs, E k = .pointer (some ⟨g, 0, none⟩) ∧ w.heap[g]? = some (.cells vs bt (0, 0)) ∧ vs.size = cs.length ∧ B ≤ g ∧ (∀ a : Addr, a.block = g → S a = none) ∧
      ∀ (j : Nat) u c, vs[j]? = some u → cs[j]? = some c → u.oneCell' = true ∧ c.bare = true ∧ TV S E (fun _ => undef) u c
  | .vec e sz xs => ∃ vals, ownR w B e sz (E k) xs.length vals ∧ (∀ x, x ∈ xs → x.cells.length = sz) ∧ Vs S vals (flat xs) ∧ (∀ u, u ∈ vals → u.oneCell' = true) ∧
      ∀ g, blk (E k) = some g → ∀ a : Addr, a.block = g → S a = none
  | .set ls => ∃ g es clock, E k = .map (some g) ∧ w.heap[g]? = some (.map es clock) ∧ es.toList.map (fun e => (e.key, e.val)) = ls.map (fun l => (Value.string ⟨l.toArray⟩, Value.bool true)) ∧ B ≤ g ∧
      ∀ a : Addr, a.block = g → S a = none
  | .junk => ∀ g, blk (E k) = some g → g < w.heap.size ∧ B ≤ g ∧ ∀ a : Addr, a.block = g → S a = none
  | .con cs => ∃ vs, E k = .agg vs ∧ vs.size = cs.length ∧ ∀ (j : Nat) u c, vs[j]? = some u → cs[j]? = some c → u.oneCell' = true ∧ c.bare = true ∧ TV S E (fun _ => undef) u c
  | .vecO e sz xs cs => ∃ vals, w.ownsRow B e sz (E k) (xs.length + 1) vals ∧ (∀ x, x ∈ xs → x.cells.length = sz) ∧ cs.length = sz ∧ Vs S (vals.take (xs.length * sz)) (flat xs) ∧ (∀ u, u ∈ vals → u.oneCell' = true) ∧
      (∀ (j : Nat) u c, vals[xs.length * sz + j]? = some u → cs[j]? = some c → c.bare = true ∧ TV S E (fun _ => undef) u c) ∧ ∀ g, blk (E k) = some g → ∀ a : Addr, a.block = g → S a = none

/-- bare, or one guard around what is bare. -/
def T.thin : T → Bool
  | .g _ _ t => t.bare
  | _ => true

theorem bare_thin {t : T} (h : t.bare = true) : t.thin = true := by cases t <;> first | rfl | simp [T.bare] at h

def frameOf (a : Act) : Nat → Value := fun j => a.tmps.getD j undef

/-- the table that strconv reads (if the program has it). -/
def tabName : String := "internal/strconv.uint64pow10"
def TabOk (P : Program) (w : World) : Prop := ∀ g, P.globalNamed tabName = some g → Lib.TabIs P w tabName .u64 Lib.pow10Tab
theorem TabOk.kept {P : Program} {w w' : World} (h : TabOk P w) (hb : ∀ g, P.globalNamed tabName = some g → w'.heap[g]? = w.heap[g]?) : TabOk P w' := fun g hg => by
  have h1 := h g hg
  unfold Lib.TabIs World.var? at *
  simp only [hg, Option.bind_some] at h1 ⊢
  rw [hb g hg]; exact h1
theorem TabOk.lt {P : Program} {w : World} (h : TabOk P w) : ∀ g, P.globalNamed tabName = some g → g < w.heap.size := fun g hg => by
  have h1 := h g hg
  unfold Lib.TabIs World.var? at h1
  simp only [hg, Option.bind_some] at h1
  rcases Nat.lt_or_ge g w.heap.size with h' | h'
  · exact h'
  · rw [Array.getElem?_eq_none h'] at h1; simp at h1
/-- where a function's run begins: the world; blocks from B on may be the call's own; blocks that stay as they are; what the names from HB on are. -/
structure Base (P : Program) where
  w : World
  B : Nat
  G : Nat → Prop
  E0 : Nat → Value
  lt : ∀ g, G g → g < w.heap.size
  low : ∀ g, g < B → G g
  le : B ≤ w.heap.size
  tab : TabOk P w
  tabG : ∀ g, P.globalNamed tabName = some g → G g
structure Kept {P : Program} (b : Base P) (w : World) : Prop where
  os : w.os = b.w.os
  tape : w.tape = b.w.tape
  output : w.output = b.w.output
  size : b.w.heap.size ≤ w.heap.size
  block : ∀ g, b.G g → w.heap[g]? = b.w.heap[g]?
theorem Kept.trans {P : Program} {b : Base P} {w w' : World} (h : Kept b w) (hos : w'.os = w.os) (htape : w'.tape = w.tape) (hout : w'.output = w.output) (hsz : w.heap.size ≤ w'.heap.size) (hb : ∀ g, b.G g → w'.heap[g]? = w.heap[g]?) : Kept b w' :=
  ⟨hos.trans h.os, htape.trans h.tape, hout.trans h.output, Nat.le_trans h.size hsz, fun g hg => (hb g hg).trans (h.block g hg)⟩

structure Rel {P : Program} (n : Nat) (w0 : Base P) (S0 S : Snap) (E : Nat → Value) (s : A) (a : Act) (w : World) : Prop where
  defers : a.defers = []
  size : n ≤ a.tmps.size
  thin : ∀ t x, look s.tm t = some x → x.thin = true
  tm : ∀ t x, look s.tm t = some x → TV S E (frameOf a) (frameOf a t) x
  le : S0.le S
  new : ∀ a' u, S a' = some u → S0 a' = some u ∨ (w0.B ≤ a'.block ∧ ¬ w0.G a'.block)
  inn : S.inn w
  ob : ∀ k o, look s.ob k = some o → OV S E w0.B w k o
  sep : ∀ k k' g, (look s.ob k).isSome → (look s.ob k').isSome → k ≠ k' → blk (E k) = some g → blk (E k') ≠ some g
  below : Kept w0 w
  own : ∀ k g, (look s.ob k).isSome → blk (E k) = some g → ¬ w0.G g
  high : ∀ k, HB ≤ k → E k = w0.E0 k

variable {P : Program} {n : Nat} {w0 : Base P} {S0 S : Snap} {E : Nat → Value} {s : A} {a : Act} {w : World}

/-- the blocks of sites are there. -/
theorem OV.lt {B : Nat} {k g : Nat} {o : Ob} (h : OV S E B w k o) (hg : blk (E k) = some g) : g < w.heap.size ∧ B ≤ g := by
  cases o with
  | box bt cs =>
    obtain ⟨g', vs, hE, hh, _, hB, _⟩ := h
    rw [hE] at hg; simp [blk] at hg; subst hg
    exact ⟨(Array.getElem?_eq_some_iff.1 hh).1, hB⟩
  | vec e sz xs =>
    obtain ⟨vals, ho, _⟩ := h
    exact ⟨(ho.lt hg).2, (ho.lt hg).1⟩
  | set ls =>
    obtain ⟨g', es, cl, hE, hh, _, hB, _⟩ := h
    rw [hE] at hg; simp [blk] at hg; subst hg
    exact ⟨(Array.getElem?_eq_some_iff.1 hh).1, hB⟩
  | junk => exact ⟨(h g hg).1, (h g hg).2.1⟩
  | con cs =>
    obtain ⟨vs, hE, _⟩ := h
    rw [hE] at hg; simp [blk] at hg
  | vecO e sz xs cs =>
    obtain ⟨vals, ho, _⟩ := h
    have := ho.lt g (by rw [blk_own ho]; exact hg)
    exact ⟨this.2, this.1⟩
/-- no cell that stays lies in it. -/
theorem OV.off {B : Nat} {k g : Nat} {o : Ob} (h : OV S E B w k o) (hg : blk (E k) = some g) (a' : Addr) (ha : a'.block = g) : S a' = none := by
  cases o with
  | box bt cs =>
    obtain ⟨g', _, hE, _, _, _, hz, _⟩ := h
    rw [hE] at hg; simp [blk] at hg; exact hz a' (by omega)
  | vec e sz xs =>
    obtain ⟨_, _, _, _, _, hz⟩ := h
    exact hz g hg a' ha
  | set ls =>
    obtain ⟨g', _, _, hEj, _, _, _, hz⟩ := h
    rw [hEj] at hg; simp [blk] at hg; exact hz a' (by omega)
  | junk => exact (h g hg).2.2 a' ha
  | con cs =>
    obtain ⟨vs, hE, _⟩ := h
    rw [hE] at hg; simp [blk] at hg
  | vecO e sz xs cs =>
    obtain ⟨_, _, _, _, _, _, _, hz⟩ := h
    exact hz g hg a' ha
theorem Rel.tab (h : Rel n w0 S0 S E s a w) : TabOk P w := w0.tab.kept fun g hg => h.below.block g (w0.tabG g hg)
theorem Rel.bsize (h : Rel n w0 S0 S E s a w) : w0.B ≤ w.heap.size := Nat.le_trans w0.le h.below.size
theorem Rel.fresh (h : Rel n w0 S0 S E s a w) {g : Nat} (hg : w.heap.size ≤ g) : ¬ w0.G g := fun hG => by
  have h1 := w0.lt g hG
  have h2 := h.below.size
  omega

/-- another world, where the thing's own block is as it was, other names, more cells that stay. -/
theorem OV.map {B : Nat} {k j : Nat} {o : Ob} {w' : World} {S' : Snap} {E' : Nat → Value} {f : T → T} (h : OV S E B w k o) (hE : E' j = E k) (hb : ∀ g, blk (E k) = some g → w'.heap[g]? = w.heap[g]?)
    (hS : ∀ {v : Value} {d : D}, V S v d → V S' v d) (hS' : ∀ g, blk (E k) = some g → ∀ a : Addr, a.block = g → S' a = none)
    (hf : ∀ c, c ∈ o.ts → c.bare = true → (f c).bare = true ∧ ∀ u, TV S E (fun _ => undef) u c → TV S' E' (fun _ => undef) u (f c)) : OV S' E' B w' j (o.mapT f) := by
  have vs_ : ∀ {vals : List Value} {ds : List D}, Vs S vals ds → Vs S' vals ds := fun hv => ⟨hv.1, fun j u d hu hd => hS (hv.2 j u d hu hd)⟩
  have own_ : ∀ {e sz m : Nat} {vals : List Value}, w.ownsRow B e sz (E k) m vals → w'.ownsRow B e sz (E' j) m vals := fun ho => by
    refine ⟨ho.1, ?_⟩
    rw [hE]
    rcases ho.2 with ⟨h0, h1⟩ | ⟨g, cap, cur, h0, hB, hh, hr⟩
    · exact .inl ⟨h0, h1⟩
    · exact .inr ⟨g, cap, cur, h0, hB, by rw [hb g (by rw [h0]; rfl)]; exact hh, hr⟩
  cases o with
  | box bt cs =>
    obtain ⟨g, vs, hEk, hh, hn, hB, _, hc⟩ := h
    have hbk : blk (E k) = some g := by rw [hEk]; rfl
    refine ⟨g, vs, by rw [hE]; exact hEk, by rw [hb g hbk]; exact hh, by simpa using hn, hB, hS' g hbk, fun i u c hu hci => ?_⟩
    simp only [List.getElem?_map, Option.map_eq_some_iff] at hci
    obtain ⟨c', hc', rfl⟩ := hci
    obtain ⟨h1, h2, h3⟩ := hc i u c' hu hc'
    obtain ⟨q1, q2⟩ := hf c' (List.mem_of_getElem? hc') h2
    exact ⟨h1, q1, q2 u h3⟩
  | con cs =>
    obtain ⟨vs, hEk, hn, hc⟩ := h
    refine ⟨vs, by rw [hE]; exact hEk, by simpa using hn, fun i u c hu hci => ?_⟩
    simp only [List.getElem?_map, Option.map_eq_some_iff] at hci
    obtain ⟨c', hc', rfl⟩ := hci
    obtain ⟨h1, h2, h3⟩ := hc i u c' hu hc'
    obtain ⟨q1, q2⟩ := hf c' (List.mem_of_getElem? hc') h2
    exact ⟨h1, q1, q2 u h3⟩
  | vecO e sz xs cs =>
    obtain ⟨vals, ho, hx, hl, hv, h1, hc, _⟩ := h
    refine ⟨vals, own_ ho, hx, by simpa using hl, vs_ hv, h1, fun i u c hu hci => ?_, by rw [hE]; exact hS'⟩
    simp only [List.getElem?_map, Option.map_eq_some_iff] at hci
    obtain ⟨c', hc', rfl⟩ := hci
    obtain ⟨h2, h3⟩ := hc i u c' hu hc'
    obtain ⟨q1, q2⟩ := hf c' (List.mem_of_getElem? hc') h2
    exact ⟨q1, q2 u h3⟩
  | vec e sz xs =>
    obtain ⟨vals, ho, hx, hv, h1, _⟩ := h
    exact ⟨vals, ho.at_ hE hb (fun _ _ h => h), hx, vs_ hv, h1, by rw [hE]; exact hS'⟩
  | set ls =>
    obtain ⟨g, es, cl, hEk, hh, hm, hB, _⟩ := h
    have hbk : blk (E k) = some g := by rw [hEk]; rfl
    exact ⟨g, es, cl, by rw [hE]; exact hEk, by rw [hb g hbk]; exact hh, hm, hB, hS' g hbk⟩
  | junk =>
    intro g hg
    rw [hE] at hg
    refine ⟨?_, (h g hg).2.1, hS' g hg⟩
    have h1 := (h g hg).1
    have h2 := hb g hg
    rw [Array.getElem?_eq_getElem h1] at h2
    exact (Array.getElem?_eq_some_iff.1 h2).1
theorem mapT_id (o : Ob) : o.mapT id = o := by cases o <;> simp [Ob.mapT]
theorem OV.move {B : Nat} {k : Nat} {o : Ob} {w' : World} {S' : Snap} (h : OV S E B w k o) (hS : S.le S') (hb : ∀ g, blk (E k) = some g → w'.heap[g]? = w.heap[g]?)
    (hS' : ∀ g, blk (E k) = some g → ∀ a : Addr, a.block = g → S' a = none) : OV S' E B w' k o := by
  have := h.map (f := id) rfl hb (V.mono hS) hS' (fun c _ hb => ⟨hb, fun u hu => hu.mono hS⟩)
  rwa [mapT_id] at this

/-- another account of the sites, which agrees but at k, where the thing does not lead to k. -/
theorem OV.upd {B : Nat} {k j : Nat} {o : Ob} {E' : Nat → Value} (hE : ∀ i, i ≠ k → E' i = E i) (hj : j ≠ k) (h : OV S E B w j o) : OV S E' B w j (o.kill k) := by
  refine OV.map h (hE j hj) (fun _ _ => rfl) id (fun g hg a' ha => h.off hg a' ha) (fun c _ hb => ⟨?_, fun u hu => TV.kill hE hu⟩)
  unfold T.kill
  cases c.refs k
  · exact hb
  · rfl

/-- MEMORY GROWS: nothing that was there is changed, more cells stay. -/
theorem Rel.grow (h : Rel n w0 S0 S E s a w) {w' : World} {S' : Snap} (hb : Below w.heap.size w w') (hS : S.le S')
    (hnew : ∀ a' u, S' a' = some u → S a' = some u ∨ w.heap.size ≤ a'.block) (hin : S'.inn w') : Rel n w0 S0 S' E s a w' := by
  refine ⟨h.defers, h.size, h.thin, fun t x hx => (h.tm t x hx).mono hS, h.le.trans hS, ?_, hin, ?_, h.sep, h.below.trans hb.os hb.tape hb.output hb.size (fun g hg => hb.block g (Nat.lt_of_lt_of_le (w0.lt g hg) h.below.size)), h.own, h.high⟩
  · intro a' u hu
    rcases hnew a' u hu with h1 | h1
    · exact h.new a' u h1
    · exact .inr ⟨Nat.le_trans h.bsize h1, h.fresh h1⟩
  · intro k o hk
    refine (h.ob k o hk).move hS (fun g hg => hb.block g ((h.ob k o hk).lt hg).1) (fun g hg a' ha => ?_)
    cases hSa : S' a' with
    | none => rfl
    | some u =>
      rcases hnew a' u hSa with h1 | h1
      · rw [(h.ob k o hk).off hg a' ha] at h1; cases h1
      · have := ((h.ob k o hk).lt hg).1
        omega

theorem Rel.drewN (h : Rel n w0 S0 S E s a w) {w' : World} (hb : Below w.heap.size w w') (hc : ∀ a', w'.cell? a' = w.cell? a' ∨ w.cell? a' = none) : Rel n w0 S0 S E s a w' :=
  h.grow hb (Snap.le.refl S) (fun _ _ hu => .inl hu) (fun a' u hu => by
    have h1 := h.inn a' u hu
    rcases hc a' with h2 | h2
    · exact ⟨by rw [h2]; exact h1.1, h1.2⟩
    · rw [h2] at h1; cases h1.1)
theorem Snap.inn.below {S : Snap} {w w' : World} (h : S.inn w) (hb : Below w.heap.size w w') : S.inn w' := fun a' u hu => by
  have h1 := h a' u hu
  refine ⟨?_, h1.2⟩
  have hlt : a'.block < w.heap.size := World.block_lt_of_cell? w a' h1.1
  rw [hb.cell (p := a') hlt]
  exact h1.1
theorem Rel.below' (h : Rel n w0 S0 S E s a w) {w' : World} (hb : Below w.heap.size w w') : Rel n w0 S0 S E s a w' :=
  h.grow hb (Snap.le.refl S) (fun _ _ hu => .inl hu) (h.inn.below hb)

/-- A TEMPORARY IS WRITTEN. -/
theorem frame_put {a : Act} {d t : Nat} {v : Value} (hd : d < a.tmps.size) : frameOf (a.put (some d) v) t = if t = d then v else frameOf a t := by
  unfold frameOf Act.put
  simp only [Array.getD_eq_getD_getElem?, Array.getElem?_setIfInBounds]
  by_cases h : t = d
  · subst h; simp [hd]
  · simp [h, Ne.symm h]
theorem wrapG_thin {g : Guard} {t : T} (h : t.bare = true) : (wrapG g t).thin = true := by
  cases g with
  | none => cases t <;> first | rfl | simp [T.bare] at h
  | some p => exact h
/-- the guard holds. -/
def GuardOk (tm : Nat → Value) : Guard → Prop
  | none => True
  | some (t, w) => tm t = .bool w
theorem wrapG_tv {S : Snap} {E : Nat → Value} {tm tm' : Nat → Value} {v : Value} {g : Guard} {t : T} (hg : GuardOk tm' g) (hb : t.bare = true) (h : TV S E tm v t) : TV S E tm' v (wrapG g t) := by
  cases g with
  | none => exact TV.tm hb h
  | some p => exact ⟨fun _ => TV.tm hb h, fun hn => absurd hg hn⟩
theorem wrapG_skip {S : Snap} {E : Nat → Value} {tm : Nat → Value} {g : Nat} {w : Bool} {t : T} (hg : tm g ≠ .bool w) : TV S E tm undef (wrapG (some (g, w)) t) :=
  ⟨fun h => absurd h hg, fun _ => rfl⟩

theorem Rel.set (h : Rel n w0 S0 S E s a w) {d : Nat} {v : Value} {t : T} (hd : d < n) (ht : t.thin = true) (hv : TV S E (frameOf (a.put (some d) v)) v t) :
    Rel n w0 S0 S E (s.set (some d) t) (a.put (some d) v) w := by
  have hds : d < a.tmps.size := Nat.lt_of_lt_of_le hd h.size
  refine ⟨h.defers, by simpa [Act.put] using h.size, ?_, ?_, h.le, h.new, h.inn, h.ob, h.sep, h.below, h.own, h.high⟩
  · intro i x hx
    simp only [A.set, look_put, look_dropG] at hx
    split at hx
    · cases hx; exact ht
    · simp only [Option.map_eq_some_iff] at hx
      obtain ⟨y, hy, rfl⟩ := hx
      have := h.thin i y hy
      cases y <;> try exact this
      simp only [T.unG]
      rename_i t' w' y'
      cases Nat.beq t' d
      · exact this
      · rfl
  · intro i x hx
    simp only [A.set, look_put, look_dropG] at hx
    rw [frame_put hds]
    split at hx
    · rename_i hi
      cases hx
      rw [if_pos hi]
      exact hv
    · rename_i hi
      rw [if_neg hi]
      simp only [Option.map_eq_some_iff] at hx
      obtain ⟨y, hy, rfl⟩ := hx
      have h1 := h.tm i y hy
      have h2 := h.thin i y hy
      cases y with
      | g t' w' y' =>
        simp only [T.unG]
        cases hb : Nat.beq t' d with
        | true => trivial
        | false =>
          simp only [cond_false, TV]
          have hne : t' ≠ d := fun e => by subst e; simp at hb
          rw [frame_put hds, if_neg hne]
          exact ⟨fun hg => TV.tm h2 (h1.1 hg), h1.2⟩
      | _ => exact TV.tm (by rfl) h1

/-- nothing is written (an operation without a temporary). -/
theorem Rel.set_none (h : Rel n w0 S0 S E s a w) (v : Value) (t : T) : Rel n w0 S0 S E (s.set none t) (a.put none v) w := h

/-- A NEW THING AT SITE k: its block is none of those that are in use. 'row': the one old block that may have been written; it is no other site's, and no cell that stays lies in it. -/
theorem Rel.make (h : Rel n w0 S0 S E s a w) {k : Nat} {o : Ob} {v : Value} {w' : World} {row : Option Nat} (hkH : k < HB)
    (hw : w.grownBy w' row) (hrow : ∀ g, row = some g → (w0.B ≤ g ∧ ¬ w0.G g) ∧ (∀ a' : Addr, a'.block = g → S a' = none) ∧ ∀ j, j ≠ k → (look s.ob j).isSome → blk (E j) ≠ some g)
    (hv : ∀ g, blk v = some g → row = some g ∨ w.heap.size ≤ g)
    (ho : OV S (fun j => if j = k then v else E j) w0.B w' k o) : Rel n w0 S0 S (fun j => if j = k then v else E j) (s.new k o) a w' := by
  have hE : ∀ j, j ≠ k → (fun j => if j = k then v else E j) j = E j := fun j hj => by simp [hj]
  have hold : ∀ g, g < w.heap.size → row ≠ some g → w'.heap[g]? = w.heap[g]? := fun g hg hr => hw.block g hg (fun e => hr e.symm)
  refine ⟨h.defers, h.size, ?_, ?_, h.le, h.new, ?_, ?_, ?_, h.below.trans hw.os hw.tape hw.output hw.size (fun g hg => hold g (Nat.lt_of_lt_of_le (w0.lt g hg) h.below.size) (fun e => (hrow g e).1.2 hg)), ?_, fun j hj => by simp only [if_neg (show j ≠ k by omega)]; exact h.high j hj⟩
  · intro t x hx
    simp only [A.new, A.kill, look_map, Option.map_eq_some_iff] at hx
    obtain ⟨y, hy, rfl⟩ := hx
    have := h.thin t y hy
    unfold T.kill
    cases y.refs k
    · exact this
    · rfl
  · intro t x hx
    simp only [A.new, A.kill, look_map, Option.map_eq_some_iff] at hx
    obtain ⟨y, hy, rfl⟩ := hx
    exact TV.kill hE (h.tm t y hy)
  · intro a' u hu
    have h1 := h.inn a' u hu
    refine ⟨?_, h1.2⟩
    have hlt : a'.block < w.heap.size := World.block_lt_of_cell? w a' h1.1
    rw [World.cell?_of_block (hold a'.block hlt (fun e => by have := (hrow _ e).2.1 a' rfl; rw [this] at hu; cases hu))]
    exact h1.1
  · intro j o' hj
    simp only [A.new, A.kill, look_cons] at hj
    split at hj
    · rename_i e
      cases hj; subst e; exact ho
    · rename_i hne
      simp only [look_map, look_drop, if_neg hne, Option.map_eq_some_iff] at hj
      obtain ⟨o2, ho2, rfl⟩ := hj
      have h1 := h.ob j o2 ho2
      refine OV.upd hE hne (h1.move (Snap.le.refl S) (fun g hg => hold g (h1.lt hg).1 (fun e => (hrow g e).2.2 j hne (by simp [ho2]) hg)) ?_)
      exact fun g hg a' ha => h1.off hg a' ha
  · have key : ∀ j g, j ≠ k → (look (s.new k o).ob j).isSome → blk v = some g → blk (E j) ≠ some g := by
      intro j g hj hs hg hjg
      simp only [A.new, A.kill, look_cons, if_neg hj, look_map, look_drop, Option.isSome_map] at hs
      rcases hv g hg with h1 | h1
      · exact (hrow g h1).2.2 j hj hs hjg
      · obtain ⟨o2, ho2⟩ := Option.isSome_iff_exists.1 hs
        have := ((h.ob j o2 ho2).lt hjg).1
        omega
    intro i j g hi hj hij hgi hgj
    by_cases hik : i = k
    · subst hik
      have hji : j ≠ i := Ne.symm hij
      simp only at hgi
      simp only [if_neg hji] at hgj
      exact key j g hji hj hgi hgj
    · by_cases hjk : j = k
      · subst hjk
        simp only [if_true] at hgj
        simp only [if_neg hik] at hgi
        exact key i g hik hi hgj hgi
      · simp only [if_neg hik] at hgi
        simp only [if_neg hjk] at hgj
        simp only [A.new, A.kill, look_cons, if_neg hik, if_neg hjk, look_map, look_drop, Option.isSome_map] at hi hj
        exact h.sep i j g hi hj hij hgi hgj
  · intro j g hj hg
    by_cases hjk : j = k
    · subst hjk
      simp only [if_true] at hg
      rcases hv g hg with h1 | h1
      · exact (hrow g h1).1.2
      · exact h.fresh h1
    · simp only [if_neg hjk] at hg
      simp only [A.new, A.kill, look_cons, if_neg hjk, look_map, look_drop, Option.isSome_map] at hj
      exact h.own j g hj hg

/-- what stands at a site no more. -/
theorem Rel.kill (h : Rel n w0 S0 S E s a w) (k : Nat) : Rel n w0 S0 S E (s.kill k) a w := by
  have hE : ∀ j, j ≠ k → E j = E j := fun _ _ => rfl
  refine ⟨h.defers, h.size, ?_, ?_, h.le, h.new, h.inn, ?_, ?_, h.below, fun j g hj hg => ?_, h.high⟩
  · intro t x hx
    simp only [A.kill, look_map, Option.map_eq_some_iff] at hx
    obtain ⟨y, hy, rfl⟩ := hx
    have := h.thin t y hy
    unfold T.kill
    cases y.refs k
    · exact this
    · rfl
  · intro t x hx
    simp only [A.kill, look_map, Option.map_eq_some_iff] at hx
    obtain ⟨y, hy, rfl⟩ := hx
    exact TV.kill hE (h.tm t y hy)
  · intro j o' hj
    simp only [A.kill, look_map, look_drop, Option.map_eq_some_iff] at hj
    obtain ⟨o2, ho2, rfl⟩ := hj
    split at ho2
    · cases ho2
    · rename_i hne
      exact OV.upd hE hne (h.ob j o2 ho2)
  · intro i j g hi hj hij
    simp only [A.kill, look_map, look_drop, Option.isSome_map] at hi hj
    split at hi
    · simp at hi
    · split at hj
      · simp at hj
      · exact h.sep i j g hi hj hij
  · simp only [A.kill, look_map, look_drop, Option.isSome_map] at hj
    split at hj
    · simp at hj
    · exact h.own j g hj hg

/-- memory has grown, and more cells stay. -/
structure Grew (S S' : Snap) (w w' : World) : Prop where
  below : Below w.heap.size w w'
  le : S.le S'
  new : ∀ a' u, S' a' = some u → S a' = some u ∨ w.heap.size ≤ a'.block
  inn : S'.inn w'
theorem Rel.grew (h : Rel n w0 S0 S E s a w) {w' : World} {S' : Snap} (hg : Grew S S' w w') : Rel n w0 S0 S' E s a w' := h.grow hg.below hg.le hg.new hg.inn
theorem Grew.refl {S : Snap} {w : World} (h : S.inn w) : Grew S S w w := ⟨Below.refl _ _, Snap.le.refl S, fun _ _ h => .inl h, h⟩

/-- of what was there only the thing at site k is another. -/
structure Chg (E : Nat → Value) (k : Nat) (w w' : World) : Prop where
  size : w'.heap.size = w.heap.size
  os : w'.os = w.os
  tape : w'.tape = w.tape
  output : w'.output = w.output
  block : ∀ g, blk (E k) ≠ some g → w'.heap[g]? = w.heap[g]?
/-- site d's thing is new. -/
structure Made (S : Snap) (E : Nat → Value) (B : Nat) (w w' : World) (d : Nat) (v : Value) (o : Ob) : Prop where
  grown : w.grownBy w' none
  far : ∀ g, blk v = some g → w.heap.size ≤ g
  ov : OV S (fun j => if j = d then v else E j) B w' d o
theorem Rel.made (h : Rel n w0 S0 S E s a w) {w' : World} {d : Nat} {v : Value} {o : Ob} (hd : d < HB) (hm : Made S E w0.B w w' d v o) : Rel n w0 S0 S (fun j => if j = d then v else E j) (s.new d o) a w' :=
  h.make hd hm.grown (fun g hg => by cases hg) (fun g hg => .inr (hm.far g hg)) hm.ov

/-- THE THING AT SITE k IS CHANGED in place: only its own block is. -/
theorem Rel.change (h : Rel n w0 S0 S E s a w) {k : Nat} {o o' : Ob} {w' : World} (hk : look s.ob k = some o)
    (hsz : w'.heap.size = w.heap.size) (hos : w'.os = w.os) (htape : w'.tape = w.tape) (hout : w'.output = w.output)
    (hb : ∀ g, blk (E k) ≠ some g → w'.heap[g]? = w.heap[g]?) (ho : OV S E w0.B w' k o') : Rel n w0 S0 S E ⟨s.tm, put s.ob k o'⟩ a w' := by
  have hk0 := h.ob k o hk
  have hno : ∀ g, blk (E k) = some g → ∀ a' : Addr, a'.block = g → S a' = none := fun g hg a' ha => hk0.off hg a' ha
  have hs : ∀ j, (look (put s.ob k o') j).isSome → (look s.ob j).isSome := by
    intro j hj
    simp only [look_put] at hj
    split at hj
    · rename_i e; subst e; simp [hk]
    · exact hj
  refine ⟨h.defers, h.size, h.thin, h.tm, h.le, h.new, ?_, ?_, ?_, ?_, fun j g hj hg => h.own j g (hs j hj) hg, h.high⟩
  · intro a' u hu
    have h1 := h.inn a' u hu
    refine ⟨?_, h1.2⟩
    rw [World.cell?_of_block (hb a'.block (fun e => by rw [hno _ e a' rfl] at hu; cases hu))]
    exact h1.1
  · intro j oj hj
    simp only [look_put] at hj
    split at hj
    · rename_i e; cases hj; subst e; exact ho
    · rename_i hne
      have h1 := h.ob j oj hj
      exact h1.move (Snap.le.refl S) (fun g hg => hb g (fun e => h.sep k j g (by simp [hk]) (by simp [hj]) (Ne.symm hne) e hg)) (fun g hg a' ha => h1.off hg a' ha)
  · exact fun i j g hi hj hij => h.sep i j g (hs i hi) (hs j hj) hij
  · exact h.below.trans hos htape hout (by omega) (fun g hg => hb g (fun e => h.own k g (by simp [hk]) e hg))

theorem Rel.chg (h : Rel n w0 S0 S E s a w) {k : Nat} {o o' : Ob} {w' : World} (hk : look s.ob k = some o) (hc : Chg E k w w') (ho : OV S E w0.B w' k o') : Rel n w0 S0 S E ⟨s.tm, put s.ob k o'⟩ a w' :=
  h.change hk hc.size hc.os hc.tape hc.output hc.block ho

/-- fewer things are told. -/
theorem Rel.less (h : Rel n w0 S0 S E s a w) {s' : A} (ht : ∀ t x, look s'.tm t = some x → look s.tm t = some x) (ho : ∀ k o, look s'.ob k = some o → look s.ob k = some o) : Rel n w0 S0 S E s' a w := by
  refine ⟨h.defers, h.size, fun t x hx => h.thin t x (ht t x hx), fun t x hx => h.tm t x (ht t x hx), h.le, h.new, h.inn, fun k o hk => h.ob k o (ho k o hk), ?_, h.below, fun k g hk hg => (by
    obtain ⟨o, hk'⟩ := Option.isSome_iff_exists.1 hk
    exact h.own k g (by simp [ho k o hk']) hg), h.high⟩
  intro i j g hi hj hij
  obtain ⟨oi, hi'⟩ := Option.isSome_iff_exists.1 hi
  obtain ⟨oj, hj'⟩ := Option.isSome_iff_exists.1 hj
  exact h.sep i j g (by simp [ho i oi hi']) (by simp [ho j oj hj']) hij

/-- site d's thing is new; it took site k's place. -/
structure Moved (S : Snap) (E : Nat → Value) (B : Nat) (w w' : World) (d k : Nat) (v : Value) (o : Ob) : Prop where
  grown : w.grownBy w' (blk (E k))
  far : ∀ g, blk v = some g → blk (E k) = some g ∨ w.heap.size ≤ g
  ov : OV S (fun j => if j = d then v else E j) B w' d o
theorem Rel.moved (h : Rel n w0 S0 S E s a w) {w' : World} {d k : Nat} {v : Value} {o : Ob} (hd : d < HB) (hk : (look s.ob k).isSome = true) (hm : Moved S E w0.B w w' d k v o) : Rel n w0 S0 S (fun j => if j = d then v else E j) ((⟨s.tm, drop k s.ob⟩ : A).new d o) a w' := by
  obtain ⟨ok, hok⟩ := Option.isSome_iff_exists.1 hk
  have h1 : Rel n w0 S0 S E (⟨s.tm, drop k s.ob⟩ : A) a w := h.less (fun _ _ hx => hx) (fun j o' hj => by
    simp only [look_drop] at hj
    split at hj
    · cases hj
    · exact hj)
  refine h1.make hd hm.grown (fun g hg => ⟨⟨((h.ob k ok hok).lt hg).2, h.own k g hk hg⟩, fun a' ha => (h.ob k ok hok).off hg a' ha, fun j _ hj hjg => ?_⟩) hm.far hm.ov
  simp only [look_drop] at hj
  split at hj
  · simp at hj
  · rename_i hne
    exact h.sep k j g hk hj (Ne.symm hne) hg hjg

/-- THE ROWS AT SITE k ARE PLAIN DATA FROM HERE ON. -/
theorem Rel.stow (h : Rel n w0 S0 S E s a w) {k e sz : Nat} {xs : List D} (hk : look s.ob k = some (.vec e sz xs)) :
    ∃ S', S.le S' ∧ Rel n w0 S0 S' E (s.stow k sz xs) a w ∧ V S' (E k) (.sl sz xs) := by
  obtain ⟨vals, ho, hx, hv, h1, hz⟩ := h.ob k _ hk
  -- the cells that stay, with this row's
  have ex : ∃ S', S.le S' ∧ S'.inn w ∧ (∀ a' u, S' a' = some u → S a' = some u ∨ blk (E k) = some a'.block) ∧ V S' (E k) (.sl sz xs) := by
    rcases ho.2 with ⟨hE, h0⟩ | ⟨g, cap, cur, hE, hB, _, _, hh, hcap, hcs, ht, _⟩
    · have : xs = [] := List.eq_nil_of_length_eq_zero h0
      subst this
      exact ⟨S, Snap.le.refl S, h.inn, fun _ _ hu => .inl hu, by rw [hE]; exact .slnil sz⟩
    · let S' : Snap := fun a' => if a'.block = g ∧ a'.spot = none then vals[a'.off]? else S a'
      have hbk : blk (E k) = some g := by rw [hE]; rfl
      have hle : S.le S' := by
        intro a' u hu
        have hne : ¬ (a'.block = g ∧ a'.spot = none) := fun ⟨e1, _⟩ => by rw [hz g hbk a' e1] at hu; cases hu
        show (if _ then _ else _) = _
        rw [if_neg hne]; exact hu
      refine ⟨S', hle, ?_, ?_, ?_⟩
      · intro a' u hu
        by_cases hc : a'.block = g ∧ a'.spot = none
        · have hu' : vals[a'.off]? = some u := by
            have : (if a'.block = g ∧ a'.spot = none then vals[a'.off]? else S a') = some u := hu
            rwa [if_pos hc] at this
          have := ho.cells (g := g) (by rw [hE]; rfl) a'.off u hu'
          rw [add_none] at this
          obtain ⟨b, of, sp⟩ := a'
          obtain ⟨e1, e2⟩ := hc
          simp at e1 e2 this
          subst e1; subst e2
          exact ⟨this, h1 u (List.mem_of_getElem? hu')⟩
        · have : (if a'.block = g ∧ a'.spot = none then vals[a'.off]? else S a') = some u := hu
          rw [if_neg hc] at this
          exact h.inn a' u this
      · intro a' u hu
        by_cases hc : a'.block = g ∧ a'.spot = none
        · exact .inr (by rw [hbk, hc.1])
        · have : (if a'.block = g ∧ a'.spot = none then vals[a'.off]? else S a') = some u := hu
          rw [if_neg hc] at this
          exact .inl this
      · rw [hE]
        refine .sl ⟨g, 0, none⟩ cap sz xs vals hcap hx ho.1 (fun j u hj => ?_) (fun j u d hu hd => (hv.2 j u d hu hd).mono hle)
        rw [add_none]
        show (if _ then _ else _) = _
        rw [if_pos ⟨rfl, rfl⟩]
        simpa using hj
  obtain ⟨S', hle, hin, hnew, hV⟩ := ex
  have tv : ∀ {tm : Nat → Value} {v : Value} {t : T}, TV S E tm v t → TV S' E tm v (t.stow k sz xs) := by
    intro tm v t
    induction t with
    | g a b t ih => exact fun ht => ⟨fun hg => ih (ht.1 hg), ht.2⟩
    | vec j =>
      intro ht
      simp only [T.stow]
      cases hb : Nat.beq k j with
      | true =>
        have := nbeq_eq hb; subst this
        simp only [cond_true, TV] at ht ⊢
        rw [ht]; exact hV
      | false => exact ht
    | undef => intro _; simp [T.stow, T.refs, TV]
    | d x => intro ht; exact V.mono hle ht
    | nils z => intro ht; exact ht
    | ptr j off =>
      intro ht; simp only [T.stow]; cases (T.ptr j off).refs k
      · exact ht
      · trivial
    | ptrA j off len z i o =>
      intro ht; simp only [T.stow]; cases (T.ptrA j off len z i o).refs k
      · exact ht
      · trivial
    | ptrS x off => intro ht; exact TV.mono hle ht
    | vptr j z i o =>
      intro ht; simp only [T.stow]; cases (T.vptr j z i o).refs k
      · exact ht
      · trivial
    | fn f => intro ht; exact ht
    | sd j =>
      intro ht; simp only [T.stow]; cases (T.sd j).refs k
      · exact ht
      · trivial
  have thin : ∀ t : T, (t.bare = true → (t.stow k sz xs).bare = true) ∧ (t.thin = true → (t.stow k sz xs).thin = true) := by
    intro t
    have hbare : ∀ t : T, t.bare = true → (t.stow k sz xs).bare = true := by
      intro t ht
      cases t <;> simp only [T.stow] <;> first | rfl | (simp [T.bare] at ht; done) | (split <;> rfl) | (cases Nat.beq k _ <;> rfl) | (cases (T.refs k _) <;> rfl)
    refine ⟨hbare t, fun ht => ?_⟩
    cases t with
    | g a b t => exact hbare t ht
    | _ => exact bare_thin (hbare _ rfl)
  refine ⟨S', hle, ⟨h.defers, h.size, ?_, ?_, h.le.trans hle, ?_, hin, ?_, ?_, h.below, fun j g hj hg => ?_, h.high⟩, hV⟩
  · intro t x hx'
    simp only [A.stow, look_map, Option.map_eq_some_iff] at hx'
    obtain ⟨y, hy, rfl⟩ := hx'
    exact (thin y).2 (h.thin t y hy)
  · intro t x hx'
    simp only [A.stow, look_map, Option.map_eq_some_iff] at hx'
    obtain ⟨y, hy, rfl⟩ := hx'
    exact tv (h.tm t y hy)
  · intro a' u hu
    rcases hnew a' u hu with h2 | h2
    · exact h.new a' u h2
    · exact .inr ⟨((h.ob k _ hk).lt h2).2, h.own k _ (by simp [hk]) h2⟩
  · intro j o' hj
    simp only [A.stow, look_map, look_drop, Option.map_eq_some_iff] at hj
    obtain ⟨o2, ho2, rfl⟩ := hj
    split at ho2
    · cases ho2
    · rename_i hne
      have hov := h.ob j o2 ho2
      have hz' : ∀ g, blk (E j) = some g → ∀ a' : Addr, a'.block = g → S' a' = none := by
        intro g hg a' ha
        cases hSa : S' a' with
        | none => rfl
        | some u =>
          rcases hnew a' u hSa with h2 | h2
          · rw [hov.off hg a' ha] at h2; cases h2
          · rw [ha] at h2
            exact absurd hg (h.sep k j g (by simp [hk]) (by simp [ho2]) (Ne.symm hne) h2)
      exact OV.map hov rfl (fun _ _ => rfl) (V.mono hle) hz' (fun c _ hb => ⟨(thin c).1 hb, fun u hu => tv hu⟩)
  · intro i j g hi hj hij
    simp only [A.stow, look_map, look_drop, Option.isSome_map] at hi hj
    split at hi
    · simp at hi
    · split at hj
      · simp at hj
      · exact h.sep i j g hi hj hij
  · simp only [A.stow, look_map, look_drop, Option.isSome_map] at hj
    split at hj
    · simp at hj
    · exact h.own j g hj hg

/-- SITE k IS CALLED j (which nothing leads to). -/
theorem Rel.ren (h : Rel n w0 S0 S E s a w) {k j : Nat} {ok : Ob} (hjH : j < HB) (hkj : k ≠ j) (hk : look s.ob k = some ok) (hj : look s.ob j = none)
    (hr : ∀ t x, look s.tm t = some x → x.refs j = false) (hro : ∀ i o, look s.ob i = some o → ∀ c, c ∈ o.ts → c.refs j = false) :
    Rel n w0 S0 S (fun i => if i = j then E k else E i) (s.ren k j (ok.ren k j)) a w := by
  have tv : ∀ {tm : Nat → Value} {v : Value} {t : T}, t.refs j = false → TV S E tm v t → TV S (fun i => if i = j then E k else E i) tm v (t.ren k j) := by
    intro tm v t
    induction t with
    | g a b t ih => exact fun hf ht => ⟨fun hg => ih (by simpa [T.refs] using hf) (ht.1 hg), ht.2⟩
    | vec i =>
      intro hf ht
      have hij : i ≠ j := fun e => by subst e; simp [T.refs] at hf
      simp only [T.ren]
      cases hb : Nat.beq k i with
      | true =>
        have := nbeq_eq hb; subst this
        simp only [cond_true, TV] at ht ⊢
        exact ht
      | false => simp only [cond_false, TV, if_neg hij] at ht ⊢; exact ht
    | undef => intro _ _; simp [T.ren, T.refs, TV]
    | d x => intro _ ht; exact ht
    | nils z => intro _ ht; exact ht
    | ptr i off =>
      intro hf ht; simp only [T.ren]; cases (T.ptr i off).refs k
      · exact TV.upd (k := j) (fun i hi => by simp [hi]) hf ht
      · trivial
    | ptrA i off len z q o =>
      intro hf ht; simp only [T.ren]; cases (T.ptrA i off len z q o).refs k
      · exact TV.upd (k := j) (fun i hi => by simp [hi]) hf ht
      · trivial
    | ptrS x off => intro _ ht; exact ht
    | vptr i z q o =>
      intro hf ht; simp only [T.ren]; cases (T.vptr i z q o).refs k
      · exact TV.upd (k := j) (fun i hi => by simp [hi]) hf ht
      · trivial
    | fn f => intro _ ht; exact ht
    | sd i =>
      intro hf ht; simp only [T.ren]; cases (T.sd i).refs k
      · exact TV.upd (k := j) (fun i hi => by simp [hi]) hf ht
      · trivial
  have bare : ∀ t : T, t.bare = true → (t.ren k j).bare = true := by
    intro t ht
    cases t <;> simp only [T.ren] <;> first | rfl | (simp [T.bare] at ht; done) | (cases Nat.beq k _ <;> rfl) | (cases (T.refs k _) <;> rfl)
  have thin : ∀ t : T, t.thin = true → (t.ren k j).thin = true := by
    intro t ht
    cases t with
    | g a b t => exact bare t ht
    | _ => exact bare_thin (bare _ rfl)
  refine ⟨h.defers, h.size, ?_, ?_, h.le, h.new, h.inn, ?_, ?_, h.below, ?_, fun i hi => by simp only [if_neg (show i ≠ j by omega)]; exact h.high i hi⟩
  · intro t x hx
    simp only [A.ren, look_map, Option.map_eq_some_iff] at hx
    obtain ⟨y, hy, rfl⟩ := hx
    exact thin y (h.thin t y hy)
  · intro t x hx
    simp only [A.ren, look_map, Option.map_eq_some_iff] at hx
    obtain ⟨y, hy, rfl⟩ := hx
    exact tv (hr t y hy) (h.tm t y hy)
  · intro i o' hi
    simp only [A.ren, look_cons] at hi
    split at hi
    · rename_i e1
      cases hi; subst e1
      have hov := h.ob k _ hk
      exact OV.map hov (by simp) (fun _ _ => rfl) id (fun g hg a' ha => hov.off hg a' ha) (fun c hc hb => ⟨bare c hb, fun u hu => tv (hro k ok hk c hc) hu⟩)
    · rename_i hne
      simp only [look_map, look_drop, Option.map_eq_some_iff] at hi
      obtain ⟨o2, ho2, rfl⟩ := hi
      split at ho2
      · cases ho2
      · have hov := h.ob i o2 ho2
        exact OV.map hov (by simp [hne]) (fun _ _ => rfl) id (fun g hg a' ha => hov.off hg a' ha) (fun c hc hb => ⟨bare c hb, fun u hu => tv (hro i o2 ho2 c hc) hu⟩)
  · intro p q g hp hq hpq hgp hgq
    have look' : ∀ i, i ≠ j → (look (s.ren k j (ok.ren k j)).ob i).isSome → i ≠ k ∧ (look s.ob i).isSome := by
      intro i hi hs
      simp only [A.ren, look_cons, if_neg hi, look_map, look_drop, Option.isSome_map] at hs
      split at hs
      · simp at hs
      · rename_i hik; exact ⟨hik, hs⟩
    by_cases hpj : p = j
    · subst hpj
      have hqp : q ≠ p := Ne.symm hpq
      simp only at hgp
      simp only [if_neg hqp] at hgq
      obtain ⟨h2, h3⟩ := look' q hqp hq
      exact h.sep k q g (by simp [hk]) h3 (Ne.symm h2) hgp hgq
    · by_cases hqj : q = j
      · subst hqj
        simp only at hgq
        simp only [if_neg hpj] at hgp
        obtain ⟨h2, h3⟩ := look' p hpj hp
        exact h.sep k p g (by simp [hk]) h3 (Ne.symm h2) hgq hgp
      · simp only [if_neg hpj] at hgp
        simp only [if_neg hqj] at hgq
        obtain ⟨_, h3⟩ := look' p hpj hp
        obtain ⟨_, h4⟩ := look' q hqj hq
        exact h.sep p q g h3 h4 hpq hgp hgq
  · intro p g hp hg
    by_cases hpj : p = j
    · subst hpj
      simp only [if_true] at hg
      exact h.own k g (by simp [hk]) hg
    · simp only [if_neg hpj] at hg
      simp only [A.ren, look_cons, if_neg hpj, look_map, look_drop, Option.isSome_map] at hp
      split at hp
      · simp at hp
      · exact h.own p g hp hg

end Go.Ev
