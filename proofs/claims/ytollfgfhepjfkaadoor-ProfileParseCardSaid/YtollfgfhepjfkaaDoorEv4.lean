/- The evaluator 'Ev': each operation does what the evaluator says: reads. -/
import Derived.Test.YtollfgfhepjfkaaDoorEv3
namespace Go.Ev
open Go Go.RowKit

variable {P : Program} {n : Nat} {w0 : Base P} {S0 S : Snap} {E : Nat → Value} {s : A} {a : Act} {w : World}

/-- what an effect promises of an operation. -/
def Good (P : Program) (n : Nat) (w0 : Base P) (S0 S : Snap) (E : Nat → Value) (s : A) (a : Act) (w : World) (m : Sem Next) : Eff → Prop
  | .fail => True
  | .val c t => c = true → ∃ v w' S', m.run P w = .ok (.value v) w' ∧ Grew S S' w w' ∧ TV S' E (frameOf a) v t ∧ t.bare = true
  | .chg c k o t => c = true → ∃ nx v w', m.run P w = .ok nx w' ∧ (nx = .value v ∨ nx = .skip ∧ v = undef) ∧ (look s.ob k).isSome = true ∧ Chg E k w w' ∧ OV S E w0.B w' k o ∧ TV S E (frameOf a) v t ∧ t.bare = true
  | .mk c d o t => c = true → d < HB ∧ ∃ v w', m.run P w = .ok (.value v) w' ∧ Made S E w0.B w w' d v o ∧ TV S (fun j => if j = d then v else E j) (frameOf a) v t ∧ t.bare = true
  | .mv c d k o t => c = true → d < HB ∧ ∃ v w', m.run P w = .ok (.value v) w' ∧ (look s.ob k).isSome = true ∧ Moved S E w0.B w w' d k v o ∧ TV S (fun j => if j = d then v else E j) (frameOf a) v t ∧ t.bare = true
  | .st c s' t => c = true → ∃ nx v w' S' E', m.run P w = .ok nx w' ∧ (nx = .value v ∨ nx = .skip ∧ v = undef) ∧ Rel n w0 S0 S' E' s' a w' ∧ S.le S' ∧ TV S' E' (frameOf a) v t ∧ t.bare = true
  | .ans c r ok nf => c = true → ok r = true → ∃ f args, m.run P w = .ok (.enter f args) w ∧ Calls P f args w fun e w' => ∃ v S', e = .returned v ∧ Grew S S' w w' ∧ V S' v (nf r)

theorem Good.same (h : Rel n w0 S0 S E s a w) {m : Sem Next} {c : Bool} {t : T} (hv : c = true → ∃ v, m.run P w = .ok (.value v) w ∧ TV S E (frameOf a) v t ∧ t.bare = true) : Good P n w0 S0 S E s a w m (.val c t) := by
  intro hc
  obtain ⟨v, h1, h2, h3⟩ := hv hc
  exact ⟨v, w, S, h1, Grew.refl h.inn, h2, h3⟩

theorem plain_eq {cs : List T} {ds : List D} (h : plain cs = some ds) : cs = ds.map T.d := by
  induction cs generalizing ds with
  | nil => simp [plain] at h; subst h; rfl
  | cons c r ih =>
    cases c <;> simp [plain] at h
    rename_i x
    cases hr : plain r with
    | none => simp [hr] at h
    | some es => simp [hr] at h; subst h; simp [ih hr]
theorem slots_eq {cs : List T} {off k : Nat} {ds : List D} (h : slots cs off k = some ds) : (cs.drop off).take k = ds.map T.d := plain_eq h

/-- the box at a site. -/
theorem box_at (h : Rel n w0 S0 S E s a w) {k bt : Nat} {cs : List T} (hk : look s.ob k = some (.box bt cs)) {g : Nat} (hE : E k = .pointer (some ⟨g, 0, none⟩)) :
    ∃ vs, w.heap[g]? = some (.cells vs bt (0, 0)) ∧ vs.size = cs.length ∧ w0.B ≤ g ∧ (∀ a : Addr, a.block = g → S a = none) ∧
      (∀ (j : Nat) u c, vs[j]? = some u → cs[j]? = some c → u.oneCell' = true ∧ c.bare = true ∧ TV S E (fun _ => undef) u c) ∧ ∀ j, w.cell? ⟨g, j, none⟩ = vs[j]? := by
  obtain ⟨g', vs, hE', hh, hn, hB, hz, hc⟩ := h.ob k _ hk
  rw [hE] at hE'; simp at hE'; subst hE'
  exact ⟨vs, hh, hn, hB, hz, hc, fun j => cell_of_row w g j vs bt (0, 0) hh⟩

/-- plain cells of a box. -/
theorem box_slots (h : Rel n w0 S0 S E s a w) {k bt : Nat} {cs : List T} (hk : look s.ob k = some (.box bt cs)) {g : Nat} (hE : E k = .pointer (some ⟨g, 0, none⟩)) {off m : Nat} {ds : List D}
    (hs : slots cs off m = some ds) : ∃ vals, Vs S vals ds ∧ ∀ (j : Nat) u, vals[j]? = some u → w.cell? ⟨g, off + j, none⟩ = some u ∧ u.oneCell' = true := by
  obtain ⟨vs, _, hn, _, _, hc, hcell⟩ := box_at h hk hE
  have hm := slots_eq hs
  refine ⟨(vs.toList.drop off).take m, ⟨?_, ?_⟩, ?_⟩
  · have h1 := congrArg List.length hm
    simp only [List.length_take, List.length_drop, List.length_map] at h1
    simp only [List.length_take, List.length_drop, Array.length_toList, hn, h1]
  · intro j u d hu hd
    have h2 : ((cs.drop off).take m)[j]? = some (T.d d) := by rw [hm]; simp [hd]
    rw [List.getElem?_take] at hu h2
    split at hu
    · rename_i hj
      rw [if_pos hj] at h2
      simp only [List.getElem?_drop] at hu h2
      exact (hc (off + j) u (.d d) (by simpa using hu) h2).2.2
    · cases hu
  · intro j u hu
    rw [List.getElem?_take] at hu
    split at hu
    · rename_i hj
      simp only [List.getElem?_drop] at hu
      rw [hcell]
      have hu' : vs[off + j]? = some u := by simpa using hu
      have hlt : off + j < cs.length := by rw [← hn]; exact (Array.getElem?_eq_some_iff.1 hu').1
      exact ⟨hu', (hc (off + j) u _ hu' (List.getElem?_eq_getElem hlt)).1⟩
    · cases hu

theorem idx_le {i len sz o m : Nat} (hi : i < len) (ho : o + m ≤ sz) : i * sz + o + m ≤ len * sz := by
  have h1 : (i + 1) * sz ≤ len * sz := Nat.mul_le_mul_right _ hi
  rw [Nat.add_mul] at h1
  omega

/-- the rows at a site, cell by cell. -/
theorem vec_at (h : Rel n w0 S0 S E s a w) {k e sz : Nat} {xs : List D} (hk : look s.ob k = some (.vec e sz xs)) {g len cap : Nat} (hE : E k = .slice (some ⟨g, 0, none⟩) len cap) :
    len = xs.length ∧ ∃ vals, Vs S vals (flat xs) ∧ (∀ x, x ∈ xs → x.cells.length = sz) ∧ ∀ (j : Nat) u, vals[j]? = some u → w.cell? ⟨g, j, none⟩ = some u ∧ u.oneCell' = true := by
  obtain ⟨vals, ho, hx, hv, h1, hz⟩ := h.ob k _ hk
  have hlen : len = xs.length := by
    rcases ho.2 with ⟨hE', _⟩ | ⟨g', cap', cur, hE', _⟩
    · rw [hE] at hE'; cases hE'
    · rw [hE] at hE'; simp at hE'; exact hE'.2.1
  refine ⟨hlen, vals, hv, hx, fun j u hu => ?_⟩
  have := ho.cells (g := g) (by rw [hE]; rfl) j u hu
  rw [add_none, Nat.zero_add] at this
  exact ⟨this, h1 u (List.mem_of_getElem? hu)⟩

/-- rows with an open last one, cell by cell. -/
theorem vecO_at (h : Rel n w0 S0 S E s a w) {k e sz : Nat} {xs : List D} {cs : List T} (hk : look s.ob k = some (.vecO e sz xs cs)) {g len cap : Nat} (hE : E k = .slice (some ⟨g, 0, none⟩) len cap) :
    len = xs.length + 1 ∧ cs.length = sz ∧ ∀ (j : Nat) c, cs[j]? = some c → ∃ u, w.cell? ⟨g, xs.length * sz + j, none⟩ = some u ∧ u.oneCell' = true ∧ c.bare = true ∧ TV S E (fun _ => undef) u c := by
  obtain ⟨vals, ho, hx, hl, hv, h1, hc, hz⟩ := h.ob k _ hk
  have hlen : len = xs.length + 1 := by
    rcases ho.2 with ⟨hE', _⟩ | ⟨g', cap', cur, hE', _⟩
    · rw [hE] at hE'; cases hE'
    · rw [hE] at hE'; simp at hE'; exact hE'.2.1
  refine ⟨hlen, hl, fun j c hj => ?_⟩
  have hlt : j < sz := by rw [← hl]; exact (List.getElem?_eq_some_iff.1 hj).1
  have hb : xs.length * sz + j < vals.length := by rw [ho.1, Nat.add_mul]; omega
  have hu := List.getElem?_eq_getElem hb
  have := ho.cells (g := g) (by rw [hE]; rfl) _ _ hu
  rw [add_none, Nat.zero_add] at this
  exact ⟨_, this, h1 _ (List.mem_of_getElem? hu), hc j _ c hu hj⟩

theorem ty_ne {ty : Ty} {d : D} (h : okD ty d = true) : ty ≠ .oth := fun e => by subst e; simp [okD] at h

theorem run_loadAt (t : TypeId) (p : Addr) : (Instr.loadAt t (.pointer (some p))).run P w = (loadVar t p).run P w := by
  simp [Instr.loadAt, Instr.sureAddr]

/-- a load, where the cells are known -/
theorem load_of (h : Rel n w0 S0 S E s a w) {t : TypeId} {p : Addr} {vals : List Value} {ds : List D} (hv : Vs S vals ds) (hc : ∀ (j : Nat) u, vals[j]? = some u → w.cell? (p.add j) = some u ∧ u.oneCell' = true) {c : Bool} {x : T}
    (hx : c = true → (((tyOf P t).isAgg = true ∧ ds.length = (tyOf P t).n ∧ x = .d (.agg ds)) ∨ ((tyOf P t).isAgg = false ∧ ∃ d r, ds = d :: r ∧ okD (tyOf P t) d = true ∧ x = .d d))) :
    Good P n w0 S0 S E s a w (do pure (.value (← Instr.loadAt t (.pointer (some p))))) (.val c x) := by
  refine .same h fun hct => ?_
  rcases hx hct with ⟨hg, hl, rfl⟩ | ⟨hg, d, r, rfl, hok, rfl⟩
  · obtain ⟨u, hu⟩ := tyOf_und (P := P) (t := t) (fun e => by rw [e] at hg; cases hg)
    refine ⟨.agg vals.toArray, ?_, V_agg_of (fun j u hu => (hc j u hu).2) hv, rfl⟩
    have := run_loadVar_agg hu hg (w := w) (a := p) (vals := vals) (by rw [hv.1, hl]) fun j u hu => (hc j u hu).1
    simp [run_loadAt, this]
  · obtain ⟨u, hu⟩ := tyOf_und (P := P) (t := t) (ty_ne hok)
    cases vals with
    | nil => exact absurd hv.1 (by simp)
    | cons v0 vr =>
      refine ⟨v0, ?_, hv.head, rfl⟩
      have h0 := (hc 0 v0 rfl).1
      rw [add_zero] at h0
      have := run_loadVar_one hu hg h0
      simp [run_loadAt, this]

theorem load_good (h : Rel n w0 S0 S E s a w) {t : TypeId} {v : Value} {p : T} (hp : TV S E (frameOf a) v p) : Good P n w0 S0 S E s a w (do pure (.value (← Instr.loadAt t v))) (loadE s (tyOf P t) p) := by
  unfold loadE
  split
  · -- a box
    rename_i k off
    obtain ⟨g, hE, rfl⟩ := hp
    split
    · rename_i cs hk
      split
      · rename_i hg
        split
        · rename_i ds hs
          cases hb : Nat.beq ds.length (tyOf P t).n with
          | false => trivial
          | true =>
            obtain ⟨vals, hv, hc⟩ := box_slots h hk hE hs
            exact load_of h hv (fun j u hu => by rw [add_none]; exact hc j u hu) fun _ => .inl ⟨hg, nbeq_eq hb, rfl⟩
        · trivial
      · rename_i hg
        obtain ⟨vs, hh, hn, hB, hz, hcs, hcell⟩ := box_at h hk hE
        split
        · rename_i x hx
          refine .same h fun hok => ?_
          obtain ⟨u, hu⟩ := tyOf_und (P := P) (t := t) (ty_ne hok)
          have hlt : off < vs.size := by rw [hn]; exact (List.getElem?_eq_some_iff.1 hx).1
          have hvo : vs[off]? = some vs[off] := Array.getElem?_eq_getElem hlt
          have h2 := hcs off _ _ hvo hx
          refine ⟨vs[off], ?_, ?_, rfl⟩
          · have := run_loadVar_one hu hg (w := w) (a := ⟨g, off, none⟩) (by rw [hcell]; exact hvo)
            simp [run_loadAt, this]
          · rw [asD_eq hok]; exact h2.2.2
        · rename_i j hx
          split
          · rename_i e sz hty
            refine .same h fun _ => ?_
            obtain ⟨u, hu⟩ := tyOf_und (P := P) (t := t) (fun e' => by rw [e'] at hty; cases hty)
            have hlt : off < vs.size := by rw [hn]; exact (List.getElem?_eq_some_iff.1 hx).1
            have hvo : vs[off]? = some vs[off] := Array.getElem?_eq_getElem hlt
            have h2 := hcs off _ _ hvo hx
            refine ⟨vs[off], ?_, h2.2.2, rfl⟩
            have := run_loadVar_one hu hg (w := w) (a := ⟨g, off, none⟩) (by rw [hcell]; exact hvo)
            simp [run_loadAt, this]
          · trivial
        · rename_i j o hx
          split
          · rename_i e hty
            refine .same h fun _ => ?_
            obtain ⟨u, hu⟩ := tyOf_und (P := P) (t := t) (fun e' => by rw [e'] at hty; cases hty)
            have hlt : off < vs.size := by rw [hn]; exact (List.getElem?_eq_some_iff.1 hx).1
            have hvo : vs[off]? = some vs[off] := Array.getElem?_eq_getElem hlt
            have h2 := hcs off _ _ hvo hx
            refine ⟨vs[off], ?_, h2.2.2, rfl⟩
            have := run_loadVar_one hu hg (w := w) (a := ⟨g, off, none⟩) (by rw [hcell]; exact hvo)
            simp [run_loadAt, this]
          · trivial
        · rename_i z hx
          split
          · rename_i e sz hty
            cases Nat.beq z sz with
            | false => trivial
            | true =>
              refine .same h fun _ => ?_
              obtain ⟨u, hu⟩ := tyOf_und (P := P) (t := t) (fun e' => by rw [e'] at hty; cases hty)
              have hlt : off < vs.size := by rw [hn]; exact (List.getElem?_eq_some_iff.1 hx).1
              have hvo : vs[off]? = some vs[off] := Array.getElem?_eq_getElem hlt
              have h2 := hcs off _ _ hvo hx
              refine ⟨vs[off], ?_, h2.2.2, rfl⟩
              have := run_loadVar_one hu hg (w := w) (a := ⟨g, off, none⟩) (by rw [hcell]; exact hvo)
              simp [run_loadAt, this]
          · trivial
        · trivial
    · trivial
  · -- an array in a box
    rename_i k off len sz i o
    obtain ⟨g, hE, rfl, hi⟩ := hp
    split
    · rename_i cs hk
      split
      · rename_i ds hs
        cases hb : Nat.beq ds.length (len * sz) with
        | false => trivial
        | true =>
          have hlen := nbeq_eq hb
          obtain ⟨vals, hv, hc⟩ := box_slots h hk hE hs
          have hv' : Vs S (vals.drop (i * sz + o)) (ds.drop (i * sz + o)) := hv.drop _
          have hc' : ∀ (j : Nat) u, (vals.drop (i * sz + o))[j]? = some u → w.cell? ((⟨g, off + i * sz + o, none⟩ : Addr).add j) = some u ∧ u.oneCell' = true := by
            intro j u hu
            rw [List.getElem?_drop] at hu
            have := hc _ u hu
            rw [add_none]
            rw [show off + i * sz + o + j = off + (i * sz + o + j) by omega]
            exact this
          simp only [cond_true]
          split
          · rename_i hg
            cases hle : Nat.ble (o + (tyOf P t).n) sz with
            | false => trivial
            | true =>
              refine load_of h (vals := (vals.drop (i * sz + o)).take (tyOf P t).n) (ds := (ds.drop (i * sz + o)).take (tyOf P t).n) (hv'.take _) (fun j u hu => hc' j u (by rw [List.getElem?_take] at hu; split at hu; exact hu; cases hu)) fun _ => .inl ⟨hg, ?_, ?_⟩
              all_goals have hble := Nat.le_of_ble_eq_true hle
              all_goals have hidx := idx_le hi hble
              · simp only [List.length_take, List.length_drop]; omega
              · rw [cut_eq (by omega)]
          · rename_i hg
            cases hlt : Nat.blt o sz with
            | false => trivial
            | true =>
              have hblt : o + 1 ≤ sz := Nat.le_of_ble_eq_true hlt
              have hidx := idx_le hi hblt
              refine load_of h hv' hc' fun hok => .inr ⟨hg, nth ds (i * sz + o), ds.drop (i * sz + o + 1), ?_, hok, by rw [asD_eq hok]⟩
              have := nth_some (okD_ne hok)
              rw [List.drop_eq_getElem_cons (List.getElem?_eq_some_iff.1 this).1, (List.getElem?_eq_some_iff.1 this).2]
      · trivial
    · trivial
  · -- memory that stays
    rename_i x off
    obtain ⟨a0, vals, hcs, rfl⟩ := hp
    split
    · rename_i hg
      refine load_of h (p := a0.add off) (vals := (vals.drop off).take (tyOf P t).n) (ds := (x.cells.drop off).take (tyOf P t).n) ((hcs.vs.drop off).take _) (fun j u hu => ?_) fun hle => .inl ⟨hg, ?_, ?_⟩
      · exact h.inn _ _ (((hcs.drop off).take _).at_ j u hu)
      · have := Nat.le_of_ble_eq_true hle
        simp only [List.length_take, List.length_drop]; omega
      · rw [cut_eq (Nat.le_of_ble_eq_true hle)]
    · rename_i hg
      refine load_of h (p := a0.add off) (vals := vals.drop off) (ds := x.cells.drop off) (hcs.vs.drop off) (fun j u hu => h.inn _ _ ((hcs.drop off).at_ j u hu)) fun hok => .inr ⟨hg, nth x.cells off, x.cells.drop (off + 1), ?_, hok, by rw [asD_eq hok]⟩
      have := nth_some (okD_ne hok)
      rw [List.drop_eq_getElem_cons (List.getElem?_eq_some_iff.1 this).1, (List.getElem?_eq_some_iff.1 this).2]
  · -- rows of the call's own
    rename_i k sz i o
    obtain ⟨g, len, cap, hE, rfl, hi⟩ := hp
    split
    · rename_i e sz' xs hk
      cases hb : Nat.beq sz sz' with
      | false => trivial
      | true =>
        have := nbeq_eq hb; subst this
        obtain ⟨hlen, vals, hv, hx, hc⟩ := vec_at h hk hE
        have hi' : i < xs.length := by omega
        have hel := flat_drop hx hi'
        have hmem : (nth xs i).cells.length = sz := hx _ (List.mem_of_getElem? (nth_lt hi'))
        have hv' : Vs S (((vals.drop (i * sz)).take sz).drop o) ((nth xs i).cells.drop o) := by
          rw [← hel]; exact ((hv.drop _).take _).drop _
        have hc' : ∀ (j : Nat) u, (((vals.drop (i * sz)).take sz).drop o)[j]? = some u → w.cell? ((⟨g, i * sz + o, none⟩ : Addr).add j) = some u ∧ u.oneCell' = true := by
          intro j u hu
          rw [List.getElem?_drop, List.getElem?_take] at hu
          split at hu
          · rw [List.getElem?_drop] at hu
            rw [add_none, Nat.add_assoc]; exact hc _ u hu
          · cases hu
        simp only [cond_true]
        split
        · rename_i hg
          refine load_of h (vals := (((vals.drop (i * sz)).take sz).drop o).take (tyOf P t).n) (ds := ((nth xs i).cells.drop o).take (tyOf P t).n) (hv'.take _)
            (fun j u hu => hc' j u (by rw [List.getElem?_take] at hu; split at hu; exact hu; cases hu)) fun hle => .inl ⟨hg, ?_, ?_⟩
          · have := Nat.le_of_ble_eq_true hle
            simp only [List.length_take, List.length_drop]; omega
          · rw [cut_eq (Nat.le_of_ble_eq_true hle)]
        · rename_i hg
          refine load_of h hv' hc' fun hok => .inr ⟨hg, nth (nth xs i).cells o, (nth xs i).cells.drop (o + 1), ?_, hok, by rw [asD_eq hok]⟩
          have := nth_some (okD_ne hok)
          rw [List.drop_eq_getElem_cons (List.getElem?_eq_some_iff.1 this).1, (List.getElem?_eq_some_iff.1 this).2]
    · rename_i e sz' xs cs hk
      cases hb : Nat.beq sz sz' with
      | false => trivial
      | true =>
        have := nbeq_eq hb; subst this
        cases hlt : Nat.blt o sz with
        | false => trivial
        | true =>
          obtain ⟨hlen, hl, hc⟩ := vecO_at h hk hE
          simp only [Bool.and_self, cond_true]
          split
          · rename_i e' z' j hty hj
            refine .same h fun hi => ?_
            have := nbeq_eq hi; subst this
            obtain ⟨hu, _⟩ := tyOf_sl hty
            obtain ⟨u, h1, _, _, h4⟩ := hc o _ hj
            refine ⟨u, ?_, h4, rfl⟩
            have := run_loadVar_one hu (by rw [hty]; rfl) h1
            simp [run_loadAt, this]
          · rename_i e' z' z hty hj
            cases hz : Nat.beq z z' with
            | false => trivial
            | true =>
              refine .same h fun hi => ?_
              have := nbeq_eq hi; subst this
              obtain ⟨hu, _⟩ := tyOf_sl hty
              obtain ⟨u, h1, _, _, h4⟩ := hc o _ hj
              refine ⟨u, ?_, h4, rfl⟩
              have := run_loadVar_one hu (by rw [hty]; rfl) h1
              simp [run_loadAt, this]
          · trivial
    · trivial
  · trivial

end Go.Ev
