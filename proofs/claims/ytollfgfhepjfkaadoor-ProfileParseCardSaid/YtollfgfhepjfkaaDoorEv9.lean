/- The evaluator 'Ev': each operation does what the evaluator says: stores. -/
import Derived.Test.YtollfgfhepjfkaaDoorEv8
namespace Go.Ev
open Go Go.RowKit

variable {P : Program} {n : Nat} {w0 : Base P} {S0 S : Snap} {E : Nat → Value} {s : A} {a : Act} {w : World}

theorem splice_length (cs : List D) (pos : Nat) (ds : List D) : (splice cs pos ds).length = cs.length := by simp [splice, upto_eq]
theorem splice_get (cs : List D) (pos : Nat) (ds : List D) {j : Nat} (h : j < cs.length) :
    (splice cs pos ds)[j]? = some (if pos ≤ j ∧ j < pos + ds.length then nth ds (j - pos) else nth cs j) := by
  unfold splice
  rw [upto_eq, List.getElem?_map, List.getElem?_range' h]
  simp only [Option.map_some, Nat.zero_add, Nat.one_mul]
  congr 1
  by_cases h1 : pos ≤ j
  · by_cases h2 : j < pos + ds.length
    · have e1 : Nat.ble pos j = true := Nat.ble_eq_true_of_le h1
      have e2 : Nat.blt j (pos + ds.length) = true := Nat.ble_eq_true_of_le h2
      simp [e1, e2, h1, h2]
    · have e2 : Nat.blt j (pos + ds.length) = false := by
        cases hb : Nat.blt j (pos + ds.length)
        · rfl
        · exact absurd (Nat.le_of_ble_eq_true hb) (by omega)
      simp [e2, h2]
  · have e1 : Nat.ble pos j = false := by
      cases hb : Nat.ble pos j
      · rfl
      · exact absurd (Nat.le_of_ble_eq_true hb) h1
    simp [e1, h1]
theorem over_length {cs ts : List T} {off : Nat} (h : off + ts.length ≤ cs.length) : (over cs off ts).length = cs.length := by
  simp [over]; omega
theorem over_get {cs ts : List T} {off : Nat} (h : off + ts.length ≤ cs.length) (j : Nat) : (over cs off ts)[j]? = if off ≤ j ∧ j < off + ts.length then ts[j - off]? else cs[j]? := by
  unfold over
  have hlen : (cs.take off).length = off := by simp; omega
  by_cases hin : off ≤ j ∧ j < off + ts.length
  · rw [if_pos hin, List.append_assoc, List.getElem?_append_right (by rw [hlen]; omega), List.getElem?_append_left (by rw [hlen]; omega), hlen]
  · rw [if_neg hin]
    by_cases hlt : j < off
    · rw [List.append_assoc, List.getElem?_append_left (by rw [hlen]; omega), List.getElem?_take, if_pos hlt]
    · rw [List.getElem?_append_right (by simp; omega)]
      simp only [List.length_append, hlen, List.getElem?_drop]
      congr 1; omega

theorem cells_one (h : Rel n w0 S0 S E s a w) {t : TypeId} {v : Value} {x : T} (hx : TV S E (frameOf a) v x) {cs : List T} (hc : cellsOf s (tyOf P t) x = some cs) : ∀ u ∈ v.cells.toList, u.oneCell' = true := by
  obtain ⟨h1, h2, h3⟩ := cells_tv h hx hc
  intro u hu
  obtain ⟨j, hj⟩ := List.mem_iff_getElem?.1 hu
  have hj' : v.cells[j]? = some u := by simpa using hj
  have hlt : j < cs.length := by rw [← h1]; exact (Array.getElem?_eq_some_iff.1 hj').1
  exact (h3 j u _ hj' (List.getElem?_eq_getElem hlt)).1

theorem cells_ty {t : TypeId} {x : T} {cs : List T} (hc : cellsOf s (tyOf P t) x = some cs) : ∃ i, P.info? t = some i := by
  have : tyOf P t ≠ .oth := by
    intro e
    rw [e] at hc
    cases x <;> simp [cellsOf, Ty.isAgg, okD] at hc
  obtain ⟨d, hd⟩ := tyOf_und this
  exact und_info hd

theorem store_box (h : Rel n w0 S0 S E s a w) {t : TypeId} {v : Value} {x : T} {k off bt : Nat} {cs ts : List T} {p : Value} (hp : TV S E (frameOf a) p (.ptr k off)) (hk : look s.ob k = some (.box bt cs)) (hx : TV S E (frameOf a) v x) (hc : cellsOf s (tyOf P t) x = some ts)
    (hoff : off + ts.length ≤ cs.length) : Good P n w0 S0 S E s a w (do Instr.storeAt t p v; pure .skip) (.chg true k (.box bt (over cs off ts)) .undef) := by
  intro _
  obtain ⟨g, hE, rfl⟩ := hp
  obtain ⟨h1, h2, h3⟩ := cells_tv h hx hc
  obtain ⟨vs, _, hvn, _, _, hcs, _⟩ := box_at h hk hE
  obtain ⟨w', hr, hchg, hov⟩ := h.stored (P := P) hk hE (t := t) (v := v) (off := off) (ts := ts) (by rw [h1, h2]) (cells_ty hc) h1 hoff (cells_one h hx hc) (cs' := over cs off ts) (over_length hoff) (by
    intro j c hcj
    rw [over_get hoff] at hcj
    by_cases hin : off ≤ j ∧ j < off + ts.length
    · rw [if_pos hin] at hcj
      have hlt : j - off < v.cells.size := by rw [h1]; omega
      have hq := h3 (j - off) _ c (Array.getElem?_eq_getElem hlt) hcj
      exact ⟨hq.2.1, .inl ⟨hin.1, hin.2, fun u hu => (h3 (j - off) u c hu hcj).2.2⟩⟩
    · rw [if_neg hin] at hcj
      have hlt : j < vs.size := by rw [hvn]; exact (List.getElem?_eq_some_iff.1 hcj).1
      refine ⟨(hcs j _ c (Array.getElem?_eq_getElem hlt) hcj).2.1, .inr ⟨hin, fun c' hc' u hu => ?_⟩⟩
      rw [hcj] at hc'; cases hc'; exact hu)
  exact ⟨.skip, undef, w', by simp [hr], .inr ⟨rfl, rfl⟩, by simp [hk], hchg, hov, trivial, rfl⟩

theorem store_arr (h : Rel n w0 S0 S E s a w) {t : TypeId} {v : Value} {x : T} {k off len sz i o bt : Nat} {cs ts : List T} {ds es : List D} {p : Value} (hp : TV S E (frameOf a) p (.ptrA k off len sz i o)) (hk : look s.ob k = some (.box bt cs)) (hx : TV S E (frameOf a) v x)
    (hc : cellsOf s (tyOf P t) x = some ts) (hs : slots cs off (len * sz) = some ds) (he : plain ts = some es) (hdl : ds.length = len * sz) (hcl : off + len * sz ≤ cs.length) (hle : o + es.length ≤ sz) :
    Good P n w0 S0 S E s a w (do Instr.storeAt t p v; pure .skip) (.chg true k (.box bt (over cs off ((cut (splice ds (i * sz + o) es) 0 (len * sz)).map T.d))) .undef) := by
  intro _
  obtain ⟨g, hE, rfl, hi⟩ := hp
  obtain ⟨h1, h2, h3⟩ := cells_tv h hx hc
  obtain ⟨vs, _, hvn, _, _, hcs, _⟩ := box_at h hk hE
  have hts := plain_eq he
  have htl : ts.length = es.length := by rw [hts]; simp
  have hidx := idx_le hi hle
  have hsp : cut (splice ds (i * sz + o) es) 0 (len * sz) = splice ds (i * sz + o) es := cut_all (by rw [splice_length, hdl])
  rw [hsp]
  have hlen : ((splice ds (i * sz + o) es).map T.d).length = len * sz := by simp [splice_length, hdl]
  obtain ⟨w', hr, hchg, hov⟩ := h.stored (P := P) hk hE (t := t) (v := v) (off := off + i * sz + o) (ts := ts) (by rw [h1, h2]) (cells_ty hc) h1 (by omega) (cells_one h hx hc) (cs' := over cs off ((splice ds (i * sz + o) es).map T.d)) (over_length (by rw [hlen]; exact hcl)) (by
    intro j c hcj
    rw [over_get (by rw [hlen]; exact hcl), hlen] at hcj
    by_cases hin : off ≤ j ∧ j < off + len * sz
    · rw [if_pos hin, List.getElem?_map, splice_get _ _ _ (by omega)] at hcj
      simp only [Option.map_some, Option.some.injEq] at hcj
      subst hcj
      refine ⟨rfl, ?_⟩
      by_cases hw : i * sz + o ≤ j - off ∧ j - off < i * sz + o + es.length
      · refine .inl ⟨by omega, by omega, fun u hu => ?_⟩
        rw [if_pos hw]
        have hj : ts[j - (off + i * sz + o)]? = some (.d (nth es (j - off - (i * sz + o)))) := by
          rw [hts, List.getElem?_map]
          rw [show j - off - (i * sz + o) = j - (off + i * sz + o) by omega, nth_lt (by omega)]; rfl
        exact (h3 _ u _ hu hj).2.2
      · refine .inr ⟨by omega, fun c' hc' u hu => ?_⟩
        rw [if_neg hw]
        have := slots_eq hs
        have hj : ((cs.drop off).take (len * sz))[j - off]? = some c' := by
          rw [List.getElem?_take, if_pos (by omega), List.getElem?_drop, show off + (j - off) = j by omega]; exact hc'
        rw [this, List.getElem?_map, nth_lt (by omega)] at hj
        simp only [Option.map_some, Option.some.injEq] at hj
        rw [hj]; exact hu
    · rw [if_neg hin] at hcj
      have hlt : j < vs.size := by rw [hvn]; exact (List.getElem?_eq_some_iff.1 hcj).1
      refine ⟨(hcs j _ c (Array.getElem?_eq_getElem hlt) hcj).2.1, .inr ⟨by omega, fun c' hc' u hu => ?_⟩⟩
      rw [hcj] at hc'; cases hc'; exact hu)
  exact ⟨.skip, undef, w', by simp [hr], .inr ⟨rfl, rfl⟩, by simp [hk], hchg, hov, trivial, rfl⟩

theorem cells_self {u : Value} {d : D} (h : V S u d) (h1 : u.oneCell' = true) : d.cells = [d] := by
  cases h <;> first | rfl | (simp [Value.oneCell'] at h1)

theorem flat_at {xs : List D} {sz : Nat} (h : ∀ x, x ∈ xs → x.cells.length = sz) {i : Nat} (hi : i < xs.length) {q : Nat} (hq : q < sz) : (flat xs)[i * sz + q]? = (nth xs i).cells[q]? := by
  have := flat_drop h hi
  rw [← this, List.getElem?_take, if_pos hq, List.getElem?_drop]

theorem setD_cells {x : D} {o sz : Nat} {es : List D} (hl : x.cells.length = sz) (hle : o + es.length ≤ sz) (h0 : 0 < es.length) (hes : ∀ d, d ∈ es → d.cells = [d]) : (setD x o es).cells = splice x.cells o es := by
  have other : x.cells = [x] → setD x o es = nth es 0 → (setD x o es).cells = splice x.cells o es := by
    intro hx hd
    have h1 : sz = 1 := by rw [← hl, hx]; rfl
    have ho : o = 0 := by omega
    subst ho
    obtain ⟨e, rfl⟩ : ∃ e, es = [e] := by
      cases es with
      | nil => simp at h0
      | cons e r => cases r with
        | nil => exact ⟨e, rfl⟩
        | cons _ _ => simp at hle; omega
    rw [hd, hx]
    have := hes e (by simp)
    apply List.ext_getElem?
    intro j
    cases j with
    | zero => rw [splice_get _ _ _ (by simp)]; simp [nth, this]
    | succ j => simp [nth, this, splice, upto]
  cases x with
  | agg cs => rfl
  | _ => exact other rfl rfl

/-- rows, one element of which is written, cell by cell. -/
theorem flat_set_get {xs : List D} {sz i o : Nat} {es : List D} (h : ∀ x, x ∈ xs → x.cells.length = sz) (hi : i < xs.length) (hle : o + es.length ≤ sz) (h0 : 0 < es.length) (hes : ∀ d, d ∈ es → d.cells = [d]) (j : Nat) :
    (∀ x, x ∈ xs.set i (setD (nth xs i) o es) → x.cells.length = sz) ∧ (flat (xs.set i (setD (nth xs i) o es)))[j]? = if i * sz + o ≤ j ∧ j < i * sz + o + es.length then some (nth es (j - (i * sz + o))) else (flat xs)[j]? := by
  have hmem : (nth xs i).cells.length = sz := h _ (List.mem_of_getElem? (nth_lt hi))
  have hcells := setD_cells hmem hle h0 hes
  have hall : ∀ x, x ∈ xs.set i (setD (nth xs i) o es) → x.cells.length = sz := by
    intro x hx
    rcases List.mem_or_eq_of_mem_set hx with h1 | h1
    · exact h x h1
    · subst h1; rw [hcells, splice_length, hmem]
  refine ⟨hall, ?_⟩
  have hszpos : 0 < sz := by omega
  have hdm := Nat.div_add_mod j sz
  have hmod := Nat.mod_lt j hszpos
  by_cases hjl : j / sz < xs.length
  · have e1 : j = j / sz * sz + j % sz := by rw [Nat.mul_comm]; exact hdm.symm
    have g1 := flat_at hall (i := j / sz) (by simpa using hjl) hmod
    have g2 := flat_at h hjl hmod
    rw [← e1] at g1 g2
    rw [g1, g2]
    by_cases hij : j / sz = i
    · have hset : nth (xs.set i (setD (nth xs i) o es)) (j / sz) = setD (nth xs i) o es := by
        rw [hij, nth_eq, List.getElem?_set_self (by omega)]; rfl
      rw [hset, hcells, hij, splice_get _ _ _ (by omega)]
      have e2 : j = i * sz + j % sz := by rw [← hij]; exact e1
      by_cases hw : o ≤ j % sz ∧ j % sz < o + es.length
      · rw [if_pos hw, if_pos (by omega)]
        congr 2; omega
      · rw [if_neg hw, if_neg (by omega), nth_lt (by omega)]
    · have hset : nth (xs.set i (setD (nth xs i) o es)) (j / sz) = nth xs (j / sz) := by
        rw [nth_eq, List.getElem?_set_ne (Ne.symm hij), ← nth_eq]
      rw [hset, if_neg]
      intro ⟨q1, q2⟩
      have : j / sz = i := by
        apply Nat.div_eq_of_lt_le
        · omega
        · rw [Nat.add_mul]; omega
      exact hij this
  · have l1 := flat_length h
    have l2 := flat_length hall
    have hge : xs.length * sz ≤ j := by
      have := Nat.mul_le_mul_right sz (Nat.le_of_not_lt hjl)
      have h3 := Nat.div_mul_le_self j sz
      omega
    have hii : (i + 1) * sz ≤ xs.length * sz := Nat.mul_le_mul_right _ hi
    rw [Nat.add_mul] at hii
    rw [List.getElem?_eq_none (by rw [l2]; simpa using hge), List.getElem?_eq_none (by rw [l1]; exact hge), if_neg (by omega)]

theorem store_vec (h : Rel n w0 S0 S E s a w) {t : TypeId} {v : Value} {x : T} {k e sz i o : Nat} {ts : List T} {xs es : List D} {p : Value} (hp : TV S E (frameOf a) p (.vptr k sz i o)) (hk : look s.ob k = some (.vec e sz xs)) (hx : TV S E (frameOf a) v x)
    (hc : cellsOf s (tyOf P t) x = some ts) (he : plain ts = some es) (h0 : 0 < es.length) {c : Bool} (hcc : c = true → (nth xs i).cells.length = sz ∧ o + es.length ≤ sz ∧ i < xs.length) :
    Good P n w0 S0 S E s a w (do Instr.storeAt t p v; pure .skip) (.chg c k (.vec e sz (xs.set i (setD (nth xs i) o es))) .undef) := by
  intro hct
  obtain ⟨hl1, hle, hi⟩ := hcc hct
  obtain ⟨g, len, cap, hE, rfl, _⟩ := hp
  obtain ⟨h1, h2, h3⟩ := cells_tv h hx hc
  obtain ⟨vals, ho, hxs, hv, hone, hz⟩ := h.ob k _ hk
  rcases ho.2 with ⟨hE', _⟩ | ⟨g', cap', cur, hE', hB, tt, fz, hh, hcap, hcs, htake, hmk⟩
  · rw [hE] at hE'; cases hE'
  · rw [hE] at hE'
    simp only [Value.slice.injEq, Option.some.injEq, Addr.mk.injEq, and_true] at hE'
    obtain ⟨rfl, rfl, rfl⟩ := hE'
    have hts := plain_eq he
    have htl : ts.length = es.length := by rw [hts]; simp
    have hidx := idx_le hi hle
    have hcur : xs.length * sz ≤ cur.size := by rw [hcs]; exact Nat.mul_le_mul_right _ hcap
    obtain ⟨inf, hinf⟩ := cells_ty hc
    have hcs2 : xs.length * sz ≤ cap * sz := Nat.mul_le_mul_right _ hcap
    have hfz : fz.2 ≤ i * sz + o ∨ i * sz + o + v.cells.size ≤ fz.1 := by
      rcases hmk with ⟨_, rfl, _⟩ | ⟨_, h5⟩
      · exact .inl (Nat.zero_le _)
      · exact .inr (by omega)
    have hrun := run_storeAtB (P := P) (w := w) (t := t) (v := v) (off := i * sz + o) hh hfz (by simp [sizeOf, typeInfo, hinf, h1, h2, Program.cellsOf]) (by omega) (cells_one h hx hc)
    have hev : ∀ j, j < es.length → ∃ u, v.cells[j]? = some u ∧ u.oneCell' = true ∧ V S u (nth es j) := by
      intro j hj
      have hlt : j < v.cells.size := by omega
      have hu := Array.getElem?_eq_getElem hlt
      have := h3 j _ (.d (nth es j)) hu (by rw [hts, List.getElem?_map, nth_lt hj]; rfl)
      exact ⟨_, hu, this.1, this.2.2⟩
    have hes : ∀ d, d ∈ es → d.cells = [d] := by
      intro d hd
      obtain ⟨j, hj⟩ := List.mem_iff_getElem?.1 hd
      have hlt : j < es.length := (List.getElem?_eq_some_iff.1 hj).1
      obtain ⟨u, _, q1, q2⟩ := hev j hlt
      rw [nth_eq, hj] at q2
      exact cells_self q2 q1
    have hfs := flat_set_get hxs hi hle h0 hes
    have hcurtake : ∀ j, j < xs.length * sz → cur[j]? = vals[j]? := by
      intro j hj
      rw [← htake, List.getElem?_take, if_pos hj]; simp
    have hget : ∀ j, j < xs.length * sz → (cur.toList.take (i * sz + o) ++ v.cells.toList ++ cur.toList.drop (i * sz + o + v.cells.size))[j]? = if i * sz + o ≤ j ∧ j < i * sz + o + es.length then v.cells[j - (i * sz + o)]? else vals[j]? := by
      intro j hj
      have hlen : (cur.toList.take (i * sz + o)).length = i * sz + o := by simp; omega
      by_cases hin : i * sz + o ≤ j ∧ j < i * sz + o + es.length
      · rw [if_pos hin, List.append_assoc, List.getElem?_append_right (by rw [hlen]; omega), List.getElem?_append_left (by rw [hlen]; simp; omega), hlen]; simp
      · rw [if_neg hin, ← hcurtake j hj]
        by_cases hlt : j < i * sz + o
        · rw [List.append_assoc, List.getElem?_append_left (by rw [hlen]; omega), List.getElem?_take, if_pos hlt]; simp
        · rw [List.getElem?_append_right (by simp; omega)]
          simp only [List.length_append, hlen, Array.length_toList, List.getElem?_drop]
          rw [show i * sz + o + v.cells.size + (j - (i * sz + o + v.cells.size)) = j by omega]; simp
    refine ⟨.skip, undef, w.setRow g _, by simp only [Sem.run_bind, hrun, Result.andThen_ok]; rfl, .inr ⟨rfl, rfl⟩, by simp [hk], ⟨by simp [World.setRow], rfl, rfl, rfl, fun b hb => setRow_other w g b _ (fun e => hb (by rw [hE, e]; rfl))⟩, ?_, trivial, rfl⟩
    have hll : vals.length = xs.length * sz := ho.1
    refine ⟨(cur.toList.take (i * sz + o) ++ v.cells.toList ++ cur.toList.drop (i * sz + o + v.cells.size)).take (xs.length * sz), ⟨?_, .inr ⟨g, cap, _, ?_, hB, tt, fz, setRow_heap w g cur _ tt fz hh, ?_, ?_, ?_, hmk⟩⟩, (hfs 0).1, ⟨?_, ?_⟩, ?_, hz⟩
    · simp only [List.length_take, List.length_append, List.length_drop, Array.length_toList, List.length_set]; omega
    · rw [hE]; simp
    · simpa using hcap
    · simp only [List.size_toArray, List.length_append, List.length_take, List.length_drop, Array.length_toList]; omega
    · simp
    · rw [flat_length (hfs 0).1]
      simp only [List.length_take, List.length_append, List.length_drop, Array.length_toList, List.length_set]; omega
    · intro j u d hu hd
      rw [List.getElem?_take] at hu
      split at hu
      · rename_i hj
        rw [hget j hj] at hu
        rw [(hfs j).2] at hd
        split at hu
        · rename_i hin
          rw [if_pos hin] at hd
          cases hd
          obtain ⟨u', q1, _, q3⟩ := hev (j - (i * sz + o)) (by omega)
          rw [hu] at q1; cases q1; exact q3
        · rename_i hin
          rw [if_neg hin] at hd
          exact hv.2 j u d hu hd
      · cases hu
    · intro u hu
      obtain ⟨j, hj⟩ := List.mem_iff_getElem?.1 hu
      rw [List.getElem?_take] at hj
      split at hj
      · rename_i hjl
        rw [hget j hjl] at hj
        split at hj
        · obtain ⟨u', q1, q2, _⟩ := hev (j - (i * sz + o)) (by omega)
          rw [hj] at q1; cases q1; exact q2
        · exact hone u (List.mem_of_getElem? hj)
      · cases hj

theorem store_vecO (h : Rel n w0 S0 S E s a w) {t : TypeId} {v : Value} {x y : T} {k e sz i o : Nat} {xs : List D} {cs : List T} {p : Value} (hp : TV S E (frameOf a) p (.vptr k sz i o)) (hk : look s.ob k = some (.vecO e sz xs cs)) (hx : TV S E (frameOf a) v x)
    (hc : cellsOf s (tyOf P t) x = some [y]) {c : Bool} (hcc : c = true → i = xs.length) (hol : o < sz) (hcl : cs.length = sz) :
    Good P n w0 S0 S E s a w (do Instr.storeAt t p v; pure .skip) (.chg c k (.vecO e sz xs (over cs o [y])) .undef) := by
  intro hct
  obtain rfl := hcc hct
  obtain ⟨g, len, cap, hE, rfl, _⟩ := hp
  obtain ⟨h1, h2, h3⟩ := cells_tv h hx hc
  obtain ⟨vals, ho, hxs, _, hv, hone, hcc, hz⟩ := h.ob k _ hk
  rcases ho.2 with ⟨hE', _⟩ | ⟨g', cap', cur, hE', hB, hh, hcap, hm, hcs, htake⟩
  · rw [hE] at hE'; cases hE'
  · rw [hE] at hE'
    simp only [Value.slice.injEq, Option.some.injEq, Addr.mk.injEq, and_true] at hE'
    obtain ⟨rfl, rfl, rfl⟩ := hE'
    have hv1 : v.cells.size = 1 := h1
    have hll : vals.length = (xs.length + 1) * sz := ho.1
    have hlast : (xs.length + 1) * sz = xs.length * sz + sz := by rw [Nat.add_mul]; omega
    have hcur : (xs.length + 1) * sz ≤ cur.size := by rw [hcs]; exact Nat.mul_le_mul_right _ hcap
    obtain ⟨inf, hinf⟩ := cells_ty hc
    have hrun := run_storeAt (P := P) (w := w) (t := t) (v := v) (off := xs.length * sz + o) hh (by simp [sizeOf, typeInfo, hinf, h1, h2, Program.cellsOf]) (by omega) (cells_one h hx hc)
    obtain ⟨u0, hu0⟩ : ∃ u, v.cells[0]? = some u := ⟨_, Array.getElem?_eq_getElem (by omega)⟩
    have hy := h3 0 _ y hu0 rfl
    have hcurtake : ∀ j, j < (xs.length + 1) * sz → cur[j]? = vals[j]? := by
      intro j hj
      rw [← htake, List.getElem?_take, if_pos hj]; simp
    have hget : ∀ j, j < (xs.length + 1) * sz → (cur.toList.take (xs.length * sz + o) ++ v.cells.toList ++ cur.toList.drop (xs.length * sz + o + v.cells.size))[j]? = if j = xs.length * sz + o then some u0 else vals[j]? := by
      intro j hj
      have hlen : (cur.toList.take (xs.length * sz + o)).length = xs.length * sz + o := by simp; omega
      by_cases hin : j = xs.length * sz + o
      · subst hin
        rw [if_pos rfl, List.append_assoc, List.getElem?_append_right (by rw [hlen]; omega), List.getElem?_append_left (by rw [hlen]; simp; omega), hlen]
        simpa using hu0
      · rw [if_neg hin, ← hcurtake j hj]
        by_cases hlt : j < xs.length * sz + o
        · rw [List.append_assoc, List.getElem?_append_left (by rw [hlen]; omega), List.getElem?_take, if_pos hlt]; simp
        · rw [List.getElem?_append_right (by simp; omega)]
          simp only [List.length_append, hlen, Array.length_toList, List.getElem?_drop]
          rw [show xs.length * sz + o + v.cells.size + (j - (xs.length * sz + o + v.cells.size)) = j by omega]; simp
    refine ⟨.skip, undef, w.setRow g _, by simp only [Sem.run_bind, hrun, Result.andThen_ok]; rfl, .inr ⟨rfl, rfl⟩, by simp [hk], ⟨by simp [World.setRow], rfl, rfl, rfl, fun b hb => setRow_other w g b _ (fun e => hb (by rw [hE, e]; rfl))⟩, ?_, trivial, rfl⟩
    refine ⟨(cur.toList.take (xs.length * sz + o) ++ v.cells.toList ++ cur.toList.drop (xs.length * sz + o + v.cells.size)).take ((xs.length + 1) * sz), ⟨?_, .inr ⟨g, cap, _, ?_, hB, setRow_heap w g cur _ e (0, 0) hh, ?_, hm, ?_, ?_⟩⟩, hxs, ?_, ⟨?_, ?_⟩, ?_, ?_, hz⟩
    · simp only [List.length_take, List.length_append, List.length_drop, Array.length_toList]; omega
    · rw [hE]
    · simpa using hcap
    · simp only [List.size_toArray, List.length_append, List.length_take, List.length_drop, Array.length_toList]; omega
    · simp
    · rw [over_length (by simp; omega), hcl]
    · rw [flat_length hxs]
      simp only [List.length_take, List.length_append, List.length_drop, Array.length_toList]; omega
    · intro j u d hu hd
      have hjl : j < xs.length * sz := by rw [← flat_length hxs]; exact (List.getElem?_eq_some_iff.1 hd).1
      rw [List.getElem?_take, if_pos hjl, List.getElem?_take, if_pos (by omega), hget j (by omega), if_neg (by omega)] at hu
      exact hv.2 j u d (by rw [List.getElem?_take, if_pos hjl]; exact hu) hd
    · intro u hu
      obtain ⟨j, hj⟩ := List.mem_iff_getElem?.1 hu
      rw [List.getElem?_take] at hj
      split at hj
      · rename_i hjl
        rw [hget j hjl] at hj
        split at hj
        · cases hj; exact hy.1
        · exact hone u (List.mem_of_getElem? hj)
      · cases hj
    · intro j u c' hu hc'
      rw [List.getElem?_take] at hu
      split at hu
      · rename_i hjl
        rw [hget _ hjl] at hu
        rw [over_get (by simp; omega)] at hc'
        split at hu
        · rename_i hj
          have : j = o := by omega
          subst this
          cases hu
          rw [if_pos ⟨Nat.le_refl _, by simp⟩, Nat.sub_self] at hc'
          cases hc'
          exact hy.2
        · rename_i hj
          rw [if_neg (by simp; omega)] at hc'
          exact hcc j u c' hu hc'
      · cases hu

theorem store_good (h : Rel n w0 S0 S E s a w) {t : TypeId} {v p : Value} {x q : T} (hp : TV S E (frameOf a) p q) (hx : TV S E (frameOf a) v x) : Good P n w0 S0 S E s a w (do Instr.storeAt t p v; pure .skip) (storeE s (tyOf P t) q x) := by
  unfold storeE
  split
  · split
    · rename_i cs ds hk hc
      cases hb : Nat.ble _ cs.length with
      | false => trivial
      | true => exact store_box h hp hk hx hc (Nat.le_of_ble_eq_true hb)
    · trivial
  · split
    · rename_i cs ts hk hc
      split
      · rename_i ds es hs he
        cases hb : (Nat.beq ds.length (_ * _) && Nat.ble (_ + _ * _) cs.length && Nat.ble (_ + es.length) _) with
        | false => trivial
        | true =>
          simp only [Bool.and_eq_true] at hb
          exact store_arr h hp hk hx hc hs he (nbeq_eq hb.1.1) (Nat.le_of_ble_eq_true hb.1.2) (Nat.le_of_ble_eq_true hb.2)
      · trivial
    · trivial
  · split
    · rename_i e sz' xs ts hk hc
      split
      · rename_i es he
        cases hb : (Nat.beq _ sz' && Nat.blt 0 es.length) with
        | false => trivial
        | true =>
          simp only [Bool.and_eq_true] at hb
          have hz := nbeq_eq hb.1
          subst hz
          have h0 : 0 < es.length := Nat.le_of_ble_eq_true hb.2
          simp only [cond_true]
          exact store_vec h hp hk hx hc he h0 fun hcc => by
            simp only [Bool.and_eq_true] at hcc
            exact ⟨nbeq_eq hcc.1.1, Nat.le_of_ble_eq_true hcc.1.2, Nat.le_of_ble_eq_true hcc.2⟩
      · trivial
    · rename_i e sz' xs cs y hk hc
      cases hb : (Nat.beq _ sz' && Nat.blt _ _ && Nat.beq cs.length _) with
      | false => trivial
      | true =>
        simp only [Bool.and_eq_true] at hb
        have hz := nbeq_eq hb.1.1
        subst hz
        exact store_vecO h hp hk hx hc nbeq_eq (Nat.le_of_ble_eq_true hb.1.2) (nbeq_eq hb.2)
    · trivial
  · trivial

end Go.Ev
