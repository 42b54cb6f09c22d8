/- The evaluator 'Ev': each operation does what the evaluator says: conversions, cuts, lengths. -/
import Derived.Test.YtollfgfhepjfkaaDoorEv5
import Derived.Laws.BytesString
import Derived.Lib.Strings
namespace Go.Ev
open Go Go.RowKit

variable {P : Program} {n : Nat} {w0 : Base P} {S0 S : Snap} {E : Nat → Value} {s : A} {a : Act} {w : World}

/-- A NEW ROW THAT STAYS. -/
theorem Rel.row (h : Rel n w0 S0 S E s a w) {w' : World} (hb : Below w.heap.size w w') {vals : List Value} (hv : ∀ (j : Nat) u, vals[j]? = some u → w'.cell? ⟨w.heap.size, j, none⟩ = some u ∧ u.oneCell' = true) :
    ∃ S', Grew S S' w w' ∧ ∀ (j : Nat) u, vals[j]? = some u → S' ⟨w.heap.size, j, none⟩ = some u := by
  let S' : Snap := fun a' => if a'.block = w.heap.size ∧ a'.spot = none then vals[a'.off]? else S a'
  have hle : S.le S' := by
    intro a' u hu
    have hlt : a'.block < w.heap.size := World.block_lt_of_cell? w a' (h.inn a' u hu).1
    show (if _ then _ else _) = _
    rw [if_neg (fun e => by omega)]; exact hu
  have cases' : ∀ a' u, S' a' = some u → (∃ j, a' = ⟨w.heap.size, j, none⟩ ∧ vals[j]? = some u) ∨ S a' = some u := by
    intro a' u hu
    have hu' : (if a'.block = w.heap.size ∧ a'.spot = none then vals[a'.off]? else S a') = some u := hu
    split at hu'
    · rename_i hc
      obtain ⟨b, o, sp⟩ := a'
      obtain ⟨e1, e2⟩ := hc
      simp at e1 e2 hu'
      subst e1; subst e2
      exact .inl ⟨o, rfl, hu'⟩
    · exact .inr hu'
  refine ⟨S', ⟨hb, hle, ?_, ?_⟩, ?_⟩
  · intro a' u hu
    rcases cases' a' u hu with ⟨j, rfl, _⟩ | h1
    · exact .inr (Nat.le_refl _)
    · exact .inl h1
  · intro a' u hu
    rcases cases' a' u hu with ⟨j, rfl, h1⟩ | h1
    · exact hv j u h1
    · exact h.inn.below hb a' u h1
  · intro j u hu
    show (if _ then _ else _) = _
    rw [if_pos ⟨rfl, rfl⟩]; exact hu

theorem flat_bytes (l : List UInt8) : flat (l.map byteD) = l.map byteD := by
  induction l with
  | nil => rfl
  | cons c r ih => simp [flat, ih, byteD, D.cells]
theorem flat_scalar {xs : List D} (h : allU8 xs = true) : flat xs = xs ∧ ∀ x, x ∈ xs → x = .int .u8 x.i := by
  induction xs with
  | nil => exact ⟨rfl, fun x hx => by cases hx⟩
  | cons x r ih =>
    have hx : ∃ m, x = .int .u8 m ∧ allU8 r = true := by
      cases x with
      | int k m => cases k <;> first | exact ⟨m, rfl, h⟩ | (simp [allU8] at h)
      | _ => simp [allU8] at h
    obtain ⟨m, rfl, h⟩ := hx
    obtain ⟨h1, h2⟩ := ih h
    refine ⟨by simp [flat, D.cells, h1], fun y hy => ?_⟩
    cases hy with
    | head => rfl
    | tail _ hy => exact h2 y hy

theorem allB_of {xs : List D} (h : allB xs = true) : allU8 xs = true ∧ ∀ j, j < xs.length → 0 ≤ (nth xs j).i ∧ (nth xs j).i < 256 := by
  induction xs with
  | nil => exact ⟨rfl, fun j hj => by simp at hj⟩
  | cons x r ih =>
    have hx : ∃ m, x = .int .u8 m ∧ (0 ≤ m ∧ m < 256) ∧ allB r = true := by
      cases x with
      | int k m => cases k <;> first | (simp only [allB, Bool.and_eq_true, decide_eq_true_eq] at h; exact ⟨m, rfl, h.1, h.2⟩) | (simp [allB] at h)
      | _ => simp [allB] at h
    obtain ⟨m, rfl, hm, hr⟩ := hx
    obtain ⟨h1, h2⟩ := ih hr
    refine ⟨h1, fun j hj => ?_⟩
    cases j with
    | zero => exact hm
    | succ j => exact h2 j (by simpa using hj)

/-- an operand as data: rows of the call's own are read where they lie -/
theorem data_rows (h : Rel n w0 S0 S E s a w) {x : T} {v : Value} (hx : TV S E (frameOf a) v x) {sz : Nat} {xs : List D} (hd : x.data s = some (.sl sz xs)) :
    (v = .slice none 0 0 ∧ xs = []) ∨ ∃ p cap vals, v = .slice (some p) xs.length cap ∧ xs.length ≤ cap ∧ (∀ x, x ∈ xs → x.cells.length = sz) ∧ Vs S vals (flat xs) ∧ ∀ (j : Nat) u, vals[j]? = some u → w.cell? (p.add j) = some u ∧ u.oneCell' = true := by
  cases x with
  | d y =>
    simp only [T.data, Option.some.injEq] at hd; subst hd
    cases hx with
    | slnil z => exact .inl ⟨rfl, rfl⟩
    | sl p cap z ys vals hc hxs hl hs hv =>
      exact .inr ⟨p, cap, vals, rfl, hc, hxs, ⟨by rw [hl, flat_length hxs], hv⟩, fun j u hj => h.inn _ _ (hs j u hj)⟩
  | nils z =>
    simp only [T.data, Option.some.injEq, D.sl.injEq] at hd
    exact .inl ⟨hx, hd.2.symm⟩
  | vec k =>
    simp only [T.data] at hd
    split at hd
    · rename_i e sz' ys hk
      simp only [Option.some.injEq, D.sl.injEq] at hd
      obtain ⟨rfl, rfl⟩ := hd
      obtain ⟨vals, ho, hxs, hv, h1, _⟩ := h.ob k _ hk
      have hx' : v = E k := hx
      rcases ho.2 with ⟨hE, h0⟩ | ⟨g, cap, cur, hE, _, _, _, _, hcap, _⟩
      · exact .inl ⟨by rw [hx', hE], List.eq_nil_of_length_eq_zero h0⟩
      · exact .inr ⟨⟨g, 0, none⟩, cap, vals, by rw [hx', hE], hcap, hxs, hv, fun j u hj => ⟨ho.cells (g := g) (by rw [hE]; rfl) j u hj, h1 u (List.mem_of_getElem? hj)⟩⟩
    · cases hd
  | _ => simp [T.data] at hd

theorem len_good (h : Rel n w0 S0 S E s a w) {ts : Array TypeId} {t : TypeId} {vs : Array Value} {v : Value} {x : T} (hts : ts[0]? = some t) (hvs : vs[0]? = some v) {ty : TypeId} (hx : TV S E (frameOf a) v x) :
    Good P n w0 S0 S E s a w (do pure (.value (← Builtin.len_ ts ty vs))) (lenE s (tyOf P t) x) := by
  unfold lenE
  split
  · rename_i l hty
    have hu := tyOf_str hty
    cases hx
    rename_i s'
    refine .int h fun _ => ?_
    simp [Builtin.len_, hts, hvs, run_underlying hu, goInt]
  · rename_i e sz x hty
    obtain ⟨hu, _⟩ := tyOf_sl hty
    split
    · rename_i sz' xs hd
      refine .int h fun _ => ?_
      rcases data_rows h hx hd with ⟨rfl, rfl⟩ | ⟨p, cap, vals, rfl, _⟩
      · simp [Builtin.len_, hts, hvs, run_underlying hu, goInt]
      · simp [Builtin.len_, hts, hvs, run_underlying hu, goInt]
    · split
      · rename_i k _
        split
        · rename_i e' sz' xs cs hk
          refine .int h fun _ => ?_
          have hx' : v = E k := hx
          obtain ⟨vals, ho, _⟩ := h.ob k _ hk
          rcases ho.2 with ⟨_, h3⟩ | ⟨g, cap, cur, hE, _⟩
          · omega
          · rw [hx', hE] at hvs
            simp [Builtin.len_, hts, hvs, run_underlying hu, goInt]
        · trivial
      · trivial
  · trivial

theorem conv_good (h : Rel n w0 S0 S E s a w) {C : Cfg} (hC : ∀ t, C.ty t = tyOf P t) (hself : ∀ t, C.selfs.any (Nat.beq t) = true → selfOk P t = true) {src dst : TypeId} {v : Value} {x : T} (hx : TV S E (frameOf a) v x) :
    Good P n w0 S0 S E s a w (do pure (.value (← convert src dst v))) (convE C s (tyOf P src) (tyOf P dst) x) := by
  unfold convE
  split
  · rename_i k' k h1 h2
    have hs := tyOf_int h1
    have hd := tyOf_int h2
    split
    · cases hx
      exact .int h fun _ => by simp [convert, run_underlying hs, run_underlying hd, Conv.intToInt]
    · trivial
  · rename_i h1 h2
    have hs := tyOf_str h1
    have hd := tyOf_str h2
    split
    · cases hx
      exact .str h rfl fun _ => by simp [convert, run_underlying hs, run_underlying hd]
    · trivial
  · rename_i e sz h1 h2
    have hs := tyOf_str h1
    obtain ⟨hd, hz⟩ := tyOf_sl h2
    split
    · rename_i l he
      rw [hC] at he
      have he' := tyOf_int he
      cases hb : Nat.beq sz 1 with
      | false => trivial
      | true =>
        cases hx
        rename_i s'
        intro _
        have hrun := Lib.run_convert_string_bytes (P := P) w src dst e s' hs hd he'
        have hbel : Below w.heap.size w (Lib.bytesWorld w e s') := by
          refine ⟨?_, ?_, ?_, by rw [Lib.bytesWorld_size]; omega, fun k hk => Lib.bytesWorld_at_old w e s' k hk⟩
          all_goals (unfold Lib.bytesWorld World.freeze; simp [World.alloc, World.drew, -World.alloc_eq, -World.drew_eq])
        obtain ⟨S', hgrew, hst⟩ := h.row hbel (vals := s'.data.toList.map fun c => Value.int .u8 c.toNat) (by
          intro j u hj
          simp only [List.getElem?_map, Option.map_eq_some_iff] at hj
          obtain ⟨c, hc, rfl⟩ := hj
          have hlt : j < s'.data.toList.length := (List.getElem?_eq_some_iff.1 hc).1
          have hcell := Lib.bytesWorld_cell w e s' j (by simpa using hlt)
          rw [hcell]
          refine ⟨?_, rfl⟩
          rw [List.getD_eq_getElem?_getD, hc]; rfl)
        refine ⟨.slice (some ⟨w.heap.size, 0, none⟩) s'.size (grownCap w s'.size 0 e), Lib.bytesWorld w e s', S', by simp [hrun], hgrew, ?_, rfl⟩
        have hlen : s'.size = (s'.data.toList.map byteD).length := by simp
        show V S' (.slice _ s'.size _) (.sl 1 (s'.data.toList.map byteD))
        rw [hlen]
        refine .sl _ _ 1 _ (s'.data.toList.map fun c => Value.int .u8 c.toNat) ?_ ?_ (by simp) (fun j u hj => by rw [add_none, Nat.zero_add]; exact hst j u hj) (fun j u d hu hd' => ?_)
        · rw [← hlen]; exact grownCap_ge w s'.size 0 e
        · intro x hx
          obtain ⟨c, _, rfl⟩ := List.mem_map.1 hx
          rfl
        · rw [flat_bytes] at hd'
          simp only [List.getElem?_map, Option.map_eq_some_iff] at hu hd'
          obtain ⟨c, hc, rfl⟩ := hu
          obtain ⟨c', hc', rfl⟩ := hd'
          rw [hc] at hc'; cases hc'
          exact .int _ _
    · trivial
  · rename_i e h1 h2
    have hs := tyOf_ptr h1
    have hd := tyOf_uptr h2
    split
    · rename_i k o
      split
      · rename_i bt cs hk
        cases hb : (Nat.blt o cs.length && !Nat.beq (C.ty e).n 0) with
        | false => trivial
        | true =>
          simp only [Bool.and_eq_true, Bool.not_eq_true'] at hb
          obtain ⟨g, hE, rfl⟩ := id hx
          obtain ⟨vs, hh, hn, _⟩ := box_at h hk hE
          have hn0 : (tyOf P e).n ≠ 0 := fun e' => by rw [hC, e'] at hb; simp at hb
          obtain ⟨d, hd'⟩ := tyOf_und (P := P) (t := e) (fun e' => hn0 (by rw [e']; rfl))
          obtain ⟨j, hj⟩ := und_info hd'
          have hsz : j.size ≠ 0 := by rw [tyOf_n hn0] at hn0; simpa [Program.cellsOf, hj] using hn0
          have hlt : o < vs.size := by rw [hn]; exact Nat.le_of_ble_eq_true hb.1
          exact .calc h fun _ => ⟨.pointer (some ⟨g, o, none⟩), Lib.run_to_unsafe (cells := vs.size) (e := bt) w ⟨g, o, none⟩ hs hd hj hsz (by simp [World.shape?, hh]) hlt, hx, rfl⟩
      · trivial
    · trivial
  · rename_i e h1 h2
    have hs := tyOf_uptr h1
    have hd := tyOf_ptr h2
    split
    · rename_i k
      split
      · rename_i bt cs hk
        cases hb : (Nat.beq bt e && C.selfs.any (Nat.beq e) && Nat.beq cs.length (C.ty e).n && !Nat.beq (C.ty e).n 0) with
        | false => trivial
        | true =>
          simp only [Bool.and_eq_true, Bool.not_eq_true'] at hb
          obtain ⟨⟨⟨hb1, hb2⟩, hb3⟩, hb4⟩ := hb
          have h1 := nbeq_eq hb1
          subst h1
          have h3 := nbeq_eq hb3
          obtain ⟨g, hE, rfl⟩ := id hx
          obtain ⟨vs, hh, hn, _⟩ := box_at h hk hE
          have hn0 : (tyOf P bt).n ≠ 0 := fun e' => by rw [hC, e'] at hb4; simp at hb4
          obtain ⟨d, hd'⟩ := tyOf_und (P := P) (t := bt) (fun e' => hn0 (by rw [e']; rfl))
          obtain ⟨j, hj⟩ := und_info hd'
          have hl := hself bt hb2
          unfold selfOk at hl
          rw [hC] at h3
          rw [← h3, ← hn] at hl
          exact .calc h fun _ => ⟨.pointer (some ⟨g, 0, none⟩), Lib.run_from_unsafe (cells := vs.size) (e := bt) w ⟨g, 0, none⟩ hs hd hj (by simp [World.shape?, hh]) hl, hx, rfl⟩
      · trivial
    · trivial
  · rename_i e sz h1 h2
    obtain ⟨hs, hz⟩ := tyOf_sl h1
    have hd := tyOf_str h2
    split
    · rename_i sz' xs he hdat
      rw [hC] at he
      have he' := tyOf_int he
      cases hb : (Nat.beq sz 1 && Nat.beq sz' 1) with
      | false => trivial
      | true =>
        simp only [Bool.and_eq_true] at hb
        have hsz' := nbeq_eq hb.2
        subst hsz'
        rcases data_rows h hx hdat with ⟨rfl, rfl⟩ | ⟨p, cap, vals, rfl, hcap, hxs, hv, hcell⟩
        · exact .str h (x := ByteArray.empty) (by simp [bytesOf]) fun _ => by simp [convert, run_underlying hs, run_underlying hd, run_underlying he', Conv.bytesToString]
        · intro hall
          obtain ⟨hf, hint⟩ := flat_scalar hall
          rw [hf] at hv
          have hvals : vals = (xs.map D.i).map (Value.int .u8) := by
            apply List.ext_getElem?
            intro j
            by_cases hj : j < xs.length
            · have hxj : xs[j]? = some xs[j] := List.getElem?_eq_getElem hj
              have hvj : vals[j]? = some (vals[j]'(by rw [hv.1]; exact hj)) := List.getElem?_eq_getElem _
              have h3 := hv.2 j _ _ hvj hxj
              have h4 := hint xs[j] (List.getElem_mem hj)
              rw [hvj]
              simp only [List.getElem?_map, hxj, Option.map_some]
              rw [h4] at h3
              generalize vals[j]'(by rw [hv.1]; exact hj) = q at h3
              cases h3; rfl
            · rw [List.getElem?_eq_none (by rw [hv.1]; omega), List.getElem?_eq_none (by simp; omega)]
          have hload : (loadCells p xs.length).run P w = .ok ((xs.map D.i).map (Value.int .u8)).toArray w := by
            have := run_loadCells_list (P := P) w p vals (fun j u hu => (hcell j u hu).1)
            rw [hv.1] at this
            rw [this, hvals]
          have hrun := run_bytesToString (P := P) w p xs.length cap (xs.map D.i) hload
          have hbytes : ∀ (ns : List Int) (b : ByteArray), (ns.foldl (fun r m => r.push (UInt8.ofNat m.toNat)) b).data.toList = b.data.toList ++ ns.map fun m => UInt8.ofNat m.toNat := by
            intro ns
            induction ns with
            | nil => intro b; simp
            | cons m r ih => intro b; simp only [List.foldl_cons, ih, List.map_cons]; simp [ByteArray.push]
          refine Good.str h (x := (xs.map D.i).foldl (fun r m => r.push (UInt8.ofNat m.toNat)) ByteArray.empty) ?_ (c := true) (fun _ => ?_) rfl
          · rw [hbytes]; simp [bytesOf]
          · rw [run_convert_bytes_string w src dst e (some p) xs.length cap hs he' hd, hrun]
    · trivial
  · trivial


theorem bound_run {o : Option T} {v : Option Value} {d : Option Int} {m : Int} (hv : (∀ t, o = some t → ∃ u, v = some u ∧ TV S E (frameOf a) u t) ∧ (o = none → v = none)) (hb : bound o d = some m) :
    (o = none ∧ v = none ∧ d = some m) ∨ ∃ k, v = some (.int k m) := by
  cases o with
  | none => exact .inl ⟨rfl, hv.2 rfl, hb⟩
  | some t =>
    obtain ⟨u, hu, ht⟩ := hv.1 t rfl
    cases t <;> simp [bound] at hb
    rename_i x
    cases x <;> simp at hb
    subst hb
    cases ht
    exact .inr ⟨_, hu⟩

theorem run_bounds (isS : Bool) (len cap : Nat) {lo hi : Option Value} {l h : Int} (hl : (lo = none ∧ l = 0) ∨ ∃ k, lo = some (.int k l)) (hh : (hi = none ∧ h = len) ∨ ∃ k, hi = some (.int k h))
    (h0 : 0 ≤ l) (h1 : l ≤ h) (h2 : h ≤ len) (h3 : len ≤ cap) : (Instr.sliceBounds isS len cap lo hi none).run P w = .ok (l.toNat, h.toNat, cap) w := by
  have e1 : h.toNat ≤ cap := by omega
  have b1 : 0 ≤ h := by omega
  have b2 : h ≤ (cap : Int) := by omega
  have b3 : l ≤ (h.toNat : Int) := by omega
  rcases hl with ⟨rfl, rfl⟩ | ⟨k, rfl⟩ <;> rcases hh with ⟨rfl, rfl⟩ | ⟨k', rfl⟩ <;> simp [Instr.sliceBounds, Instr.sliceBound, asIntOf, h0, b1, b2] <;> (intro hlt; exfalso; omega)

theorem flat_cut {xs : List D} {sz : Nat} (h : ∀ x, x ∈ xs → x.cells.length = sz) (i k : Nat) : flat ((xs.take k).drop i) = ((flat xs).take (k * sz)).drop (i * sz) := by
  have ft : ∀ (xs : List D) (k : Nat), (∀ x, x ∈ xs → x.cells.length = sz) → flat (xs.take k) = (flat xs).take (k * sz) := by
    intro xs
    induction xs with
    | nil => intro k _; simp [flat]
    | cons x r ih =>
      intro k hx
      cases k with
      | zero => simp [flat]
      | succ k =>
        have h1 := hx x (by simp)
        simp only [List.take_succ_cons, flat, ih k (fun y hy => hx y (by simp [hy]))]
        rw [Nat.add_mul, Nat.one_mul, Nat.add_comm, ← h1, List.take_length_add_append]
  have fd : ∀ (xs : List D) (k : Nat), (∀ x, x ∈ xs → x.cells.length = sz) → flat (xs.drop k) = (flat xs).drop (k * sz) := by
    intro xs
    induction xs with
    | nil => intro k _; simp [flat]
    | cons x r ih =>
      intro k hx
      cases k with
      | zero => simp [flat]
      | succ k =>
        have h1 := hx x (by simp)
        simp only [List.drop_succ_cons, flat, ih k (fun y hy => hx y (by simp [hy]))]
        rw [Nat.add_mul, Nat.one_mul, Nat.add_comm, ← List.drop_drop, ← h1, List.drop_left]
  rw [fd _ _ (fun x hx => h x (List.mem_of_mem_take hx)), ft _ _ h]

theorem slice_good (h : Rel n w0 S0 S E s a w) {t : TypeId} (hin : ∀ e, P.underlying t = some (.slice e) ∨ (∃ l, P.underlying t = some (.array l e)) → ∃ i, P.info? e = some i) {v : Value} {x : T} {lo hi : Option Value} {lo' hi' : Option T}
    (hx : TV S E (frameOf a) v x) (hlo : (∀ t, lo' = some t → ∃ u, lo = some u ∧ TV S E (frameOf a) u t) ∧ (lo' = none → lo = none)) (hhi : (∀ t, hi' = some t → ∃ u, hi = some u ∧ TV S E (frameOf a) u t) ∧ (hi' = none → hi = none)) :
    Good P n w0 S0 S E s a w (do pure (.value (← Instr.sliceAt t v lo hi none))) (sliceE (tyOf P t) x lo' hi') := by
  unfold sliceE
  split
  · rename_i l hty
    have hu := tyOf_str hty
    cases hx
    rename_i s'
    split
    · rename_i p q hp hq
      refine .str h (x := s'.extract p.toNat q.toNat) ?_ fun hc => ?_
      · rw [Lib.extract_data, List.drop_take]
      · simp only [Bool.and_eq_true, decide_eq_true_eq] at hc
        have hlen : s'.data.toList.length = s'.size := by simp
        have h1 := bound_run hlo hp
        have h2 := bound_run hhi hq
        have hrun := run_bounds (P := P) (w := w) false s'.size s'.size (lo := lo) (hi := hi) (l := p) (h := q)
          (by rcases h1 with ⟨_, h3, h4⟩ | h3; exact .inl ⟨h3, by simpa using h4.symm⟩; exact .inr h3)
          (by rcases h2 with ⟨_, h3, h4⟩ | h3; exact .inl ⟨h3, by simp at h4; omega⟩; exact .inr h3) hc.1.1 hc.1.2 (by omega) (Nat.le_refl _)
        simp [Instr.sliceAt, Instr.slice, run_underlying hu, hrun]
    · trivial
  · rename_i e sz sz' xs hty
    obtain ⟨hu, hz⟩ := tyOf_sl hty
    cases hb : Nat.beq sz sz' with
    | false => trivial
    | true =>
      have := nbeq_eq hb; subst this
      simp only [cond_true]
      split
      · rename_i p q hp hq
        refine .calc h fun hc => ?_
        simp only [Bool.and_eq_true, decide_eq_true_eq] at hc
        obtain ⟨⟨hc1, hc2⟩, hc3⟩ := hc
        have h1 := bound_run hlo hp
        have h2 := bound_run hhi hq
        have hsz : (sizeOf e).run P w = .ok (P.cellsOf e) w := by
          obtain ⟨i, hi⟩ := hin e (.inl hu)
          simp [sizeOf, typeInfo, hi, Program.cellsOf]
        have hrun : ∀ len cap : Nat, xs.length = len → len ≤ cap → (Instr.sliceBounds true len cap lo hi none).run P w = .ok (p.toNat, q.toNat, cap) w := fun len cap hl hcap =>
          run_bounds (P := P) (w := w) true len cap (lo := lo) (hi := hi) (l := p) (h := q)
            (by rcases h1 with ⟨_, h3, h4⟩ | h3; exact .inl ⟨h3, by simpa using h4.symm⟩; exact .inr h3)
            (by rcases h2 with ⟨_, h3, h4⟩ | h3; exact .inl ⟨h3, by simp at h4; omega⟩; exact .inr h3) hc1 hc2 (by omega) hcap
        have hx' : V S v (.sl sz xs) := hx
        cases hx' with
        | slnil z =>
          have hp0 : p = 0 := by simp at hc3; omega
          have hq0 : q = 0 := by simp at hc3; omega
          subst hp0; subst hq0
          refine ⟨.slice none 0 0, ?_, V.slnil sz, rfl⟩
          have := hrun 0 0 rfl (Nat.le_refl _)
          simp [Instr.sliceAt, Instr.slice, run_underlying hu, this, hsz]
        | sl a0 cap z ys vals hcap hxs hl hs hv =>
          have hr := hrun xs.length cap rfl hcap
          have hlen : ((xs.take q.toNat).drop p.toNat).length = q.toNat - p.toNat := by simp; omega
          refine ⟨.slice (some (if cap = p.toNat then a0 else a0.add (p.toNat * P.cellsOf e))) (q.toNat - p.toNat) (cap - p.toNat), ?_, ?_, rfl⟩
          · simp [Instr.sliceAt, Instr.slice, run_underlying hu, hr, hsz]
            split <;> rfl
          · show V S _ (.sl sz ((xs.take q.toNat).drop p.toNat))
            rw [← hlen]
            by_cases hcp : cap = p.toNat
            · have h0 : (xs.take q.toNat).drop p.toNat = [] := List.eq_nil_of_length_eq_zero (by rw [hlen]; omega)
              rw [if_pos hcp, h0]
              exact .sl a0 _ sz [] [] (Nat.zero_le _) (fun x hx => by cases hx) (by simp) (fun j u hj => by simp at hj) (fun j u d hj => by simp at hj)
            · rw [if_neg hcp]
              refine .sl _ _ sz _ ((vals.take (q.toNat * sz)).drop (p.toNat * sz)) (by rw [hlen]; omega) (fun x hx => hxs x (List.mem_of_mem_take (List.mem_of_mem_drop hx))) ?_ ?_ ?_
              · simp only [List.length_drop, List.length_take, hl]
                have : q.toNat * sz ≤ xs.length * sz := Nat.mul_le_mul_right _ (by omega)
                rw [Nat.min_eq_left this, Nat.min_eq_left (by omega), Nat.sub_mul]
              · intro j u hj
                rw [List.getElem?_drop, List.getElem?_take] at hj
                split at hj
                · rw [add_add, ← hz]; exact hs _ u hj
                · cases hj
              · intro j u d hj hd
                rw [flat_cut hxs] at hd
                rw [List.getElem?_drop, List.getElem?_take] at hj hd
                split at hj
                · rename_i hlt
                  rw [if_pos hlt] at hd
                  exact hv _ u d hj hd
                · cases hj
      · trivial
  · trivial

end Go.Ev
