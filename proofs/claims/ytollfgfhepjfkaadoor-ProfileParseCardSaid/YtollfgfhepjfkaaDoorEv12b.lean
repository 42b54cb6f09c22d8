/- The evaluator 'Ev': each operation does what the evaluator says: strings' builders: a string's bytes behind rows of bytes; rows of bytes that are read as a string. -/
import Derived.Test.YtollfgfhepjfkaaDoorEv12
import Derived.Lib.AppendStr
namespace Go.Ev
open Go Go.RowKit

variable {P : Program} {n : Nat} {w0 : Base P} {S0 S : Snap} {E : Nat → Value} {s : A} {a : Act} {w : World}

theorem strCells_bytes (l : List UInt8) : Lib.strCells ⟨l.toArray⟩ = l.map fun c => Value.int .u8 c.toNat := by simp [Lib.strCells]
theorem vs_bytes (l : List UInt8) : Vs S (l.map fun c => Value.int .u8 c.toNat) (flat (l.map byteD)) := by
  rw [flat_bytes]
  refine ⟨by simp, fun j u d hu hd => ?_⟩
  simp only [List.getElem?_map, Option.map_eq_some_iff] at hu hd
  obtain ⟨c, hc, rfl⟩ := hu
  obtain ⟨c', hc', rfl⟩ := hd
  rw [hc] at hc'; cases hc'
  exact .int _ _
theorem byteD_cells {l : List UInt8} : ∀ x, x ∈ l.map byteD → x.cells.length = 1 := fun x hx => by
  obtain ⟨c, _, rfl⟩ := List.mem_map.1 hx
  rfl
theorem bytes_one {l : List UInt8} : ∀ u, u ∈ (l.map fun c => Value.int .u8 c.toNat) → u.oneCell' = true := fun u hu => by
  obtain ⟨c, _, rfl⟩ := List.mem_map.1 hu
  rfl

/-- the run of an append of a string's bytes onto what the call owns. -/
theorem appendS_run {t u ty e : TypeId} {i : TypeInfo} (ht : P.underlying t = some (.slice e)) (hu : P.underlying u = some .string) (hi : P.info? e = some i) (hz : i.zero = some (.int .u8 0)) (hsize : i.size = 1) (hby : i.bytes = 1)
    {base m : Nat} {v : Value} {xs : List Value} (hown : w.ownsRow base e 1 v m xs) (str : ByteArray) (hle : m + str.size ≤ 4294967296) (hbase : base ≤ w.heap.size) :
    ∃ v' w', (Builtin.append_ #[t, u] ty #[v, .string str]).run P w = .ok v' w' ∧ w'.ownsRow base e 1 v' (m + str.size) (xs ++ Lib.strCells str) ∧ w.grownBy w' v.ownBlock ∧ (v'.ownBlock = v.ownBlock ∨ v'.ownBlock = some w.heap.size) := by
  obtain ⟨v', w', hr, ho, hg, hnil⟩ := Lib.run_append_own_string (P := P) w base t u ty e i ht hu hi hz hsize hby v m xs hown str (by unfold maxLen; omega) (by omega) hbase
  refine ⟨v', w', hr, ho, hg, ?_⟩
  have hxl : xs.length = m := by simpa using hown.1
  rcases hown.2 with ⟨rfl, rfl⟩ | ⟨g, cap, cur, rfl, hbg, hgg, hnc, hcm, hcs, htake⟩
  · by_cases h0 : str.size = 0
    · rw [hnil.2 ⟨rfl, h0⟩]; exact .inl rfl
    · have hr2 := run_append_nil_string (P := P) w t u ty e i (.int .u8 0) ht hu hi hz str (by omega) (by omega) (by rw [hby]; omega)
      rw [hr] at hr2
      simp only [Result.ok.injEq] at hr2
      exact .inr (by rw [hr2.1]; rfl)
  · by_cases hroom : m + str.size ≤ cap
    · have hcs' : cur.size = cap := by simpa using hcs
      have hr2 := Lib.run_append_room_string (P := P) w t u ty e i ht hu hi hsize g m cap cur hgg str hroom (by omega)
      rw [hr] at hr2
      simp only [Result.ok.injEq] at hr2
      exact .inl (by rw [hr2.1]; rfl)
    · have holds : ∀ j u, xs[j]? = some u → w.cell? ((⟨g, 0, none⟩ : Addr).add j) = some u := hown.cells (g := g) rfl
      have hr2 := Lib.run_append_grow_string (P := P) w t u ty e i (.int .u8 0) ht hu hi hz ⟨g, 0, none⟩ m cap xs (by rw [hsize]; simpa using hxl) holds str (by omega) (by omega) (by rw [hby]; exact growslice_fits (by omega) (by omega))
      rw [hr] at hr2
      simp only [Result.ok.injEq] at hr2
      exact .inr (by rw [hr2.1]; rfl)

theorem byteOk_of {e : TypeId} (h : byteOk P e = true) : ∃ i, P.info? e = some i ∧ i.zero = some (.int .u8 0) ∧ i.size = 1 ∧ i.bytes = 1 := by
  unfold byteOk at h
  split at h
  · rename_i i hi
    simp only [Bool.and_eq_true] at h
    refine ⟨i, hi, ?_, nbeq_eq h.1.2, nbeq_eq h.2⟩
    have h1 := h.1.1
    split at h1
    · rename_i m hm
      have := of_decide_eq_true h1
      subst this
      exact hm
    · cases h1
  · cases h

theorem appendS_good (h : Rel n w0 S0 S E s a w) {C : Cfg} (hT : Told P C) {t tu ty : Nat} {dst : Option Nat} (hdst : ∀ d, dst = some d → d < HB) {u v : Value} {x y : T} (hx : TV S E (frameOf a) u x) (hy : TV S E (frameOf a) v y) :
    Good P n w0 S0 S E s a w (do pure (.value (← Builtin.append_ #[t, tu] ty #[u, v]))) (appendSE C s (C.ty t) (C.ty tu) dst x y) := by
  unfold appendSE
  split
  · rename_i e sz d l hty htu
    cases hc : (Nat.beq sz 1 && C.bts.any (Nat.beq e)) with
    | false => trivial
    | true =>
      simp only [Bool.and_eq_true] at hc
      have h1 := nbeq_eq hc.1
      subst h1
      obtain ⟨i, hi, hz, hsize, hby⟩ := byteOk_of (hT.bts e hc.2)
      rw [hT.ty] at hty htu
      obtain ⟨hu, _⟩ := tyOf_sl hty
      have hus := tyOf_str htu
      have hv : v = .string ⟨l.toArray⟩ := V_str_inv hy
      subst hv
      have hsz : (ByteArray.mk l.toArray).size = l.length := by simp [ByteArray.size]
      simp only [cond_true]
      split
      · intro hle
        have hle := of_decide_eq_true hle
        have hx' : u = .slice none 0 0 := hx
        subst hx'
        obtain ⟨v', w', hr, ho, hg, hat⟩ := appendS_run (P := P) (w := w) (ty := ty) hu hus hi hz hsize hby (World.ownsRow_nil w w0.B e 1) ⟨l.toArray⟩ (by rw [hsz]; omega) h.bsize
        rw [strCells_bytes, List.nil_append, Nat.zero_add, hsz] at ho
        have hm := h.rows' (d := d) (e := e) (sz := 1) (xs := l.map byteD) (v := v') (vals := l.map fun c => Value.int .u8 c.toNat) (w' := w') hg (fun g hgb => by
          rw [← blk_own ho] at hgb
          rcases hat with h1 | h1
          · rw [h1] at hgb; cases hgb
          · rw [h1] at hgb; cases hgb; exact Nat.le_refl _) (by simpa using ho) byteD_cells (vs_bytes l) bytes_one
        exact ⟨hdst _ rfl, v', w', by simp [hr], hm, by simp [TV], rfl⟩
      · rename_i k
        split
        · rename_i e' sz'' xs hk
          cases hb : (Nat.beq sz'' 1 && Nat.beq e e' && Nat.blt e MK) with
          | false => trivial
          | true =>
            simp only [Bool.and_eq_true] at hb
            have h1 := nbeq_eq hb.1.1; subst h1
            have h2 := nbeq_eq hb.1.2; subst h2
            have hMK : e < MK := Nat.le_of_ble_eq_true hb.2
            simp only [cond_true]
            intro hle
            have hle := of_decide_eq_true hle
            have hu' : u = E k := hx
            obtain ⟨vals, hok, hxk, hvk, h1k, hzk⟩ := h.ob k _ hk
            replace hok := hok.own hMK
            rw [← hu'] at hok
            obtain ⟨v', w', hr, ho, hg, hat⟩ := appendS_run (P := P) (w := w) (ty := ty) hu hus hi hz hsize hby hok ⟨l.toArray⟩ (by rw [hsz]; omega) h.bsize
            rw [strCells_bytes, hsz] at ho
            have hm : Moved S E w0.B w w' d k v' (.vec e 1 (xs ++ l.map byteD)) := by
              have hbu : u.ownBlock = blk (E k) := by rw [blk_own hok, hu']
              have hfar : ∀ g, blk v' = some g → blk (E k) = some g ∨ w.heap.size ≤ g := fun g hgb => by
                rw [← blk_own ho] at hgb
                rcases hat with h1 | h1
                · rw [h1, hbu] at hgb; exact .inl hgb
                · rw [h1] at hgb; cases hgb; exact .inr (Nat.le_refl _)
              refine ⟨by rw [← hbu]; exact hg, hfar, ⟨vals ++ l.map fun c => Value.int .u8 c.toNat, by simpa using ownR_of ho, fun x hx => ?_, by rw [flat_append]; exact hvk.append (vs_bytes l), fun c hc => ?_, fun g hgb a' ha => ?_⟩⟩
              · rcases List.mem_append.1 hx with h1 | h1
                · exact hxk x h1
                · exact byteD_cells x h1
              · rcases List.mem_append.1 hc with h1 | h1
                · exact h1k c h1
                · exact bytes_one c h1
              · simp only [if_true] at hgb
                rcases hfar g hgb with h1 | h1
                · exact hzk g h1 a' ha
                · cases hS : S a' with
                  | none => rfl
                  | some u' =>
                    have := World.block_lt_of_cell? w a' (h.inn a' u' hS).1
                    omega
            exact ⟨hdst _ rfl, v', w', by simp [hr], by simp [hk], hm, by simp [TV], rfl⟩
        · trivial
      · trivial
  · trivial

/-- a string's bytes as rows of the call's own. -/
theorem raw_good (h : Rel n w0 S0 S E s a w) {C : Cfg} (hC : ∀ t, C.ty t = tyOf P t) {src dst : TypeId} {d : Nat} (hdH : d < HB) {v : Value} {x : T} (hx : TV S E (frameOf a) v x) {guarded : Bool} :
    Good P n w0 S0 S E s a w (do pure (.value (← convert src dst v))) (rawE C s (tyOf P src) (tyOf P dst) d x guarded) := by
  unfold rawE
  split
  · rename_i e sz l hsrc hdst
    split
    · rename_i he
      rw [hC] at he
      have he' := tyOf_int he
      cases hb : (guarded || !Nat.beq sz 1) with
      | true => trivial
      | false =>
        simp only [cond_false]
        intro _
        have hs := tyOf_str hsrc
        obtain ⟨hd, _⟩ := tyOf_sl hdst
        have hvs : v = .string ⟨l.toArray⟩ := by
          have h1 : V S v (.str l) := hx
          cases h1; rfl
        subst hvs
        have hrun := Lib.run_convert_string_bytes (P := P) w src dst e ⟨l.toArray⟩ hs hd he'
        have hsz : (⟨l.toArray⟩ : ByteArray).size = l.length := by simp [ByteArray.size]
        have hcap : l.length ≤ grownCap w l.length 0 e := grownCap_ge w l.length 0 e
        rw [hsz] at hrun
        have hbel : w.grownBy (Lib.bytesWorld w e ⟨l.toArray⟩) none := by
          refine ⟨?_, ?_, ?_, by rw [Lib.bytesWorld_size]; omega, fun k hk _ => Lib.bytesWorld_at_old w e _ k hk⟩
          all_goals (unfold Lib.bytesWorld World.freeze; simp [World.alloc, World.drew, -World.alloc_eq, -World.drew_eq])
        have hcs : (Lib.bytesCells w e ⟨l.toArray⟩).size = grownCap w l.length 0 e := by
          simp only [Lib.bytesCells, hsz]
          simp; omega
        refine ⟨hdH, .slice (some ⟨w.heap.size, 0, none⟩) l.length (grownCap w l.length 0 e), Lib.bytesWorld w e ⟨l.toArray⟩, by simp only [Sem.run_bind, hrun, Result.andThen_ok]; rfl, ⟨hbel, fun g hg => by simp [blk] at hg; omega, ?_⟩, by simp [TV], rfl⟩
        refine ⟨l.map fun c => Value.int .u8 c.toNat, ⟨by simp, .inr ⟨w.heap.size, grownCap w l.length 0 e, _, by simp, h.bsize, e, _, Lib.bytesWorld_at_new w e _, by simpa using hcap, by rw [hcs]; simp, ?_, .inr ⟨rfl, by rw [hcs]; simp⟩⟩⟩, byteD_cells, vs_bytes l, bytes_one, fun g hg a' ha => ?_⟩
        · simp only [Lib.bytesCells, hsz]
          simp
        · simp only [if_true, blk, Option.some.injEq] at hg
          cases hS : S a' with
          | none => rfl
          | some u =>
            have := World.block_lt_of_cell? w a' (h.inn a' u hS).1
            omega
    · trivial
  · trivial

/-- unsafe.SliceData of rows of the call's own -/
theorem sliceData_good (h : Rel n w0 S0 S E s a w) {ts : Array TypeId} {ty : TypeId} {v : Value} {k e e' sz : Nat} {xs : List D} (hty : tyOf P ty = .ptr e) (hk : look s.ob k = some (.vec e' sz xs)) (hx : TV S E (frameOf a) v (.vec k)) :
    Good P n w0 S0 S E s a w (do pure (.value (← Builtin.unsafeSliceData_ ts ty #[v]))) (.val true (.sd k)) := by
  have hv : v = E k := hx
  subst hv
  obtain ⟨vals, ho, _⟩ := h.ob k _ hk
  intro _
  rcases ho.2 with ⟨hE, _⟩ | ⟨g, cap, cur, hE, hB, tt, fz, hh, _⟩
  · refine ⟨.pointer none, w, S, ?_, Grew.refl h.inn, ⟨none, rfl, .inl ⟨hE, rfl⟩⟩, rfl⟩
    rw [hE]
    simp [Lib.run_unsafeSliceData_nil]
  · by_cases hc : cap = 0
    · subst hc
      have hr := Lib.run_unsafeSliceData_zero (P := P) w ts ty e (tyOf_ptr hty) ⟨g, 0, none⟩ xs.length (tt, cur.size) (by simp [World.shape?, hh])
      have hb : Below w.heap.size w (w.alloc (.view ⟨g, 0, none⟩ e)) := (Below.refl _ _).alloc (Nat.le_refl _) _
      refine ⟨_, _, S, by rw [hE]; simp only [Sem.run_bind, hr, Result.andThen_ok]; rfl, ⟨hb, Snap.le.refl S, fun _ _ hu => .inl hu, h.inn.below hb⟩, ⟨some ⟨w.heap.size, 0, none⟩, rfl, .inr ⟨_, _, _, hE, fun h0 => absurd rfl h0⟩⟩, rfl⟩
    · have hr := Lib.run_unsafeSliceData_row (P := P) w ts ty ⟨g, 0, none⟩ xs.length cap hc
      exact ⟨_, w, S, by rw [hE]; simp only [Sem.run_bind, hr, Result.andThen_ok]; rfl, Grew.refl h.inn, ⟨some ⟨g, 0, none⟩, rfl, .inr ⟨_, _, _, hE, fun _ => rfl⟩⟩, rfl⟩

theorem bytes_vals {vals : List Value} {xs : List D} (hv : Vs S vals (flat xs)) (hall : allU8 xs = true) : vals.length = xs.length ∧ ∀ (j : Nat) u, vals[j]? = some u → u = .int .u8 (nth xs j).i := by
  obtain ⟨hf, hint⟩ := flat_scalar hall
  rw [hf] at hv
  refine ⟨hv.1, fun j u hu => ?_⟩
  have hlt : j < xs.length := by rw [← hv.1]; exact (List.getElem?_eq_some_iff.1 hu).1
  have hd := nth_lt hlt
  have h1 := hv.2 j u _ hu hd
  have h2 := hint _ (List.mem_of_getElem? hd)
  rw [h2] at h1
  cases h1; rfl

/-- unsafe.String of rows of bytes of the call's own: they are frozen. -/
theorem unsafeString_good (h : Rel n w0 S0 S E s a w) {pt it ty : TypeId} {u v : Value} {k e : Nat} (hMK : e < MK) {m : Int} {xs : List D} (hpt : tyOf P pt = .ptr e) (hte : tyOf P e = .int .u8) (hk : look s.ob k = some (.vec e 1 xs)) (hx : TV S E (frameOf a) u (.sd k)) (hy : TV S E (frameOf a) v (.d (.int .i64 m))) :
    Good P n w0 S0 S E s a w (do pure (.value (← Builtin.unsafeString_ #[pt, it] ty #[u, v]))) (.chg (decide (m = xs.length) && allB xs && decide (xs.length ≤ 4294967296)) k .junk (.d (.str (bytesOf xs)))) := by
  have hv : v = .int .i64 m := by
    have h1 : V S v (.int .i64 m) := hy
    cases h1; rfl
  subst hv
  intro hc
  simp only [Bool.and_eq_true, decide_eq_true_eq] at hc
  obtain ⟨⟨rfl, hall⟩, hle⟩ := hc
  obtain ⟨hall, hrange⟩ := allB_of hall
  obtain ⟨p, rfl, hp⟩ := hx
  obtain ⟨vals, ho, hxs, hvs, h1, hz⟩ := h.ob k _ hk
  replace ho := ho.own hMK
  have hlt := fun g => OV.lt (g := g) (h.ob k _ hk)
  have junk : ∀ w' : World, w'.heap.size = w.heap.size → OV S E w0.B w' k .junk := fun w' hs g hg => ⟨by rw [hs]; exact (hlt g hg).1, (hlt g hg).2, hz g hg⟩
  by_cases h0 : xs = []
  · subst h0
    refine ⟨.value (.string .empty), .string .empty, w, ?_, .inl rfl, by simp [hk], ⟨rfl, rfl, rfl, rfl, fun _ _ => rfl⟩, junk w rfl, ?_, rfl⟩
    · have := Lib.run_unsafeString_none (P := P) w pt it ty p
      simp only [List.length_nil, Int.natCast_zero, Sem.run_bind]
      rw [this]
      rfl
    · exact V.str .empty
  · have hl0 : xs.length ≠ 0 := fun e => h0 (List.eq_nil_of_length_eq_zero e)
    rcases ho.2 with ⟨_, h2⟩ | ⟨g, cap, cur, hE, hB, hh, hcap, hm, hcs, htake⟩
    · exact absurd h2 hl0
    · have hpa : p = some ⟨g, 0, none⟩ := by
        rcases hp with ⟨h3, _⟩ | ⟨a', len, cap', h3, h4⟩
        · rw [hE] at h3; cases h3
        · rw [hE] at h3
          simp only [Value.slice.injEq, Option.some.injEq] at h3
          obtain ⟨rfl, _, rfl⟩ := h3
          exact h4 (by omega)
      subst hpa
      obtain ⟨q1, q2⟩ := bytes_vals hvs hall
      have hce : P.cellsOf e = 1 := by
        have := tyOf_n (P := P) (t := e) (by rw [hte]; simp [Ty.n])
        rw [← this, hte]; rfl
      have hbl : (bytesOf xs).length = xs.length := by simp [bytesOf]
      have hr := Lib.run_unsafeString_row (P := P) w pt it ty e (tyOf_ptr hpt) hce g cur.size (by simp [World.shape?, hh]) (bytesOf xs) (fun e => h0 (by simpa [bytesOf] using e)) (by rw [hbl]; omega) (by rw [hbl]; omega) (fun j x hj => by
        have hj' : j < xs.length := by rw [← hbl]; exact (List.getElem?_eq_some_iff.1 hj).1
        have hvj : vals[j]? = some (vals[j]'(by omega)) := List.getElem?_eq_getElem _
        have h5 := ho.cells (g := g) (by rw [hE]; rfl) j _ hvj
        rw [h5, q2 j _ hvj]
        simp only [bytesOf, List.getElem?_map, nth_lt hj', Option.map_some, Option.some.injEq] at hj
        obtain ⟨r1, r2⟩ := hrange j hj'
        rw [← hj]
        congr 2
        simp only [UInt8.toNat_ofNat']
        omega)
      rw [hbl] at hr
      have hfz := Lib.below_freeze (Below.refl 0 w) (Nat.zero_le _) xs.length (p := ⟨g, 0, none⟩)
      refine ⟨.value (.string ⟨(bytesOf xs).toArray⟩), .string ⟨(bytesOf xs).toArray⟩, w.freeze ⟨g, 0, none⟩ xs.length, by simp only [Sem.run_bind, hr, Result.andThen_ok]; rfl, .inl rfl, by simp [hk], ⟨?_, hfz.os, hfz.tape, hfz.output, fun b hb => freeze_other w _ _ b (fun e => hb (by rw [hE, e]; rfl))⟩, junk _ ?_, ?_, rfl⟩
      · unfold World.freeze; split <;> simp
      · unfold World.freeze; split <;> simp
      · exact V.str ⟨(bytesOf xs).toArray⟩
theorem unsafeString_nil (h : Rel n w0 S0 S E s a w) {pt it ty : TypeId} {u v : Value} {m : Int} (hx : TV S E (frameOf a) u (.d .nil)) (hy : TV S E (frameOf a) v (.d (.int .i64 m))) :
    Good P n w0 S0 S E s a w (do pure (.value (← Builtin.unsafeString_ #[pt, it] ty #[u, v]))) (.val (decide (m = 0)) (.d (.str []))) := by
  have hv : v = .int .i64 m := by
    have h1 : V S v (.int .i64 m) := hy
    cases h1; rfl
  have hu : u = .pointer none := by
    have h1 : V S u .nil := hx
    cases h1; rfl
  subst hv; subst hu
  refine .str h (x := .empty) rfl fun hc => ?_
  have := of_decide_eq_true hc
  subst this
  exact Lib.run_unsafeString_none w pt it ty none

end Go.Ev
