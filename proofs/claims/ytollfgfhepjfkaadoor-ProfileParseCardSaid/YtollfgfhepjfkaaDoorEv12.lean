/- The evaluator 'Ev': each operation does what the evaluator says: append, make, rows that are handed on. -/
import Derived.Test.YtollfgfhepjfkaaDoorEv11
import Derived.Maps.AppendAt
import Derived.Lib.UnsafeStr
import Derived.MapKept
namespace Go.Ev
open Go Go.RowKit

variable {P : Program} {n : Nat} {w0 : Base P} {S0 S : Snap} {E : Nat → Value} {s : A} {a : Act} {w : World}

theorem zero_info {e : Nat} (h : (zeroOf P e).isEmpty = false) : ∃ i z, P.info? e = some i ∧ i.zero = some z ∧ z.cells.toList = zeroOf P e := by
  unfold zeroOf at h ⊢
  cases hi : P.info? e with
  | none => simp [hi] at h
  | some i =>
    cases hz : i.zero with
    | none => simp [hi, hz] at h
    | some z => exact ⟨i, z, rfl, hz, by simp [hz]⟩

/-- the run of an append onto what the call owns. -/
theorem append_run (h : Rel n w0 S0 S E s a w) {C : Cfg} (hT : Told P C) {t ty e sz m : Nat} (hnt : t < C.nt) (hty : C.ty t = .sl e sz) (hne : (C.zero e).isEmpty = false) (hzl : Nat.beq (C.zero e).length sz = true)
    {u v : Value} {xs : List Value} (hown : w.ownsRow w0.B e sz u m xs) {y : T} (hy : TV S E (frameOf a) v y) {ys : List D} (hd : y.data s = some (.sl sz ys)) (hle : m + ys.length ≤ 4294967296) :
    ∃ v' w' news, (Builtin.append_ #[t, t] ty #[u, v]).run P w = .ok v' w' ∧ w'.ownsRow w0.B e sz v' (m + ys.length) (xs ++ news) ∧ w.grownBy w' u.ownBlock ∧ (v'.ownBlock = u.ownBlock ∨ v'.ownBlock = some w.heap.size) ∧
      Vs S news (flat ys) ∧ (∀ c, c ∈ news → c.oneCell' = true) ∧ ∀ x, x ∈ ys → x.cells.length = sz := by
  rw [hT.ty] at hty
  obtain ⟨hu, hsz⟩ := tyOf_sl hty
  rw [hT.zero] at hne hzl
  obtain ⟨i, z, hi, hz, hzc⟩ := zero_info hne
  have hby := hT.bytes t hnt e i hu hi
  have hsz' : i.size = sz := by simpa [Program.cellsOf, hi] using hsz.symm
  have hzs : z.cells.size = sz := by rw [← nbeq_eq hzl, ← hzc]; simp
  have hpos : 0 < sz := by
    rw [← nbeq_eq hzl]
    cases hq : zeroOf P e with
    | nil => rw [hq] at hne; simp at hne
    | cons _ _ => simp
  rcases data_rows h hy hd with ⟨rfl, rfl⟩ | ⟨p, cap, vals, rfl, _, hxs, hvs, hc⟩
  · have hr := run_append_owned_none (P := P) w w0.B t ty e i sz hu hi u m xs hown
    exact ⟨u, w, [], hr, by simpa using hown, ⟨rfl, rfl, rfl, Nat.le_refl _, fun _ _ _ => rfl⟩, .inl rfl, Vs.nil S, fun c hc => by simp at hc, fun x hx => by cases hx⟩
  · have hl : vals.length = ys.length * sz := by rw [hvs.1, flat_length hxs]
    have hone : ∀ c, c ∈ vals → c.oneCell' = true := fun c hcm => by
      obtain ⟨j, hj⟩ := List.mem_iff_getElem?.1 hcm
      exact (hc j c hj).2
    have hb : (m + ys.length) * i.bytes ≤ 140737488355328 := by
      have h1 : (m + ys.length) * i.bytes ≤ 4294967296 * 32768 := Nat.mul_le_mul hle hby
      omega
    obtain ⟨v', w', hr, ho, hg, _, hat⟩ := run_append_own_at (P := P) w w0.B t ty e i z sz i.bytes hu hi hz hsz' rfl hzs hpos u m xs hown p ys.length cap vals hl (fun j c hj => (hc j c hj).1) hone (by unfold maxLen; omega) hb h.bsize
    exact ⟨v', w', vals, hr, ho, hg, hat, hvs, hone, hxs⟩

theorem append_good (h : Rel n w0 S0 S E s a w) {C : Cfg} (hT : Told P C) {t ty : Nat} (hnt : t < C.nt) {dst : Option Nat} (hdst : ∀ d, dst = some d → d < HB) {u v : Value} {x y : T} (hx : TV S E (frameOf a) u x) (hy : TV S E (frameOf a) v y) :
    Good P n w0 S0 S E s a w (do pure (.value (← Builtin.append_ #[t, t] ty #[u, v]))) (appendE C s (C.ty t) dst x y) := by
  unfold appendE
  split
  · rename_i e sz d sz' ys hty hd
    cases hc : (!Nat.beq sz sz' || (C.zero e).isEmpty || !Nat.beq (C.zero e).length sz) with
    | true => trivial
    | false =>
      simp only [Bool.or_eq_false_iff, Bool.not_eq_false'] at hc
      obtain ⟨⟨hss, hne⟩, hzl⟩ := hc
      have hss := nbeq_eq hss; subst hss
      simp only [cond_false]
      split
      · intro hle
        have hu : u = .slice none 0 0 := hx
        subst hu
        obtain ⟨v', w', news, hr, ho, hg, hat, hvs, hone, hxs⟩ := append_run h hT (ty := ty) hnt hty hne hzl (World.ownsRow_nil w w0.B e sz) hy hd (by simpa using of_decide_eq_true hle)
        have hm := h.rows' (d := d) (e := e) (sz := sz) (xs := ys) (v := v') (vals := news) (w' := w') hg (fun g hgb => by
          rw [← blk_own ho] at hgb
          rcases hat with h1 | h1
          · rw [h1] at hgb; cases hgb
          · rw [h1] at hgb; cases hgb; exact Nat.le_refl _) (by simpa using ho) hxs hvs hone
        exact ⟨hdst _ rfl, v', w', by simp [hr], hm, by simp [TV], rfl⟩
      · rename_i k
        split
        · rename_i e' sz'' xs hk
          cases hb : (Nat.beq sz sz'' && Nat.beq e e' && Nat.blt e MK) with
          | false => trivial
          | true =>
            simp only [Bool.and_eq_true] at hb
            have h1 := nbeq_eq hb.1.1; subst h1
            have h2 := nbeq_eq hb.1.2; subst h2
            have hMK : e < MK := Nat.le_of_ble_eq_true hb.2
            simp only [cond_true]
            intro hle
            have hu : u = E k := hx
            obtain ⟨vals, hok, hxk, hvk, h1k, hzk⟩ := h.ob k _ hk
            replace hok := hok.own hMK
            rw [← hu] at hok
            obtain ⟨v', w', news, hr, ho, hg, hat, hvs, hone, hxs⟩ := append_run h hT (ty := ty) hnt hty hne hzl hok hy hd (of_decide_eq_true hle)
            have hm : Moved S E w0.B w w' d k v' (.vec e sz (xs ++ ys)) := by
              have hbu : u.ownBlock = blk (E k) := by rw [blk_own hok, hu]
              have hfar : ∀ g, blk v' = some g → blk (E k) = some g ∨ w.heap.size ≤ g := fun g hgb => by
                rw [← blk_own ho] at hgb
                rcases hat with h1 | h1
                · rw [h1, hbu] at hgb; exact .inl hgb
                · rw [h1] at hgb; cases hgb; exact .inr (Nat.le_refl _)
              refine ⟨by rw [← hbu]; exact hg, hfar, ⟨vals ++ news, by simpa using ownR_of ho, fun x hx => ?_, by rw [flat_append]; exact hvk.append hvs, fun c hc => ?_, fun g hgb a' ha => ?_⟩⟩
              · rcases List.mem_append.1 hx with h1 | h1
                · exact hxk x h1
                · exact hxs x h1
              · rcases List.mem_append.1 hc with h1 | h1
                · exact h1k c h1
                · exact hone c h1
              · simp only [if_true] at hgb
                rcases hfar g hgb with h1 | h1
                · exact hzk g h1 a' ha
                · cases hS : S a' with
                  | none => rfl
                  | some u' =>
                    have := World.block_lt_of_cell? w a' (h.inn a' u' hS).1
                    omega
            exact ⟨hdst _ rfl, v', w', by simp [hr], by simp [hk], hm, by simp [TV], rfl⟩
        · trivial
      · trivial
  · trivial

/-- the run of an append of values onto what the call owns. -/
theorem append_runV (h : Rel n w0 S0 S E s a w) {C : Cfg} (hT : Told P C) {t ty e sz m : Nat} (hnt : t < C.nt) (hty : C.ty t = .sl e sz) (hne : (C.zero e).isEmpty = false) (hzl : Nat.beq (C.zero e).length sz = true)
    {u : Value} {xs : List Value} (hown : w.ownsRow w0.B e sz u m xs) {p : Addr} {len cap : Nat} {vals : List Value} (hl : vals.length = len * sz) (hc : ∀ (j : Nat) c, vals[j]? = some c → w.cell? (p.add j) = some c ∧ c.oneCell' = true) (hle : m + len ≤ 4294967296) :
    ∃ v' w', (Builtin.append_ #[t, t] ty #[u, .slice (some p) len cap]).run P w = .ok v' w' ∧ w'.ownsRow w0.B e sz v' (m + len) (xs ++ vals) ∧ w.grownBy w' u.ownBlock ∧ (v'.ownBlock = u.ownBlock ∨ v'.ownBlock = some w.heap.size) := by
  rw [hT.ty] at hty
  obtain ⟨hu, hsz⟩ := tyOf_sl hty
  rw [hT.zero] at hne hzl
  obtain ⟨i, z, hi, hz, hzc⟩ := zero_info hne
  have hby := hT.bytes t hnt e i hu hi
  have hsz' : i.size = sz := by simpa [Program.cellsOf, hi] using hsz.symm
  have hzs : z.cells.size = sz := by rw [← nbeq_eq hzl, ← hzc]; simp
  have hpos : 0 < sz := by
    rw [← nbeq_eq hzl]
    cases hq : zeroOf P e with
    | nil => rw [hq] at hne; simp at hne
    | cons _ _ => simp
  have hone : ∀ c, c ∈ vals → c.oneCell' = true := fun c hcm => by
    obtain ⟨j, hj⟩ := List.mem_iff_getElem?.1 hcm
    exact (hc j c hj).2
  have hb : (m + len) * i.bytes ≤ 140737488355328 := by
    have h1 : (m + len) * i.bytes ≤ 4294967296 * 32768 := Nat.mul_le_mul hle hby
    omega
  obtain ⟨v', w', hr, ho, hg, _, hat⟩ := run_append_own_at (P := P) w w0.B t ty e i z sz i.bytes hu hi hz hsz' rfl hzs hpos u m xs hown p len cap vals hl (fun j c hj => (hc j c hj).1) hone (by unfold maxLen; omega) hb h.bsize
  exact ⟨v', w', hr, ho, hg, hat⟩

theorem appendO_good (h : Rel n w0 S0 S E s a w) {C : Cfg} (hT : Told P C) {t ty : Nat} (hnt : t < C.nt) {dst : Option Nat} (hdst : ∀ d, dst = some d → d < HB) {u v : Value} {x y : T} (hx : TV S E (frameOf a) u x) (hy : TV S E (frameOf a) v y) {ef : Eff} (he : appendO C s (C.ty t) dst x y = some ef) :
    Good P n w0 S0 S E s a w (do pure (.value (← Builtin.append_ #[t, t] ty #[u, v]))) ef := by
  unfold appendO at he
  split at he
  · rename_i e sz d k2 hty
    split at he
    · rename_i e2 sz2 ys cs hk2
      cases hc : (!Nat.beq sz sz2 || !ys.isEmpty || (C.zero e).isEmpty || !Nat.beq (C.zero e).length sz) with
      | true => rw [hc] at he; cases he; trivial
      | false =>
        rw [hc] at he
        simp only [cond_false] at he
        simp only [Bool.or_eq_false_iff, Bool.not_eq_false'] at hc
        obtain ⟨⟨⟨hss, hys⟩, hne⟩, hzl⟩ := hc
        have hss := nbeq_eq hss; subst hss
        have hys := List.isEmpty_iff.1 hys; subst hys
        have hv : v = E k2 := hy
        obtain ⟨vals2, ho2, _, hl2, _, h12, hc2, _⟩ := h.ob k2 _ hk2
        rcases ho2.2 with ⟨_, h0⟩ | ⟨g2, cap2, cur2, hE2, _⟩
        · simp at h0
        have hcell2 : ∀ (j : Nat) c, vals2[j]? = some c → w.cell? ((⟨g2, 0, none⟩ : Addr).add j) = some c ∧ c.oneCell' = true := fun j c hj => by
          exact ⟨ho2.cells (g := g2) (by rw [hE2]; rfl) j c hj, h12 c (List.mem_of_getElem? hj)⟩
        have hkill : ∀ (d : Nat) (v' : Value) (j : Nat) u c, vals2[j]? = some u → (cs.map (T.kill d))[j]? = some c → c.bare = true ∧ TV S (fun j => if j = d then v' else E j) (fun _ => undef) u c := by
          intro d v' j u c hu hc
          simp only [List.getElem?_map, Option.map_eq_some_iff] at hc
          obtain ⟨c', hc', rfl⟩ := hc
          obtain ⟨h2, h3⟩ := hc2 j u c' (by simpa using hu) hc'
          refine ⟨?_, TV.kill (fun j hj => by simp [hj]) h3⟩
          unfold T.kill
          cases c'.refs d
          · exact h2
          · rfl
        split at he
        · cases he
          intro _
          have hu : u = .slice none 0 0 := hx
          subst hu
          obtain ⟨v', w', hr, ho, hg, hat⟩ := append_runV h hT (ty := ty) hnt hty hne hzl (World.ownsRow_nil w w0.B e sz) ho2.1 (cap := cap2) hcell2 (by simp)
          have hfar : ∀ g, blk v' = some g → w.heap.size ≤ g := fun g hgb => by
            rw [← blk_own ho] at hgb
            rcases hat with h1 | h1
            · rw [h1] at hgb; cases hgb
            · rw [h1] at hgb; cases hgb; exact Nat.le_refl _
          rw [hv, hE2]
          simp only [List.length_nil] at hr ho ⊢
          refine ⟨hdst _ rfl, v', w', by simp only [Sem.run_bind, hr, Result.andThen_ok]; rfl, ⟨hg, hfar, ⟨vals2, by simpa using ho, (fun _ hx => absurd hx List.not_mem_nil), by simpa using hl2, (by first | (simp [flat]; done) | (simp [flat]; exact Vs.nil _)), h12, fun j u c hu hc => hkill d v' j u c (by simpa using hu) hc, fun g hgb a' ha => ?_⟩⟩, by simp [TV], rfl⟩
          simp only [if_true] at hgb
          cases hS : S a' with
          | none => rfl
          | some u' =>
            have := World.block_lt_of_cell? w a' (h.inn a' u' hS).1
            have := hfar g hgb
            omega
        · rename_i k
          split at he
          · rename_i e' sz' xs hk
            cases hb : (Nat.beq sz sz' && Nat.beq e e' && Nat.blt e MK) with
            | false => rw [hb] at he; cases he; trivial
            | true =>
              rw [hb] at he
              simp only [cond_true, Option.some.injEq] at he
              subst he
              simp only [Bool.and_eq_true] at hb
              have h1 := nbeq_eq hb.1.1; subst h1
              have h2 := nbeq_eq hb.1.2; subst h2
              have hMK : e < MK := Nat.le_of_ble_eq_true hb.2
              intro hle
              have hu : u = E k := hx
              obtain ⟨vals, hok, hxk, hvk, h1k, hzk⟩ := h.ob k _ hk
              replace hok := hok.own hMK
              rw [← hu] at hok
              obtain ⟨v', w', hr, ho, hg, hat⟩ := append_runV h hT (ty := ty) hnt hty hne hzl hok ho2.1 (cap := cap2) hcell2 (by simpa using of_decide_eq_true hle)
              have hbu : u.ownBlock = blk (E k) := by rw [blk_own hok, hu]
              have hfar : ∀ g, blk v' = some g → blk (E k) = some g ∨ w.heap.size ≤ g := fun g hgb => by
                rw [← blk_own ho] at hgb
                rcases hat with h1 | h1
                · rw [h1, hbu] at hgb; exact .inl hgb
                · rw [h1] at hgb; cases hgb; exact .inr (Nat.le_refl _)
              have hvl : vals.length = xs.length * sz := hok.1
              rw [hv, hE2]
              simp only [List.length_nil, Nat.zero_add] at hr ho ⊢
              refine ⟨hdst _ rfl, v', w', by simp only [Sem.run_bind, hr, Result.andThen_ok]; rfl, by simp [hk], ⟨by rw [← hbu]; exact hg, hfar, ⟨vals ++ vals2, by simpa using ho, hxk, by simpa using hl2, ?_, fun c hc => ?_, fun j u c hu hc => ?_, fun g hgb a' ha => ?_⟩⟩, by simp [TV], rfl⟩
              · rw [← hvl, List.take_left]; exact hvk
              · rcases List.mem_append.1 hc with h1 | h1
                · exact h1k c h1
                · exact h12 c h1
              · rw [← hvl, List.getElem?_append_right (by omega), Nat.add_sub_cancel_left] at hu
                exact hkill d v' j u c hu hc
              · simp only [if_true] at hgb
                rcases hfar g hgb with h1 | h1
                · exact hzk g h1 a' ha
                · cases hS : S a' with
                  | none => rfl
                  | some u' =>
                    have := World.block_lt_of_cell? w a' (h.inn a' u' hS).1
                    omega
          · cases he; trivial
        · cases he; trivial
    · cases he
  · cases he

theorem flat_replicate (z : D) : ∀ m, flat (List.replicate m z) = (List.replicate m z.cells).flatten
  | 0 => rfl
  | m + 1 => by simp [List.replicate_succ, flat, flat_replicate z m]

theorem flatten_get {α : Type} (l : List α) : ∀ (m j : Nat), j < m * l.length → (List.replicate m l).flatten[j]? = l[j % l.length]?
  | 0, j, h => by simp at h
  | m + 1, j, h => by
    have hpos : 0 < l.length := by
      rcases Nat.eq_zero_or_pos l.length with h0 | h0
      · rw [h0] at h; simp at h
      · exact h0
    simp only [List.replicate_succ, List.flatten_cons]
    by_cases hj : j < l.length
    · rw [List.getElem?_append_left hj, Nat.mod_eq_of_lt hj]
    · rw [List.getElem?_append_right (by omega), flatten_get l m (j - l.length) (by rw [Nat.add_mul] at h; omega)]
      congr 1
      rw [Nat.mod_eq_sub_mod (by omega : j ≥ l.length)]

theorem makeSlice_good (h : Rel n w0 S0 S E s a w) {C : Cfg} (hT : Told P C) {t e sz d : Nat} (hdH : d < HB) (hnt : t < C.nt) (hty : C.ty t = .sl e sz) {kl kc : IntKind} {nl nc : Int} :
    Good P n w0 S0 S E s a w (do pure (.value (← Instr.makeSlice t (.int kl nl) (.int kc nc))))
      (bif (C.zero e).isEmpty || !(C.zero e).all Value.oneCell' || !Nat.beq (C.zero e).length sz || !((C.ty e).isAgg || Nat.beq sz 1) then .fail else
        .mk (decide (0 ≤ nl) && decide (nl = nc) && decide (nl ≤ 4294967296)) d (.vec e sz (List.replicate nl.toNat (bif (C.ty e).isAgg then D.agg (zerosD C e) else nth (zerosD C e) 0))) (.vec d)) := by
  cases hc : ((C.zero e).isEmpty || !(C.zero e).all Value.oneCell' || !Nat.beq (C.zero e).length sz || !((C.ty e).isAgg || Nat.beq sz 1)) with
  | true => trivial
  | false =>
    simp only [Bool.or_eq_false_iff, Bool.not_eq_false'] at hc
    obtain ⟨⟨⟨hne, hone⟩, hzl⟩, hag⟩ := hc
    simp only [cond_false]
    intro hck
    simp only [Bool.and_eq_true, decide_eq_true_eq] at hck
    obtain ⟨⟨h0, heq⟩, hle⟩ := hck
    subst heq
    obtain ⟨m, rfl⟩ := Int.eq_ofNat_of_zero_le h0
    simp only [Int.toNat_natCast]
    rw [hT.ty] at hty
    obtain ⟨hu, hsz⟩ := tyOf_sl hty
    have hzv : Vs S (zeroOf P e) (zerosD C e) := zeros_vs hT.zero e
    rw [hT.zero] at hne hzl hone
    have hzlen := nbeq_eq hzl
    obtain ⟨i, z, hi, hz, hzc⟩ := zero_info hne
    have hby := hT.bytes t hnt e i hu hi
    have hsz' : i.size = sz := by simpa [Program.cellsOf, hi] using hsz.symm
    have hzs : z.cells.size = sz := by rw [← hzlen, ← hzc]; simp
    obtain ⟨w', hr, ho, hg⟩ := run_make_full (P := P) w w0.B t e i z sz hu hi hz hsz' kl kc m (by
      have h1 : i.bytes * m ≤ 32768 * 4294967296 := Nat.mul_le_mul hby (by omega)
      omega) (by unfold maxLen; omega) h.bsize
    have hself := cells_selfs hzv (fun j u hj => List.all_eq_true.1 hone u (List.mem_of_getElem? hj))
    have hzl2 : (zerosD C e).length = sz := by rw [← hzv.1, hzlen]
    have hzcells : (bif (C.ty e).isAgg then D.agg (zerosD C e) else nth (zerosD C e) 0).cells = zerosD C e := by
      cases hA : (C.ty e).isAgg with
      | true => rfl
      | false =>
        rw [hA] at hag
        have h1 : sz = 1 := nbeq_eq (by simpa using hag)
        rw [h1] at hzl2
        obtain ⟨q, hq⟩ := List.length_eq_one_iff.1 hzl2
        rw [hq] at hself ⊢
        exact hself q (by simp)
    have hmade : ∀ (j : Nat) c, (madeCells z.cells (m * sz)).toList[j]? = some c → j < m * sz ∧ (zeroOf P e)[j % sz]? = some c := by
      intro j c hj
      have hlt : j < m * sz := by have := (List.getElem?_eq_some_iff.1 hj).1; simpa [size_madeCells] using this
      refine ⟨hlt, ?_⟩
      have hpos : 0 < sz := by
        rcases Nat.eq_zero_or_pos sz with h0 | h0
        · subst h0; simp at hlt
        · exact h0
      simp only [madeCells, Array.getElem?_toList] at hj
      have hlt2 : j % sz < z.cells.size := by rw [hzs]; exact Nat.mod_lt _ hpos
      rw [← hzc]
      simp only [hzs] at hj
      simp [hlt] at hj
      rw [Array.getElem?_toList, Array.getElem?_eq_getElem hlt2, ← hj]
      simp [hlt2]
    have hvs : Vs S (madeCells z.cells (m * sz)).toList (flat (List.replicate m (bif (C.ty e).isAgg then D.agg (zerosD C e) else nth (zerosD C e) 0))) := by
      rw [flat_replicate, hzcells]
      refine ⟨by simp [size_madeCells, hzl2], fun j u d hu hd => ?_⟩
      obtain ⟨hlt, hz1⟩ := hmade j u hu
      rw [flatten_get _ _ _ (by rw [hzl2]; exact hlt), hzl2] at hd
      exact hzv.2 _ u d hz1 hd
    have hm := h.rows' (d := d) (e := e) (sz := sz) (xs := List.replicate m (bif (C.ty e).isAgg then D.agg (zerosD C e) else nth (zerosD C e) 0)) (v := .slice (some ⟨w.heap.size, 0, none⟩) m m) (vals := (madeCells z.cells (m * sz)).toList) (w' := w')
      hg (fun g hgb => by simp [blk] at hgb; omega) (by simpa using ho) (fun x hx => by
        rw [List.eq_of_mem_replicate hx, hzcells, hzl2]) hvs (fun c hc => by
        obtain ⟨j, hj⟩ := List.mem_iff_getElem?.1 hc
        exact List.all_eq_true.1 hone c (List.mem_of_getElem? (hmade j c hj).2))
    exact ⟨hdH, _, w', by simp only [Sem.run_bind, hr, Result.andThen_ok]; rfl, hm, by simp [TV], rfl⟩

theorem freeze_other (w : World) (p : Addr) (m : Nat) (g : Nat) (hg : g ≠ p.block) : (w.freeze p m).heap[g]? = w.heap[g]? := by
  unfold World.freeze
  split
  · rfl
  · simp only [Array.getElem?_modify]
    rw [if_neg (Ne.symm hg)]
theorem freeze_cell (w : World) (p : Addr) (m : Nat) (b : Addr) {v : Value} (h : w.cell? b = some v) : (w.freeze p m).cell? b = some v := by
  by_cases hb : b.block = p.block
  · unfold World.freeze
    split
    · exact h
    · unfold World.cell? at h ⊢
      simp only [Array.getElem?_modify]
      rw [if_pos hb.symm]
      cases hw : w.heap[b.block]? with
      | none => rw [hw] at h; simp at h
      | some o =>
        rw [hw] at h
        cases o <;> simp_all
  · rw [World.cell?_of_block (freeze_other w p m b.block hb)]; exact h

theorem Rel.frz (h : Rel n w0 S0 S E s a w) {p : Addr} (m : Nat) (hg : ¬ w0.G p.block) (hno : ∀ j, (look s.ob j).isSome → blk (E j) ≠ some p.block) : Rel n w0 S0 S E s a (w.freeze p m) := by
  have hfz := Lib.below_freeze (Below.refl 0 w) (Nat.zero_le _) m (p := p)
  refine ⟨h.defers, h.size, h.thin, h.tm, h.le, h.new, fun a' u hu => ⟨freeze_cell w p m a' (h.inn a' u hu).1, (h.inn a' u hu).2⟩, fun k o hk => ?_, h.sep, h.below.trans hfz.os hfz.tape hfz.output hfz.size (fun g hG => freeze_other w p m g fun e => hg (by rw [← e]; exact hG)), h.own, h.high⟩
  exact (h.ob k o hk).move (Snap.le.refl S) (fun g hgk => freeze_other w p m g fun e => hno k (by simp [hk]) (by rw [← e]; exact hgk)) (fun g hgk a' ha => (h.ob k o hk).off hgk a' ha)

theorem bytes_good (h : Rel n w0 S0 S E s a w) {C : Cfg} (hC : ∀ t, C.ty t = tyOf P t) {t : TypeId} {v : Value} {x : T} (hx : TV S E (frameOf a) v x) :
    Good P n w0 S0 S E s a w (do pure (.value (← convert t t v))) (bytesE C s (tyOf P t) x) := by
  unfold bytesE
  split
  · rename_i e sz k hty
    obtain ⟨hu, _⟩ := tyOf_sl hty
    split
    · rename_i e' sz' xs hte hk
      rw [hC] at hte
      have hue := tyOf_int hte
      intro hlt
      have hpos : 0 < xs.length := Nat.le_of_ble_eq_true hlt
      obtain ⟨vals, ho, _⟩ := h.ob k _ hk
      have hx' : v = E k := hx
      rcases ho.2 with ⟨_, h0⟩ | ⟨g, cap, cur, hE, hB, tt, fz, hh, _⟩
      · omega
      · obtain ⟨S', hle, hrel, hV⟩ := h.stow hk
        have hbk : blk (E k) = some g := by rw [hE]; rfl
        have hrel2 := hrel.frz (p := ⟨g, cur.size, none⟩) 1 (h.own k g (by simp [hk]) hbk) (fun j hj => by
          simp only [A.stow, look_map, look_drop, Option.isSome_map] at hj
          split at hj
          · simp at hj
          · rename_i hne
            exact h.sep k j g (by simp [hk]) hj (Ne.symm hne) hbk)
        refine ⟨.value v, v, w.freeze ⟨g, cur.size, none⟩ 1, S', E, ?_, .inl rfl, hrel2, hle, ?_, rfl⟩
        · rw [hx', hE]
          simp [convert, run_underlying hu, run_underlying hue, markStringish, shape, Sem.run, World.shape?, hh]
        · rw [hx']; exact hV
    · trivial
  · trivial

/-! ### sets -/
open Go.MapKept (run_checkKey run_findKey heap_set heap_alloc IsKey)
theorem V_str_inv {v : Value} {l : List UInt8} (h : V S v (.str l)) : v = .string ⟨l.toArray⟩ := by
  cases h; rfl
theorem setOk_of {t : TypeId} (h : setOkP P t = true) : ∃ k e i, P.underlying t = some (.map k e) ∧ P.underlying k = some .string ∧ P.info? e = some i ∧ i.zero = some (.bool false) := by
  unfold setOkP at h
  split at h
  · rename_i k e hu
    simp only [Bool.and_eq_true] at h
    obtain ⟨h1, h2⟩ := h
    split at h1
    · rename_i hk
      split at h2
      · rename_i i hi
        split at h2
        · rename_i hz
          exact ⟨k, e, i, hu, hk, hi, hz⟩
        · cases h2
      · cases h2
    · cases h1
  · cases h
theorem findNow_set (l : List UInt8) : ∀ (es : List MapEntry) (ls : List (List UInt8)) (i : Nat), es.map (fun e => (e.key, e.val)) = ls.map (fun l => (Value.string ⟨l.toArray⟩, Value.bool true)) →
    (keyB ls l = false → Instr.findNow .string (.string ⟨l.toArray⟩) es i = some none) ∧
    (keyB ls l = true → ∃ j e, Instr.findNow .string (.string ⟨l.toArray⟩) es i = some (some (i + j, .bool true)) ∧ es[j]? = some e ∧ e.key = .string ⟨l.toArray⟩ ∧ e.val = .bool true)
  | [], ls, i, h => by
    cases ls with
    | nil => exact ⟨fun _ => rfl, fun hk => by simp [keyB] at hk⟩
    | cons x r => simp at h
  | e :: es, [], i, h => by simp at h
  | e :: es, x :: ls, i, h => by
    simp only [List.map_cons, List.cons.injEq, Prod.mk.injEq] at h
    obtain ⟨⟨hk, hv⟩, hr⟩ := h
    obtain ⟨ih1, ih2⟩ := findNow_set l es ls (i + 1) hr
    have hb : ((⟨l.toArray⟩ : ByteArray) == ⟨x.toArray⟩) = decide (l = x) := by
      rw [Bool.eq_iff_iff, Go.MapKept.bytes_beq]
      simp
    by_cases he : l = x
    · subst he
      refine ⟨fun hf => by simp [keyB] at hf, fun _ => ⟨0, e, ?_, rfl, hk, hv⟩⟩
      simp only [Instr.findNow, hk, Instr.sameNow, hb, decide_true, hv, Nat.add_zero]
    · refine ⟨fun hf => ?_, fun ht => ?_⟩
      · simp only [Instr.findNow, hk, Instr.sameNow, hb, decide_eq_false he]
        exact ih1 (by simpa [keyB, he] using hf)
      · obtain ⟨j, e', h1, h2, h3, h4⟩ := ih2 (by simpa [keyB, he] using ht)
        refine ⟨j + 1, e', ?_, by simpa using h2, h3, h4⟩
        simp only [Instr.findNow, hk, Instr.sameNow, hb, decide_eq_false he]
        rw [h1]; congr 3; omega

theorem makeMap_good (h : Rel n w0 S0 S E s a w) {t d : Nat} (hdH : d < HB) : Good P n w0 S0 S E s a w (do pure (.value (← Instr.makeMap t none))) (.mk true d (.set []) (.vec d)) := by
  intro _
  have hb : Below w.heap.size w (w.alloc (.map #[] 0)) := (Below.refl _ _).alloc (Nat.le_refl _) _
  refine ⟨hdH, .map (some w.heap.size), w.alloc (.map #[] 0), by simp [Instr.makeMap, Result.andThen], ⟨below_grown hb, fun g hg => by simp [blk] at hg; omega, ?_⟩, by simp [TV], rfl⟩
  refine ⟨w.heap.size, #[], 0, by simp, (heap_alloc w _).1, by simp, h.bsize, fun a' ha => ?_⟩
  cases hS : S a' with
  | none => rfl
  | some u =>
    have := World.block_lt_of_cell? w a' (h.inn a' u hS).1
    omega

theorem lookup_good (h : Rel n w0 S0 S E s a w) {t : TypeId} (ht : setOkP P t = true) {k : Nat} {ls : List (List UInt8)} (hk : look s.ob k = some (.set ls)) {vm vi : Value} (hm : TV S E (frameOf a) vm (.vec k)) {l : List UInt8} (hi : TV S E (frameOf a) vi (.d (.str l))) :
    Good P n w0 S0 S E s a w (do pure (.value (← Instr.lookup t vm vi false))) (.val true (.d (.bool (keyB ls l)))) := by
  obtain ⟨kt, e, i, hu, hks, hinfo, hz⟩ := setOk_of ht
  obtain ⟨g, es, clock, hE, hh, hes, _, _⟩ := h.ob k _ hk
  have hm' : vm = .map (some g) := by rw [← hE]; exact hm
  have hi' := V_str_inv hi
  subst hm'; subst hi'
  refine .bool h fun _ => ?_
  have hc := run_checkKey (w := w) hks (show IsKey .string (.string ⟨l.toArray⟩) from trivial) es.isEmpty 9999
  obtain ⟨f1, f2⟩ := findNow_set l es.toList ls 0 hes
  cases hkb : keyB ls l with
  | false =>
    have hf := run_findKey (w := w) hks (f1 hkb)
    simp only [Instr.lookup, Sem.run_bind, run_underlying hu, Result.andThen_ok, Go.MapKept.run_getObj_map hh, Sem.run_pure, hc, hf]
    simp [zeroValue, typeInfo, hinfo, hz]
  | true =>
    obtain ⟨j, e', q1, _, _, q4⟩ := f2 hkb
    have hf := run_findKey (w := w) hks q1
    simp only [Instr.lookup, Sem.run_bind, run_underlying hu, Result.andThen_ok, Go.MapKept.run_getObj_map hh, Sem.run_pure, hc, hf]
    simp

theorem mapUpdate_good (h : Rel n w0 S0 S E s a w) {t : TypeId} (ht : setOkP P t = true) {k : Nat} {ls : List (List UInt8)} (hk : look s.ob k = some (.set ls)) {vm vi vx : Value} (hm : TV S E (frameOf a) vm (.vec k)) {l : List UInt8} (hi : TV S E (frameOf a) vi (.d (.str l)))
    {b : Bool} (hx : TV S E (frameOf a) vx (.d (.bool b))) :
    Good P n w0 S0 S E s a w (do Instr.mapUpdate t vm vi vx; pure .skip) (.chg b k (.set (bif keyB ls l then ls else ls ++ [l])) .undef) := by
  obtain ⟨kt, e, i, hu, hks, hinfo, hz⟩ := setOk_of ht
  obtain ⟨g, es, clock, hE, hh, hes, hB, hS⟩ := h.ob k _ hk
  have hm' : vm = .map (some g) := by rw [← hE]; exact hm
  have hi' := V_str_inv hi
  have hx' : vx = .bool b := by
    have hx2 : V S vx (.bool b) := hx
    cases hx2; rfl
  subst hm'; subst hi'; subst hx'
  intro hbt
  subst hbt
  have hc := run_checkKey (w := w) hks (show IsKey .string (.string ⟨l.toArray⟩) from trivial) false 9999
  obtain ⟨f1, f2⟩ := findNow_set l es.toList ls 0 hes
  have hset : ∀ es' clock', (w.heap.setIfInBounds g (.map es' clock'))[g]? = some (.map es' clock') := fun es' clock' => (heap_set hh).1
  have hother : ∀ o' r', r' ≠ g → (w.heap.setIfInBounds g o')[r']? = w.heap[r']? := fun o' r' hne => (heap_set (o' := o') hh).2 r' hne
  have hchg : ∀ o', Chg E k w { w with heap := w.heap.setIfInBounds g o' } := fun o' =>
    ⟨by simp, rfl, rfl, rfl, fun g' hg' => hother o' g' fun e => hg' (by subst e; rw [hE]; rfl)⟩
  cases hkb : keyB ls l with
  | false =>
    have hf := run_findKey (w := w) hks (f1 hkb)
    refine ⟨.skip, undef, { w with heap := w.heap.setIfInBounds g (.map (es.push { key := .string ⟨l.toArray⟩, val := .bool true, born := clock }) (clock + 1)) }, ?_, .inr ⟨rfl, rfl⟩, by simp [hk], hchg _, ?_, trivial, rfl⟩
    · simp only [Instr.mapUpdate, Sem.run_bind, run_underlying hu, Result.andThen_ok, Go.MapKept.run_getObj_map hh, hc, hf, Go.MapKept.run_setObj_map _ hh, Sem.run_pure]
    · refine ⟨g, _, _, hE, hset _ _, ?_, hB, hS⟩
      simp only [cond_false, Array.toList_push, List.map_append, hes, List.map_cons, List.map_nil]
  | true =>
    obtain ⟨j, e', q1, q2, q3, q4⟩ := f2 hkb
    have hf := run_findKey (w := w) hks q1
    have hge : es[0 + j]? = some e' := by rw [Nat.zero_add]; simpa using q2
    have hstay : (Instr.keyThatStays (((es[0 + j]?).map (·.key)).getD (.string ⟨l.toArray⟩)) (.string ⟨l.toArray⟩)).run P w = .ok (.string ⟨l.toArray⟩) w := by
      rw [hge]
      simp only [Option.map_some, Option.getD_some, q3, Instr.keyThatStays]
      have : Instr.sameBits 10000 (.string ⟨l.toArray⟩) (.string ⟨l.toArray⟩) = true := by simp [Instr.sameBits, Go.MapKept.bytes_beq]
      rw [if_pos this]
      simp
    refine ⟨.skip, undef, { w with heap := w.heap.setIfInBounds g (.map (es.modify (0 + j) fun e => { e with key := .string ⟨l.toArray⟩, val := .bool true }) clock) }, ?_, .inr ⟨rfl, rfl⟩, by simp [hk], hchg _, ?_, trivial, rfl⟩
    · simp only [Instr.mapUpdate, Sem.run_bind, run_underlying hu, Result.andThen_ok, Go.MapKept.run_getObj_map hh, hc, hf, hstay, Go.MapKept.run_setObj_map _ hh, Sem.run_pure]
    · refine ⟨g, _, _, hE, hset _ _, ?_, hB, hS⟩
      simp only [cond_true]
      rw [← hes]
      apply List.ext_getElem?
      intro p
      simp only [List.getElem?_map, Array.toList_modify, List.getElem?_modify]
      by_cases hp : 0 + j = p
      · subst hp
        rw [Nat.zero_add, q2]
        simp [q3, q4]
      · simp only [hp, if_false]
        cases es.toList[p]? <;> simp

end Go.Ev
