/- The evaluator 'Ev': each operation does what the evaluator says: parts, tests, copies. -/
import Derived.Test.YtollfgfhepjfkaaDoorEv6
namespace Go.Ev
open Go Go.RowKit

variable {P : Program} {n : Nat} {w0 : Base P} {S0 S : Snap} {E : Nat → Value} {s : A} {a : Act} {w : World}

theorem index_good (h : Rel n w0 S0 S E s a w) {t : TypeId} {v : Value} {k : IntKind} {i : Int} {l : List UInt8} (hty : tyOf P t = .str) (hx : TV S E (frameOf a) v (.d (.str l))) :
    Good P n w0 S0 S E s a w (do pure (.value (← Instr.index t v (.int k i)))) (.val (decide (0 ≤ i) && decide (i < l.length)) (.d (.int .u8 (l.getD i.toNat 0).toNat))) := by
  have hu := tyOf_str hty
  cases hx
  rename_i s'
  refine .int h fun hc => ?_
  obtain ⟨h0, h1, h2⟩ := okB hc
  have hlt : i.toNat < s'.size := by simpa using h2
  have hget : s'[i.toNat]? = some (s'.data.toList.getD i.toNat 0) := by
    have : s'[i.toNat]? = some s'[i.toNat] := by simp [hlt]
    rw [this]
    congr 1
    rw [List.getD_eq_getElem?_getD, List.getElem?_eq_getElem (by simpa using hlt)]
    rfl
  simp [Instr.index, asIntOf, run_underlying hu, h0, hget]

theorem run_part_agg {u : TypeId} {d : TypeDesc} (hu : P.underlying u = some d) (hg : (tyOf P u).isAgg = true) (cs : Array Value) (off : Nat) :
    (part u cs off).run P w = .ok (.agg (cs.extract off (off + (tyOf P u).n))) w := by
  simp [part, run_isAgg hu, hg, run_info hu, isAgg_n hg]
theorem run_part_one {u : TypeId} {d : TypeDesc} (hu : P.underlying u = some d) (hg : (tyOf P u).isAgg = false) {cs : Array Value} {off : Nat} {v : Value} (hv : cs[off]? = some v) :
    (part u cs off).run P w = .ok v w := by
  simp [part, run_isAgg hu, hg, hv]

theorem field_good (h : Rel n w0 S0 S E s a w) {t u : TypeId} {v : Value} {f m off : Nat} {fs : List (Nat × Nat)} {cs : List D} (hty : tyOf P t = .st m fs) (hf : fs[f]? = some (u, off)) (_hl : cs.length = m)
    (hx : TV S E (frameOf a) v (.d (.agg cs))) :
    Good P n w0 S0 S E s a w (do pure (.value (← Instr.field t v f))) (match (tyOf P u).isAgg with
        | true => .val (Nat.ble (off + (tyOf P u).n) cs.length) (.d (.agg (cut cs off (tyOf P u).n)))
        | false => .val (okD (tyOf P u) (nth cs off)) (.d (asD (tyOf P u) (nth cs off)))) := by
  obtain ⟨flds, hu, _, hfs⟩ := tyOf_st hty
  subst hfs
  simp only [List.getElem?_map, Option.map_eq_some_iff, Prod.mk.injEq] at hf
  obtain ⟨fd, hfd, rfl, rfl⟩ := hf
  have hfd' : flds[f]? = some fd := by simpa using hfd
  have hx' : V S v (.agg cs) := hx
  cases hx' with
  | agg vs _ hn hv1 hh =>
    split
    · rename_i hg
      obtain ⟨d, hd⟩ := tyOf_und (P := P) (t := fd.type) (fun e => by rw [e] at hg; cases hg)
      refine .calc h fun hle => ⟨_, by simp [Instr.field, run_underlying hu, hfd', asAgg, run_part_agg hd hg]; rfl, ?_, rfl⟩
      have hle' := Nat.le_of_ble_eq_true hle
      have hvs : Vs S vs.toList cs := ⟨by simpa using hn, fun j u d hu hd => hh j u d (by simpa using hu) hd⟩
      show V S _ (.agg (cut cs _ _))
      rw [cut_eq hle']
      have := V_agg_of (fun j u hu => by rw [List.getElem?_take] at hu; split at hu; (rw [List.getElem?_drop] at hu; exact hv1 _ u (by simpa using hu)); cases hu) ((hvs.drop fd.offset).take (tyOf P fd.type).n)
      have he : ((vs.toList.drop fd.offset).take (tyOf P fd.type).n).toArray = vs.extract fd.offset (fd.offset + (tyOf P fd.type).n) := by
        apply Array.ext'
        simp [Nat.add_sub_cancel_left]
      rw [he] at this
      exact this
    · rename_i hg
      refine .calc h fun hok => ?_
      obtain ⟨d, hd⟩ := tyOf_und (P := P) (t := fd.type) (ty_ne hok)
      have h1 := nth_some (okD_ne hok)
      have hlt : fd.offset < vs.size := by rw [hn]; exact (List.getElem?_eq_some_iff.1 h1).1
      have hv : vs[fd.offset]? = some vs[fd.offset] := Array.getElem?_eq_getElem hlt
      refine ⟨vs[fd.offset], by simp [Instr.field, run_underlying hu, hfd', asAgg, run_part_one hd hg hv], ?_, rfl⟩
      rw [asD_eq hok]
      exact hh _ _ _ hv h1

theorem extract_good (h : Rel n w0 S0 S E s a w) {v : Value} {i : Nat} {ds : List D} (hi : i < ds.length) (hx : TV S E (frameOf a) v (.d (.tup ds))) :
    Good P n w0 S0 S E s a w (do pure (.value (← Instr.extract v i))) (.val true (.d (nth ds i))) := by
  have hx' : V S v (.tup ds) := hx
  cases hx' with
  | tup vs _ hn hh =>
    refine .calc h fun _ => ?_
    have hlt : i < vs.size := by rw [hn]; exact hi
    have hv : vs[i]? = some vs[i] := Array.getElem?_eq_getElem hlt
    exact ⟨vs[i], by simp [Instr.extract, hv], hh _ _ _ hv (nth_lt hi), rfl⟩

theorem pick_good (h : Rel n w0 S0 S E s a w) {u v1 v2 : Value} {x p q : Bool} (hu : TV S E (frameOf a) u (.d (.bool x))) (h1 : x = true → TV S E (frameOf a) v1 (.d (.bool p))) (h2 : x = false → TV S E (frameOf a) v2 (.d (.bool q))) :
    Good P n w0 S0 S E s a w (do pure (.value (if ← asBool u then v1 else v2))) (.val true (.d (.bool (bif x then p else q)))) := by
  cases hu
  refine .same h fun _ => ?_
  cases x with
  | true => exact ⟨v1, by simp [asBool], h1 rfl, rfl⟩
  | false => exact ⟨v2, by simp [asBool], h2 rfl, rfl⟩

theorem nilCheck_good (h : Rel n w0 S0 S E s a w) {v : Value} {t : T} {p : Addr} (_hv : v = .pointer (some p)) (hx : TV S E (frameOf a) v t) (hb : t.bare = true) {m : Sem Next} (hm : m = pure (.value v)) :
    Good P n w0 S0 S E s a w m (.val true t) := by
  subst hm
  exact .same h fun _ => ⟨v, by simp, hx, hb⟩

theorem copy_good (h : Rel n w0 S0 S E s a w) {v : Value} {t : T} (hx : TV S E (frameOf a) v t) (hb : t.bare = true) : Good P n w0 S0 S E s a w (pure (.value v)) (.val true t) :=
  .same h fun _ => ⟨v, by simp, hx, hb⟩

theorem min_good (h : Rel n w0 S0 S E s a w) {u v : Value} {k : IntKind} {x y : Int} {ts : Array TypeId} {ty : TypeId} (hu : TV S E (frameOf a) u (.d (.int k x))) (hv : TV S E (frameOf a) v (.d (.int k y))) :
    Good P n w0 S0 S E s a w (do pure (.value (← Builtin.min_ ts ty #[u, v]))) (.val true (.d (.int k (bif decide (y < x) then y else x)))) := by
  cases hu; cases hv
  refine .int h fun _ => ?_
  by_cases hlt : y < x <;> simp [Builtin.min_, Builtin.min2, hlt]
theorem max_good (h : Rel n w0 S0 S E s a w) {u v : Value} {k : IntKind} {x y : Int} {ts : Array TypeId} {ty : TypeId} (hu : TV S E (frameOf a) u (.d (.int k x))) (hv : TV S E (frameOf a) v (.d (.int k y))) :
    Good P n w0 S0 S E s a w (do pure (.value (← Builtin.max_ ts ty #[u, v]))) (.val true (.d (.int k (bif decide (x < y) then y else x)))) := by
  cases hu; cases hv
  refine .int h fun _ => ?_
  by_cases hlt : x < y <;> simp [Builtin.max_, Builtin.max2, hlt]

end Go.Ev
