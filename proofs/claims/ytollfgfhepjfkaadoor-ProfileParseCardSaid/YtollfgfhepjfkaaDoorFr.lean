/- The row's frame: what an argument reads as ('DataW.trod') is data of its type's shape, over the cells that were there when the call began. -/
import Derived.Test.YtollfgfhepjfkaaDoorPa
import Derived.WalkKit
import Derived.ProofKit
import Derived.OpenShut
import Derived.JoinedCond
import Derived.Carry
namespace Go.Pl
open Go Go.Ev Go.RowKit

def S0 (W : World) : Snap := fun a => match W.cell? a with | some u => bif u.oneCell' then some u else none | none => none
theorem S0_in (W : World) : (S0 W).inn W := by
  intro a u h
  unfold S0 at h
  split at h
  · rename_i v hv
    cases hc : v.oneCell' with
    | true => rw [hc] at h; simp only [cond_true, Option.some.injEq] at h; subst h; exact ⟨hv, hc⟩
    | false => rw [hc] at h; cases h
  · cases h
theorem S0_of {W : World} {a : Addr} {u : Value} (h : W.cell? a = some u) (hu : u.oneCell' = true) : S0 W a = some u := by
  unfold S0; rw [h]; simp [hu]

def isAggT (P : Program) (t : TypeId) : Bool := match P.underlying t with
  | some (.struct _) | some (.array _ _) => true
  | _ => false
/-- the cells' shapes of a struct's fields, one behind the other. -/
def flatFs (P : Program) (g : TypeId → Option (List Sh)) : List Field → Nat → Option (List Sh)
  | [], _ => some []
  | f :: r, off => match g f.type, flatFs P g r (off + P.cellsOf f.type) with
    | some s, some ss => if f.offset = off ∧ s.length = P.cellsOf f.type then some (s ++ ss) else none
    | _, _ => none
def reps : Nat → List Sh → List Sh
  | 0, _ => []
  | n + 1, s => s ++ reps n s
/-- the shapes of a type's cells. -/
def flatSh (P : Program) : Nat → TypeId → Option (List Sh)
  | 0, _ => none
  | n + 1, t => match P.underlying t with
    | some .bool => some [.bool]
    | some (.int k) => some [.int k]
    | some .string => some [.str]
    | some (.slice e) => match flatSh P n e with
      | some shs => if shs.length = P.cellsOf e then (match isAggT P e with | true => some [.sl (P.cellsOf e) (.agg shs)] | false => match shs with | [s] => some [.sl (P.cellsOf e) s] | _ => none) else none
      | none => none
    | some (.struct fs) => match flatFs P (flatSh P n) fs.toList 0 with
      | some shs => if shs.length = P.cellsOf t then some shs else none
      | none => none
    | some (.array k e) => match flatSh P n e with
      | some s => if s.length = P.cellsOf e ∧ k * s.length = P.cellsOf t then some (reps k s) else none
      | none => none
    | _ => none

theorem inR_of {k : IntKind} {n : Int} (h : (Lit.int k n).wf = true) : inR k n = true := by
  cases k <;> simp [Lit.wf, IntKind.min, IntKind.max, IntKind.signed, IntKind.bits, inR] at h ⊢ <;> omega
theorem zip_app : ∀ {a b : List Sh} {x y : List D}, okZip a x = true → okZip b y = true → okZip (a ++ b) (x ++ y) = true
  | [], _, x, _, h, h' => by have := zip_nil h; subst this; exact h'
  | f :: a, b, x, y, h, h' => by
    obtain ⟨c, r, rfl, h1, h2⟩ := zip_cons h
    simp only [List.cons_append, okZip, Bool.and_eq_true]
    exact ⟨h1, zip_app h2 h'⟩
theorem zip_len : ∀ {a : List Sh} {x : List D}, okZip a x = true → x.length = a.length
  | [], x, h => by have := zip_nil h; subst this; rfl
  | f :: a, x, h => by
    obtain ⟨c, r, rfl, h1, h2⟩ := zip_cons h
    simp [zip_len h2]

/-- the cells read as data. -/
structure Flat (W : World) (cs : List Value) (shs : List Sh) (ds : List D) : Prop where
  ok : okZip shs ds = true
  vs : Vs (S0 W) cs ds
  one : ∀ u ∈ cs, u.oneCell' = true
  leaf : ∀ d ∈ ds, d.cells = [d]
theorem Flat.app {W : World} {a b : List Value} {s s' : List Sh} {x y : List D} (h : Flat W a s x) (h' : Flat W b s' y) : Flat W (a ++ b) (s ++ s') (x ++ y) :=
  ⟨zip_app h.ok h'.ok, h.vs.append h'.vs, fun u hu => (List.mem_append.1 hu).elim (h.one u) (h'.one u), fun d hd => (List.mem_append.1 hd).elim (h.leaf d) (h'.leaf d)⟩
theorem Flat.len {W : World} {a : List Value} {s : List Sh} {x : List D} (h : Flat W a s x) : a.length = s.length := by rw [h.vs.1, zip_len h.ok]
theorem Flat.nil (W : World) : Flat W [] [] [] := ⟨by simp [okZip], Vs.nil _, fun u h => (by cases h), fun u h => (by cases h)⟩
theorem Flat.single {W : World} {v : Value} {s : Sh} {d : D} (h : okS s d = true) (hv : V (S0 W) v d) (h1 : v.oneCell' = true) (hl : d.cells = [d]) : Flat W [v] [s] [d] :=
  ⟨by simp [okZip, h], Vs.cons hv (Vs.nil _), fun u hu => by rw [List.mem_singleton.1 hu]; exact h1, fun u hu => by rw [List.mem_singleton.1 hu]; exact hl⟩

variable {H : Type} {enc : TypeId × Value → H} {P : Program} {W : World}

theorem flat_fields {r : TypeId → List Value → Option (DataW H × List MemPlace)} {g : TypeId → Option (List Sh)} (hg : ∀ t cs x shs, r t cs = some x → g t = some shs → ∃ ds, Flat W cs shs ds) (cs : List Value) :
    ∀ (fs : List Field) (off : Nat) (shs : List Sh), (∀ f ∈ fs, ∃ x, r f.type ((cs.drop f.offset).take (P.cellsOf f.type)) = some x) → flatFs P g fs off = some shs → cs.length = off + shs.length → ∃ ds, Flat W (cs.drop off) shs ds
  | [], off, shs, _, h, hl => by
    simp only [flatFs, Option.some.injEq] at h
    subst h
    refine ⟨[], ?_⟩
    rw [List.drop_eq_nil_of_le (by simpa using Nat.le_of_eq hl)]
    exact Flat.nil W
  | f :: fs, off, shs, hr, h, hl => by
    simp only [flatFs] at h
    split at h
    · rename_i s ss hs hss
      split at h
      · rename_i hc
        obtain ⟨ho, hn⟩ := hc
        cases h
        obtain ⟨x, hx⟩ := hr f (by simp)
        obtain ⟨d1, h1⟩ := hg _ _ _ _ hx hs
        obtain ⟨d2, h2⟩ := flat_fields hg cs fs _ ss (fun f hf => hr f (by simp [hf])) hss (by rw [hl, List.length_append, hn]; omega)
        rw [ho] at h1
        refine ⟨d1 ++ d2, ?_⟩
        have e : cs.drop off = (cs.drop off).take (P.cellsOf f.type) ++ cs.drop (off + P.cellsOf f.type) := by
          rw [← List.drop_drop, List.take_append_drop]
        rw [e]
        exact h1.app h2
      · cases h
    · cases h
theorem flat_reps {r : TypeId → List Value → Option (DataW H × List MemPlace)} {e : TypeId} {s : List Sh} (hg : ∀ cs x, r e cs = some x → ∃ ds, Flat W cs s ds) (cs : List Value) (sz : Nat) (hs : s.length = sz) :
    ∀ (n i : Nat), (∀ j, i ≤ j → j < i + n → ∃ x, r e ((cs.drop (j * sz)).take sz) = some x) → cs.length = i * sz + n * sz → ∃ ds, Flat W (cs.drop (i * sz)) (reps n s) ds
  | 0, i, _, hl => by
    refine ⟨[], ?_⟩
    rw [List.drop_eq_nil_of_le (by simpa using Nat.le_of_eq hl)]
    exact Flat.nil W
  | n + 1, i, hr, hl => by
    obtain ⟨x, hx⟩ := hr i (Nat.le_refl _) (by omega)
    obtain ⟨d1, h1⟩ := hg _ _ hx
    obtain ⟨d2, h2⟩ := flat_reps hg cs sz hs n (i + 1) (fun j h1 h2 => hr j (by omega) (by omega)) (by rw [hl, Nat.add_mul, Nat.add_mul]; omega)
    refine ⟨d1 ++ d2, ?_⟩
    have e : cs.drop (i * sz) = (cs.drop (i * sz)).take sz ++ cs.drop ((i + 1) * sz) := by
      rw [Nat.add_mul, Nat.one_mul, ← List.drop_drop, List.take_append_drop]
    rw [e]
    exact h1.app h2

/-- a slice's elements: their cells, one behind the other. -/
theorem rows_of {sz : Nat} {sh : Sh} (a : Addr) (Q : Nat → List Value → Prop) (hQ : ∀ i cs, Q i cs → cs.length = sz ∧ (∀ j, j < sz → W.cell? (a.add (i * sz + j)) = cs[j]?) ∧ ∃ d : D, okS sh d = true ∧ d.cells.length = sz ∧ Vs (S0 W) cs d.cells ∧ ∀ u ∈ cs, u.oneCell' = true) :
    ∀ (n i : Nat), (∀ j, i ≤ j → j < i + n → ∃ cs, Q j cs) → ∃ (xs : List D) (vals : List Value), xs.length = n ∧ okAll sh xs = true ∧ (∀ x ∈ xs, x.cells.length = sz) ∧ vals.length = n * sz ∧ Vs (S0 W) vals (flat xs) ∧
      ∀ (j : Nat) u, vals[j]? = some u → W.cell? (a.add (i * sz + j)) = some u ∧ u.oneCell' = true
  | 0, i, _ => ⟨[], [], rfl, by simp [okAll], fun x h => (by cases h), by simp, Vs.nil _, fun j u h => by simp at h⟩
  | n + 1, i, h => by
    obtain ⟨cs, hcs⟩ := h i (Nat.le_refl _) (by omega)
    obtain ⟨hl, hc, d, hd, hdl, hdv, hone⟩ := hQ i cs hcs
    obtain ⟨xs, vals, h1, h2, h3, h4, h5, h6⟩ := rows_of a Q hQ n (i + 1) (fun j q1 q2 => h j (by omega) (by omega))
    refine ⟨d :: xs, cs ++ vals, by simp [h1], by simp [okAll, hd, h2], fun x hx => ?_, by rw [List.length_append, hl, h4, Nat.add_mul]; omega, by simpa [flat] using hdv.append h5, fun j u hu => ?_⟩
    · rcases List.mem_cons.1 hx with rfl | hx
      · exact hdl
      · exact h3 x hx
    · by_cases hj : j < sz
      · rw [List.getElem?_append_left (by omega)] at hu
        exact ⟨by rw [hc j hj]; exact hu, hone u (List.mem_of_getElem? hu)⟩
      · rw [List.getElem?_append_right (by omega)] at hu
        have := h6 _ _ hu
        rw [hl, Nat.add_mul, Nat.one_mul, show i * sz + sz + (j - sz) = i * sz + j by omega] at this
        exact this

theorem leaf_len {d : D} (h : d.cells = [d]) : d.cells.length = 1 := by rw [h]; rfl

theorem flat_V : ∀ (g fuel : Nat) (t : TypeId) (cs : List Value) (x : DataW H × List MemPlace) (shs : List Sh), DataW.trod enc P W 0 (fun _ => true) true fuel t cs = some x → flatSh P g t = some shs → ∃ ds, Flat W cs shs ds := by
  intro g
  induction g with
  | zero => intro fuel t cs x shs _ h; simp [flatSh] at h
  | succ g ih =>
    intro fuel t cs x shs h hs
    simp only [flatSh] at hs
    split at hs
    · rename_i hu
      cases hs
      obtain ⟨b, rfl, _⟩ := DataW.trod_bool hu h
      exact ⟨[.bool b], .single rfl (.bool _) rfl rfl⟩
    · rename_i k hu
      cases hs
      obtain ⟨n, rfl, _, hw⟩ := DataW.trod_int hu h
      exact ⟨[.int k n], .single (by show (beqK k k && inR k n) = true; rw [inR_of hw]; cases k <;> rfl) (.int _ _) rfl rfl⟩
    · rename_i hu
      cases hs
      obtain ⟨s, rfl, _, hm⟩ := DataW.trod_string hu h
      refine ⟨[.str s.data.toList], .single ?_ (.str _) rfl rfl⟩
      show lenOk s.data.toList.length = true
      have hsz : s.data.toList.length = s.size := rfl
      rw [hsz]
      exact Nat.ble_eq_true_of_le hm
    · rename_i e hu
      split at hs
      · rename_i es hes
        split at hs
        · rename_i hlen
          -- the element's shape
          have key : ∃ sh, shs = [.sl (P.cellsOf e) sh] ∧ ∀ cs ds, Flat W cs es ds → ∃ d : D, okS sh d = true ∧ d.cells = ds := by
            cases hag : isAggT P e with
            | true =>
              rw [hag] at hs
              simp only [Option.some.injEq] at hs
              exact ⟨_, hs.symm, fun cs ds hf => ⟨.agg ds, by simp [okS, hf.ok], rfl⟩⟩
            | false =>
              rw [hag] at hs
              simp only at hs
              split at hs
              · rename_i s
                cases hs
                refine ⟨_, rfl, fun cs ds hf => ?_⟩
                obtain ⟨d, rfl, hd⟩ := one_of hf.ok
                exact ⟨d, hd, hf.leaf d (by simp)⟩
              · cases hs
          obtain ⟨sh, rfl, hsh⟩ := key
          rcases DataW.trod_slice hu h with ⟨rfl, _⟩ | ⟨a, len, cap, elems, rest, n, _, rfl, _, _, hlc, hcm, hel, hat, _⟩
          · exact ⟨[.sl (P.cellsOf e) []], .single (by show (Nat.beq _ _ && lenOk 0 && okAll _ []) = true; rw [Nat.beq_refl]; rfl) (.slnil _) rfl rfl⟩
          · obtain ⟨xs, vals, q1, q2, q3, q4, q5, q6⟩ := rows_of (W := W) (sz := P.cellsOf e) (sh := sh) a
              (fun i cs => (W.cells? 0 (a.add (i * P.cellsOf e)) (P.cellsOf e)) = some cs ∧ ∃ x, DataW.trod enc P W 0 (fun _ => true) true n e cs = some x)
              (fun i cs hi => by
                obtain ⟨hc, x, hx⟩ := hi
                obtain ⟨_, hl, hcell⟩ := World.cells?_some hc
                obtain ⟨ds, hf⟩ := ih n e cs x es hx hes
                obtain ⟨d, hd, hdc⟩ := hsh cs ds hf
                refine ⟨hl, fun j hj => by rw [← add_add]; exact hcell j hj, d, hd, by rw [hdc, ← hf.vs.1, hl], by rw [hdc]; exact hf.vs, hf.one⟩) len 0 (fun j _ hj => by
                have hj' : j < len := by omega
                have := hat j hj'
                rw [List.getElem?_eq_getElem (by omega : j < elems.length)] at this
                obtain ⟨cs, hc, hx⟩ := Option.bind_eq_some_iff.1 this
                exact ⟨cs, hc, _, hx⟩)
            refine ⟨[.sl (P.cellsOf e) xs], .single ?_ ?_ rfl rfl⟩
            · have hle : lenOk xs.length = true := by
                unfold lenOk
                unfold maxLen at hcm
                exact Nat.ble_eq_true_of_le (by omega)
              simp only [okS, q2, hle, Nat.beq_refl, Bool.and_self]
            · rw [← q1]
              refine .sl a cap (P.cellsOf e) xs vals (by omega) q3 (by rw [q4, q1]) (fun j u hj => ?_) q5.2
              have := q6 j u hj
              rw [Nat.zero_mul, Nat.zero_add] at this
              exact S0_of this.1 this.2
        · cases hs
      · cases hs
    · rename_i fs hu
      split at hs
      · rename_i ss hss
        split at hs
        · rename_i hlen
          cases hs
          obtain ⟨xs, n, rfl, _, hcl, hxl, hf⟩ := DataW.trod_struct hu h
          have := flat_fields (P := P) (W := W) (r := DataW.trod enc P W 0 (fun _ => true) true n) (g := flatSh P g) (fun t cs x shs hx hs => ih n t cs x shs hx hs) cs fs.toList 0 _ (fun f hm => by
            obtain ⟨i, hi, hfi⟩ := List.getElem_of_mem hm
            have h1 := hf i f (by rw [← hfi]; simp)
            have hlt : i < xs.length := by rw [hxl]; simpa using hi
            rw [List.getElem?_eq_getElem hlt] at h1
            exact ⟨_, h1⟩) hss (by rw [hcl, hlen, Nat.zero_add])
          simpa using this
        · cases hs
      · cases hs
    · rename_i k e hu
      split at hs
      · rename_i s hse
        split at hs
        · rename_i hlen
          cases hs
          obtain ⟨xs, n, rfl, _, hcl, hxl, hf⟩ := DataW.trod_array hu h
          have := flat_reps (W := W) (r := DataW.trod enc P W 0 (fun _ => true) true n) (e := e) (s := s) (fun cs x hx => ih n e cs x s hx hse) cs (P.cellsOf e) hlen.1 k 0 (fun j _ hj => by
            have hlt : j < xs.length := by omega
            have h1 := hf j (by omega)
            rw [List.getElem?_eq_getElem hlt] at h1
            exact ⟨_, h1⟩) (by rw [hcl, ← hlen.2, hlen.1]; omega)
          simpa using this
        · cases hs
      · cases hs
    · cases hs

/-- an argument's shape. -/
def argSh (P : Program) (t : TypeId) : Option Sh := match flatSh P 12 t with
  | some shs => (match isAggT P t with
    | true => some (.agg shs)
    | false => match shs with
      | [s] => some s
      | _ => none)
  | none => none
theorem arg_V {r : Reach} {b : Nat} {t : TypeId} {v : Value} {d : DataW H} {ps : List MemPlace} (hval : Value.okWide P W r b t v) (h : DataW.Trod enc P W 0 (fun _ => true) true t v d ps) {sh : Sh} (hsh : argSh P t = some sh) :
    ∃ x : D, okS sh x = true ∧ V (S0 W) v x := by
  obtain ⟨fuel, h⟩ := h
  unfold argSh at hsh
  cases hfl : flatSh P 12 t with
  | none => rw [hfl] at hsh; cases hsh
  | some shs =>
  rw [hfl] at hsh
  simp only at hsh
  cases hag : isAggT P t with
  | true =>
    rw [hag] at hsh
    cases hsh
    obtain ⟨ds, hf⟩ := flat_V _ _ _ _ _ _ h hfl
    have : ∃ cs, v = .agg cs := by
      unfold isAggT at hag
      unfold Value.okWide at hval
      split at hag
      · rename_i hu; rw [hu] at hval; exact ⟨_, hval.choose_spec.1⟩
      · rename_i hu; rw [hu] at hval; exact ⟨_, hval.choose_spec.1⟩
      · cases hag
    obtain ⟨cs, rfl⟩ := this
    refine ⟨.agg ds, by simp [okS, hf.ok], ?_⟩
    have hvs := hf.vs
    have hone := hf.one
    simp only [Value.cells] at hvs hone
    exact .agg cs ds (by simpa using hvs.1) (fun j u hu => hone u (by simpa using Array.mem_of_getElem? hu)) (fun j u d hu hd => hvs.2 j u d (by simpa using hu) hd)
  | false =>
    rw [hag] at hsh
    simp only at hsh
    split at hsh
    case h_2 => cases hsh
    rename_i s
    cases hsh
    obtain ⟨ds, hf⟩ := flat_V _ _ _ _ _ _ h hfl
    obtain ⟨d, rfl, hd⟩ := one_of hf.ok
    refine ⟨d, hd, ?_⟩
    have hvs := hf.vs
    have : v.cells.toList = [v] := by
      unfold isAggT at hag
      unfold Value.okWide Cell.okWide at hval
      cases v with
      | agg cs =>
        exfalso
        cases hu : P.underlying t with
        | none => simp [hu, Cell.ok] at hval
        | some td => cases td <;> simp_all [Cell.ok]
      | _ => rfl
    rw [this] at hvs
    exact hvs.head

/-- ARGS: all arguments read as before. -/
theorem args_stay (hl : laidOutB P = true) {W' : World} (hb : Below W.heap.size W W') {sp : Nat → Bool} : ∀ {ts : List TypeId} {vs : List Value} {ds : List (DataW H)} {ps : List MemPlace},
    (∀ t ∈ ts, P.readableRec t = true ∧ t < P.types.size) → DataW.TrodAll enc P W 0 (fun _ => true) true ts vs ds ps → (∀ p ∈ ps, p.block < W.heap.size) → (∀ p ∈ ps, sp p.block = true) → DataW.TrodAll enc P W' 0 sp true ts vs ds ps
  | [], [], [], ps, _, h, _, _ => h
  | t :: ts, v :: vs, d :: ds, ps, ht, h, hlt, hs => by
    obtain ⟨p, q, h1, h2, rfl⟩ := h
    refine ⟨p, q, ?_, args_stay hl hb (fun t h => ht t (by simp [h])) h2 (fun x hx => hlt x (by simp [hx])) (fun x hx => hs x (by simp [hx])), rfl⟩
    exact WideElems.Trod_stays hl (ht t (by simp)).1 (ht t (by simp)).2 h1 (fun x hx => hb.same (hlt x (by simp [hx]))) (fun x hx => hs x (by simp [hx]))
  | [], _ :: _, _, _, _, h, _, _ => h.elim
  | [], [], _ :: _, _, _, h, _, _ => h.elim
  | _ :: _, [], _, _, _, h, _, _ => h.elim
  | _ :: _, _ :: _, [], _, _, h, _, _ => h.elim

theorem args_V {r : Reach} {b : Nat} : ∀ {ts : List TypeId} {vs : List Value} {ds : List (DataW H)} {ps : List MemPlace} {shs : List Sh}, ts.map (argSh P) = shs.map some → (∀ (j : Nat) t v, ts[j]? = some t → vs[j]? = some v → Value.okWide P W r b t v) →
    DataW.TrodAll enc P W 0 (fun _ => true) true ts vs ds ps → ∃ xs : List D, okZip shs xs = true ∧ Vs (S0 W) vs xs
  | [], [], [], _, [], _, _, _ => ⟨[], by simp [okZip], Vs.nil _⟩
  | t :: ts, v :: vs, d :: ds, ps, [], h, _, _ => by simp at h
  | t :: ts, v :: vs, d :: ds, ps, sh :: shs, h, hval, hr => by
    obtain ⟨p, q, h1, h2, rfl⟩ := hr
    simp only [List.map_cons, List.cons.injEq] at h
    obtain ⟨x, q1, q2⟩ := arg_V (hval 0 t v rfl rfl) h1 h.1
    obtain ⟨xs, q3, q4⟩ := args_V h.2 (fun j t v ht hv => hval (j + 1) t v (by simpa using ht) (by simpa using hv)) h2
    exact ⟨x :: xs, by simp [okZip, q1, q3], Vs.cons q2 q4⟩
  | [], [], [], _, _ :: _, h, _, _ => by simp at h
  | [], _ :: _, _, _, _, _, _, h => h.elim
  | [], [], _ :: _, _, _, _, _, h => h.elim
  | _ :: _, [], _, _, _, _, _, h => h.elim
  | _ :: _, _ :: _, [], _, _, _, _, h => h.elim

theorem args_len {w : World} {base : Nat} {sp : Nat → Bool} {held : Bool} : ∀ {ts : List TypeId} {vs : List Value} {ds : List (DataW H)} {ps : List MemPlace}, DataW.TrodAll enc P w base sp held ts vs ds ps → ts.length = ds.length
  | [], [], [], _, _ => rfl
  | _ :: _, _ :: _, _ :: _, _, ⟨_, _, _, h, _⟩ => by simp [args_len h]
  | [], _ :: _, _, _, h => h.elim
  | [], [], _ :: _, _, h => h.elim
  | _ :: _, [], _, _, h => h.elim
  | _ :: _, _ :: _, [], _, h => h.elim

open Go.ChangeShapes Go.WideShapes Go.ChangeAt in
/-- THE CONTRACT OF A LAW, out of its soundness over data. -/
theorem contract_of {f : Nat} {fn : Func} {sp : Spc} {shs : List Sh} (hS : Sound P f sp) (hv : ∀ ds, sp.pre ds = true → sp.val ds = .bool true) (hpre : ∀ ds, okZip shs ds = true → sp.pre ds = true) (hsh : fn.params.toList.map (argSh P) = shs.map some)
    {bt : TypeId} (hres : fn.resultTypes = #[bt]) (hbt : P.underlying bt = some .bool) (hl : laidOutB P = true) (htab : TabOk P W) (hrd : ∀ t ∈ fn.params.toList, P.readableRec t = true ∧ t < P.types.size)
    {s : ChangeSpec} (hvars : s.vars = []) (hfn : ∀ ds : List (DataW H), ds.length = fn.params.toList.length → s.fn H ds = { results := [.lit (.bool true)], args := ds })
    (base : Nat) (args : Array Value) (ds gs : List (DataW H)) (before : List MemPlace)
    (hval : ∀ (j : Nat) t v, fn.params[j]? = some t → args[j]? = some v → Value.okWide P W .any base t v)
    (hW : DataW.Whole enc P fn.params.toList s.vars false W args.toList ds gs before) :
    Calls P f args W fun e W' => ∃ v, e = .returned v ∧ s.post enc P fn false true false false W args v W' := by
  have hW' := hW
  obtain ⟨p, q, hA, hV, rfl, hfz, hnd⟩ := hW
  rw [hvars] at hV
  obtain ⟨rfl, rfl⟩ := trodVars_none hV
  simp only [List.append_nil] at hW'
  obtain ⟨xs, hx, hvs⟩ := args_V hsh (fun j t v ht hv => hval j t v (by simpa using ht) (by simpa using hv)) hA
  have hlen : ds.length = fn.params.toList.length := (args_len hA).symm
  refine (hS.run W (S0 W) args xs htab (S0_in W) hvs (hpre xs hx)).mono fun e W' he => ?_
  obtain ⟨v, S', rfl, hg, hval'⟩ := he
  rw [hv xs (hpre xs hx)] at hval'
  have : v = .bool true := by cases hval'; rfl
  subst this
  have hlt : ∀ x ∈ p, x.block < W.heap.size := fun x hx => by simpa using hW'.lt x hx
  have hfd := hfn ds hlen
  have hr1 : ∀ (b : Nat) (sp : Nat → Bool) (hd : Bool), DataW.TrodAll enc P W' b sp hd fn.resultTypes.toList ((Value.bool true).resultList fn.resultTypes.size) (s.fn H (ds ++ [])).results [] := fun b sp hd => by
    rw [List.append_nil, hfd, hres]
    exact trodAll_cons_mk (shut_bool hbt _) trodAll_mk0
  have ha1 : ∀ sp : Nat → Bool, (∀ x ∈ p, sp x.block = true) → DataW.TrodAll enc P W' 0 sp true fn.params.toList args.toList (s.fn H (ds ++ [])).args p := fun sp hs => by
    rw [List.append_nil, hfd]
    exact args_stay hl hg.below hrd hA hlt hs
  have hv1 : ∀ sp : Nat → Bool, DataW.TrodVars enc P W' sp s.vars (s.fn H (ds ++ [])).vars [] := fun sp => by
    rw [hvars, List.append_nil, hfd]
    rfl
  refine ⟨_, rfl, ds, [], p, [], p, [], hW', hr1 _ _ _, ha1 _ (fun x hx => by simpa using hlt x hx), hv1 _, World.keptBut_mono (fun x hx => ⟨hx, by simpa using hx⟩) (hg.below.frame _), fun _ => ?_⟩
  refine ⟨ok_one hres rfl (okWide_bool_mk hbt _), _, _, p, ⟨p, [], trodAll_append (ha1 _ (fun _ _ => rfl)) (hr1 _ _ _) , hv1 _, by simp, fun b off hp => ?_, fun ha => by cases ha⟩, fun x hx _ => hx⟩
  have hlt' := hlt _ hp
  rw [hg.below.frozen (p := ⟨b, off, none⟩) hlt']
  exact hfz b off (by simpa using hp)

end Go.Pl
