/- Runs of equal kinds, a table's map, whether ranges cover a range: what the reference's functions return; and the plain law on maps. -/
import Derived.Test.YtollfgfhepjfkaaQa
namespace Go.Pl
open Go Go.Ev Go.Proofs

/-! ### Spans -/
theorem oneG_tt (b : Bool) : oneG (b, true) = b := rfl
def runs (c k : Int) : List Int → List Span
  | [] => [⟨c, k⟩]
  | x :: r => bif decide (x = k) then runs (c + 1) k r else ⟨c, k⟩ :: runs 1 x r
def spansOf : List Int → List Span
  | [] => []
  | x :: r => runs 1 x r
def intD (n : Int) : D := .int .i64 n
theorem i0 (n : Int) : nth (D.cells (intD n)) 0 = D.int .i64 n := rfl
theorem set_last {α : Type} (o : List α) (x y : α) : (o ++ [x]).set o.length y = o ++ [y] := by
  rw [List.set_append_right _ _ (Nat.le_refl _)]; simp
set_option maxRecDepth 100000 in
theorem l40 (k : Nat) : ∀ (r pre : List Int) (n : Nat) (o : List Span) (c last : Int), (pre ++ last :: r).length ≤ 100 → o.length ≤ 200 → 1 ≤ c → c ≤ 1000 - r.length → o.length + r.length ≤ 200 → r.length < n →
    f40L3 k n (f40s3 ((pre ++ last :: r).map intD) (((pre ++ [last]).length : Nat) : Int) ((o ++ [(⟨c, last⟩ : Span)]).map Span.d)) = some (.sl 2 ((o ++ runs c last r).map Span.d))
  | r, pre, 0, _, _, _, _, _, _, _, _, h => by omega
  | [], pre, n + 1, o, c, last, _, _, _, _, _, _ => by
    rw [f40l3, show decide ((((pre ++ [last]).length : Nat) : Int) < ((((pre ++ [last]).map intD).length : Nat) : Int)) = false from decide_eq_false (by simp)]
    rfl
  | x :: r, pre, n + 1, o, c, last, hl, ho, hc1, hc2, hor, h => by
    have e0 : pre ++ last :: x :: r = (pre ++ [last]) ++ x :: r := by simp
    have hlen : (pre ++ [last]).length = pre.length + 1 := by simp
    have hl2 : pre.length ≤ 100 := by simp at hl; omega
    have hr2 : r.length ≤ 100 := by simp at hl; omega
    have hw : IntKind.wrap IntKind.i64 ((((pre ++ [last]).length : Nat) : Int) - 1) = ((pre.length : Nat) : Int) := by
      rw [hlen, wrap_in (by omega) (by omega)]; omega
    have hn1 : nth ((pre ++ last :: x :: r).map intD) (Int.toNat (((pre ++ [last]).length : Nat) : Int)) = intD x := by rw [e0]; exact nth_mid _ x r
    have hlt1 : decide ((((pre ++ [last]).length : Nat) : Int) < ((((pre ++ last :: x :: r).map intD).length : Nat) : Int)) = true := by rw [e0]; exact lt_mid _ x r
    have hn0 : nth ((pre ++ last :: x :: r).map intD) (Int.toNat ((pre.length : Nat) : Int)) = intD last := nth_mid pre last (x :: r)
    have hlt0 : decide (((pre.length : Nat) : Int) < ((((pre ++ last :: x :: r).map intD).length : Nat) : Int)) = true := lt_mid pre last (x :: r)
    have hpos : decide ((0 : Int) < (((pre ++ [last]).length : Nat) : Int)) = true := decide_eq_true (by rw [hlen]; omega)
    have hol : (((o ++ [(⟨c, last⟩ : Span)]).map Span.d).length : Nat) = o.length + 1 := by simp
    have hw2 : IntKind.wrap IntKind.i64 ((((((o ++ [(⟨c, last⟩ : Span)]).map Span.d).length : Nat)) : Int) - 1) = ((o.length : Nat) : Int) := by
      rw [hol, wrap_in (by omega) (by omega)]; omega
    have hno : nth ((o ++ [(⟨c, last⟩ : Span)]).map Span.d) (Int.toNat ((o.length : Nat) : Int)) = (⟨c, last⟩ : Span).d := nth_mid o _ []
    have hlo : decide (((o.length : Nat) : Int) < ((((o ++ [(⟨c, last⟩ : Span)]).map Span.d).length : Nat) : Int)) = true := decide_eq_true (by rw [hol]; omega)
    rw [f40l3, hw, hw2, hn1, hn0, hno, hlt1, hlt0, hlo, ge0, ge0, ge0, hpos, i0, i0, s0, di, di, di, isI_, isI_, isI_]
    have hble : Nat.ble (Nat.succ (Int.toNat ((o.length : Nat) : Int))) (((o ++ [(⟨c, last⟩ : Span)]).map Span.d).length) = true := Nat.ble_eq_true_of_le (by rw [hol]; simp)
    have hbig : decide ((((o ++ [(⟨c, last⟩ : Span)]).map Span.d).length : Nat) + 1 ≤ 4294967296) = true := decide_eq_true (by rw [hol]; omega)
    rw [hble, hbig]
    simp only [Bool.and_self, Bool.true_or, cond_true, chk_true, show Nat.beq ((⟨c, last⟩ : Span).d.cells).length 2 = true from rfl]
    have hnext : IntKind.wrap IntKind.i64 ((((pre ++ [last]).length : Nat) : Int) + 1) = (((pre ++ [last] ++ [x]).length : Nat) : Int) := by
      rw [hlen, wrap_add1 (by omega)]; simp; omega
    rw [hnext]
    by_cases hx : x = last
    · subst hx
      rw [decide_eq_true (rfl : x = x)]
      simp only [cond_true]
      have hset : ((o ++ [(⟨c, x⟩ : Span)]).map Span.d).set (Int.toNat ((o.length : Nat) : Int)) (setD (⟨c, x⟩ : Span).d 0 [D.int IntKind.i64 (IntKind.wrap IntKind.i64 (c + 1))]) = (o ++ [(⟨c + 1, x⟩ : Span)]).map Span.d := by
        rw [wrap_in (by omega) (by omega), Int.toNat_natCast, List.map_append, List.map_append]
        have : (o.map Span.d).length = o.length := by simp
        rw [← this]
        exact set_last _ _ _
      rw [hset, e0]
      have ih := l40 k r (pre ++ [x]) n o (c + 1) x (by simp at hl ⊢; omega) ho (by omega) (by simp at hc2; omega) (by simp at hor; omega) (by simpa using h)
      rw [ih]
      simp [runs]
    · rw [decide_eq_false hx]
      simp only [cond_false]
      have hout : (o ++ [(⟨c, last⟩ : Span)]).map Span.d ++ [D.agg [D.int IntKind.i64 1, D.int IntKind.i64 x]] = ((o ++ [(⟨c, last⟩ : Span)]) ++ [(⟨1, x⟩ : Span)]).map Span.d := by simp [Span.d]
      rw [hout, e0]
      have ih := l40 k r (pre ++ [last]) n (o ++ [⟨c, last⟩]) 1 x (by simp at hl ⊢; omega) (by simp at hor ⊢; omega) (by omega) (by omega) (by simp at hor ⊢; omega) (by simpa using h)
      rw [ih]
      simp [runs, hx]
def sp40 : Spc := ⟨fun ds => okZip [.sl 1 (.num .i64)] ds && decide ((nth ds 0).l.length ≤ 12), fun ds => .sl 2 ((spansOf ((nth ds 0).l.map D.i)).map Span.d)⟩
theorem ints_of {xs : List D} (h : okAll (.num .i64) xs = true) : ∃ l : List Int, xs = l.map intD := by
  obtain ⟨l, rfl, _⟩ := map_of (p := fun _ => True) (f := intD) (fun x hx => by obtain ⟨n, rfl⟩ := ok_num hx; exact ⟨n, rfl, trivial⟩) h
  exact ⟨l, rfl⟩
theorem map_i (l : List Int) : (l.map intD).map D.i = l := by
  rw [List.map_map]; exact List.map_id'' (fun _ => rfl) l
theorem snd40 : Sound Try.prog 40 sp40 := by
  refine snd f40c (told1 _ _) Try.func40 (by kernel_rfl) (by kernel_rfl) (nocall _) fun ds h => ⟨200, ?_⟩
  have h : (okZip [.sl 1 (.num .i64)] ds && decide ((nth ds 0).l.length ≤ 12)) = true := h
  simp only [Bool.and_eq_true, decide_eq_true_eq] at h
  obtain ⟨h1, h2⟩ := h
  obtain ⟨d, rfl, h3⟩ := one_of h1
  obtain ⟨xs, rfl, _, hx⟩ := ok_sl h3
  obtain ⟨l, rfl⟩ := ints_of hx
  have h2 : (l.map intD).length ≤ 12 := h2
  refine (e40 (l.map intD) 200).trans ?_
  show _ = some (D.sl 2 ((spansOf ((l.map intD).map D.i)).map Span.d))
  rw [map_i]
  cases l with
  | nil =>
    rw [show (200 : Nat) = 199 + 1 from rfl, f40l3]; rfl
  | cons x r =>
    have hr : r.length ≤ 12 := by simp at h2; omega
    rw [show (200 : Nat) = 199 + 1 from rfl, f40l3]
    have e1 : decide ((0 : Int) < (((x :: r).map intD).length : Nat)) = true := decide_eq_true (by simp)
    rw [e1]
    simp only [show decide ((0 : Int) < 0) = false from rfl, show decide ((0 : Int) ≤ 0) = true from rfl, oneG_tt, Bool.not_false, Bool.or_true, chk_true, cond_true, cond_false, Bool.true_and]
    rw [show nth ((x :: r).map intD) (Int.toNat 0) = intD x from rfl, i0, di, isI_]
    simp only [List.length_nil, chk_true, show decide (0 + 1 ≤ 4294967296) = true from rfl, List.nil_append]
    have ih := l40 (199 + 1) r [] 199 [] 1 x (by simp; omega) (by simp) (by omega) (by omega) (by simp; omega) (by omega)
    simp only [List.nil_append, List.length_cons, List.length_nil] at ih
    exact ih
theorem pre40 {l : List Int} (h : l.length ≤ 12) : sp40.pre [D.sl 1 (l.map intD)] = true := by
  show (okZip [.sl 1 (.num .i64)] _ && decide ((l.map intD).length ≤ 12)) = true
  have h1 : okAll (.num .i64) (l.map intD) = true := okAll_of fun x hx => by
    obtain ⟨n, _, rfl⟩ := List.mem_map.1 hx; rfl
  have h2 : lenOk (l.map intD).length = true := Nat.ble_eq_true_of_le (by rw [List.length_map]; omega)
  simp only [okZip, okS, h1, h2, Nat.beq_refl, Bool.and_self, Bool.true_and, decide_eq_true_eq]
  simpa using h
theorem val40 (l : List Int) : sp40.val [D.sl 1 (l.map intD)] = D.sl 2 ((spansOf l).map Span.d) := by
  show D.sl 2 ((spansOf ((l.map intD).map D.i)).map Span.d) = _
  rw [map_i]

/-! ### Table -/
structure STab where
  sup : Bool
  rd : List Rng
  most : Int
def STab.d (t : STab) : D := .agg [.bool t.sup, .sl 2 (t.rd.map Rng.d), .int .i64 t.most]
structure STab.ok (t : STab) : Prop where
  rdok : ∀ r ∈ t.rd, r.ok
  len : t.rd.length ≤ 9223372036854775807
  sh : okS shRngs (.sl 2 (t.rd.map Rng.d)) = true
  most : in64 t.most
def kindsOf (l : List Rng) : Nat → Int → List Int
  | 0, _ => []
  | n + 1, a => (bif validL l && anyIn l a then 1 else 2) :: kindsOf l n (a + 1)
theorem kinds_len (l : List Rng) : ∀ (n : Nat) (a : Int), (kindsOf l n a).length = n
  | 0, _ => rfl
  | n + 1, a => by simp [kindsOf, kinds_len l n (a + 1)]
def tabOf (t : STab) (f c : Int) : Tab := bif decide (c = 0) then ⟨6, 0, []⟩ else bif !t.sup then ⟨5, 0, []⟩ else ⟨2, t.most, spansOf (kindsOf t.rd c.toNat f)⟩
def Tab.d (t : Tab) : D := .agg [.int .i64 t.state, .int .i64 t.most, .sl 2 (t.map.map Span.d)]
def toST (d : D) : STab := ⟨(nth d.cells 0).b, toRs (nth d.cells 1).l, (nth d.cells 2).i⟩
theorem toST_d (t : STab) : toST t.d = t := by
  obtain ⟨a, b, c⟩ := t
  show (⟨a, toRs (b.map Rng.d), c⟩ : STab) = _
  rw [toRs_d]
def shSTab : Sh := .agg [.bool, shRngs, shInt]
theorem stab_of {d : D} (h : okS shSTab d = true) : ∃ t : STab, d = t.d ∧ t.ok := by
  obtain ⟨cs, rfl, h⟩ := ok_agg h
  obtain ⟨d1, d2, d3, rfl, q1, q2, q3⟩ := three_of h
  obtain ⟨b, rfl⟩ := ok_bool q1
  have k2 := q2
  obtain ⟨l, rfl, hl, hl2⟩ := rngs_of q2
  obtain ⟨m, rfl, hm⟩ := ok_int q3
  exact ⟨⟨b, l, m⟩, rfl, hl, hl2, k2, inR64 hm⟩
def smallW (f c : Int) : Bool := decide (0 ≤ c) && decide (c ≤ 12) && decide (0 ≤ f) && decide (f ≤ 65536 - c)
def sp32 : Spc := ⟨fun ds => okZip [shSTab, shRng] ds && smallW (toR (nth ds 1)).first (toR (nth ds 1)).count, fun ds => (tabOf (toST (nth ds 0)) (toR (nth ds 1)).first (toR (nth ds 1)).count).d⟩
theorem l32 (k : Nat) (t : STab) (ht : t.ok) (f c : Int) (hw : smallW f c = true) (a1 a2 : Int) : ∀ (m : Nat) (n : Nat) (out : List Int) (a : Int), a = f + (c - m) → (m : Int) ≤ c → out.length + m ≤ 12 → m < n →
    f32L7 sp39 sp40 k n (f32s7 a t.sup (t.rd.map Rng.d) t.most f c a1 a2 (out.map intD)) = some (.agg [.int .i64 2, .int .i64 t.most, .sl 2 ((spansOf (out ++ kindsOf t.rd m a)).map Span.d)])
  | m, 0, _, _, _, _, _, h => by omega
  | 0, n + 1, out, a, ha, hm, ho, _ => by
    simp only [smallW, Bool.and_eq_true, decide_eq_true_eq] at hw
    rw [f32l7, wrap_in (by omega) (by omega), show decide (a < f + c) = false from decide_eq_false (by omega), pre40 (by omega), val40, isL_, dl]
    simp only [kindsOf, List.append_nil]
    rfl
  | m + 1, n + 1, out, a, ha, hm, ho, h => by
    have hw0 := hw
    simp only [smallW, Bool.and_eq_true, decide_eq_true_eq] at hw
    have ha64 : in64 a := ⟨by omega, by omega⟩
    rw [f32l7, wrap_in (n := f + c) (by omega) (by omega), show decide (a < f + c) = true from decide_eq_true (by omega), pre39 ht.sh ha64, val39]
    have e1 : out.map intD ++ [D.int IntKind.i64 1] = (out ++ [1]).map intD := by simp [intD]
    have e2 : out.map intD ++ [D.int IntKind.i64 2] = (out ++ [2]).map intD := by simp [intD]
    have hbig : decide ((out.map intD).length + 1 ≤ 4294967296) = true := decide_eq_true (by rw [List.length_map]; omega)
    rw [hbig, e1, e2, wrap_in (n := a + 1) (by omega) (by omega)]
    rw [l32 k t ht f c hw0 a1 a2 m n (out ++ [1]) (a + 1) (by omega) (by omega) (by simp; omega) (by omega), l32 k t ht f c hw0 a1 a2 m n (out ++ [2]) (a + 1) (by omega) (by omega) (by simp; omega) (by omega)]
    simp only [isB_, b_, Bool.and_self, cond_true, chk_true, kindsOf]
    cases (validL t.rd && anyIn t.rd a) <;> simp
theorem snd32 : Sound Try.prog 32 sp32 := by
  refine snd (f32c sp39 sp40) (told1 _ _) Try.func32 (by kernel_rfl) (by kernel_rfl) (calling_cons snd39 (calling_cons snd40 (nocall _))) fun ds h => ⟨20, ?_⟩
  have h : (okZip [shSTab, shRng] ds && smallW (toR (nth ds 1)).first (toR (nth ds 1)).count) = true := h
  simp only [Bool.and_eq_true] at h
  obtain ⟨h1, h2⟩ := h
  obtain ⟨d, e, rfl, q1, q2⟩ := two_of h1
  obtain ⟨t, rfl, ht⟩ := stab_of q1
  obtain ⟨w, rfl, hw⟩ := rng_of q2
  have h2 : smallW w.first w.count = true := h2
  refine (e32 sp39 sp40 t.sup (t.rd.map Rng.d) t.most w.first w.count 20).trans ?_
  show _ = some (tabOf (toST t.d) w.first w.count).d
  rw [toST_d]
  unfold tabOf
  have hs := h2
  simp only [smallW, Bool.and_eq_true, decide_eq_true_eq] at hs
  by_cases hc : w.count = 0
  · rw [decide_eq_true hc]; rfl
  · rw [decide_eq_false hc]
    cases hsup : t.sup with
    | false => rfl
    | true =>
      simp only [Bool.not_true, cond_false]
      have := l32 20 t ht w.first w.count h2 0 0 w.count.toNat 20 [] w.first (by omega) (by omega) (by simp; omega) (by omega)
      rw [hsup] at this
      simp only [List.map_nil, List.nil_append] at this
      rw [this]; rfl

/-! ### Covers -/
def coverGo (l : List Rng) : Nat → Int → Bool
  | 0, _ => true
  | n + 1, a => anyIn l a && coverGo l n (a + 1)
theorem l168 (k : Nat) (X : A → Option D) (L : List Rng) (hv : validL L = true) (a o0 o1 : Int) : ∀ (r pre : List Rng) (n : Nat) (v6 : Bool), L = pre ++ r → L.length ≤ 9223372036854775807 → r.length < n →
    f16L8 sp33 sp25 k X n (f16s8 (L.map Rng.d) a v6 ((pre.length : Nat) : Int) o0 o1) = bif v6 || anyIn r a then X (f16s4 (L.map Rng.d) (IntKind.wrap .i64 (a + 1)) o0 o1) else some (.bool false)
  | r, pre, 0, _, _, _, h => by omega
  | [], pre, n + 1, v6, hp, _, _ => by
    rw [f16l8, show decide (((pre.length : Nat) : Int) < (((L.map Rng.d).length : Nat) : Int)) = false by rw [hp, lt_end]]
    cases v6 <;> rfl
  | x :: r, pre, n + 1, v6, hp, hl, h => by
    have hx := valid_mem hv x (by rw [hp]; simp)
    have hl' : pre.length < 9223372036854775807 := by rw [hp] at hl; simp at hl; omega
    have e0 : pre ++ x :: r = (pre ++ [x]) ++ r := by simp
    have hn : nth (L.map Rng.d) (Int.toNat ((pre.length : Nat) : Int)) = x.d := by rw [hp]; exact nth_mid pre x r
    have hlt : decide (((pre.length : Nat) : Int) < (((L.map Rng.d).length : Nat) : Int)) = true := by rw [hp]; exact lt_mid pre x r
    rw [f16l8, hlt, ge0, hn, r0, r1, di, di, isI_, isI_, wrap_in (n := x.first + x.count) (by omega) (by omega)]
    simp only [Bool.and_self, Bool.true_or, cond_true, chk_true, cond_or, cond_and]
    rw [wrap_add1 hl', show pre.length + 1 = (pre ++ [x]).length by simp, l168 k X L hv a o0 o1 r (pre ++ [x]) n _ (by rw [hp, e0]) hl (by simpa using h), Bool.or_assoc]
    rfl
theorem l164 (k : Nat) (hk : 9223372036854775807 < k) (L : List Rng) (hv : validL L = true) (hl : L.length ≤ 9223372036854775807) (f c : Int) (hf : 0 ≤ f) (hfc : f + c ≤ 65536) : ∀ (m n : Nat) (a : Int), a = f + (c - m) → (m : Int) ≤ c → m < n →
    f16L4 sp33 sp25 k n (f16s4 (L.map Rng.d) a f c) = some (.bool (coverGo L m a))
  | m, 0, _, _, _, h => by omega
  | 0, n + 1, a, ha, hm, _ => by
    rw [f16l4, wrap_in (by omega) (by omega), show decide (a < f + c) = false from decide_eq_false (by omega)]
    rfl
  | m + 1, n + 1, a, ha, hm, h => by
    rw [f16l4, wrap_in (by omega) (by omega), show decide (a < f + c) = true from decide_eq_true (by omega)]
    have := l168 k (f16L4 sp33 sp25 k n) L hv a f c L [] k false rfl hl (by omega)
    simp only [List.length_nil] at this
    rw [show ((0 : Nat) : Int) = (0 : Int) from rfl] at this
    rw [cond_true, this, wrap_in (by omega) (by omega), l164 k hk L hv hl f c hf hfc m n (a + 1) (by omega) (by omega) (by omega)]
    simp only [Bool.false_or, coverGo]
    cases anyIn L a <;> rfl
def rngOk (f c : Int) : Bool := decide (0 ≤ f) && decide (1 ≤ c) && decide (f + c ≤ 65536)
def covers (l : List Rng) (f c : Int) : Bool := rngOk f c && validL l && coverGo l c.toNat f
def sp16 : Spc := mkS [shRngs, shRng] fun ds => .bool (covers (toRs (nth ds 0).l) (toR (nth ds 1)).first (toR (nth ds 1)).count)
theorem snd16 : Sound Try.prog 16 sp16 := by
  refine snd (f16c sp33 sp25) (told1 _ _) Try.func16 (by kernel_rfl) (by kernel_rfl) (calling_cons snd33 (calling_cons snd25 (nocall _))) fun ds h => ⟨9223372036854775810, ?_⟩
  obtain ⟨d, e, rfl, h1, h2⟩ := two_of h
  have k1 := h1
  obtain ⟨l, rfl, hok, hl⟩ := rngs_of h1
  obtain ⟨w, rfl, hw⟩ := rng_of h2
  refine (e16 sp33 sp25 (l.map Rng.d) w.first w.count 9223372036854775810).trans ?_
  show _ = some (D.bool (covers (toRs (l.map Rng.d)) w.first w.count))
  rw [toRs_d, pre33 hw.first hw.count, val33, pre25 k1, val25]
  simp only [isB_, b_, Bool.and_self, Bool.true_or, chk_true, cond_or]
  show _ = some (D.bool (rngOk w.first w.count && validL l && coverGo l w.count.toNat w.first))
  show (bif !rngOk w.first w.count || !validL l then _ else _) = _
  cases hr : rngOk w.first w.count
  · rfl
  cases hv : validL l
  · rfl
  simp only [rngOk, Bool.and_eq_true, decide_eq_true_eq] at hr
  simp only [Bool.not_true, Bool.or_self, cond_false, Bool.true_and]
  exact l164 9223372036854775810 (by omega) l hv hl w.first w.count (by omega) (by omega) w.count.toNat 9223372036854775810 w.first (by omega) (by omega) (by omega)

/-! ### a map is readable where all its addresses are -/
def good (rf stop : Int) : Int → List Int → Bool
  | _, [] => true
  | a, k :: r => (decide (k = 1) || !(decide (rf ≤ a) && decide (a < stop))) && good rf stop (a + 1) r
def blk (rf stop c k a : Int) : Bool := decide (k = 1) || !(decide (a < stop) && decide (rf < a + c))
theorem scan_runs (rf stop : Int) (hrs : rf < stop) : ∀ (r : List Int) (c k a : Int), 1 ≤ c → 0 ≤ a → a + c + r.length ≤ 100000 → scan rf stop a (runs c k r) = (blk rf stop c k a && good rf stop (a + c) r)
  | [], c, k, a, hc, ha, hb => by
    simp only [runs, scan, good, Bool.and_true, blk]
    rw [wrap_in (by simp at hb; omega) (by simp at hb; omega)]
    cases decide (k = 1) <;> simp
  | x :: r, c, k, a, hc, ha, hb => by
    have hb2 : a + c + (r.length + 1) ≤ 100000 := by simpa using hb
    simp only [runs]
    by_cases hx : x = k
    · subst hx
      rw [decide_eq_true (rfl : x = x), cond_true, scan_runs rf stop hrs r (c + 1) x a (by omega) ha (by omega)]
      simp only [good, blk]
      rw [show a + (c + 1) = a + c + 1 by omega, ← Bool.and_assoc]
      congr 1
      rw [Bool.eq_iff_iff]
      simp
      omega
    · rw [decide_eq_false hx, cond_false]
      simp only [scan]
      rw [wrap_in (by omega) (by omega), scan_runs rf stop hrs r 1 x (a + c) (by omega) (by omega) (by omega)]
      simp only [good]
      rw [← Bool.and_assoc, ← Bool.and_assoc]
      congr 1
      rw [Bool.eq_iff_iff]
      simp [blk]
      omega
theorem cov_runs : ∀ (r : List Int) (c k left : Int), 1 ≤ c → left = c + r.length → covGo left (runs c k r) = true
  | [], c, k, left, hc, hl => by
    simp at hl
    subst hl
    simp [runs, covGo, hc]
  | x :: r, c, k, left, hc, hl => by
    have hl2 : left = c + (r.length + 1) := by simpa using hl
    simp only [runs]
    by_cases hx : x = k
    · subst hx
      rw [decide_eq_true (rfl : x = x), cond_true]
      exact cov_runs r (c + 1) x left (by omega) (by omega)
    · rw [decide_eq_false hx, cond_false]
      simp only [covGo]
      rw [cov_runs r 1 x (left - c) (by omega) (by omega), decide_eq_true hc, decide_eq_true (show c ≤ left by omega)]
      rfl
theorem good_kinds (l : List Rng) (hv : validL l = true) (rf stop : Int) : ∀ (m : Nat) (a : Int), good rf stop a (kindsOf l m a) = true ↔ ∀ b, a ≤ b → b < a + m → rf ≤ b → b < stop → anyIn l b = true
  | 0, a => by simp [kindsOf, good]; omega
  | m + 1, a => by
    simp only [kindsOf, good, hv, Bool.true_and, Bool.and_eq_true, good_kinds l hv rf stop m (a + 1)]
    constructor
    · intro ⟨h1, h2⟩ b q1 q2 q3 q4
      by_cases hb : b = a
      · subst hb
        cases hin : anyIn l b with
        | true => rfl
        | false => rw [hin] at h1; simp at h1; omega
      · exact h2 b (by omega) (by omega) q3 q4
    · intro h
      refine ⟨?_, fun b q1 q2 q3 q4 => h b (by omega) (by omega) q3 q4⟩
      cases hin : anyIn l a with
      | true => rfl
      | false =>
        by_cases q : rf ≤ a ∧ a < stop
        · have := h a (by omega) (by omega) q.1 q.2
          rw [hin] at this; cases this
        · simp
          omega
theorem cover_iff (l : List Rng) : ∀ (m : Nat) (a : Int), coverGo l m a = true ↔ ∀ b, a ≤ b → b < a + m → anyIn l b = true
  | 0, a => by simp [coverGo]; omega
  | m + 1, a => by
    simp only [coverGo, Bool.and_eq_true, cover_iff l m (a + 1)]
    constructor
    · intro ⟨h1, h2⟩ b q1 q2
      by_cases hb : b = a
      · subst hb; exact h1
      · exact h2 b (by omega) (by omega)
    · intro h
      exact ⟨h a (by omega) (by omega), fun b q1 q2 => h b (by omega) (by omega)⟩
/-- THE PLAIN LAW on maps. -/
theorem readable_law (l : List Rng) (hv : validL l = true) (rf rc wf wc : Int) (h1 : 0 ≤ rf) (h2 : 1 ≤ rc) (h3 : rf + rc ≤ 65536) (h4 : 1 ≤ wc) (h5 : wc ≤ 12) (h6 : 0 ≤ wf) (h7 : wf ≤ 65536 - wc) :
    readableV rf rc wf wc 2 (spansOf (kindsOf l wc.toNat wf)) = (decide (wf ≤ rf) && decide (rf + rc ≤ wf + wc) && coverGo l rc.toNat rf) := by
  have hm : ∃ m : Nat, wc.toNat = m + 1 ∧ wc = ((m : Nat) : Int) + 1 := ⟨wc.toNat - 1, by omega, by omega⟩
  obtain ⟨m, hm, hmw⟩ := hm
  unfold readableV cov
  rw [wrap_in (n := wf + wc) (by omega) (by omega), wrap_in (n := rf + rc) (by omega) (by omega), hm]
  show (_ && _ && _ && _ && scan rf (rf + rc) wf (runs 1 (bif validL l && anyIn l wf then 1 else 2) (kindsOf l m (wf + 1)))) = _
  have hcov : covGo wc (spansOf (kindsOf l (m + 1) wf)) = true := cov_runs (kindsOf l m (wf + 1)) 1 _ wc (by omega) (by rw [kinds_len]; omega)
  rw [hcov, scan_runs rf (rf + rc) (by omega) _ 1 _ wf (by omega) h6 (by rw [kinds_len]; omega)]
  have hg : (blk rf (rf + rc) 1 (bif validL l && anyIn l wf then 1 else 2) wf && good rf (rf + rc) (wf + 1) (kindsOf l m (wf + 1))) = good rf (rf + rc) wf (kindsOf l (m + 1) wf) := by
    simp only [kindsOf, good]
    congr 1
    rw [Bool.eq_iff_iff]
    simp [blk]
    omega
  rw [hg, Bool.eq_iff_iff]
  simp only [Bool.and_eq_true, Bool.not_eq_true', decide_eq_true_eq, decide_eq_false_iff_not, good_kinds l hv, cover_iff]
  constructor
  · intro ⟨⟨⟨_, q1⟩, q2⟩, q3⟩
    exact ⟨⟨by omega, by omega⟩, fun b c1 c2 => q3 b (by omega) (by omega) (by omega) (by omega)⟩
  · intro ⟨⟨q1, q2⟩, q3⟩
    exact ⟨⟨⟨⟨trivial, ⟨⟨by omega, by omega⟩, by omega, by omega⟩, trivial⟩, by omega⟩, by omega⟩, fun b c1 c2 c3 c4 => q3 b (by omega) (by omega)⟩

end Go.Pl
