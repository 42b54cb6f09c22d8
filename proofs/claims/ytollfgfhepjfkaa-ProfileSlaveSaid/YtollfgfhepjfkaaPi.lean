/- Whether a condition holds, and which profile is chosen (continued): Holds, Choose; whether a device is small. -/
import Derived.Test.YtollfgfhepjfkaaPh
namespace Go.Pl
open Go Go.Ev Go.Proofs

def Win.first (w : Win) (t : Int) : Int := bif decide (t = 1) then w.f0 else bif decide (t = 2) then w.f1 else bif decide (t = 3) then w.f2 else w.f3
def Win.count (w : Win) (t : Int) : Int := bif decide (t = 1) then w.c0 else bif decide (t = 2) then w.c1 else bif decide (t = 3) then w.c2 else w.c3
def Dev.tab (d : Dev) (t : Int) : Tab := bif decide (t = 1) then d.t0 else bif decide (t = 2) then d.t1 else bif decide (t = 3) then d.t2 else d.t3
def holds (c : Cond) (w : Win) (d : Dev) : Bool :=
  condValid c && decide (d.state = 2) &&
    (bif decide (c.kind = 1) then decide (d.identity = 2) && hasO d.objects c.id c.value false
    else bif decide (c.kind = 2) then decide (d.identity = 2) && hasO d.objects c.id c.value true
    else bif decide (c.kind = 3) then decide (d.server = 2) && begins d.data c.value
    else bif decide (c.kind = 4) then readableV c.first c.count (w.first c.table) (w.count c.table) (d.tab c.table).state (d.tab c.table).map
    else decide ((d.tab c.table).state = 2) && decide (c.n ≤ (d.tab c.table).most))

theorem isB_ (b : Bool) : D.isB (.bool b) = true := rfl
theorem b_ (b : Bool) : D.b (.bool b) = b := rfl
theorem Cond.ok.v {c : Cond} (hc : c.ok) : okS shBytes (.sl 1 c.value) = true := by
  have := hc.s
  simp only [Cond.d, shCond, okS, okZip, Bool.and_eq_true] at this
  simp only [shBytes, okS]
  simp only [shBytes] at this
  simpa using this.2.2.1
theorem pre29 {d : Dev} (hd : d.ok) (i : Int) {v : List D} (hv : okS shBytes (.sl 1 v) = true) (b : Bool) : sp29.pre [d.d, D.int .i64 i, D.sl 1 v, D.bool b] = true := by
  show okZip [shDev, .num .i64, shBytes, .bool] _ = true
  simp only [okZip, hd.s, hv, Bool.true_and, Bool.and_true]
  rfl
theorem val29 (d : Dev) (i : Int) (v : List D) (b : Bool) : sp29.val [d.d, D.int .i64 i, D.sl 1 v, D.bool b] = D.bool (decide (d.identity = 2) && hasO d.objects i v b) := by
  show D.bool (decide ((toDev d.d).identity = 2) && hasO (toDev d.d).objects i v b) = _
  rw [toDev_d]
theorem int_ok {n : Int} (h : -9223372036854775808 ≤ n ∧ n ≤ 9223372036854775807) : okS shInt (.int .i64 n) = true := by
  simp [shInt, okS, beqK, inR, h]
theorem pre31 {a b c d : Int} {t : Tab} (ha : okS shInt (.int .i64 a) = true) (hb : okS shInt (.int .i64 b) = true) (hc : okS shInt (.int .i64 c) = true) (hd : okS shInt (.int .i64 d) = true) (ht : t.ok) :
    sp31.pre [D.agg [D.int .i64 a, D.int .i64 b], D.agg [D.int .i64 c, D.int .i64 d], D.agg [D.int .i64 t.state, D.int .i64 t.most, D.sl 2 (t.map.map Span.d)]] = true := by
  show okZip [.agg [shInt, shInt], .agg [shInt, shInt], shTab] _ = true
  have e1 : okS (.agg [shInt, shInt]) (D.agg [D.int .i64 a, D.int .i64 b]) = true := by rw [okS2, ha, hb]; rfl
  have e2 : okS (.agg [shInt, shInt]) (D.agg [D.int .i64 c, D.int .i64 d]) = true := by rw [okS2, hc, hd]; rfl
  have e3 : ∀ x y z : D, okS shTab (D.agg [x, y, z]) = (okS shInt x && (okS shInt y && (okS shSpans z && true))) := fun x y z => by simp [shTab, okS, okZip]
  simp only [okZip, e1, e2, e3, ht.st, ht.mo, ht.sh, Bool.and_self]
theorem val31 (a b c d s m : Int) (l : List Span) : sp31.val [D.agg [D.int .i64 a, D.int .i64 b], D.agg [D.int .i64 c, D.int .i64 d], D.agg [D.int .i64 s, D.int .i64 m, D.sl 2 (l.map Span.d)]] = D.bool (readableV a b c d s l) := by
  show D.bool (readableV a b c d s (toSpans (l.map Span.d))) = _
  rw [toSpans_d]

def sp13 : Spc := mkS [shCond, shWin, shDev] fun ds => .bool (holds (toC (nth ds 0)) (toW (nth ds 1)) (toDev (nth ds 2)))
theorem foldC (c : Cond) : D.agg [D.int .i64 c.kind, D.int .i64 c.id, D.sl 1 c.value, D.int .i64 c.table, D.int .i64 c.first, D.int .i64 c.count, D.int .i64 c.n] = c.d := rfl
theorem foldD (d : Dev) : D.agg [D.int .i64 d.setting, D.int .i64 d.unit, D.int .i64 d.state, D.int .i64 d.identity, D.int .i64 d.level, D.sl 2 (d.objects.map Obj.d), D.int .i64 d.server, D.sl 1 d.data,
  D.int .i64 d.t0.state, D.int .i64 d.t0.most, D.sl 2 (d.t0.map.map Span.d), D.int .i64 d.t1.state, D.int .i64 d.t1.most, D.sl 2 (d.t1.map.map Span.d), D.int .i64 d.t2.state, D.int .i64 d.t2.most, D.sl 2 (d.t2.map.map Span.d),
  D.int .i64 d.t3.state, D.int .i64 d.t3.most, D.sl 2 (d.t3.map.map Span.d), D.str d.profile] = d.d := rfl
theorem foldW (w : Win) : D.agg [D.int .i64 w.f0, D.int .i64 w.c0, D.int .i64 w.f1, D.int .i64 w.c1, D.int .i64 w.f2, D.int .i64 w.c2, D.int .i64 w.f3, D.int .i64 w.c3] = w.d := rfl

theorem table_of {c : Cond} (h : condValid c = true) (h4 : c.kind = 4 ∨ c.kind = 5) : c.table = 1 ∨ c.table = 2 ∨ c.table = 3 ∨ c.table = 4 := by
  have h1 : ¬ c.kind = 1 := by omega
  have h2 : ¬ c.kind = 2 := by omega
  have h3 : ¬ c.kind = 3 := by omega
  simp only [condValid, decide_eq_false h1, decide_eq_false h2, decide_eq_false h3, Bool.false_and, Bool.false_or, Bool.or_eq_true, Bool.and_eq_true, decide_eq_true_eq] at h
  omega
theorem kind_of {c : Cond} (h : condValid c = true) (h1 : ¬ c.kind = 1) (h2 : ¬ c.kind = 2) (h3 : ¬ c.kind = 3) (h4 : ¬ c.kind = 4) : c.kind = 5 := by
  simp only [condValid, decide_eq_false h1, decide_eq_false h2, decide_eq_false h3, decide_eq_false h4, Bool.false_and, Bool.false_or, Bool.and_eq_true, decide_eq_true_eq] at h
  exact h.1
theorem snd13 : Sound Try.prog 13 sp13 := by
  refine snd (f13c sp21 sp29 sp30 sp31) (told1 _ _) Try.func13 (by kernel_rfl) (by kernel_rfl) (calling_cons snd21 (calling_cons snd29 (calling_cons snd30 (calling_cons snd31 (nocall _))))) fun ds h => ⟨1, ?_⟩
  obtain ⟨x, y, z, rfl, h1, h2, h3⟩ := three_of h
  obtain ⟨c, rfl, hc⟩ := cond_of h1
  obtain ⟨w, rfl, hw⟩ := win_of h2
  obtain ⟨d, rfl, hd⟩ := dev_of h3
  refine (e13 sp21 sp29 sp30 sp31 c.kind c.id c.value c.table c.first c.count c.n w.f0 w.c0 w.f1 w.c1 w.f2 w.c2 w.f3 w.c3 d.setting d.unit d.state d.identity d.level (d.objects.map Obj.d) d.server d.data
    d.t0.state d.t0.most (d.t0.map.map Span.d) d.t1.state d.t1.most (d.t1.map.map Span.d) d.t2.state d.t2.most (d.t2.map.map Span.d) d.t3.state d.t3.most (d.t3.map.map Span.d) d.profile 1).trans ?_
  show _ = some (D.bool (holds c w (toDev d.d)))
  rw [toDev_d, foldC, foldD, pre21 hc, val21, pre29 hd c.id hc.v, pre29 hd c.id hc.v, val29, val29, pre30 hd.data hd.dlen hc.bytes hc.len, val30]
  simp only [isB_, b_, Bool.and_self, Bool.true_or, chk_true, cond_or, cond_and]
  unfold holds
  cases hv : condValid c with
  | false => rfl
  | true =>
    by_cases hs0 : ¬ d.state = 2
    · simp [hs0]
    have hs : d.state = 2 := Decidable.of_not_not hs0
    simp only [hs, decide_true, Bool.not_true, Bool.or_false, cond_false, Bool.true_and]
    by_cases h1 : c.kind = 1
    · simp [h1]
    by_cases h2 : c.kind = 2
    · simp [h2]
    by_cases h3 : c.kind = 3
    · simp [h3]
    by_cases h4 : c.kind = 4
    · simp only [h4]
      rcases table_of hv (.inl h4) with ht | ht | ht | ht
      · have hp := pre31 (int_ok hc.first) (int_ok hc.count) (int_ok hw.f0) (int_ok hw.c0) hd.t0
        rw [ht]
        simp only [show IntKind.wrap IntKind.i64 ((1 : Int) - 1) = 0 from rfl, show Int.toNat 0 = 0 from rfl, nth]
        rw [hp, val31]
        simp [Win.first, Win.count, Dev.tab, isB_, b_, chk_true]
      · have hp := pre31 (int_ok hc.first) (int_ok hc.count) (int_ok hw.f1) (int_ok hw.c1) hd.t1
        rw [ht]
        simp only [show IntKind.wrap IntKind.i64 ((2 : Int) - 1) = 1 from rfl, show Int.toNat 1 = 1 from rfl, nth]
        rw [hp, val31]
        simp [Win.first, Win.count, Dev.tab, isB_, b_, chk_true]
      · have hp := pre31 (int_ok hc.first) (int_ok hc.count) (int_ok hw.f2) (int_ok hw.c2) hd.t2
        rw [ht]
        simp only [show IntKind.wrap IntKind.i64 ((3 : Int) - 1) = 2 from rfl, show Int.toNat 2 = 2 from rfl, nth]
        rw [hp, val31]
        simp [Win.first, Win.count, Dev.tab, isB_, b_, chk_true]
      · have hp := pre31 (int_ok hc.first) (int_ok hc.count) (int_ok hw.f3) (int_ok hw.c3) hd.t3
        rw [ht]
        simp only [show IntKind.wrap IntKind.i64 ((4 : Int) - 1) = 3 from rfl, show Int.toNat 3 = 3 from rfl, nth]
        rw [hp, val31]
        simp [Win.first, Win.count, Dev.tab, isB_, b_, chk_true]
    · have h5 := kind_of hv h1 h2 h3 h4
      simp only [h5]
      rcases table_of hv (.inr h5) with ht | ht | ht | ht
      · rw [ht]
        simp only [show IntKind.wrap IntKind.i64 ((1 : Int) - 1) = 0 from rfl, show Int.toNat 0 = 0 from rfl, nth, isI_, di]
        simp [Dev.tab, chk_true]
      · rw [ht]
        simp only [show IntKind.wrap IntKind.i64 ((2 : Int) - 1) = 1 from rfl, show Int.toNat 1 = 1 from rfl, nth, isI_, di]
        simp [Dev.tab, chk_true]
      · rw [ht]
        simp only [show IntKind.wrap IntKind.i64 ((3 : Int) - 1) = 2 from rfl, show Int.toNat 2 = 2 from rfl, nth, isI_, di]
        simp [Dev.tab, chk_true]
      · rw [ht]
        simp only [show IntKind.wrap IntKind.i64 ((4 : Int) - 1) = 3 from rfl, show Int.toNat 3 = 3 from rfl, nth, isI_, di]
        simp [Dev.tab, chk_true]

end Go.Pl
