/- Whether a condition holds, and which profile is chosen: what the program's functions return. -/
import Derived.Test.YtollfgfhepjfkaaPe
import Derived.Test.YtollfgfhepjfkaaPb2
namespace Go.Pl
open Go Go.Ev Go.Proofs

/-! ### objects, spans, devices -/
structure Obj where
  id : Int
  value : List D
def Obj.d (o : Obj) : D := .agg [.int .i64 o.id, .sl 1 o.value]
def toO (d : D) : Obj := ⟨(nth d.cells 0).i, (nth d.cells 1).l⟩
theorem toO_d (o : Obj) : toO o.d = o := rfl
def shObj : Sh := .agg [shInt, shBytes]
structure Obj.ok (o : Obj) : Prop where
  s : okS shObj o.d = true
  len : o.value.length ≤ 9223372036854775807
  bytes : okAll (.int .u8) o.value = true
theorem obj_of {d : D} (h : okS shObj d = true) : ∃ o : Obj, d = o.d ∧ o.ok := by
  have h0 := h
  obtain ⟨cs, rfl, h⟩ := ok_agg h
  obtain ⟨d1, d2, rfl, q1, q2⟩ := two_of h
  obtain ⟨a, rfl, _⟩ := ok_int q1
  obtain ⟨v, rfl, hv, hv2⟩ := ok_sl q2
  exact ⟨⟨a, v⟩, rfl, h0, len_lt hv, hv2⟩
structure Span where
  count : Int
  kind : Int
def Span.d (o : Span) : D := .agg [.int .i64 o.count, .int .i64 o.kind]
def toS (d : D) : Span := ⟨(nth d.cells 0).i, (nth d.cells 1).i⟩
theorem toS_d (o : Span) : toS o.d = o := rfl
def shSpan : Sh := .agg [shInt, shInt]
structure Span.ok (o : Span) : Prop where
  s : okS shSpan o.d = true
  count : -9223372036854775808 ≤ o.count ∧ o.count ≤ 9223372036854775807
theorem span_of {d : D} (h : okS shSpan d = true) : ∃ o : Span, d = o.d ∧ o.ok := by
  have h0 := h
  obtain ⟨cs, rfl, h⟩ := ok_agg h
  obtain ⟨d1, d2, rfl, q1, q2⟩ := two_of h
  obtain ⟨a, rfl, ha⟩ := ok_int q1
  obtain ⟨v, rfl, hv⟩ := ok_int q2
  exact ⟨⟨a, v⟩, rfl, h0, inR64 ha⟩
def spansD (l : List Span) : List D := l.map Span.d
def toSpans (l : List D) : List Span := l.map toS
theorem toSpans_d (l : List Span) : toSpans (l.map Span.d) = l := by
  unfold toSpans
  rw [List.map_map]
  exact List.map_id'' (fun p => toS_d p) l
def shSpans : Sh := .sl 2 shSpan
theorem spans_of {d : D} (h : okS shSpans d = true) : ∃ l : List Span, d = .sl 2 (l.map Span.d) ∧ (∀ p ∈ l, p.ok) ∧ l.length ≤ 9223372036854775807 := by
  obtain ⟨xs, rfl, h1, h2⟩ := ok_sl h
  obtain ⟨l, rfl, h3⟩ := map_of (fun x hx => span_of hx) h2
  exact ⟨l, rfl, h3, by simpa using len_lt h1⟩
def shObjs : Sh := .sl 2 shObj
theorem objs_of {d : D} (h : okS shObjs d = true) : ∃ l : List Obj, d = .sl 2 (l.map Obj.d) ∧ (∀ p ∈ l, p.ok) ∧ l.length ≤ 9223372036854775807 := by
  obtain ⟨xs, rfl, h1, h2⟩ := ok_sl h
  obtain ⟨l, rfl, h3⟩ := map_of (fun x hx => obj_of hx) h2
  exact ⟨l, rfl, h3, by simpa using len_lt h1⟩
structure Tab where
  state : Int
  most : Int
  map : List Span
structure Dev where
  setting : Int
  unit : Int
  state : Int
  identity : Int
  level : Int
  objects : List Obj
  server : Int
  data : List D
  t0 : Tab
  t1 : Tab
  t2 : Tab
  t3 : Tab
  profile : List UInt8
def Dev.d (d : Dev) : D := .agg [.int .i64 d.setting, .int .i64 d.unit, .int .i64 d.state, .int .i64 d.identity, .int .i64 d.level, .sl 2 (d.objects.map Obj.d), .int .i64 d.server, .sl 1 d.data,
  .int .i64 d.t0.state, .int .i64 d.t0.most, .sl 2 (d.t0.map.map Span.d), .int .i64 d.t1.state, .int .i64 d.t1.most, .sl 2 (d.t1.map.map Span.d), .int .i64 d.t2.state, .int .i64 d.t2.most, .sl 2 (d.t2.map.map Span.d),
  .int .i64 d.t3.state, .int .i64 d.t3.most, .sl 2 (d.t3.map.map Span.d), .str d.profile]
def toT (d : D) (i : Nat) : Tab := ⟨(nth d.cells i).i, (nth d.cells (i + 1)).i, toSpans (nth d.cells (i + 2)).l⟩
def toDev (d : D) : Dev := ⟨(nth d.cells 0).i, (nth d.cells 1).i, (nth d.cells 2).i, (nth d.cells 3).i, (nth d.cells 4).i, (nth d.cells 5).l.map toO, (nth d.cells 6).i, (nth d.cells 7).l, toT d 8, toT d 11, toT d 14, toT d 17, (nth d.cells 20).s⟩
theorem toDev_d (d : Dev) : toDev d.d = d := by
  obtain ⟨a, b, c, i, l, o, s, dt, ⟨s0, m0, p0⟩, ⟨s1, m1, p1⟩, ⟨s2, m2, p2⟩, ⟨s3, m3, p3⟩, pr⟩ := d
  show (⟨a, b, c, i, l, (o.map Obj.d).map toO, s, dt, ⟨s0, m0, toSpans (p0.map Span.d)⟩, ⟨s1, m1, toSpans (p1.map Span.d)⟩, ⟨s2, m2, toSpans (p2.map Span.d)⟩, ⟨s3, m3, toSpans (p3.map Span.d)⟩, pr⟩ : Dev) = _
  rw [List.map_map, toSpans_d, toSpans_d, toSpans_d, toSpans_d]
  congr 1
  exact List.map_id'' (fun p => toO_d p) o
def shDev : Sh := .agg [shInt, shInt, shInt, shInt, shInt, shObjs, shInt, shBytes, shInt, shInt, shSpans, shInt, shInt, shSpans, shInt, shInt, shSpans, shInt, shInt, shSpans, .str]
structure Tab.ok (t : Tab) : Prop where
  sp : ∀ p ∈ t.map, p.ok
  len : t.map.length ≤ 9223372036854775807
  sh : okS shSpans (.sl 2 (t.map.map Span.d)) = true
  st : okS shInt (.int .i64 t.state) = true
  mo : okS shInt (.int .i64 t.most) = true
structure Dev.ok (d : Dev) : Prop where
  s : okS shDev d.d = true
  objs : ∀ o ∈ d.objects, o.ok
  olen : d.objects.length ≤ 9223372036854775807
  osh : okS shObjs (.sl 2 (d.objects.map Obj.d)) = true
  dlen : d.data.length ≤ 9223372036854775807
  data : okAll (.int .u8) d.data = true
  t0 : d.t0.ok
  t1 : d.t1.ok
  t2 : d.t2.ok
  t3 : d.t3.ok
theorem dev_of {d : D} (h : okS shDev d = true) : ∃ x : Dev, d = x.d ∧ x.ok := by
  have h0 := h
  obtain ⟨cs, rfl, h⟩ := ok_agg h
  obtain ⟨d1, _, rfl, q1, h⟩ := zip_cons h
  obtain ⟨d2, _, rfl, q2, h⟩ := zip_cons h
  obtain ⟨d3, _, rfl, q3, h⟩ := zip_cons h
  obtain ⟨d4, _, rfl, q4, h⟩ := zip_cons h
  obtain ⟨d5, _, rfl, q5, h⟩ := zip_cons h
  obtain ⟨d6, _, rfl, q6, h⟩ := zip_cons h
  obtain ⟨d7, _, rfl, q7, h⟩ := zip_cons h
  obtain ⟨d8, _, rfl, q8, h⟩ := zip_cons h
  obtain ⟨e1, _, rfl, r1, h⟩ := zip_cons h
  obtain ⟨e2, _, rfl, r2, h⟩ := zip_cons h
  obtain ⟨e3, _, rfl, r3, h⟩ := zip_cons h
  obtain ⟨e4, _, rfl, r4, h⟩ := zip_cons h
  obtain ⟨e5, _, rfl, r5, h⟩ := zip_cons h
  obtain ⟨e6, _, rfl, r6, h⟩ := zip_cons h
  obtain ⟨e7, _, rfl, r7, h⟩ := zip_cons h
  obtain ⟨e8, _, rfl, r8, h⟩ := zip_cons h
  obtain ⟨e9, _, rfl, r9, h⟩ := zip_cons h
  obtain ⟨g1, _, rfl, u1, h⟩ := zip_cons h
  obtain ⟨g2, _, rfl, u2, h⟩ := zip_cons h
  obtain ⟨g3, _, rfl, u3, h⟩ := zip_cons h
  obtain ⟨g4, _, rfl, u4, h⟩ := zip_cons h
  have := zip_nil h; subst this
  obtain ⟨a1, rfl, _⟩ := ok_int q1
  obtain ⟨a2, rfl, _⟩ := ok_int q2
  obtain ⟨a3, rfl, _⟩ := ok_int q3
  obtain ⟨a4, rfl, _⟩ := ok_int q4
  obtain ⟨a5, rfl, _⟩ := ok_int q5
  obtain ⟨ob, rfl, ho, hol⟩ := objs_of q6
  obtain ⟨a7, rfl, _⟩ := ok_int q7
  obtain ⟨dt, rfl, hd1, hd2⟩ := ok_sl q8
  obtain ⟨b1, rfl, _⟩ := ok_int r1
  obtain ⟨b2, rfl, _⟩ := ok_int r2
  obtain ⟨m0, rfl, hm0, hl0⟩ := spans_of r3
  obtain ⟨b4, rfl, _⟩ := ok_int r4
  obtain ⟨b5, rfl, _⟩ := ok_int r5
  obtain ⟨m1, rfl, hm1, hl1⟩ := spans_of r6
  obtain ⟨b7, rfl, _⟩ := ok_int r7
  obtain ⟨b8, rfl, _⟩ := ok_int r8
  obtain ⟨m2, rfl, hm2, hl2⟩ := spans_of r9
  obtain ⟨c1, rfl, _⟩ := ok_int u1
  obtain ⟨c2, rfl, _⟩ := ok_int u2
  obtain ⟨m3, rfl, hm3, hl3⟩ := spans_of u3
  obtain ⟨pr, rfl, _⟩ := ok_str u4
  exact ⟨⟨a1, a2, a3, a4, a5, ob, a7, dt, ⟨b1, b2, m0⟩, ⟨b4, b5, m1⟩, ⟨b7, b8, m2⟩, ⟨c1, c2, m3⟩, pr⟩, rfl, h0, ho, hol, q6, len_lt hd1, hd2, ⟨hm0, hl0, r3, r1, r2⟩, ⟨hm1, hl1, r6, r4, r5⟩, ⟨hm2, hl2, r9, r7, r8⟩, ⟨hm3, hl3, u3, u1, u2⟩⟩
/-- four windows -/
structure Win where
  f0 : Int
  c0 : Int
  f1 : Int
  c1 : Int
  f2 : Int
  c2 : Int
  f3 : Int
  c3 : Int
def Win.d (w : Win) : D := .agg [.int .i64 w.f0, .int .i64 w.c0, .int .i64 w.f1, .int .i64 w.c1, .int .i64 w.f2, .int .i64 w.c2, .int .i64 w.f3, .int .i64 w.c3]
def toW (d : D) : Win := ⟨(nth d.cells 0).i, (nth d.cells 1).i, (nth d.cells 2).i, (nth d.cells 3).i, (nth d.cells 4).i, (nth d.cells 5).i, (nth d.cells 6).i, (nth d.cells 7).i⟩
theorem toW_d (w : Win) : toW w.d = w := rfl
def shWin : Sh := .agg [shInt, shInt, shInt, shInt, shInt, shInt, shInt, shInt]
def in64 (n : Int) : Prop := -9223372036854775808 ≤ n ∧ n ≤ 9223372036854775807
structure Win.ok (w : Win) : Prop where
  s : okS shWin w.d = true
  f0 : in64 w.f0
  c0 : in64 w.c0
  f1 : in64 w.f1
  c1 : in64 w.c1
  f2 : in64 w.f2
  c2 : in64 w.c2
  f3 : in64 w.f3
  c3 : in64 w.c3
theorem win_of {d : D} (h : okS shWin d = true) : ∃ x : Win, d = x.d ∧ x.ok := by
  have h0 := h
  obtain ⟨cs, rfl, h⟩ := ok_agg h
  obtain ⟨d1, _, rfl, q1, h⟩ := zip_cons h
  obtain ⟨d2, _, rfl, q2, h⟩ := zip_cons h
  obtain ⟨d3, _, rfl, q3, h⟩ := zip_cons h
  obtain ⟨d4, _, rfl, q4, h⟩ := zip_cons h
  obtain ⟨d5, _, rfl, q5, h⟩ := zip_cons h
  obtain ⟨d6, _, rfl, q6, h⟩ := zip_cons h
  obtain ⟨d7, _, rfl, q7, h⟩ := zip_cons h
  obtain ⟨d8, _, rfl, q8, h⟩ := zip_cons h
  have := zip_nil h; subst this
  obtain ⟨a1, rfl, k1⟩ := ok_int q1
  obtain ⟨a2, rfl, k2⟩ := ok_int q2
  obtain ⟨a3, rfl, k3⟩ := ok_int q3
  obtain ⟨a4, rfl, k4⟩ := ok_int q4
  obtain ⟨a5, rfl, k5⟩ := ok_int q5
  obtain ⟨a6, rfl, k6⟩ := ok_int q6
  obtain ⟨a7, rfl, k7⟩ := ok_int q7
  obtain ⟨a8, rfl, k8⟩ := ok_int q8
  exact ⟨⟨a1, a2, a3, a4, a5, a6, a7, a8⟩, rfl, h0, inR64 k1, inR64 k2, inR64 k3, inR64 k4, inR64 k5, inR64 k6, inR64 k7, inR64 k8⟩

/-! ### bytes.HasPrefix -/
def begins (v p : List D) : Bool := decide (p.length ≤ v.length) && decide (bytesOf (v.take p.length) = bytesOf p)
theorem okAll_take {e : Sh} {xs : List D} (h : okAll e xs = true) (n : Nat) : okAll e (xs.take n) = true := okAll_of fun x hx => okAll_mem h x (List.mem_of_mem_take hx)
def sp30 : Spc := mkS [shBytes, shBytes] fun ds => .bool (begins (nth ds 0).l (nth ds 1).l)
theorem snd30 : Sound Try.prog 30 sp30 := by
  refine snd (f30c sp35) (told1 _ _) Try.func30 (by kernel_rfl) (by kernel_rfl) (calling_cons snd35 (nocall _)) fun ds h => ⟨1, ?_⟩
  obtain ⟨d, e, rfl, h1, h2⟩ := two_of h
  obtain ⟨x, rfl, lx, hx⟩ := ok_sl h1
  obtain ⟨y, rfl, ly, hy⟩ := ok_sl h2
  refine (e30 sp35 x y 1).trans ?_
  have hl := len_lt lx
  rw [List.drop_zero, Int.toNat_natCast, pre35 (okAll_take hx _) (by rw [List.length_take]; omega) hy (len_lt ly), val35]
  show _ = some (D.bool (begins x y))
  have e1 : decide (((y.length : Nat) : Int) ≤ ((x.length : Nat) : Int)) = decide (y.length ≤ x.length) := decide_eq_decide.2 (by omega)
  rw [e1]
  unfold begins
  by_cases hle : y.length ≤ x.length
  · simp [hle, D.isB, D.b, chk_true]
  · simp [hle, D.isB, D.b]
    rfl

/-! ### has -/
def hasO (os : List Obj) (id : Int) (v : List D) (b : Bool) : Bool := os.any fun o => decide (o.id = id) && begins o.value v && (b || decide (o.value.length = v.length))
theorem pre30 {x y : List D} (hx : okAll (.int .u8) x = true) (lx : x.length ≤ 9223372036854775807) (hy : okAll (.int .u8) y = true) (ly : y.length ≤ 9223372036854775807) : sp30.pre [D.sl 1 x, D.sl 1 y] = true := pre35 hx lx hy ly
theorem val30 (x y : List D) : sp30.val [D.sl 1 x, D.sl 1 y] = D.bool (begins x y) := rfl
theorem o0 (o : Obj) : nth (D.cells o.d) 0 = D.int .i64 o.id := rfl
theorem o1 (o : Obj) : nth (D.cells o.d) 1 = D.sl 1 o.value := rfl
theorem di (k : IntKind) (n : Int) : D.i (.int k n) = n := rfl
theorem isI_ (n : Int) : D.isI .i64 (.int .i64 n) = true := rfl
theorem b11 : Nat.beq 1 1 = true := rfl
theorem l29 (k : Nat) (id : Int) (v : List D) (b : Bool) (hv : okAll (.int .u8) v = true) (lv : v.length ≤ 9223372036854775807)
    (a0 a1 a2 a3 a4 : Int) (a5 : List D) (a6 : Int) (a7 : List D) (a8 a9 : Int) (a10 : List D) (a11 a12 : Int) (a13 : List D) (a14 a15 : Int) (a16 : List D) (a17 a18 : Int) (a19 : List D) (a20 : List UInt8) :
    ∀ (r pre : List Obj) (n : Nat), (∀ o ∈ r, o.ok) → (pre ++ r).length ≤ 9223372036854775807 → r.length < n →
    f29L3 sp30 k n (f29s3 id v b ((pre ++ r).map Obj.d) ((((pre ++ r).map Obj.d).length : Nat) : Int) ((pre.length : Nat) : Int) a0 a1 a2 a3 a4 a5 a6 a7 a8 a9 a10 a11 a12 a13 a14 a15 a16 a17 a18 a19 a20) = some (.bool (hasO r id v b))
  | r, pre, 0, _, _, h => by omega
  | [], pre, n + 1, _, _, _ => by
    rw [f29l3, lt_end]; rfl
  | o :: r, pre, n + 1, hok, hl, h => by
    have ho := hok o (by simp)
    rw [f29l3, lt_mid, ge0, nth_mid, o0, o1, di, isI_, isL_, dl, pre30 ho.bytes ho.len hv lv, val30]
    have hl' : pre.length < 9223372036854775807 := by simp at hl; omega
    have e : pre ++ o :: r = (pre ++ [o]) ++ r := by simp
    rw [wrap_add1 hl', e, show pre.length + 1 = (pre ++ [o]).length by simp, l29 k id v b hv lv a0 a1 a2 a3 a4 a5 a6 a7 a8 a9 a10 a11 a12 a13 a14 a15 a16 a17 a18 a19 a20 r (pre ++ [o]) n (fun c hc => hok c (by simp [hc])) (by simpa using hl) (by simpa using h)]
    simp only [Bool.and_true, Bool.true_or, cond_true, chk_true, D.isB, D.b, b11, show Nat.ble 2 (D.cells o.d).length = true from rfl, cond_and, cond_or, ite_some]
    have e1 : decide (((o.value.length : Nat) : Int) = ((v.length : Nat) : Int)) = decide (o.value.length = v.length) := decide_eq_decide.2 (by omega)
    rw [e1]
    rfl
def sp29 : Spc := mkS [shDev, .num .i64, shBytes, .bool] fun ds => .bool (decide ((toDev (nth ds 0)).identity = 2) && hasO (toDev (nth ds 0)).objects (nth ds 1).i (nth ds 2).l (nth ds 3).b)
theorem snd29 : Sound Try.prog 29 sp29 := by
  refine snd (f29c sp30) (told1 _ _) Try.func29 (by kernel_rfl) (by kernel_rfl) (calling_cons snd30 (nocall _)) fun ds h => ⟨9223372036854775810, ?_⟩
  obtain ⟨d, _, rfl, h1, h⟩ := zip_cons h
  obtain ⟨i, v, b, rfl, h2, h3, h4⟩ := three_of h
  obtain ⟨dv, rfl, hd⟩ := dev_of h1
  obtain ⟨i, rfl⟩ := ok_num h2
  obtain ⟨v, rfl, lv, hv⟩ := ok_sl h3
  obtain ⟨b, rfl⟩ := ok_bool h4
  refine (e29 sp30 _ _ _ _ _ _ _ _ _ _ _ _ _ _ _ _ _ _ _ _ _ i v b 9223372036854775810).trans ?_
  show _ = some (D.bool (decide ((toDev dv.d).identity = 2) && hasO (toDev dv.d).objects i v b))
  rw [toDev_d]
  have := l29 9223372036854775810 i v b hv (len_lt lv) dv.setting dv.unit dv.state dv.identity dv.level (dv.objects.map Obj.d) dv.server dv.data dv.t0.state dv.t0.most (dv.t0.map.map Span.d) dv.t1.state dv.t1.most (dv.t1.map.map Span.d)
    dv.t2.state dv.t2.most (dv.t2.map.map Span.d) dv.t3.state dv.t3.most (dv.t3.map.map Span.d) dv.profile dv.objects [] 9223372036854775810 hd.objs hd.olen (by have := hd.olen; omega)
  simp only [List.nil_append, List.length_nil] at this
  rw [show ((0 : Nat) : Int) = (0 : Int) from rfl] at this
  rw [this]
  cases decide (dv.identity = 2) <;> rfl

/-! ### covers -/
def covGo (left : Int) : List Span → Bool
  | [] => decide (left = 0)
  | s :: r => decide (1 ≤ s.count) && decide (s.count ≤ left) && covGo (left - s.count) r
def cov (first count : Int) (l : List Span) : Bool := decide (1 ≤ count) && decide (count ≤ 512) && (decide (0 ≤ first) && decide (first ≤ 65536 - count)) && covGo count l
theorem s0 (o : Span) : nth (D.cells o.d) 0 = D.int .i64 o.count := rfl
theorem s1 (o : Span) : nth (D.cells o.d) 1 = D.int .i64 o.kind := rfl
theorem l38 (k : Nat) (a b : Int) : ∀ (r pre : List Span) (n : Nat) (left : Int), 0 ≤ left → left ≤ 512 → (pre ++ r).length ≤ 9223372036854775807 → r.length < n →
    f38L5 sp20 k n (f38s5 left ((pre ++ r).map Span.d) ((((pre ++ r).map Span.d).length : Nat) : Int) ((pre.length : Nat) : Int) a b) = some (.bool (covGo left r))
  | r, pre, 0, _, _, _, _, h => by omega
  | [], pre, n + 1, _, _, _, _, _ => by
    rw [f38l5, lt_end]; rfl
  | s :: r, pre, n + 1, left, h0, h1, hl, h => by
    rw [f38l5, lt_mid, ge0, nth_mid, s0, di, isI_, pre20, val20]
    have hl' : pre.length < 9223372036854775807 := by simp at hl; omega
    have e : pre ++ s :: r = (pre ++ [s]) ++ r := by simp
    simp only [Bool.and_true, cond_true, chk_true, D.isB, D.b, show Nat.ble 2 (D.cells s.d).length = true from rfl]
    by_cases hc : 1 ≤ s.count ∧ s.count ≤ left
    · rw [wrap_in (by omega) (by omega), wrap_add1 hl', e, show pre.length + 1 = (pre ++ [s]).length by simp, l38 k a b r (pre ++ [s]) n (left - s.count) (by omega) (by omega) (by simpa using hl) (by simpa using h)]
      simp [covGo, hc]
    · have : (decide (1 ≤ s.count) && decide (s.count ≤ left)) = false := by
        rw [Bool.and_eq_false_iff]; simp; omega
      simp [covGo, this]
def sp38 : Spc := mkS [.agg [shInt, shInt], shSpans] fun ds => .bool (cov (nth (nth ds 0).cells 0).i (nth (nth ds 0).cells 1).i (toSpans (nth ds 1).l))
theorem snd38 : Sound Try.prog 38 sp38 := by
  refine snd (f38c sp20) (told1 _ _) Try.func38 (by kernel_rfl) (by kernel_rfl) (calling_cons snd20 (nocall _)) fun ds h => ⟨9223372036854775810, ?_⟩
  obtain ⟨d, e, rfl, h1, h2⟩ := two_of h
  obtain ⟨cs, rfl, h1⟩ := ok_agg h1
  obtain ⟨x, y, rfl, q1, q2⟩ := two_of h1
  obtain ⟨a, rfl, ha⟩ := ok_int q1
  obtain ⟨b, rfl, hb⟩ := ok_int q2
  obtain ⟨l, rfl, _, hl⟩ := spans_of h2
  refine (e38 sp20 a b (l.map Span.d) 9223372036854775810).trans ?_
  show _ = some (D.bool (cov a b (toSpans (l.map Span.d))))
  rw [toSpans_d, pre20, pre20, val20, val20]
  have hb := inR64 hb
  simp only [Bool.true_or, Bool.and_true, chk_true, D.isB, D.b, cond_or]
  by_cases h1 : 1 ≤ b ∧ b ≤ 512
  · have := l38 9223372036854775810 a b l [] 9223372036854775810 b (by omega) (by omega) hl (by omega)
    simp only [List.nil_append, List.length_nil] at this
    rw [show ((0 : Nat) : Int) = (0 : Int) from rfl] at this
    rw [this, wrap_in (by omega) (by omega), ite_some]
    unfold cov
    congr 2
    rw [Bool.eq_iff_iff]
    simp [h1]
  · have h2 : (decide (1 ≤ b) && decide (b ≤ 512)) = false := by rw [Bool.and_eq_false_iff]; simp; omega
    simp [cov, h2]

/-! ### readable -/
def scan (first stop : Int) : Int → List Span → Bool
  | _, [] => true
  | at_, s :: r => !(!decide (s.kind = 1) && decide (at_ < stop) && decide (first < IntKind.wrap .i64 (at_ + s.count))) && scan first stop (IntKind.wrap .i64 (at_ + s.count)) r
def readableV (rf rc wf wc st : Int) (l : List Span) : Bool :=
  decide (st = 2) && cov wf wc l && !decide (rf < wf) && !decide (IntKind.wrap .i64 (wf + wc) < IntKind.wrap .i64 (rf + rc)) && scan rf (IntKind.wrap .i64 (rf + rc)) wf l
theorem l31 (k : Nat) (f c a b s m : Int) (l0 : List D) : ∀ (r pre : List Span) (n : Nat) (at_ : Int), (pre ++ r).length ≤ 9223372036854775807 → r.length < n →
    f31L5 sp38 k n (f31s5 at_ ((pre ++ r).map Span.d) ((((pre ++ r).map Span.d).length : Nat) : Int) ((pre.length : Nat) : Int) f c a b s m l0) = some (.bool (scan f (IntKind.wrap .i64 (f + c)) at_ r))
  | r, pre, 0, _, _, h => by omega
  | [], pre, n + 1, _, _, _ => by
    rw [f31l5, lt_end]; rfl
  | x :: r, pre, n + 1, at_, hl, h => by
    rw [f31l5, lt_mid, ge0, nth_mid, s0, s1, di, di, isI_, isI_]
    have hl' : pre.length < 9223372036854775807 := by simp at hl; omega
    have e : pre ++ x :: r = (pre ++ [x]) ++ r := by simp
    rw [wrap_add1 hl', e, show pre.length + 1 = (pre ++ [x]).length by simp, l31 k f c a b s m l0 r (pre ++ [x]) n _ (by simpa using hl) (by simpa using h)]
    simp only [Bool.true_and, Bool.true_or, cond_true, chk_true, cond_and, ite_some, show Nat.ble 2 (D.cells x.d).length = true from rfl]
    congr 2
    simp only [scan]
    cases (!decide (x.kind = 1) && decide (at_ < IntKind.wrap IntKind.i64 (f + c)) && decide (f < IntKind.wrap IntKind.i64 (at_ + x.count))) <;> rfl
def shTab : Sh := .agg [shInt, shInt, shSpans]
def sp31 : Spc := mkS [.agg [shInt, shInt], .agg [shInt, shInt], shTab] fun ds =>
  .bool (readableV (nth (nth ds 0).cells 0).i (nth (nth ds 0).cells 1).i (nth (nth ds 1).cells 0).i (nth (nth ds 1).cells 1).i (nth (nth ds 2).cells 0).i (toSpans (nth (nth ds 2).cells 2).l))
theorem okS2 (s1 s2 : Sh) (x y : D) : okS (.agg [s1, s2]) (.agg [x, y]) = (okS s1 x && okS s2 y) := by simp [okS, okZip]
theorem pre38 {a b : Int} {l : List Span} (ha : okS shInt (.int .i64 a) = true) (hb : okS shInt (.int .i64 b) = true) (hl : okS shSpans (.sl 2 (l.map Span.d)) = true) : sp38.pre [D.agg [D.int .i64 a, D.int .i64 b], D.sl 2 (l.map Span.d)] = true := by
  show okZip [.agg [shInt, shInt], shSpans] _ = true
  have e2 : okS (.agg [shInt, shInt]) (D.agg [D.int .i64 a, D.int .i64 b]) = true := by rw [okS2, ha, hb]; rfl
  simp only [okZip, e2, hl, Bool.and_self]
theorem val38 (a b : Int) (l : List Span) : sp38.val [D.agg [D.int .i64 a, D.int .i64 b], D.sl 2 (l.map Span.d)] = D.bool (cov a b l) := by
  show D.bool (cov a b (toSpans (l.map Span.d))) = _
  rw [toSpans_d]
theorem snd31 : Sound Try.prog 31 sp31 := by
  refine snd (f31c sp38) (told1 _ _) Try.func31 (by kernel_rfl) (by kernel_rfl) (calling_cons snd38 (nocall _)) fun ds h => ⟨9223372036854775810, ?_⟩
  obtain ⟨d, e, x, rfl, h1, h2, h3⟩ := three_of h
  obtain ⟨cs, rfl, h1⟩ := ok_agg h1
  obtain ⟨x1, y1, rfl, q1, q2⟩ := two_of h1
  obtain ⟨cs, rfl, h2⟩ := ok_agg h2
  obtain ⟨x2, y2, rfl, q3, q4⟩ := two_of h2
  obtain ⟨cs, rfl, h3⟩ := ok_agg h3
  obtain ⟨x3, y3, z3, rfl, q5, q6, q7⟩ := three_of h3
  obtain ⟨rf, rfl, _⟩ := ok_int q1
  obtain ⟨rc, rfl, _⟩ := ok_int q2
  have k3 := q3
  have k4 := q4
  obtain ⟨wf, rfl, _⟩ := ok_int q3
  obtain ⟨wc, rfl, _⟩ := ok_int q4
  obtain ⟨st, rfl, _⟩ := ok_int q5
  obtain ⟨mo, rfl, _⟩ := ok_int q6
  have k7 := q7
  obtain ⟨l, rfl, _, hl⟩ := spans_of q7
  refine (e31 sp38 rf rc wf wc st mo (l.map Span.d) 9223372036854775810).trans ?_
  show _ = some (D.bool (readableV rf rc wf wc st (toSpans (l.map Span.d))))
  rw [toSpans_d, pre38 k3 k4 k7, val38]
  have := l31 9223372036854775810 rf rc wf wc st mo (l.map Span.d) l [] 9223372036854775810 wf hl (by omega)
  simp only [List.nil_append, List.length_nil] at this
  rw [show ((0 : Nat) : Int) = (0 : Int) from rfl] at this
  rw [this]
  simp only [Bool.true_or, Bool.and_true, chk_true, D.isB, D.b, cond_or, ite_some, readableV]
  congr 2
  rw [Bool.eq_iff_iff]
  simp

end Go.Pl
