/- Slaves: what their true description is, and what is known of a valid one. -/
import Derived.Test.YtollfgfhepjfkaaQb
namespace Go.Pl
open Go Go.Ev Go.Proofs

structure Slave where
  baud : Int
  parity : Int
  unit : Int
  t0 : STab
  t1 : STab
  t2 : STab
  t3 : STab
  level : Int
  objects : List Obj
  has : Bool
  server : List D
def Slave.d (s : Slave) : D := .agg [.int .i64 s.baud, .int .i64 s.parity, .int .i64 s.unit, .bool s.t0.sup, .sl 2 (s.t0.rd.map Rng.d), .int .i64 s.t0.most, .bool s.t1.sup, .sl 2 (s.t1.rd.map Rng.d), .int .i64 s.t1.most,
  .bool s.t2.sup, .sl 2 (s.t2.rd.map Rng.d), .int .i64 s.t2.most, .bool s.t3.sup, .sl 2 (s.t3.rd.map Rng.d), .int .i64 s.t3.most, .int .i64 s.level, .sl 2 (s.objects.map Obj.d), .bool s.has, .sl 1 s.server]
def shSlave : Sh := .agg [shInt, shInt, shInt, .bool, shRngs, shInt, .bool, shRngs, shInt, .bool, shRngs, shInt, .bool, shRngs, shInt, shInt, shObjs, .bool, shBytes]
structure Slave.ok (s : Slave) : Prop where
  shp : okS shSlave s.d = true
  baud : in64 s.baud
  parity : in64 s.parity
  t0 : s.t0.ok
  t1 : s.t1.ok
  t2 : s.t2.ok
  t3 : s.t3.ok
  level : in64 s.level
  objs : ∀ o ∈ s.objects, o.ok
  olen : s.objects.length ≤ 9223372036854775807
  osh : okS shObjs (.sl 2 (s.objects.map Obj.d)) = true
  server : okAll (.int .u8) s.server = true
  slen : s.server.length ≤ 9223372036854775807
theorem slave_of {d : D} (h : okS shSlave d = true) : ∃ x : Slave, d = x.d ∧ x.ok := by
  have h0 := h
  obtain ⟨cs, rfl, h⟩ := ok_agg h
  obtain ⟨d1, _, rfl, q1, h⟩ := zip_cons h
  obtain ⟨d2, _, rfl, q2, h⟩ := zip_cons h
  obtain ⟨d3, _, rfl, q3, h⟩ := zip_cons h
  obtain ⟨d4, _, rfl, q4, h⟩ := zip_cons h
  obtain ⟨d5, _, rfl, q5, h⟩ := zip_cons h
  obtain ⟨d6, _, rfl, q6, h⟩ := zip_cons h
  obtain ⟨d7, _, rfl, q7, h⟩ := zip_cons h
  obtain ⟨d8, _, rfl, q8, h⟩ := zip_cons h
  obtain ⟨e1, _, rfl, r1, h⟩ := zip_cons h
  obtain ⟨e2, _, rfl, r2, h⟩ := zip_cons h
  obtain ⟨e3, _, rfl, r3, h⟩ := zip_cons h
  obtain ⟨e4, _, rfl, r4, h⟩ := zip_cons h
  obtain ⟨e5, _, rfl, r5, h⟩ := zip_cons h
  obtain ⟨e6, _, rfl, r6, h⟩ := zip_cons h
  obtain ⟨e7, _, rfl, r7, h⟩ := zip_cons h
  obtain ⟨e8, _, rfl, r8, h⟩ := zip_cons h
  obtain ⟨e9, _, rfl, r9, h⟩ := zip_cons h
  obtain ⟨g1, _, rfl, u1, h⟩ := zip_cons h
  obtain ⟨g2, _, rfl, u2, h⟩ := zip_cons h
  have := zip_nil h; subst this
  obtain ⟨a1, rfl, k1⟩ := ok_int q1
  obtain ⟨a2, rfl, k2⟩ := ok_int q2
  obtain ⟨a3, rfl, _⟩ := ok_int q3
  obtain ⟨b0, rfl⟩ := ok_bool q4
  obtain ⟨l0, rfl, v0, w0⟩ := rngs_of q5
  obtain ⟨m0, rfl, n0⟩ := ok_int q6
  obtain ⟨b1, rfl⟩ := ok_bool q7
  obtain ⟨l1, rfl, v1, w1⟩ := rngs_of q8
  obtain ⟨m1, rfl, n1⟩ := ok_int r1
  obtain ⟨b2, rfl⟩ := ok_bool r2
  obtain ⟨l2, rfl, v2, w2⟩ := rngs_of r3
  obtain ⟨m2, rfl, n2⟩ := ok_int r4
  obtain ⟨b3, rfl⟩ := ok_bool r5
  obtain ⟨l3, rfl, v3, w3⟩ := rngs_of r6
  obtain ⟨m3, rfl, n3⟩ := ok_int r7
  obtain ⟨lv, rfl, k3⟩ := ok_int r8
  obtain ⟨ob, rfl, ho, hol⟩ := objs_of r9
  obtain ⟨hs, rfl⟩ := ok_bool u1
  obtain ⟨sv, rfl, hs1, hs2⟩ := ok_sl u2
  exact ⟨⟨a1, a2, a3, ⟨b0, l0, m0⟩, ⟨b1, l1, m1⟩, ⟨b2, l2, m2⟩, ⟨b3, l3, m3⟩, lv, ob, hs, sv⟩, rfl, h0, inR64 k1, inR64 k2, ⟨v0, w0, q5, inR64 n0⟩, ⟨v1, w1, q8, inR64 n1⟩, ⟨v2, w2, r3, inR64 n2⟩, ⟨v3, w3, r6, inR64 n3⟩, inR64 k3, ho, hol, r9, hs2, len_lt hs1⟩
def toSl (d : D) : Slave := ⟨(nth d.cells 0).i, (nth d.cells 1).i, (nth d.cells 2).i, ⟨(nth d.cells 3).b, toRs (nth d.cells 4).l, (nth d.cells 5).i⟩, ⟨(nth d.cells 6).b, toRs (nth d.cells 7).l, (nth d.cells 8).i⟩,
  ⟨(nth d.cells 9).b, toRs (nth d.cells 10).l, (nth d.cells 11).i⟩, ⟨(nth d.cells 12).b, toRs (nth d.cells 13).l, (nth d.cells 14).i⟩, (nth d.cells 15).i, (nth d.cells 16).l.map toO, (nth d.cells 17).b, (nth d.cells 18).l⟩
theorem toSl_d (s : Slave) : toSl s.d = s := by
  obtain ⟨a, b, c, ⟨b0, l0, m0⟩, ⟨b1, l1, m1⟩, ⟨b2, l2, m2⟩, ⟨b3, l3, m3⟩, lv, ob, hs, sv⟩ := s
  show (⟨a, b, c, ⟨b0, toRs (l0.map Rng.d), m0⟩, ⟨b1, toRs (l1.map Rng.d), m1⟩, ⟨b2, toRs (l2.map Rng.d), m2⟩, ⟨b3, toRs (l3.map Rng.d), m3⟩, lv, (ob.map Obj.d).map toO, hs, sv⟩ : Slave) = _
  rw [toRs_d, toRs_d, toRs_d, toRs_d, map_toO]

/-! ### the true description -/
def device (s : Slave) (w : Win) : Dev where
  setting := 0
  unit := 0
  state := 2
  identity := bif decide (0 < s.level) then 2 else 5
  level := bif decide (0 < s.level) then s.level else 0
  objects := bif decide (0 < s.level) then s.objects else []
  server := bif s.has then 2 else 5
  data := bif s.has then s.server else []
  t0 := tabOf s.t0 w.f0 w.c0
  t1 := tabOf s.t1 w.f1 w.c1
  t2 := tabOf s.t2 w.f2 w.c2
  t3 := tabOf s.t3 w.f3 w.c3
  profile := []
def smallWin (w : Win) : Bool := smallW w.f0 w.c0 && (smallW w.f1 w.c1 && (smallW w.f2 w.c2 && smallW w.f3 w.c3))
def sp14 : Spc := ⟨fun ds => okZip [shSlave, shWin] ds && smallWin (toW (nth ds 1)), fun ds => (device (toSl (nth ds 0)) (toW (nth ds 1))).d⟩
theorem foldST (t : STab) : D.agg [D.bool t.sup, D.sl 2 (t.rd.map Rng.d), D.int .i64 t.most] = t.d := rfl
theorem foldR (f c : Int) : D.agg [D.int .i64 f, D.int .i64 c] = (⟨f, c⟩ : Rng).d := rfl
theorem pre32 {t : STab} (ht : t.ok) {f c : Int} (h : smallW f c = true) : sp32.pre [t.d, (⟨f, c⟩ : Rng).d] = true := by
  show (okZip [shSTab, shRng] _ && smallW f c) = true
  have hh := h
  simp only [smallW, Bool.and_eq_true, decide_eq_true_eq] at hh
  have e2 : okS shRng (⟨f, c⟩ : Rng).d = true := by
    show okS (.agg [shInt, shInt]) (D.agg [D.int .i64 f, D.int .i64 c]) = true
    rw [okS2, int_ok ⟨by omega, by omega⟩, int_ok ⟨by omega, by omega⟩]; rfl
  have e3 : ∀ x y z : D, okS shSTab (D.agg [x, y, z]) = (okS .bool x && (okS shRngs y && (okS shInt z && true))) := fun x y z => by simp [shSTab, okS, okZip]
  have e1 : okS shSTab t.d = true := by
    rw [← foldST, e3, ht.sh, int_ok ht.most]; rfl
  simp only [okZip, e1, e2, h, Bool.and_self]
theorem val32 (t : STab) (f c : Int) : sp32.val [t.d, (⟨f, c⟩ : Rng).d] = (tabOf t f c).d := by
  show (tabOf (toST t.d) f c).d = _
  rw [toST_d]
theorem tb (t : Tab) : D.isA 3 t.d = true := rfl
theorem tb0 (t : Tab) : nth (D.cells t.d) 0 = D.int .i64 t.state := rfl
theorem tb1 (t : Tab) : nth (D.cells t.d) 1 = D.int .i64 t.most := rfl
theorem tb2 (t : Tab) : nth (D.cells t.d) 2 = D.sl 2 (t.map.map Span.d) := rfl
theorem snd14 : Sound Try.prog 14 sp14 := by
  refine snd (f14c sp32) (told1 _ _) Try.func14 (by kernel_rfl) (by kernel_rfl) (calling_cons snd32 (nocall _)) fun ds h => ⟨5, ?_⟩
  have h : (okZip [shSlave, shWin] ds && smallWin (toW (nth ds 1))) = true := h
  simp only [Bool.and_eq_true] at h
  obtain ⟨h1, h2⟩ := h
  obtain ⟨x, y, rfl, q1, q2⟩ := two_of h1
  obtain ⟨s, rfl, hs⟩ := slave_of q1
  obtain ⟨w, rfl, hw⟩ := win_of q2
  have h2 : smallWin w = true := h2
  simp only [smallWin, Bool.and_eq_true] at h2
  obtain ⟨w0, w1, w2, w3⟩ := h2
  refine (e14 sp32 s.baud s.parity s.unit s.t0.sup (s.t0.rd.map Rng.d) s.t0.most s.t1.sup (s.t1.rd.map Rng.d) s.t1.most s.t2.sup (s.t2.rd.map Rng.d) s.t2.most s.t3.sup (s.t3.rd.map Rng.d) s.t3.most s.level (s.objects.map Obj.d) s.has s.server
    w.f0 w.c0 w.f1 w.c1 w.f2 w.c2 w.f3 w.c3 5).trans ?_
  show _ = some (device (toSl s.d) w).d
  rw [toSl_d]
  cases hl : decide (0 < s.level) <;> cases hh : s.has <;> simp only [cond_true, cond_false] <;>
    rw [f14l7_0, foldST, foldR, pre32 hs.t0 w0, val32, tb, tb0, tb1, tb2, f14l7_1, foldST, foldR, pre32 hs.t1 w1, val32, tb, tb0, tb1, tb2, f14l7_2, foldST, foldR, pre32 hs.t2 w2, val32, tb, tb0, tb1, tb2,
      f14l7_3, foldST, foldR, pre32 hs.t3 w3, val32, tb, tb0, tb1, tb2, f14l7_4] <;> simp only [Bool.and_self, chk_true, device, Dev.d, hl, hh, cond_true, cond_false] <;> rfl

/-! ### a valid slave -/
theorem nth_get {α : Type} {f : α → D} {l : List α} {i : Nat} (h : i < l.length) : ∃ o, o ∈ l ∧ nth (l.map f) i = f o := by
  refine ⟨l[i], List.getElem_mem h, ?_⟩
  rw [nth_eq, List.getElem?_map, List.getElem?_eq_getElem h]; rfl
/-- a bool comes out. -/
def Tot (o : Option D) : Prop := ∃ b, o = some (.bool b)
noncomputable def getS (p : List D → Bool) (C : Cfg) (fuel : Nat) (fn : Func) : Spc := ⟨p, fun ds => (evF C std fuel fn ds).getD .undef⟩
theorem getS_sp {p : List D → Bool} {C : Cfg} {fuel : Nat} {fn : Func} {ds : List D} (h : Tot (evF C std fuel fn ds)) : evF C std fuel fn ds = some ((getS p C fuel fn).val ds) ∧ ∃ b, (getS p C fuel fn).val ds = .bool b := by
  obtain ⟨b, hb⟩ := h
  have : (getS p C fuel fn).val ds = .bool b := by
    show (evF C std fuel fn ds).getD .undef = _
    rw [hb]; rfl
  exact ⟨by rw [this, hb], b, this⟩

def sp41 : Spc := mkS [] fun _ => .sl 1 ([1200, 2400, 4800, 9600, 19200, 38400, 57600, 115200].map intD)
theorem snd41 : Sound Try.prog 41 sp41 := by
  refine snd f41c (told1 _ _) Try.func41 (by kernel_rfl) (by kernel_rfl) (nocall _) fun ds h => ⟨1, ?_⟩
  have := zip_nil h; subst this
  exact e41 1
def allS : List Rng := [⟨1200, 0⟩, ⟨1200, 1⟩, ⟨1200, 2⟩, ⟨2400, 0⟩, ⟨2400, 1⟩, ⟨2400, 2⟩, ⟨4800, 0⟩, ⟨4800, 1⟩, ⟨4800, 2⟩, ⟨9600, 0⟩, ⟨9600, 1⟩, ⟨9600, 2⟩, ⟨19200, 0⟩, ⟨19200, 1⟩, ⟨19200, 2⟩, ⟨38400, 0⟩, ⟨38400, 1⟩, ⟨38400, 2⟩, ⟨57600, 0⟩, ⟨57600, 1⟩, ⟨57600, 2⟩, ⟨115200, 0⟩, ⟨115200, 1⟩, ⟨115200, 2⟩]
def sp37 : Spc := mkS [] fun _ => .sl 2 (allS.map Rng.d)
theorem ev37 : evF (f37c sp41) std 30 Try.f37 [] = some (.sl 2 (allS.map Rng.d)) := by kernel_rfl
theorem snd37 : Sound Try.prog 37 sp37 := by
  refine snd (f37c sp41) (told1 _ _) Try.func37 (by kernel_rfl) (by kernel_rfl) (calling_cons snd41 (nocall _)) fun ds h => ⟨30, ?_⟩
  have := zip_nil h; subst this
  exact ev37
theorem l24 (k : Nat) (a b : Int) : ∀ (r pre : List Rng) (n : Nat), (pre ++ r).length ≤ 1000 → r.length < n → Tot (f24L3 sp37 k n (f24s3 ((pre ++ r).map Rng.d) ((pre.length : Nat) : Int) a b))
  | r, pre, 0, _, h => by omega
  | [], pre, n + 1, _, _ => by
    rw [f24l3, lt_end]; exact ⟨false, rfl⟩
  | x :: r, pre, n + 1, hl, h => by
    have hl' : pre.length < 9223372036854775807 := by simp at hl; omega
    have e0 : pre ++ x :: r = (pre ++ [x]) ++ r := by simp
    rw [f24l3, lt_mid, ge0, nth_mid, r0, r1, isI_, isI_, show Nat.ble 2 (D.cells x.d).length = true from rfl]
    simp only [Bool.and_self, cond_true, chk_true]
    rw [wrap_add1 hl', e0, show pre.length + 1 = (pre ++ [x]).length by simp]
    have ih := l24 k a b r (pre ++ [x]) n (by simpa using hl) (by simpa using h)
    cases (decide (D.i (D.int IntKind.i64 x.first) = a) && (decide (D.i (D.int IntKind.i64 x.count) = b) && true))
    · exact ih
    · exact ⟨true, rfl⟩
noncomputable def sp24 : Spc := getS (okZip [shRng]) (f24c sp37) 100 Try.f24
theorem tot24 (a b : Int) : Tot (evF (f24c sp37) std 100 Try.f24 [D.agg [D.int .i64 a, D.int .i64 b]]) := by
  have := l24 100 a b allS [] 100 (by decide) (by decide)
  simp only [List.nil_append, List.length_nil] at this
  rw [show ((0 : Nat) : Int) = (0 : Int) from rfl] at this
  obtain ⟨c, hc⟩ := this
  exact ⟨c, (e24 sp37 a b 100).trans hc⟩
theorem snd24 : Sound Try.prog 24 sp24 := by
  refine snd (f24c sp37) (told1 _ _) Try.func24 (by kernel_rfl) (by kernel_rfl) (calling_cons snd37 (nocall _)) fun ds h => ⟨100, ?_⟩
  obtain ⟨d, rfl, h1⟩ := one_of h
  obtain ⟨r, rfl, _⟩ := rng_of h1
  exact (getS_sp (tot24 r.first r.count)).1

theorem l27 (k : Nat) : ∀ (r pre : List Obj) (n : Nat), (pre ++ r).length ≤ 9223372036854775807 → r.length < n → Tot (f27L2 k n (f27s2 ((pre ++ r).map Obj.d) ((pre.length : Nat) : Int)))
  | r, pre, 0, _, h => by omega
  | [], pre, n + 1, _, _ => by
    rw [f27l2, lt_end]; exact ⟨true, rfl⟩
  | x :: r, pre, n + 1, hl, h => by
    have hl2 : pre.length + (r.length + 1) ≤ 9223372036854775807 := by simpa using hl
    have hl' : pre.length < 9223372036854775807 := by omega
    have e0 : pre ++ x :: r = (pre ++ [x]) ++ r := by simp
    have ih := l27 k r (pre ++ [x]) n (by simpa using hl) (by simpa using h)
    rw [← e0, show (pre ++ [x]).length = pre.length + 1 by simp, ← wrap_add1 hl'] at ih
    rw [f27l2, lt_mid, ge0, nth_mid, o0, di, isI_]
    have key : ∀ (c d e : Bool) (X : Option D), Tot X → c = true ∨ d = true → e = true ∨ d = true → ∀ f : Bool, Tot (chk (c || d) (chk (e || d) (bif f then some (D.bool false) else X))) := by
      intro c d e X hX h1 h2 f
      have q1 : (c || d) = true := by simpa using h1
      have q2 : (e || d) = true := by simpa using h2
      rw [q1, q2, chk_true, chk_true]
      cases f
      · exact hX
      · exact ⟨false, rfl⟩
    simp only [Bool.and_self, Bool.true_or, cond_true, chk_true]
    by_cases hp : pre.length = 0
    · have e1 : decide ((0 : Int) < ((pre.length : Nat) : Int)) = false := decide_eq_false (by omega)
      rw [e1]
      exact key _ _ _ _ ih (.inr (by simp [oneG_tt])) (.inr (by simp [oneG_tt])) _
    · have hw : IntKind.wrap IntKind.i64 (((pre.length : Nat) : Int) - 1) = (((pre.length - 1 : Nat)) : Int) := by rw [wrap_in (by omega) (by omega)]; omega
      rw [hw, ge0]
      have hlt : decide ((((pre.length - 1 : Nat)) : Int) < ((((pre ++ x :: r).map Obj.d).length : Nat) : Int)) = true := decide_eq_true (by simp; omega)
      obtain ⟨o, _, ho⟩ := nth_get (f := Obj.d) (l := pre ++ x :: r) (i := pre.length - 1) (by simp; omega)
      rw [hlt, Int.toNat_natCast, ho, o0]
      exact key _ _ _ _ ih (.inl rfl) (.inl rfl) _
noncomputable def sp27 : Spc := getS (okZip [shObjs]) f27c 9223372036854775810 Try.f27
theorem tot27 {l : List Obj} (h : l.length ≤ 9223372036854775807) : Tot (evF f27c std 9223372036854775810 Try.f27 [D.sl 2 (l.map Obj.d)]) := by
  have := l27 9223372036854775810 l [] 9223372036854775810 h (by omega)
  simp only [List.nil_append, List.length_nil] at this
  rw [show ((0 : Nat) : Int) = (0 : Int) from rfl] at this
  obtain ⟨c, hc⟩ := this
  exact ⟨c, (e27 (l.map Obj.d) 9223372036854775810).trans hc⟩
theorem snd27 : Sound Try.prog 27 sp27 := by
  refine snd f27c (told1 _ _) Try.func27 (by kernel_rfl) (by kernel_rfl) (nocall _) fun ds h => ⟨9223372036854775810, ?_⟩
  obtain ⟨d, rfl, h1⟩ := one_of h
  obtain ⟨l, rfl, _, hl⟩ := objs_of h1
  exact (getS_sp (tot27 hl)).1

/-- what is known of a table of a valid slave, and of the slave. -/
def TFacts (t : STab) : Prop := t.sup = true → validL t.rd = true
structure SFacts (s : Slave) : Prop where
  t0 : TFacts s.t0
  t1 : TFacts s.t1
  t2 : TFacts s.t2
  t3 : TFacts s.t3
  lvl : ¬ 0 < s.level → s.objects = []
  lvl0 : 0 ≤ s.level
  has : s.has = decide (0 < s.server.length)
def Qs (s : Slave) (o : Option D) : Prop := ∃ b, o = some (.bool b) ∧ (b = true → SFacts s)
theorem Qs.no (s : Slave) : Qs s (some (.bool false)) := ⟨false, rfl, fun h => by cases h⟩
theorem tstep (s : Slave) {t : STab} (ht : t.ok) (i lim : Int) (hv26 : sp26.val [D.int .i64 i] = D.int .i64 lim) (hp26 : sp26.pre [D.int .i64 i] = true) (X : Option D) (hX : TFacts t → Qs s X) :
    Qs s (bif (bif (!t.sup) then (bif (!(decide ((((t.rd.map Rng.d).length : Nat) : Int) = 0))) then true else (!(decide (t.most = 0)))) else false) then (some (D.bool false)) else (chk (((D.isB (sp25.val [(D.sl 2 (t.rd.map Rng.d))])) && (sp25.pre [(D.sl 2 (t.rd.map Rng.d))])) || (!((oneG ((decide ((32 : Int) < (((t.rd.map Rng.d).length : Nat) : Int))), false)) && (oneG (t.sup, true)))))
      (chk (((D.isI IntKind.i64 (sp26.val [(D.int IntKind.i64 i)])) && (sp26.pre [(D.int IntKind.i64 i)])) || (!((oneG ((bif (bif (decide ((32 : Int) < (((t.rd.map Rng.d).length : Nat) : Int))) then true else (!(D.b (sp25.val [(D.sl 2 (t.rd.map Rng.d))])))) then true else (decide (t.most < (1 : Int)))), false)) && (oneG (t.sup, true)))))
        (bif (bif t.sup then (bif (bif (bif (decide ((32 : Int) < (((t.rd.map Rng.d).length : Nat) : Int))) then true else (!(D.b (sp25.val [(D.sl 2 (t.rd.map Rng.d))])))) then true else (decide (t.most < (1 : Int)))) then true else (decide ((D.i (sp26.val [(D.int IntKind.i64 i)])) < t.most))) else false) then (some (D.bool false)) else X)))) := by
  rw [pre25 ht.sh, val25, hv26, hp26, isI_, isB_, b_]
  simp only [Bool.and_self, Bool.true_or, chk_true, cond_or, cond_and]
  cases h1 : (!t.sup && (!decide ((((t.rd.map Rng.d).length : Nat) : Int) = 0) || !decide (t.most = 0)))
  case true => exact Qs.no s
  simp only [cond_false]
  cases h2 : (t.sup && (decide ((32 : Int) < (((t.rd.map Rng.d).length : Nat) : Int)) || !validL t.rd || decide (t.most < 1) || decide (D.i (D.int .i64 lim) < t.most)))
  case true => exact Qs.no s
  refine hX fun hs => ?_
  rw [hs] at h2
  simp only [Bool.true_and, Bool.or_eq_false_iff, Bool.not_eq_false'] at h2
  exact h2.1.1.2
theorem tot21 (k : Nat) (s24 s25 s26 s27 : Spc) (s : Slave) : ∀ (r pre : List Obj) (n : Nat), s.objects = pre ++ r → s.objects.length ≤ 9223372036854775807 → r.length < n →
    Tot (f11L21 s24 s25 s26 s27 k n (f11s21 ((pre.length : Nat) : Int) s.baud s.parity s.unit s.t0.sup (s.t0.rd.map Rng.d) s.t0.most s.t1.sup (s.t1.rd.map Rng.d) s.t1.most s.t2.sup (s.t2.rd.map Rng.d) s.t2.most s.t3.sup (s.t3.rd.map Rng.d) s.t3.most s.level (s.objects.map Obj.d) s.has s.server))
  | r, pre, 0, _, _, h => by omega
  | [], pre, n + 1, hp, _, _ => by
    rw [f11l21, show decide (((pre.length : Nat) : Int) < (((s.objects.map Obj.d).length : Nat) : Int)) = false by rw [hp, lt_end]]
    exact ⟨true, rfl⟩
  | x :: r, pre, n + 1, hp, hl, h => by
    have hl' : pre.length < 9223372036854775807 := by rw [hp] at hl; simp at hl; omega
    have hn : nth (s.objects.map Obj.d) (Int.toNat ((pre.length : Nat) : Int)) = x.d := by rw [hp]; exact nth_mid pre x r
    have hlt : decide (((pre.length : Nat) : Int) < (((s.objects.map Obj.d).length : Nat) : Int)) = true := by rw [hp]; exact lt_mid pre x r
    rw [f11l21, hlt, ge0, hn, o1, isL_, dl, b11, wrap_add1 hl', show pre.length + 1 = (pre ++ [x]).length by simp]
    have ih := tot21 k s24 s25 s26 s27 s r (pre ++ [x]) n (by rw [hp]; simp) hl (by simpa using h)
    simp only [Bool.and_self, cond_true, chk_true]
    cases decide ((64 : Int) < ((x.value.length : Nat) : Int))
    · exact ih
    · exact ⟨false, rfl⟩
theorem pre27 {l : List Obj} (h : okS shObjs (.sl 2 (l.map Obj.d)) = true) : sp27.pre [D.sl 2 (l.map Obj.d)] = true := by
  show okZip [shObjs] _ = true
  simp only [okZip, h, Bool.and_self]
theorem pre24 {a b : Int} (ha : in64 a) (hb : in64 b) : sp24.pre [D.agg [D.int .i64 a, D.int .i64 b]] = true := by
  show okZip [shRng] _ = true
  have : okS shRng (D.agg [D.int .i64 a, D.int .i64 b]) = true := by
    show okS (.agg [shInt, shInt]) _ = true
    rw [okS2, int_ok ha, int_ok hb]; rfl
  simp only [okZip, this, Bool.and_self]

end Go.Pl
