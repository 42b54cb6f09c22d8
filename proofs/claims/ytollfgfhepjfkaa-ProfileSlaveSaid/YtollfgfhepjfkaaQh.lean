/- ProfileSlave: for every input, the call returns true, and the arguments read as they did. No conditions. -/
import Derived.Test.YtollfgfhepjfkaaRows
import Derived.Test.YtollfgfhepjfkaaPf
import Derived.Test.YtollfgfhepjfkaaQf
import Derived.Test.YtollfgfhepjfkaaQg
import Derived.Test.YtollfgfhepjfkaaQd
import Derived.Test.YtollfgfhepjfkaaFr
namespace Go.Pl
open Go Go.Ev Go.Proofs

/-! ### the true description is a device -/
theorem runs_mem : ∀ {r : List Int} {c k : Int} {x : Span}, x ∈ runs c k r → 1 ≤ c → in64 k → (∀ y ∈ r, in64 y) → 1 ≤ x.count ∧ x.count ≤ c + r.length ∧ in64 x.kind
  | [], c, k, x, h, hc, hk, _ => by
    simp only [runs, List.mem_singleton] at h
    subst h
    exact ⟨hc, by simp, hk⟩
  | y :: r, c, k, x, h, hc, hk, hr => by
    simp only [runs] at h
    by_cases hy : y = k
    · rw [decide_eq_true hy, cond_true] at h
      obtain ⟨h1, h2, h3⟩ := runs_mem h (by omega) hk (fun z hz => hr z (by simp [hz]))
      exact ⟨h1, by simp; omega, h3⟩
    · rw [decide_eq_false hy, cond_false] at h
      rcases List.mem_cons.1 h with rfl | h
      · exact ⟨hc, by simp; omega, hk⟩
      · obtain ⟨h1, h2, h3⟩ := runs_mem h (by omega) (hr y (by simp)) (fun z hz => hr z (by simp [hz]))
        exact ⟨h1, by simp; omega, h3⟩
theorem kinds_mem (l : List Rng) : ∀ (n : Nat) (a : Int) (y : Int), y ∈ kindsOf l n a → in64 y
  | 0, _, y, h => by cases h
  | n + 1, a, y, h => by
    simp only [kindsOf, List.mem_cons] at h
    rcases h with rfl | h
    · cases (validL l && anyIn l a) <;> exact ⟨by simp, by simp⟩
    · exact kinds_mem l n (a + 1) y h
theorem runs_len : ∀ (r : List Int) (c k : Int), (runs c k r).length ≤ r.length + 1
  | [], _, _ => by simp [runs]
  | y :: r, c, k => by
    simp only [runs]
    cases decide (y = k)
    · have := runs_len r 1 y; simp; omega
    · have := runs_len r (c + 1) k; simp; omega
theorem span_shape {x : Span} (h1 : in64 x.count) (h2 : in64 x.kind) : okS shSpan x.d = true := by
  show okS (.agg [shInt, shInt]) _ = true
  unfold Span.d
  rw [okS2, int_ok h1, int_ok h2]; rfl
theorem spans_shape {l : List Span} (h : ∀ x ∈ l, in64 x.count ∧ in64 x.kind) (hl : l.length ≤ 9223372036854775807) : okS shSpans (.sl 2 (l.map Span.d)) = true := by
  have h1 : okAll shSpan (l.map Span.d) = true := okAll_of fun y hy => by
    obtain ⟨x, hx, rfl⟩ := List.mem_map.1 hy
    exact span_shape (h x hx).1 (h x hx).2
  have h2 : lenOk (l.map Span.d).length = true := Nat.ble_eq_true_of_le (by rw [List.length_map]; omega)
  show (Nat.beq 2 2 && lenOk (l.map Span.d).length && okAll shSpan (l.map Span.d)) = true
  rw [h1, h2]; rfl
theorem tab_ok {t : STab} (ht : t.ok) {f c : Int} (h : smallW f c = true) : (tabOf t f c).ok := by
  simp only [smallW, Bool.and_eq_true, decide_eq_true_eq] at h
  have empty : ∀ a : Int, in64 a → (⟨a, 0, []⟩ : Tab).ok := fun a ha =>
    ⟨(fun p hp => by cases hp), (by simp), (spans_shape (fun x hx => by cases hx) (by simp)), int_ok ha, int_ok (n := 0) ⟨by omega, by omega⟩⟩
  unfold tabOf
  cases decide (c = 0)
  case true => exact empty 6 ⟨by omega, by omega⟩
  cases t.sup
  case false => exact empty 5 ⟨by omega, by omega⟩
  simp only [Bool.not_true, cond_false]
  have hm : ∀ x ∈ spansOf (kindsOf t.rd c.toNat f), in64 x.count ∧ in64 x.kind := by
    intro x hx
    cases hk : kindsOf t.rd c.toNat f with
    | nil => rw [hk] at hx; cases hx
    | cons y r =>
      rw [hk] at hx
      have hlen := kinds_len t.rd c.toNat f
      rw [hk] at hlen
      simp only [List.length_cons] at hlen
      have hin : ∀ z ∈ y :: r, in64 z := fun z hz => kinds_mem t.rd c.toNat f z (by rw [hk]; exact hz)
      obtain ⟨q1, q2, q3⟩ := runs_mem (show x ∈ runs 1 y r from hx) (by omega) (hin y (by simp)) (fun z hz => hin z (by simp [hz]))
      exact ⟨⟨by omega, by omega⟩, q3⟩
  have hlen : (spansOf (kindsOf t.rd c.toNat f)).length ≤ 9223372036854775807 := by
    cases hk : kindsOf t.rd c.toNat f with
    | nil => simp [spansOf]
    | cons y r =>
      have hlen := kinds_len t.rd c.toNat f
      rw [hk] at hlen
      simp only [List.length_cons] at hlen
      have := runs_len r 1 y
      show (runs 1 y r).length ≤ _
      omega
  exact ⟨fun p hp => ⟨span_shape (hm p hp).1 (hm p hp).2, (hm p hp).1⟩, hlen, spans_shape hm hlen, int_ok (n := 2) ⟨by omega, by omega⟩, int_ok ht.most⟩
theorem dev_shape {d : Dev} (h1 : in64 d.setting) (h2 : in64 d.unit) (h3 : in64 d.state) (h4 : in64 d.identity) (h5 : in64 d.level) (h6 : okS shObjs (.sl 2 (d.objects.map Obj.d)) = true) (h7 : in64 d.server) (h8 : okS shBytes (.sl 1 d.data) = true)
    (t0 : d.t0.ok) (t1 : d.t1.ok) (t2 : d.t2.ok) (t3 : d.t3.ok) (hp : lenOk d.profile.length = true) : okS shDev d.d = true := by
  have hs : okS .str (.str d.profile) = true := by show lenOk d.profile.length = true; exact hp
  show okZip [shInt, shInt, shInt, shInt, shInt, shObjs, shInt, shBytes, shInt, shInt, shSpans, shInt, shInt, shSpans, shInt, shInt, shSpans, shInt, shInt, shSpans, .str] _ = true
  simp only [okZip, int_ok h1, int_ok h2, int_ok h3, int_ok h4, int_ok h5, h6, int_ok h7, h8, t0.st, t0.mo, t0.sh, t1.st, t1.mo, t1.sh, t2.st, t2.mo, t2.sh, t3.st, t3.mo, t3.sh, hs, Bool.and_self]
theorem win_shape {w : Win} (h0 : in64 w.f0) (h1 : in64 w.c0) (h2 : in64 w.f1) (h3 : in64 w.c1) (h4 : in64 w.f2) (h5 : in64 w.c2) (h6 : in64 w.f3) (h7 : in64 w.c3) : w.ok := by
  refine ⟨?_, h0, h1, h2, h3, h4, h5, h6, h7⟩
  show okZip [shInt, shInt, shInt, shInt, shInt, shInt, shInt, shInt] _ = true
  simp only [okZip, int_ok h0, int_ok h1, int_ok h2, int_ok h3, int_ok h4, int_ok h5, int_ok h6, int_ok h7, Bool.and_self]
theorem small_of (f c : Int) : smallW (normF f c) (normC c) = true := by
  obtain ⟨h1, h2, h3, h4, _⟩ := norm_ok f c
  simp only [smallW, Bool.and_eq_true, decide_eq_true_eq]
  omega
theorem norm_small (w : Win) : smallWin w.norm = true := by
  show (smallW (normF w.f0 w.c0) (normC w.c0) && (smallW (normF w.f1 w.c1) (normC w.c1) && (smallW (normF w.f2 w.c2) (normC w.c2) && smallW (normF w.f3 w.c3) (normC w.c3)))) = true
  rw [small_of, small_of, small_of, small_of]; rfl
theorem norm_in (f c : Int) : in64 (normF f c) ∧ in64 (normC c) := by
  obtain ⟨h1, h2, h3, h4, _⟩ := norm_ok f c
  exact ⟨⟨by omega, by omega⟩, by omega, by omega⟩
theorem norm_win (w : Win) : w.norm.ok :=
  win_shape (norm_in w.f0 w.c0).1 (norm_in w.f0 w.c0).2 (norm_in w.f1 w.c1).1 (norm_in w.f1 w.c1).2 (norm_in w.f2 w.c2).1 (norm_in w.f2 w.c2).2 (norm_in w.f3 w.c3).1 (norm_in w.f3 w.c3).2
theorem device_ok {s : Slave} (hs : s.ok) {w : Win} (h : smallWin w = true) : (device s w).ok := by
  simp only [smallWin, Bool.and_eq_true] at h
  obtain ⟨w0, w1, w2, w3⟩ := h
  have i2 : in64 2 := ⟨by omega, by omega⟩
  have i5 : in64 5 := ⟨by omega, by omega⟩
  have i0 : in64 0 := ⟨by omega, by omega⟩
  have e0 : okS shObjs (.sl 2 (([] : List Obj).map Obj.d)) = true := rfl
  have t0 := tab_ok hs.t0 w0
  have t1 := tab_ok hs.t1 w1
  have t2 := tab_ok hs.t2 w2
  have t3 := tab_ok hs.t3 w3
  have hsv : okS shBytes (.sl 1 s.server) = true := by
    show (Nat.beq 1 1 && lenOk s.server.length && okAll (.int .u8) s.server) = true
    rw [hs.server, show lenOk s.server.length = true from Nat.ble_eq_true_of_le hs.slen]; rfl
  have a1 : in64 (bif decide (0 < s.level) then 2 else 5) := by cases decide (0 < s.level) <;> first | exact i2 | exact i5
  have a2 : in64 (bif decide (0 < s.level) then s.level else 0) := by cases decide (0 < s.level) <;> first | exact hs.level | exact i0
  have a3 : okS shObjs (.sl 2 ((bif decide (0 < s.level) then s.objects else []).map Obj.d)) = true := by cases decide (0 < s.level) <;> first | exact hs.osh | exact e0
  have a4 : in64 (bif s.has then 2 else 5) := by cases s.has <;> first | exact i2 | exact i5
  have a5 : okS shBytes (.sl 1 (bif s.has then s.server else [])) = true := by cases s.has <;> first | exact hsv | rfl
  have a6 : ∀ o ∈ (bif decide (0 < s.level) then s.objects else []), o.ok := by cases decide (0 < s.level) <;> first | exact hs.objs | exact fun o h => by cases h
  have a7 : (bif decide (0 < s.level) then s.objects else []).length ≤ 9223372036854775807 := by cases decide (0 < s.level) <;> first | exact hs.olen | simp
  have a8 : (bif s.has then s.server else []).length ≤ 9223372036854775807 := by cases s.has <;> first | exact hs.slen | simp
  have a9 : okAll (.int .u8) (bif s.has then s.server else []) = true := by cases s.has <;> first | exact hs.server | rfl
  exact ⟨dev_shape i0 i0 i2 a1 a2 a3 a4 a5 t0 t1 t2 t3 rfl, a6, a7, a3, a8, a9, t0, t1, t2, t3⟩

/-! ### the plain laws -/
theorem most_law (t : STab) (f c n : Int) (hc : 0 ≤ c) : (decide ((tabOf t f c).state = 2) && decide (n ≤ (tabOf t f c).most)) = (decide (0 < c) && t.sup && decide (n ≤ t.most)) := by
  unfold tabOf
  by_cases h : c = 0
  · simp [h]
  · have : 0 < c := by omega
    cases hs : t.sup <;> simp [h, this]
theorem read_law {t : STab} (hF : TFacts t) {f c : Int} (hw : smallW f c = true) (rf rc : Int) (h1 : 0 ≤ rf) (h2 : 1 ≤ rc) (h3 : rf + rc ≤ 65536) :
    readableV rf rc f c (tabOf t f c).state (tabOf t f c).map = (t.sup && decide (0 < c) && decide (f ≤ rf) && decide (rf + rc ≤ f + c) && covers t.rd rf rc) := by
  simp only [smallW, Bool.and_eq_true, decide_eq_true_eq] at hw
  unfold tabOf
  by_cases h : c = 0
  · simp [h, readableV]
  · have hc : 0 < c := by omega
    cases hs : t.sup with
    | false => simp [h, readableV]
    | true =>
      have hv := hF hs
      rw [decide_eq_false h]
      simp only [Bool.not_true, cond_false]
      rw [readable_law t.rd hv rf rc f c h1 h2 h3 (by omega) (by omega) (by omega) (by omega)]
      have : rngOk rf rc = true := by simp [rngOk, h1, h2, h3]
      simp only [covers, hv, this, Bool.and_true, Bool.true_and, decide_eq_true hc]

/-! ### the walk -/
theorem foldSl (s : Slave) : D.agg [D.int .i64 s.baud, D.int .i64 s.parity, D.int .i64 s.unit, D.bool s.t0.sup, D.sl 2 (s.t0.rd.map Rng.d), D.int .i64 s.t0.most, D.bool s.t1.sup, D.sl 2 (s.t1.rd.map Rng.d), D.int .i64 s.t1.most,
  D.bool s.t2.sup, D.sl 2 (s.t2.rd.map Rng.d), D.int .i64 s.t2.most, D.bool s.t3.sup, D.sl 2 (s.t3.rd.map Rng.d), D.int .i64 s.t3.most, D.int .i64 s.level, D.sl 2 (s.objects.map Obj.d), D.bool s.has, D.sl 1 s.server] = s.d := rfl
theorem foldWn (w : Win) : D.agg [nth (D.cells w.d) 0, nth (D.cells w.d) 1, nth (D.cells w.d) 2, nth (D.cells w.d) 3, nth (D.cells w.d) 4, nth (D.cells w.d) 5, nth (D.cells w.d) 6, nth (D.cells w.d) 7] = w.d := rfl
theorem foldDn (d : Dev) : D.agg [nth (D.cells d.d) 0, nth (D.cells d.d) 1, nth (D.cells d.d) 2, nth (D.cells d.d) 3, nth (D.cells d.d) 4, nth (D.cells d.d) 5, nth (D.cells d.d) 6, nth (D.cells d.d) 7, nth (D.cells d.d) 8, nth (D.cells d.d) 9, nth (D.cells d.d) 10, nth (D.cells d.d) 11, nth (D.cells d.d) 12, nth (D.cells d.d) 13, nth (D.cells d.d) 14, nth (D.cells d.d) 15, nth (D.cells d.d) 16, nth (D.cells d.d) 17, nth (D.cells d.d) 18, nth (D.cells d.d) 19, nth (D.cells d.d) 20] = d.d := rfl
theorem wn0 (w : Win) : nth (D.cells w.d) 0 = D.int .i64 w.f0 := rfl
theorem wn1 (w : Win) : nth (D.cells w.d) 1 = D.int .i64 w.c0 := rfl
theorem wn2 (w : Win) : nth (D.cells w.d) 2 = D.int .i64 w.f1 := rfl
theorem wn3 (w : Win) : nth (D.cells w.d) 3 = D.int .i64 w.c1 := rfl
theorem wn4 (w : Win) : nth (D.cells w.d) 4 = D.int .i64 w.f2 := rfl
theorem wn5 (w : Win) : nth (D.cells w.d) 5 = D.int .i64 w.c2 := rfl
theorem wn6 (w : Win) : nth (D.cells w.d) 6 = D.int .i64 w.f3 := rfl
theorem wn7 (w : Win) : nth (D.cells w.d) 7 = D.int .i64 w.c3 := rfl
theorem pre12 {w : Win} (hw : w.ok) : sp12.pre [w.d] = true := by
  show okZip [shWin] _ = true
  simp only [okZip, hw.s, Bool.and_self]
theorem val12 (w : Win) : sp12.val [w.d] = w.norm.d := rfl
theorem pre14 {s : Slave} (hs : s.ok) {w : Win} (hw : w.ok) (h : smallWin w = true) : sp14.pre [s.d, w.d] = true := by
  show (okZip [shSlave, shWin] _ && smallWin w) = true
  simp only [okZip, hs.shp, hw.s, h, Bool.and_self]
theorem val14 (s : Slave) (w : Win) : sp14.val [s.d, w.d] = (device s w).d := by
  show (device (toSl s.d) w).d = _
  rw [toSl_d]
theorem pre16 {l : List Rng} (h : okS shRngs (.sl 2 (l.map Rng.d)) = true) {f c : Int} (hf : in64 f) (hc : in64 c) : sp16.pre [D.sl 2 (l.map Rng.d), D.agg [D.int .i64 f, D.int .i64 c]] = true := by
  show okZip [shRngs, shRng] _ = true
  have : okS shRng (D.agg [D.int .i64 f, D.int .i64 c]) = true := by
    show okS (.agg [shInt, shInt]) _ = true
    rw [okS2, int_ok hf, int_ok hc]; rfl
  simp only [okZip, h, this, Bool.and_self]
theorem val16 (l : List Rng) (f c : Int) : sp16.val [D.sl 2 (l.map Rng.d), D.agg [D.int .i64 f, D.int .i64 c]] = D.bool (covers l f c) := by
  show D.bool (covers (toRs (l.map Rng.d)) f c) = _
  rw [toRs_d]
theorem pre10 {s : Slave} (hs : s.ok) : sp10.pre [D.sl 19 [s.d], D.int .i64 1] = true := by
  show (okZip [.sl 19 shSlave, .num .i64] _ && decide ([s.d].length = 1)) = true
  have h1 : okS (.sl 19 shSlave) (D.sl 19 [s.d]) = true := by
    show (Nat.beq 19 19 && lenOk 1 && okAll shSlave [s.d]) = true
    simp only [okAll, hs.shp, Bool.and_self]
    rfl
  simp only [okZip, h1, Bool.true_and]
  rfl
theorem val10 {s : Slave} (hs : s.ok) : ∃ b, sp10.val [D.sl 19 [s.d], D.int .i64 1] = D.bool b := by
  obtain ⟨b, hb⟩ := tot10 hs 1
  exact ⟨b, getS_val hb⟩
theorem pre11 {s : Slave} (hs : s.ok) : sp11.pre [s.d] = true := by
  show okZip [shSlave] _ = true
  simp only [okZip, hs.shp, Bool.and_self]
theorem x_or (x h : Bool) : (x || !oneG ((bif h then x else false), true)) = true := by cases x <;> cases h <;> rfl
theorem beqB_self2 (b : Bool) : beqB b b = true := by cases b <;> rfl
theorem finish (k : Nat) (s : Slave) (c : Cond) (ob : List D) (W0 W1 W2 W3 W4 W5 W6 W7 : D) (g : Bool) : f4J105922577 sp10 sp11 sp7 sp12 sp14 sp13 sp15 sp16 k (f4s105922577 g g s.baud s.parity s.unit s.t0.sup (s.t0.rd.map Rng.d) s.t0.most s.t1.sup (s.t1.rd.map Rng.d) s.t1.most s.t2.sup (s.t2.rd.map Rng.d) s.t2.most s.t3.sup (s.t3.rd.map Rng.d) s.t3.most s.level (s.objects.map Obj.d) s.has s.server W0 W1 W2 W3 W4 W5 W6 W7 c.kind c.id c.value c.table c.first c.count c.n ob) = some (.bool true) := by
  have q7 : sp7.pre [] = true := rfl
  have v7 : sp7.val [] = D.bool true := rfl
  rw [f4j105922577, q7, v7, isB_, b_, beqB_self2]; rfl
def wantO (c : Cond) (o : Obj) : Bool := decide (o.id = c.id) && begins o.value c.value && (decide (c.kind = 2) || decide (o.value.length = c.value.length))
theorem l4 (k : Nat) {s : Slave} (hs : s.ok) {c : Cond} (hc : c.ok) (ob : List D) (W0 W1 W2 W3 W4 W5 W6 W7 : D) (g : Bool) : ∀ (r pre : List Obj) (n : Nat) (v8 : Bool), s.objects = pre ++ r → r.length < n →
    f4L10 sp10 sp11 sp7 sp12 sp14 sp13 sp15 sp16 k n (f4s10 g v8 ((pre.length : Nat) : Int) s.baud s.parity s.unit s.t0.sup (s.t0.rd.map Rng.d) s.t0.most s.t1.sup (s.t1.rd.map Rng.d) s.t1.most s.t2.sup (s.t2.rd.map Rng.d) s.t2.most s.t3.sup (s.t3.rd.map Rng.d) s.t3.most s.level (s.objects.map Obj.d) s.has s.server W0 W1 W2 W3 W4 W5 W6 W7 c.kind c.id c.value c.table c.first c.count c.n ob) = f4J105922577 sp10 sp11 sp7 sp12 sp14 sp13 sp15 sp16 k (f4s105922577 g (v8 || r.any (wantO c)) s.baud s.parity s.unit s.t0.sup (s.t0.rd.map Rng.d) s.t0.most s.t1.sup (s.t1.rd.map Rng.d) s.t1.most s.t2.sup (s.t2.rd.map Rng.d) s.t2.most s.t3.sup (s.t3.rd.map Rng.d) s.t3.most s.level (s.objects.map Obj.d) s.has s.server W0 W1 W2 W3 W4 W5 W6 W7 c.kind c.id c.value c.table c.first c.count c.n ob)
  | r, pre, 0, _, _, h => by omega
  | [], pre, n + 1, v8, hp, _ => by
    rw [f4l10, show decide (((pre.length : Nat) : Int) < (((s.objects.map Obj.d).length : Nat) : Int)) = false by rw [hp, lt_end], cond_false, f4j164646921, f4j133187603]
    simp
  | x :: r, pre, n + 1, v8, hp, h => by
    have hx := hs.objs x (by rw [hp]; simp)
    have hl' : pre.length < 9223372036854775807 := by have := hs.olen; rw [hp] at this; simp at this; omega
    have hn : nth (s.objects.map Obj.d) (Int.toNat ((pre.length : Nat) : Int)) = x.d := by rw [hp]; exact nth_mid pre x r
    have hlt : decide (((pre.length : Nat) : Int) < (((s.objects.map Obj.d).length : Nat) : Int)) = true := by rw [hp]; exact lt_mid pre x r
    have e1 : decide (((c.value.length : Nat) : Int) ≤ ((x.value.length : Nat) : Int)) = decide (c.value.length ≤ x.value.length) := decide_eq_decide.2 (by omega)
    have e2 : decide (((x.value.length : Nat) : Int) = ((c.value.length : Nat) : Int)) = decide (x.value.length = c.value.length) := decide_eq_decide.2 (by omega)
    have i1 := l4 k hs hc ob W0 W1 W2 W3 W4 W5 W6 W7 g r (pre ++ [x]) n true (by rw [hp]; simp) (by simpa using h)
    have i2 := l4 k hs hc ob W0 W1 W2 W3 W4 W5 W6 W7 g r (pre ++ [x]) n v8 (by rw [hp]; simp) (by simpa using h)
    rw [show (pre ++ [x]).length = pre.length + 1 by simp, ← wrap_add1 hl'] at i1 i2
    rw [f4l10, hlt, cond_true, f4j52428800, hn, hlt, ge0, o0, o1, isI_, isL_, dl, di, b11, List.drop_zero, Int.toNat_natCast, allU8_of (okAll_take hx.bytes _), allU8_of hc.bytes, e1, e2, x_or]
    simp only [Bool.and_self, Bool.true_or, chk_true, cond_and, cond_or]
    rw [f4j104871936, f4j104871936, i1, i2]
    have hw : (decide (x.id = c.id) && decide (c.value.length ≤ x.value.length) && decide (bytesOf (x.value.take c.value.length) = bytesOf c.value) && (decide (c.kind = 2) || decide (x.value.length = c.value.length))) = wantO c x := by
      simp only [wantO, begins, Bool.and_assoc]
    rw [hw]
    simp only [List.any_cons]
    cases wantO c x <;> cases v8 <;> rfl

end Go.Pl
