/- Ranges, slaves; windows, validity of ranges, runs of equal kinds: what the reference's functions return. -/
import Derived.Test.YtollfgfhepjfkaaPj
import Derived.Test.YtollfgfhepjfkaaQe
namespace Go.Pl
open Go Go.Ev Go.Proofs

structure Rng where
  first : Int
  count : Int
def Rng.d (o : Rng) : D := .agg [.int .i64 o.first, .int .i64 o.count]
def toR (d : D) : Rng := ⟨(nth d.cells 0).i, (nth d.cells 1).i⟩
theorem toR_d (o : Rng) : toR o.d = o := rfl
def shRng : Sh := .agg [shInt, shInt]
structure Rng.ok (o : Rng) : Prop where
  s : okS shRng o.d = true
  first : in64 o.first
  count : in64 o.count
theorem rng_of {d : D} (h : okS shRng d = true) : ∃ o : Rng, d = o.d ∧ o.ok := by
  have h0 := h
  obtain ⟨cs, rfl, h⟩ := ok_agg h
  obtain ⟨d1, d2, rfl, q1, q2⟩ := two_of h
  obtain ⟨a, rfl, ha⟩ := ok_int q1
  obtain ⟨v, rfl, hv⟩ := ok_int q2
  exact ⟨⟨a, v⟩, rfl, h0, inR64 ha, inR64 hv⟩
def toRs (l : List D) : List Rng := l.map toR
theorem toRs_d (l : List Rng) : toRs (l.map Rng.d) = l := by
  unfold toRs
  rw [List.map_map]
  exact List.map_id'' (fun p => toR_d p) l
def shRngs : Sh := .sl 2 shRng
theorem rngs_of {d : D} (h : okS shRngs d = true) : ∃ l : List Rng, d = .sl 2 (l.map Rng.d) ∧ (∀ p ∈ l, p.ok) ∧ l.length ≤ 9223372036854775807 := by
  obtain ⟨xs, rfl, h1, h2⟩ := ok_sl h
  obtain ⟨l, rfl, h3⟩ := map_of (fun x hx => rng_of hx) h2
  exact ⟨l, rfl, h3, by simpa using len_lt h1⟩
theorem r0 (o : Rng) : nth (D.cells o.d) 0 = D.int .i64 o.first := rfl
theorem r1 (o : Rng) : nth (D.cells o.d) 1 = D.int .i64 o.count := rfl

/-! ### Mod, Windows -/
def sp28 : Spc := ⟨fun ds => okZip [shInt, shInt] ds && (decide (1 ≤ (nth ds 1).i) && decide ((nth ds 1).i ≤ 65537)), fun ds => .int .i64 ((nth ds 0).i % (nth ds 1).i)⟩
theorem snd28 : Sound Try.prog 28 sp28 := by
  refine snd f28c (told1 _ _) Try.func28 (by kernel_rfl) (by kernel_rfl) (nocall _) fun ds h => ⟨1, ?_⟩
  have h : (okZip [shInt, shInt] ds && (decide (1 ≤ (nth ds 1).i) && decide ((nth ds 1).i ≤ 65537))) = true := h
  simp only [Bool.and_eq_true, decide_eq_true_eq] at h
  obtain ⟨h1, h2, h3⟩ := h
  obtain ⟨d, e, rfl, q1, q2⟩ := two_of h1
  obtain ⟨x, rfl, _⟩ := ok_int q1
  obtain ⟨n, rfl, _⟩ := ok_int q2
  have h2 : 1 ≤ n := h2
  have h3 : n ≤ 65537 := h3
  refine (e28 x n 1).trans ?_
  show _ = some (D.int .i64 (x % n))
  have hn : decide (n = 0) = false := decide_eq_false (by omega)
  rw [hn]
  have b1 : x.tmod n < n := Int.tmod_lt_of_pos x (by omega)
  have b2 : -n < x.tmod n := by
    have := Int.lt_tmod_of_pos x (by omega : 0 < n)
    omega
  rw [wrap_in (by omega) (by omega), Int.tmod_eq_emod_of_nonneg (by omega)]
  have e : (x.tmod n + n) % n = x % n := by
    rw [Int.add_emod_right, Int.tmod_def, Int.sub_mul_emod_self_left]
  rw [e]
  rfl
theorem pre28 {x n : Int} (hx : in64 x) (h1 : 1 ≤ n) (h2 : n ≤ 65537) : sp28.pre [D.int .i64 x, D.int .i64 n] = true := by
  show (okZip [shInt, shInt] _ && (decide (1 ≤ n) && decide (n ≤ 65537))) = true
  have a1 := int_ok hx
  have a2 : okS shInt (.int .i64 n) = true := int_ok ⟨by omega, by omega⟩
  simp only [okZip, a1, a2, decide_eq_true h1, decide_eq_true h2, Bool.and_self]
theorem val28 (x n : Int) : sp28.val [D.int .i64 x, D.int .i64 n] = D.int .i64 (x % n) := rfl
def normC (c : Int) : Int := c % 13
def normF (f c : Int) : Int := bif decide (c % 13 = 0) then 0 else f % (65536 - c % 13 + 1)
def Win.norm (w : Win) : Win := ⟨normF w.f0 w.c0, normC w.c0, normF w.f1 w.c1, normC w.c1, normF w.f2 w.c2, normC w.c2, normF w.f3 w.c3, normC w.c3⟩
theorem norm_ok (f c : Int) : 0 ≤ normC c ∧ normC c ≤ 12 ∧ 0 ≤ normF f c ∧ normF f c ≤ 65536 - normC c ∧ (normC c = 0 → normF f c = 0) := by
  unfold normC normF
  have h1 := Int.emod_nonneg c (by omega : (13 : Int) ≠ 0)
  have h2 := Int.emod_lt_of_pos c (by omega : (0 : Int) < 13)
  by_cases h : c % 13 = 0
  · simp [h]
  · rw [decide_eq_false h]
    simp only [cond_false]
    have h3 := Int.emod_nonneg f (by omega : 65536 - c % 13 + 1 ≠ 0)
    have h4 := Int.emod_lt_of_pos f (by omega : 0 < 65536 - c % 13 + 1)
    omega
theorem wstep (f c : Int) (hf : in64 f) (hc : in64 c) (X : Int → Int → Option D) :
    chk ((D.isI IntKind.i64 (sp28.val [D.int .i64 c, D.int .i64 13])) && sp28.pre [D.int .i64 c, D.int .i64 13])
      (chk ((D.isI IntKind.i64 (sp28.val [D.int .i64 f, D.int .i64 (IntKind.wrap .i64 ((IntKind.wrap .i64 (65536 - D.i (sp28.val [D.int .i64 c, D.int .i64 13]))) + 1))])) && sp28.pre [D.int .i64 f, D.int .i64 (IntKind.wrap .i64 ((IntKind.wrap .i64 (65536 - D.i (sp28.val [D.int .i64 c, D.int .i64 13]))) + 1))])
        (bif decide (D.i (sp28.val [D.int .i64 c, D.int .i64 13]) = 0) then X 0 (D.i (sp28.val [D.int .i64 c, D.int .i64 13]))
         else X (D.i (sp28.val [D.int .i64 f, D.int .i64 (IntKind.wrap .i64 ((IntKind.wrap .i64 (65536 - D.i (sp28.val [D.int .i64 c, D.int .i64 13]))) + 1))])) (D.i (sp28.val [D.int .i64 c, D.int .i64 13])))) = X (normF f c) (normC c) := by
  have h1 := Int.emod_nonneg c (by omega : (13 : Int) ≠ 0)
  have h2 := Int.emod_lt_of_pos c (by omega : (0 : Int) < 13)
  rw [pre28 hc (by omega) (by omega), val28, di, wrap_in (n := 65536 - c % 13) (by omega) (by omega), wrap_in (n := 65536 - c % 13 + 1) (by omega) (by omega), pre28 hf (by omega) (by omega), val28, di, isI_, isI_]
  simp only [Bool.and_self, chk_true]
  unfold normF normC
  cases decide (c % 13 = 0) <;> rfl
def sp12 : Spc := mkS [shWin] fun ds => (toW (nth ds 0)).norm.d
theorem snd12 : Sound Try.prog 12 sp12 := by
  refine snd (f12c sp28) (told1 _ _) Try.func12 (by kernel_rfl) (by kernel_rfl) (calling_cons snd28 (nocall _)) fun ds h => ⟨5, ?_⟩
  obtain ⟨d, rfl, h1⟩ := one_of h
  obtain ⟨w, rfl, hw⟩ := win_of h1
  refine (e12 sp28 w.f0 w.c0 w.f1 w.c1 w.f2 w.c2 w.f3 w.c3 5).trans ?_
  rw [f12l2_0]
  refine (wstep w.f0 w.c0 hw.f0 hw.c0 (fun a b => f12L2 sp28 5 4 (f12s2 1 a b w.f1 w.c1 w.f2 w.c2 w.f3 w.c3 0 0 0 0 0 0 0 0))).trans ?_
  rw [f12l2_1]
  refine (wstep w.f1 w.c1 hw.f1 hw.c1 (fun a b => f12L2 sp28 5 3 (f12s2 2 (normF w.f0 w.c0) (normC w.c0) a b w.f2 w.c2 w.f3 w.c3 0 0 0 0 0 0 0 0))).trans ?_
  rw [f12l2_2]
  refine (wstep w.f2 w.c2 hw.f2 hw.c2 (fun a b => f12L2 sp28 5 2 (f12s2 3 (normF w.f0 w.c0) (normC w.c0) (normF w.f1 w.c1) (normC w.c1) a b w.f3 w.c3 0 0 0 0 0 0 0 0))).trans ?_
  rw [f12l2_3]
  refine (wstep w.f3 w.c3 hw.f3 hw.c3 (fun a b => f12L2 sp28 5 1 (f12s2 4 (normF w.f0 w.c0) (normC w.c0) (normF w.f1 w.c1) (normC w.c1) (normF w.f2 w.c2) (normC w.c2) a b 0 0 0 0 0 0 0 0))).trans ?_
  rw [f12l2_4]
  rfl

/-! ### Limit -/
def sp26 : Spc := mkS [.num .i64] fun ds => .int .i64 (bif decide ((nth ds 0).i = 1) || decide ((nth ds 0).i = 2) then 2000 else bif decide ((nth ds 0).i = 3) || decide ((nth ds 0).i = 4) then 125 else 0)
theorem snd26 : Sound Try.prog 26 sp26 := by
  refine snd f26c (told1 _ _) Try.func26 (by kernel_rfl) (by kernel_rfl) (nocall _) fun ds h => ⟨1, ?_⟩
  obtain ⟨d, rfl, h1⟩ := one_of h
  obtain ⟨x, rfl⟩ := ok_num h1
  refine (e26 x 1).trans ?_
  show _ = some (D.int .i64 (bif decide (x = 1) || decide (x = 2) then 2000 else bif decide (x = 3) || decide (x = 4) then 125 else 0))
  cases decide (x = 1) <;> cases decide (x = 2) <;> cases decide (x = 3) <;> cases decide (x = 4) <;> rfl

/-! ### valid lists of ranges -/
def badR (e : Int) (r : Rng) : Bool := decide (r.first ≤ e) || decide (r.first < 0) || decide (65536 ≤ r.first) || decide (r.count < 1) || decide (65536 - r.first < r.count)
def validGo (e : Int) : List Rng → Bool
  | [] => true
  | r :: l => !badR e r && validGo (r.first + r.count) l
def validL (l : List Rng) : Bool := validGo (-1) l
theorem l25 (k : Nat) : ∀ (r pre : List Rng) (n : Nat) (e : Int), (∀ x ∈ r, x.ok) → (pre ++ r).length ≤ 9223372036854775807 → r.length < n →
    f25L3 k n (f25s3 ((pre ++ r).map Rng.d) e ((pre.length : Nat) : Int)) = some (.bool (validGo e r))
  | r, pre, 0, _, _, _, h => by omega
  | [], pre, n + 1, _, _, _, _ => by
    rw [f25l3, lt_end]; rfl
  | x :: r, pre, n + 1, e, hok, hl, h => by
    have hx := hok x (by simp)
    have h1 := hx.first
    have h2 := hx.count
    unfold in64 at h1 h2
    have hl' : pre.length < 9223372036854775807 := by simp at hl; omega
    have e0 : pre ++ x :: r = (pre ++ [x]) ++ r := by simp
    rw [f25l3, lt_mid, ge0, nth_mid, r0, r1, di, di, isI_, isI_]
    simp only [Bool.and_self, Bool.true_or, cond_true, chk_true]
    by_cases hb : badR e x = true
    · have : (bif (bif (bif (bif (bif decide (x.first ≤ e) then true else decide (x.first < 0)) then true else decide (65536 ≤ x.first)) then true else decide (x.count < 1)) then true else decide (IntKind.wrap IntKind.i64 (65536 - x.first) < x.count)) then some (D.bool false) else f25L3 k n (f25s3 ((pre ++ x :: r).map Rng.d) (IntKind.wrap IntKind.i64 (x.first + x.count)) (IntKind.wrap IntKind.i64 (((pre.length : Nat) : Int) + 1)))) = some (D.bool false) := by
        simp only [badR, Bool.or_eq_true, decide_eq_true_eq] at hb
        by_cases c1 : x.first ≤ e
        · simp [c1]
        by_cases c2 : x.first < 0
        · simp [c2]
        by_cases c3 : 65536 ≤ x.first
        · simp [c3]
        rw [wrap_in (by omega) (by omega)]
        by_cases c4 : x.count < 1
        · simp [c4]
        have c5 : 65536 - x.first < x.count := by omega
        simp [c5]
      rw [this]
      simp [validGo, hb]
    · have hb' : badR e x = false := by simpa using hb
      have hc := hb'
      simp only [badR, Bool.or_eq_false_iff, decide_eq_false_iff_not] at hc
      obtain ⟨⟨⟨⟨c1, c2⟩, c3⟩, c4⟩, c5⟩ := hc
      rw [wrap_in (n := 65536 - x.first) (by omega) (by omega), wrap_in (n := x.first + x.count) (by omega) (by omega)]
      rw [decide_eq_false c1, decide_eq_false c2, decide_eq_false c3, decide_eq_false c4, decide_eq_false c5]
      simp only [cond_false]
      rw [wrap_add1 hl', e0, show pre.length + 1 = (pre ++ [x]).length by simp, l25 k r (pre ++ [x]) n _ (fun y hy => hok y (by simp [hy])) (by simpa using hl) (by simpa using h)]
      simp [validGo, hb']
def sp25 : Spc := mkS [shRngs] fun ds => .bool (validL (toRs (nth ds 0).l))
theorem snd25 : Sound Try.prog 25 sp25 := by
  refine snd f25c (told1 _ _) Try.func25 (by kernel_rfl) (by kernel_rfl) (nocall _) fun ds h => ⟨9223372036854775810, ?_⟩
  obtain ⟨d, rfl, h1⟩ := one_of h
  obtain ⟨l, rfl, hok, hl⟩ := rngs_of h1
  refine (e25 (l.map Rng.d) 9223372036854775810).trans ?_
  show _ = some (D.bool (validL (toRs (l.map Rng.d))))
  rw [toRs_d]
  have := l25 9223372036854775810 l [] 9223372036854775810 (-1) hok hl (by omega)
  simp only [List.nil_append, List.length_nil] at this
  rw [show ((0 : Nat) : Int) = (0 : Int) from rfl] at this
  exact this
theorem pre25 {l : List Rng} (h : okS shRngs (.sl 2 (l.map Rng.d)) = true) : sp25.pre [D.sl 2 (l.map Rng.d)] = true := by
  show okZip [shRngs] _ = true
  simp only [okZip, h, Bool.and_self]
theorem val25 (l : List Rng) : sp25.val [D.sl 2 (l.map Rng.d)] = D.bool (validL l) := by
  show D.bool (validL (toRs (l.map Rng.d))) = _
  rw [toRs_d]
theorem valid_mem : ∀ {l : List Rng} {e : Int}, validGo e l = true → ∀ r ∈ l, 0 ≤ r.first ∧ r.first < 65536 ∧ 1 ≤ r.count ∧ r.count ≤ 65536 - r.first
  | [], _, _, r, h => by cases h
  | x :: l, e, h, r, hr => by
    simp only [validGo, Bool.and_eq_true, Bool.not_eq_true', badR, Bool.or_eq_false_iff, decide_eq_false_iff_not] at h
    rcases List.mem_cons.1 hr with rfl | hr
    · omega
    · exact valid_mem h.2 r hr

/-! ### In -/
def anyIn (l : List Rng) (a : Int) : Bool := l.any fun r => decide (r.first ≤ a) && decide (a < r.first + r.count)
theorem l39 (k : Nat) (L : List Rng) (hL : okS shRngs (.sl 2 (L.map Rng.d)) = true) (hv : validL L = true) (a : Int) (ha : in64 a) : ∀ (r pre : List Rng) (n : Nat), L = pre ++ r → L.length ≤ 9223372036854775807 → r.length < n →
    f39L2 sp25 k n (f39s2 (L.map Rng.d) a ((pre.length : Nat) : Int)) = some (.bool (anyIn r a))
  | r, pre, 0, _, _, h => by omega
  | [], pre, n + 1, hp, _, _ => by
    rw [f39l2, pre25 hL, val25, show decide (((pre.length : Nat) : Int) < (((L.map Rng.d).length : Nat) : Int)) = false by rw [hp, lt_end]]
    rfl
  | x :: r, pre, n + 1, hp, hl, h => by
    have hx := valid_mem hv x (by rw [hp]; simp)
    unfold in64 at ha
    have hl' : pre.length < 9223372036854775807 := by rw [hp] at hl; simp at hl; omega
    have e0 : pre ++ x :: r = (pre ++ [x]) ++ r := by simp
    have hn : nth (L.map Rng.d) (Int.toNat ((pre.length : Nat) : Int)) = x.d := by rw [hp]; exact nth_mid pre x r
    have hlt : decide (((pre.length : Nat) : Int) < (((L.map Rng.d).length : Nat) : Int)) = true := by rw [hp]; exact lt_mid pre x r
    rw [f39l2, pre25 hL, val25, hv, hlt, ge0, hn, r0, r1, di, di, isI_, isI_]
    simp only [isB_, b_, Bool.and_self, Bool.true_or, cond_true, chk_true]
    rw [wrap_add1 hl', show pre.length + 1 = (pre ++ [x]).length by simp, l39 k L hL hv a ha r (pre ++ [x]) n (by rw [hp, e0]) hl (by simpa using h), ite_some]
    congr 2
    show _ = (decide (x.first ≤ a) && decide (a < x.first + x.count) || anyIn r a)
    by_cases c1 : x.first ≤ a
    · rw [wrap_in (by omega) (by omega), show decide (a - x.first < x.count) = decide (a < x.first + x.count) from decide_eq_decide.2 (by omega), decide_eq_true c1]
      cases decide (a < x.first + x.count) <;> rfl
    · rw [decide_eq_false c1]; rfl
def sp39 : Spc := mkS [shRngs, shInt] fun ds => .bool (validL (toRs (nth ds 0).l) && anyIn (toRs (nth ds 0).l) (nth ds 1).i)
theorem snd39 : Sound Try.prog 39 sp39 := by
  refine snd (f39c sp25) (told1 _ _) Try.func39 (by kernel_rfl) (by kernel_rfl) (calling_cons snd25 (nocall _)) fun ds h => ⟨9223372036854775810, ?_⟩
  obtain ⟨d, e, rfl, h1, h2⟩ := two_of h
  have k1 := h1
  obtain ⟨l, rfl, hok, hl⟩ := rngs_of h1
  obtain ⟨a, rfl, ha⟩ := ok_int h2
  refine (e39 sp25 (l.map Rng.d) a 9223372036854775810).trans ?_
  show _ = some (D.bool (validL (toRs (l.map Rng.d)) && anyIn (toRs (l.map Rng.d)) a))
  rw [toRs_d]
  cases hv : validL l with
  | true =>
    have := l39 9223372036854775810 l k1 hv a (inR64 ha) l [] 9223372036854775810 rfl hl (by omega)
    simp only [List.length_nil] at this
    rw [show ((0 : Nat) : Int) = (0 : Int) from rfl] at this
    rw [this]; rfl
  | false =>
    rw [show (9223372036854775810 : Nat) = 9223372036854775809 + 1 from rfl, f39l2, pre25 k1, val25, hv]
    simp only [isB_, b_, Bool.and_self, Bool.true_or, chk_true]
    cases decide ((0 : Int) < (((l.map Rng.d).length : Nat) : Int)) <;> rfl
theorem pre39 {l : List Rng} (h : okS shRngs (.sl 2 (l.map Rng.d)) = true) {a : Int} (ha : in64 a) : sp39.pre [D.sl 2 (l.map Rng.d), D.int .i64 a] = true := by
  show okZip [shRngs, shInt] _ = true
  simp only [okZip, h, int_ok ha, Bool.and_self]
theorem val39 (l : List Rng) (a : Int) : sp39.val [D.sl 2 (l.map Rng.d), D.int .i64 a] = D.bool (validL l && anyIn l a) := by
  show D.bool (validL (toRs (l.map Rng.d)) && anyIn (toRs (l.map Rng.d)) a) = _
  rw [toRs_d]

end Go.Pl
