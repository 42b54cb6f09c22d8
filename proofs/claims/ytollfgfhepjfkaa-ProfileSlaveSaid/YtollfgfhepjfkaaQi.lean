/- ProfileSlave: for every input, the call returns true, and the arguments read as they did. No conditions. -/
import Derived.Test.YtollfgfhepjfkaaQh
namespace Go.Pl
open Go Go.Ev Go.Proofs

def Slave.tab (s : Slave) (t : Int) : STab := bif decide (t = 1) then s.t0 else bif decide (t = 2) then s.t1 else bif decide (t = 3) then s.t2 else s.t3
theorem dev_tab (s : Slave) (w : Win) (t : Int) : (device s w).tab t = tabOf (s.tab t) (w.first t) (w.count t) := by
  unfold Dev.tab Slave.tab Win.first Win.count
  cases decide (t = 1)
  · cases decide (t = 2)
    · cases decide (t = 3) <;> rfl
    · rfl
  · rfl
theorem tab_fact {s : Slave} (hF : SFacts s) (t : Int) : TFacts (s.tab t) := by
  unfold Slave.tab
  cases decide (t = 1)
  · cases decide (t = 2)
    · cases decide (t = 3)
      · exact hF.t3
      · exact hF.t2
    · exact hF.t1
  · exact hF.t0
theorem tab_okS {s : Slave} (hs : s.ok) (t : Int) : (s.tab t).ok := by
  unfold Slave.tab
  cases decide (t = 1)
  · cases decide (t = 2)
    · cases decide (t = 3)
      · exact hs.t3
      · exact hs.t2
    · exact hs.t1
  · exact hs.t0
theorem win_small {w : Win} (h : smallWin w = true) (t : Int) : smallW (w.first t) (w.count t) = true := by
  simp only [smallWin, Bool.and_eq_true] at h
  unfold Win.first Win.count
  cases decide (t = 1)
  · cases decide (t = 2)
    · cases decide (t = 3)
      · exact h.2.2.2
      · exact h.2.2.1
    · exact h.2.1
  · exact h.1
/-- one of the four tables. -/
def isTab (t : Int) : Prop := t = 1 ∨ t = 2 ∨ t = 3 ∨ t = 4
theorem ni {t : Int} (h : isTab t) : (decide ((0 : Int) ≤ IntKind.wrap .i64 (t - 1)) && decide (IntKind.wrap .i64 (t - 1) < (4 : Int))) = true := by
  rcases h with rfl | rfl | rfl | rfl <;> rfl
theorem n1 (w : Win) {t : Int} (h : isTab t) : nth [(nth (D.cells w.d) 1), (nth (D.cells w.d) 2), (nth (D.cells w.d) 3), (nth (D.cells w.d) 4), (nth (D.cells w.d) 5), (nth (D.cells w.d) 6), (nth (D.cells w.d) 7)] (Int.toNat (IntKind.wrap .i64 (t - 1)) * 2) = D.int .i64 (w.count t) := by
  rcases h with rfl | rfl | rfl | rfl <;> rfl
theorem n0 (w : Win) {t : Int} (h : isTab t) : nth [(nth (D.cells w.d) 0), (nth (D.cells w.d) 1), (nth (D.cells w.d) 2), (nth (D.cells w.d) 3), (nth (D.cells w.d) 4), (nth (D.cells w.d) 5), (nth (D.cells w.d) 6), (nth (D.cells w.d) 7)] (Int.toNat (IntKind.wrap .i64 (t - 1)) * 2 + 0) = D.int .i64 (w.first t) := by
  rcases h with rfl | rfl | rfl | rfl <;> rfl
theorem nb (s : Slave) {t : Int} (h : isTab t) : nth [D.bool s.t0.sup, D.sl 2 (s.t0.rd.map Rng.d), D.int IntKind.i64 s.t0.most, D.bool s.t1.sup, D.sl 2 (s.t1.rd.map Rng.d), D.int IntKind.i64 s.t1.most, D.bool s.t2.sup, D.sl 2 (s.t2.rd.map Rng.d), D.int IntKind.i64 s.t2.most, D.bool s.t3.sup, D.sl 2 (s.t3.rd.map Rng.d), D.int IntKind.i64 s.t3.most] (Int.toNat (IntKind.wrap .i64 (t - 1)) * 3 + 0) = D.bool (s.tab t).sup := by
  rcases h with rfl | rfl | rfl | rfl <;> rfl
theorem nr (s : Slave) {t : Int} (h : isTab t) : nth [D.sl 2 (s.t0.rd.map Rng.d), D.int IntKind.i64 s.t0.most, D.bool s.t1.sup, D.sl 2 (s.t1.rd.map Rng.d), D.int IntKind.i64 s.t1.most, D.bool s.t2.sup, D.sl 2 (s.t2.rd.map Rng.d), D.int IntKind.i64 s.t2.most, D.bool s.t3.sup, D.sl 2 (s.t3.rd.map Rng.d), D.int IntKind.i64 s.t3.most] (Int.toNat (IntKind.wrap .i64 (t - 1)) * 3) = D.sl 2 ((s.tab t).rd.map Rng.d) := by
  rcases h with rfl | rfl | rfl | rfl <;> rfl
theorem nm (s : Slave) {t : Int} (h : isTab t) : nth [D.int IntKind.i64 s.t0.most, D.bool s.t1.sup, D.sl 2 (s.t1.rd.map Rng.d), D.int IntKind.i64 s.t1.most, D.bool s.t2.sup, D.sl 2 (s.t2.rd.map Rng.d), D.int IntKind.i64 s.t2.most, D.bool s.t3.sup, D.sl 2 (s.t3.rd.map Rng.d), D.int IntKind.i64 s.t3.most] (Int.toNat (IntKind.wrap .i64 (t - 1)) * 3) = D.int .i64 (s.tab t).most := by
  rcases h with rfl | rfl | rfl | rfl <;> rfl

theorem cv4 {c : Cond} (h : condValid c = true) (h4 : c.kind = 4) : 0 ≤ c.first ∧ 1 ≤ c.count ∧ c.first + c.count ≤ 65536 := by
  simp only [condValid, h4, Bool.or_eq_true, Bool.and_eq_true, decide_eq_true_eq] at h
  omega
theorem holds_valid {c : Cond} (hv : condValid c = true) (w : Win) (s : Slave) : holds c w (device s w) =
    (bif decide (c.kind = 1) then decide ((device s w).identity = 2) && hasO (device s w).objects c.id c.value false
    else bif decide (c.kind = 2) then decide ((device s w).identity = 2) && hasO (device s w).objects c.id c.value true
    else bif decide (c.kind = 3) then decide ((device s w).server = 2) && begins (device s w).data c.value
    else bif decide (c.kind = 4) then readableV c.first c.count (w.first c.table) (w.count c.table) ((device s w).tab c.table).state ((device s w).tab c.table).map
    else decide (((device s w).tab c.table).state = 2) && decide (c.n ≤ ((device s w).tab c.table).most)) := by
  unfold holds
  rw [hv, show decide ((device s w).state = 2) = true from rfl, Bool.true_and, Bool.true_and]
theorem obj_law {s : Slave} (hF : SFacts s) (w : Win) (c : Cond) (b : Bool) (hb : b = decide (c.kind = 2)) : (decide ((device s w).identity = 2) && hasO (device s w).objects c.id c.value b) = s.objects.any (wantO c) := by
  show (decide ((bif decide (0 < s.level) then (2 : Int) else 5) = 2) && hasO (bif decide (0 < s.level) then s.objects else []) c.id c.value b) = _
  by_cases h : 0 < s.level
  · rw [decide_eq_true h, cond_true, cond_true, hb, decide_eq_true (rfl : (2 : Int) = 2), Bool.true_and]
    rfl
  · rw [hF.lvl h, decide_eq_false h]
    rfl
theorem srv_law (s : Slave) (w : Win) (v : List D) : (decide ((device s w).server = 2) && begins (device s w).data v) = (s.has && decide (v.length ≤ s.server.length) && decide (bytesOf (s.server.take v.length) = bytesOf v)) := by
  show (decide ((bif s.has then (2 : Int) else 5) = 2) && begins (bif s.has then s.server else []) v) = _
  cases s.has
  · rfl
  · rw [cond_true, cond_true, decide_eq_true (rfl : (2 : Int) = 2), Bool.true_and, Bool.true_and]
    rfl
theorem x_or2 (x h : Bool) : (x || !oneG (h && x, true)) = true := by cases x <;> cases h <;> rfl

theorem jlaw (k : Nat) (hk : 9223372036854775807 < k) {s : Slave} (hs : s.ok) {w : Win} (hsm : smallWin w = true) {c : Cond} (hc : c.ok) (hv : condValid c = true) (hF : SFacts s) (ob : List D) :
    f4J39852032 sp10 sp11 sp7 sp12 sp14 sp13 sp15 sp16 k (f4s39852032 (holds c w (device s w)) s.baud s.parity s.unit s.t0.sup (s.t0.rd.map Rng.d) s.t0.most s.t1.sup (s.t1.rd.map Rng.d) s.t1.most s.t2.sup (s.t2.rd.map Rng.d) s.t2.most s.t3.sup (s.t3.rd.map Rng.d) s.t3.most s.level (s.objects.map Obj.d) s.has s.server (nth (D.cells w.d) 0) (nth (D.cells w.d) 1) (nth (D.cells w.d) 2) (nth (D.cells w.d) 3) (nth (D.cells w.d) 4) (nth (D.cells w.d) 5) (nth (D.cells w.d) 6) (nth (D.cells w.d) 7) c.kind c.id c.value c.table c.first c.count c.n ob) = some (.bool true) := by
  have ev : decide (((c.value.length : Nat) : Int) ≤ ((s.server.length : Nat) : Int)) = decide (c.value.length ≤ s.server.length) := decide_eq_decide.2 (by omega)
  rw [f4j39852032]
  by_cases h3 : c.kind = 3
  · have d3 : decide (c.kind = 3) = true := decide_eq_true h3
    have hg : holds c w (device s w) = (bif (bif s.has then decide (c.value.length ≤ s.server.length) else false) then decide (bytesOf (s.server.take c.value.length) = bytesOf c.value) else false) := by
      rw [holds_valid hv, h3]
      simp only [show decide ((3 : Int) = 1) = false from rfl, show decide ((3 : Int) = 2) = false from rfl, decide_true, cond_false, cond_true]
      rw [srv_law, cond_and, cond_and]
    rw [d3, cond_true, List.drop_zero, Int.toNat_natCast, ev, allU8_of (okAll_take hs.server _), allU8_of hc.bytes, x_or, Bool.true_or, chk_true, chk_true, chk_true, hg]
    exact finish k s c ob _ _ _ _ _ _ _ _ _
  have d3 : decide (c.kind = 3) = false := decide_eq_false h3
  rw [d3, cond_false]
  by_cases h5 : c.kind = 5
  · have d5 : decide (c.kind = 5) = true := decide_eq_true h5
    have ht : isTab c.table := table_of hv (.inr h5)
    have hw := win_small hsm c.table
    simp only [smallW, Bool.and_eq_true, decide_eq_true_eq] at hw
    have hg : holds c w (device s w) = (bif (bif decide (0 < w.count c.table) then (s.tab c.table).sup else false) then decide (c.n ≤ (s.tab c.table).most) else false) := by
      rw [holds_valid hv, h5]
      simp only [show decide ((5 : Int) = 1) = false from rfl, show decide ((5 : Int) = 2) = false from rfl, show decide ((5 : Int) = 3) = false from rfl, show decide ((5 : Int) = 4) = false from rfl, cond_false]
      rw [dev_tab, most_law _ _ _ _ (by omega), cond_and, cond_and]
    rw [d5, cond_true, n1 w ht, nb s ht, nm s ht, ni ht, isI_, isI_, isB_, b_, di, di]
    simp only [Bool.true_or, chk_true]
    rw [f4j133187603, hg]
    exact finish k s c ob _ _ _ _ _ _ _ _ _
  have d5 : decide (c.kind = 5) = false := decide_eq_false h5
  rw [d5, cond_false]
  by_cases h4 : c.kind = 4
  · have d4 : decide (c.kind = 4) = true := decide_eq_true h4
    have ht : isTab c.table := table_of hv (.inl h4)
    have hw0 := win_small hsm c.table
    have hw := hw0
    simp only [smallW, Bool.and_eq_true, decide_eq_true_eq] at hw
    obtain ⟨q1, q2, q3⟩ := cv4 hv h4
    have hg : holds c w (device s w) = (bif (bif (bif (bif (s.tab c.table).sup then decide (0 < w.count c.table) else false) then decide (w.first c.table ≤ c.first) else false) then decide (c.first + c.count ≤ w.first c.table + w.count c.table) else false) then covers (s.tab c.table).rd c.first c.count else false) := by
      rw [holds_valid hv, h4]
      simp only [show decide ((4 : Int) = 1) = false from rfl, show decide ((4 : Int) = 2) = false from rfl, show decide ((4 : Int) = 3) = false from rfl, decide_true, cond_false, cond_true]
      rw [dev_tab, read_law (tab_fact hF c.table) hw0 _ _ q1 q2 q3, cond_and, cond_and, cond_and, cond_and]
    rw [d4, cond_true, n1 w ht, n0 w ht, nb s ht, nr s ht, ni ht, isI_, isI_, isB_, isL_, b_, di, di, dl, pre16 (tab_okS hs c.table).sh hc.first hc.count, val16, isB_, b_, wrap_in (n := c.first + c.count) (by omega) (by omega), wrap_in (n := w.first c.table + w.count c.table) (by omega) (by omega)]
    simp only [Bool.and_self, Bool.true_or, chk_true, show Nat.beq 2 2 = true from rfl]
    rw [f4j164646921, f4j133187603, hg]
    exact finish k s c ob _ _ _ _ _ _ _ _ _
  have d4 : decide (c.kind = 4) = false := decide_eq_false h4
  rw [d4, cond_false]
  have h12 : c.kind = 1 ∨ c.kind = 2 := by
    simp only [condValid, decide_eq_false h3, decide_eq_false h4, decide_eq_false h5, Bool.false_and, Bool.or_false, Bool.or_eq_true, Bool.and_eq_true, decide_eq_true_eq] at hv
    rcases hv with hv | hv
    · exact .inl hv.1
    · exact .inr hv.1
  have hg : holds c w (device s w) = s.objects.any (wantO c) := by
    rw [holds_valid hv]
    rcases h12 with h | h
    · rw [decide_eq_true h, cond_true]
      exact obj_law hF w c false (by rw [h]; rfl)
    · rw [show decide (c.kind = 1) = false from decide_eq_false (by omega), cond_false, decide_eq_true h, cond_true]
      exact obj_law hF w c true (by rw [h]; rfl)
  have hl := l4 k hs hc ob (nth (D.cells w.d) 0) (nth (D.cells w.d) 1) (nth (D.cells w.d) 2) (nth (D.cells w.d) 3) (nth (D.cells w.d) 4) (nth (D.cells w.d) 5) (nth (D.cells w.d) 6) (nth (D.cells w.d) 7) (holds c w (device s w)) s.objects [] k false rfl (by have := hs.olen; omega)
  simp only [List.length_nil, Bool.false_or] at hl
  rw [show ((0 : Nat) : Int) = (0 : Int) from rfl] at hl
  rw [hl, hg]
  exact finish k s c ob _ _ _ _ _ _ _ _ _

theorem ev4 (k : Nat) (hk : 9223372036854775807 < k) {s : Slave} (hs : s.ok) {w : Win} (hw : w.ok) {c : Cond} (hc : c.ok) : evF (f4c sp10 sp11 sp7 sp12 sp14 sp13 sp15 sp16) std k Try.f4 [s.d, w.d, c.d] = some (.bool true) := by
  have he := e4 sp10 sp11 sp7 sp12 sp14 sp13 sp15 sp16 s.baud s.parity s.unit s.t0.sup (s.t0.rd.map Rng.d) s.t0.most s.t1.sup (s.t1.rd.map Rng.d) s.t1.most s.t2.sup (s.t2.rd.map Rng.d) s.t2.most s.t3.sup (s.t3.rd.map Rng.d) s.t3.most s.level (s.objects.map Obj.d) s.has s.server w.f0 w.c0 w.f1 w.c1 w.f2 w.c2 w.f3 w.c3 c.kind c.id c.value c.table c.first c.count c.n k
  have he : evF (f4c sp10 sp11 sp7 sp12 sp14 sp13 sp15 sp16) std k Try.f4 [s.d, w.d, c.d] = _ := he
  obtain ⟨b10, v10⟩ := val10 hs
  obtain ⟨b11, v11, hF⟩ := val11 hs
  have q7 : sp7.pre [] = true := rfl
  have v7 : sp7.val [] = D.bool true := rfl
  rw [he, foldSl, pre10 hs, v10, pre11 hs, v11, q7, v7]
  simp only [isB_, b_, Bool.and_self, Bool.true_or, chk_true, cond_or]
  cases hcond : (!b10 || !b11 || decide ((300 : Int) < ((c.value.length : Nat) : Int)))
  case true => rfl
  simp only [Bool.or_eq_false_iff, Bool.not_eq_false'] at hcond
  have hF := hF hcond.1.2
  rw [cond_false, f4j27265024]
  have hsm := norm_small w
  have hwn := norm_win w
  have hdv := device_ok hs hsm
  rw [foldSl, foldW, pre12 hw, val12, foldWn, pre14 hs hwn hsm, val14, foldDn, foldC, pre13 hc hwn hdv, val13, pre15 hc, val15, q7, v7]
  simp only [isB_, b_, Bool.and_self, chk_true, show D.isA 8 w.norm.d = true from rfl, show D.isA 21 (device s w.norm).d = true from rfl]
  cases hv : condValid c with
  | false =>
    have : holds c w.norm (device s w.norm) = false := by unfold holds; rw [hv]; rfl
    rw [this]; rfl
  | true =>
    rw [Bool.not_true, cond_false]
    exact jlaw k hk hs hsm hc hv hF [s.d]
def sp4 : Spc := mkS [shSlave, shWin, shCond] fun _ => .bool true
theorem snd4 : Sound Try.prog 4 sp4 := by
  refine snd (f4c sp10 sp11 sp7 sp12 sp14 sp13 sp15 sp16) (told1 _ _) Try.func4 (by kernel_rfl) (by kernel_rfl) (calling_cons snd10 (calling_cons snd11 (calling_cons snd7 (calling_cons snd12 (calling_cons snd14 (calling_cons snd13 (calling_cons snd15 (calling_cons snd16 (nocall _))))))))) fun ds h => ⟨9223372036854775808, ?_⟩
  obtain ⟨x, y, z, rfl, h1, h2, h3⟩ := three_of h
  obtain ⟨s, rfl, hs⟩ := slave_of h1
  obtain ⟨w, rfl, hw⟩ := win_of h2
  obtain ⟨c, rfl, hc⟩ := cond_of h3
  exact ev4 9223372036854775808 (by omega) hs hw hc

theorem laid4 : laidOutB Try.prog = true := by kernel_rfl
theorem bool44 : Try.prog.underlying 4 = some .bool := by kernel_rfl
theorem own4 : ownKnob Try.prog.godebug = none := by kernel_rfl
theorem args4 : [34, 37, 39].map (argSh Try.prog) = [shSlave, shWin, shCond].map some := by kernel_rfl

end Go.Pl
namespace Go.Proofs.Ytollfgfhepjfkaa
open Go Go.Ev Go.Pl Go.Proofs
set_option maxRecDepth 100000 in
theorem profileSlave_lifted (os : Os) (started : os.Started) (H : Type) (enc : TypeId × Value → H) :
    ReturnsInHanded {} Try.checked os 4 .any (Rows.profileSlaveSpec.pre6 enc Try.prog Try.f4 Rows.profileSlaveRow.domain false) (Rows.profileSlaveSpec.post enc Try.prog Try.f4 false true false false) := by
  refine returnsInHanded_of_change (C := Try.checked) own4 started (by kernel_rfl) Try.func4
    (ChangeSpec.witness6 (enc := enc) (C := Try.checked) false ⟨#[], #[.agg #[.int .i64 0, .int .i64 0, .int .i64 0, .bool false, .slice none 0 0, .int .i64 0, .bool false, .slice none 0 0, .int .i64 0, .bool false, .slice none 0 0, .int .i64 0, .bool false, .slice none 0 0, .int .i64 0, .int .i64 0, .slice none 0 0, .bool false, .slice none 0 0],
      .agg #[.int .i64 0, .int .i64 0, .int .i64 0, .int .i64 0, .int .i64 0, .int .i64 0, .int .i64 0, .int .i64 0], .agg #[.int .i64 0, .int .i64 0, .slice none 0 0, .int .i64 0, .int .i64 0, .int .i64 0, .int .i64 0]], []⟩ 8 (by kernel_rfl) (by kernel_rfl) (by kernel_rfl) (by kernel_rfl)) ?_
  intro W base args ds gs before hval hW _ _
  have hp : Try.f4.params.toList = [34, 37, 39] := by kernel_rfl
  refine contract_of (shs := [shSlave, shWin, shCond]) snd4 (fun _ _ => rfl) (fun ds h => h) ?_ (by kernel_rfl) bool44 laid4 ?_ rfl ?_ base args ds gs before hval hW
  · rw [hp]; exact args4
  · rw [hp]
    intro t ht
    have : t = 34 ∨ t = 37 ∨ t = 39 := by simpa using ht
    rcases this with rfl | rfl | rfl
    · exact ⟨by kernel_rfl, of_decide_eq_true (by kernel_rfl)⟩
    · exact ⟨by kernel_rfl, of_decide_eq_true (by kernel_rfl)⟩
    · exact ⟨by kernel_rfl, of_decide_eq_true (by kernel_rfl)⟩
  · intro ds hl
    rw [hp] at hl
    match ds, hl with
    | [a, b, c], _ => rfl
theorem profileSlave_holds : Rows.ProfileSlaveSaid :=
  OpenClaim.holds_of_wide 4 Try.f4 rfl rfl rfl rfl rfl rfl rfl ⟨rfl, rfl, rfl, rfl, rfl⟩ rfl rfl rfl rfl rfl (by kernel_rfl) Try.func4 (by kernel_rfl)
    (of_decide_eq_true (by kernel_rfl)) (by unfold Func.isWrapper; first | (rw [if_pos (by decide +kernel)]; kernel_rfl) | (rw [if_neg (by decide +kernel)]; exact ⟨rfl, rfl⟩))
    (fun os started H enc _ => profileSlave_lifted os started H enc)
#print axioms profileSlave_holds
end Go.Proofs.Ytollfgfhepjfkaa
