/- The reference's text of a database. -/
import Derived.Test.YtollfgfhepjfkaaDoorTi
namespace Go.Pl
open Go Go.Ev Go.Proofs

def wObject : List UInt8 := [111, 98, 106, 101, 99, 116]
def wPrefix : List UInt8 := [112, 114, 101, 102, 105, 120]
def wServer : List UInt8 := [115, 101, 114, 118, 101, 114]
def wReadable : List UInt8 := [114, 101, 97, 100, 97, 98, 108, 101]
def wMost : List UInt8 := [109, 111, 115, 116]
def wProfile : List UInt8 := [112, 114, 111, 102, 105, 108, 101]
def wEnd : List UInt8 := [101, 110, 100]
/-- the words of a condition. -/
def condW (c : Cond) : List (List UInt8) :=
  bif decide (c.kind = (1 : Int)) then [wObject, decimal c.id, quote (bytesOf c.value)] else
  bif decide (c.kind = (2 : Int)) then [wPrefix, decimal c.id, quote (bytesOf c.value)] else
  bif decide (c.kind = (3 : Int)) then [wServer, quote (bytesOf c.value)] else
  bif decide (c.kind = (4 : Int)) then [wReadable, decimal c.table, decimal c.first, decimal c.count] else
  [wMost, decimal c.table, decimal c.n]
theorem decimal_len (n : Int) : (decimal n).length ≤ 33 := by
  unfold decimal
  cases hc : (bif decide (n < (0 : Int)) then true else decide ((999999999 : Int) < n)) with
  | true => simp
  | false =>
    rw [cond_or] at hc
    simp only [Bool.or_eq_false_iff, decide_eq_false_iff_not] at hc
    rw [cond_false, ← word_dec (by omega) (by omega)]
    have := dg_length 10 33 n
    simpa [wordOf] using this
theorem quoteLen (l : List UInt8) : (quote l).length ≤ 3 * l.length + 2 := by
  have := quote_len l
  simp only [quote, List.length_cons, List.length_append, List.length_nil]
  omega
theorem bytesOf_len (xs : List D) : (bytesOf xs).length = xs.length := by simp [bytesOf]
theorem condW_tot (c : Cond) : tot (condW c) ≤ 3 * c.value.length + 200 := by
  have h1 := decimal_len c.id
  have h2 := decimal_len c.table
  have h3 := decimal_len c.first
  have h4 := decimal_len c.count
  have h5 := decimal_len c.n
  have h6 := quoteLen (bytesOf c.value)
  rw [bytesOf_len] at h6
  have w1 : wObject.length = 6 := rfl
  have w2 : wPrefix.length = 6 := rfl
  have w3 : wServer.length = 6 := rfl
  have w4 : wReadable.length = 8 := rfl
  have w5 : wMost.length = 4 := rfl
  unfold condW
  cases decide (c.kind = (1 : Int)) <;> cases decide (c.kind = (2 : Int)) <;> cases decide (c.kind = (3 : Int)) <;> cases decide (c.kind = (4 : Int)) <;> simp only [cond_true, cond_false, tot] <;> omega
theorem lnGo_len (r : List (List UInt8)) : (lnGo r).length = tot r + 1 := by
  unfold lnGo
  rw [List.length_append, List.length_singleton]
  congr 1
  induction r with
  | nil => rfl
  | cons w r ih => rw [List.flatMap_cons, List.length_append, ih, List.length_cons, tot]
theorem lineT_len (ws : List (List UInt8)) : (lineT ws).length ≤ tot ws + 1 := by
  cases ws with
  | nil => simp [lineT, tot]
  | cons w r => rw [lineT, List.length_append, lnGo_len, tot]; omega
def sp19 : Spc where
  pre ds := okZip [shCond] ds && Nat.ble (toC (nth ds 0)).value.length 100000
  val ds := .str (lineT (condW (toC (nth ds 0))))
theorem val31 (n : Int) : sp31.val [.int .i64 n] = .str (decimal n) := rfl
theorem pre31 {n : Int} (h : -9223372036854775808 ≤ n ∧ n ≤ 9223372036854775807) : sp31.pre [.int .i64 n] = true := pre36 h.1 h.2
theorem val32 (xs : List D) : sp32.val [.sl 1 xs] = .str (quote (bytesOf xs)) := rfl
theorem pre32 {xs : List D} (ho : okAll (.int .u8) xs = true) (h : xs.length ≤ mostQ) : sp32.pre [.sl 1 xs] = true := by
  have h1 : Nat.ble xs.length 9223372036854775807 = true := Nat.ble_eq_true_of_le (by unfold mostQ at h; omega)
  have h2 : Nat.ble xs.length mostQ = true := Nat.ble_eq_true_of_le h
  simp [sp32, okZip, okS, shBytes, lenOk, ho, h1, h2, nth, D.l]
theorem strs_id (ws : List (List UInt8)) : (ws.map D.str).map D.s = ws := by
  rw [List.map_map]
  exact (List.map_congr_left (g := id) fun _ _ => rfl).trans (List.map_id ws)
theorem val18 (ws : List (List UInt8)) : sp18.val [.sl 1 (ws.map D.str)] = .str (lineT ws) := by
  simp only [sp18, nth, D.l, strs_id]
theorem pre18 {ws : List (List UInt8)} (h : tot ws ≤ 4294967296) : sp18.pre [.sl 1 (ws.map D.str)] = true := by
  have htl := tot_len ws
  have h1 : Nat.ble ws.length 9223372036854775807 = true := Nat.ble_eq_true_of_le (by omega)
  have h2 : Nat.ble (tot ws) 4294967296 = true := Nat.ble_eq_true_of_le h
  have h3 : okAll .str (ws.map D.str) = true := okAll_of fun x hx => by
    obtain ⟨w, hw, rfl⟩ := List.mem_map.1 hx
    have : w.length ≤ tot ws := by
      clear h htl h1 h2
      induction ws with
      | nil => cases hw
      | cons v r ih =>
        simp only [tot]
        rcases List.mem_cons.1 hw with rfl | hw
        · omega
        · have := ih hw (List.mem_map.2 ⟨w, hw, rfl⟩); omega
    simp only [okS, lenOk]
    exact Nat.ble_eq_true_of_le (by omega)
  simp only [sp18, nth, D.l, strs_id, h2, Bool.and_true]
  simp [okZip, okS, lenOk, h1, h3]
theorem snd19 : Sound Tryd.prog 19 sp19 := by
  refine sndX (f19c sp31 sp32 sp18) (toldX _ _ _) Tryd.func19 (by kernel_rfl) (by kernel_rfl) (callingH_nil (calling_cons snd31 (calling_cons snd32 (calling_cons snd18 (calling_nil _ _ _ _))))) fun ds h => ⟨1, ?_⟩
  simp only [sp19, Bool.and_eq_true] at h
  obtain ⟨h, hm⟩ := h
  obtain ⟨d, rfl, h0⟩ := one_of h
  obtain ⟨c, rfl, hc⟩ := cond_of h0
  have hm := Nat.le_of_ble_eq_true hm
  simp only [nth, toC_d] at hm
  have htot := condW_tot c
  refine (e19 sp31 sp32 sp18 c.kind c.id c.value c.table c.first c.count c.n 1).trans ?_
  show _ = some (D.str (lineT (condW c)))
  rw [val31, val31, val31, val31, val31, val32, pre31 hc.id, pre31 hc.table, pre31 hc.first, pre31 hc.count, pre31 hc.n, pre32 hc.bytes (by unfold mostQ; omega)]
  unfold condW at htot ⊢
  have fin : ∀ ws : List (List UInt8), tot ws ≤ 4294967296 → chk (D.isS (sp18.val [.sl 1 (ws.map D.str)]) && sp18.pre [.sl 1 (ws.map D.str)]) (some (D.str (D.s (sp18.val [.sl 1 (ws.map D.str)])))) = some (D.str (lineT ws)) := fun ws h => by
    rw [val18, pre18 h]; rfl
  cases h1 : decide (c.kind = (1 : Int)) with
  | true => rw [h1] at htot; exact fin [wObject, decimal c.id, quote (bytesOf c.value)] (by simp only [cond_true] at htot; omega)
  | false =>
  cases h2 : decide (c.kind = (2 : Int)) with
  | true => rw [h1, h2] at htot; exact fin [wPrefix, decimal c.id, quote (bytesOf c.value)] (by simp only [cond_true, cond_false] at htot; omega)
  | false =>
  cases h3 : decide (c.kind = (3 : Int)) with
  | true => rw [h1, h2, h3] at htot; exact fin [wServer, quote (bytesOf c.value)] (by simp only [cond_true, cond_false] at htot; omega)
  | false =>
  cases h4 : decide (c.kind = (4 : Int)) with
  | true => rw [h1, h2, h3, h4] at htot; exact fin [wReadable, decimal c.table, decimal c.first, decimal c.count] (by simp only [cond_true, cond_false] at htot; omega)
  | false => rw [h1, h2, h3, h4] at htot; exact fin [wMost, decimal c.table, decimal c.n] (by simp only [cond_false] at htot; omega)

/-! ### databases -/
def condT (c : Cond) : List UInt8 := lineT (condW c)
def profT (p : Prof) : List UInt8 := lineT [wProfile, p.name] ++ p.conds.flatMap condT ++ [101, 110, 100, 10]
def textT (db : List Prof) : List UInt8 := db.flatMap profT
theorem condT_len {c : Cond} (h : c.value.length ≤ 251) : (condT c).length ≤ 1000 := by
  have h1 := lineT_len (condW c)
  have h2 := condW_tot c
  unfold condT
  omega
theorem condValid_len {c : Cond} (h : condValid c = true) : c.value.length ≤ 251 := by
  simp only [condValid, Bool.or_eq_true, Bool.and_eq_true, decide_eq_true_eq] at h
  omega
theorem val19 (c : Cond) : sp19.val [c.d] = .str (condT c) := rfl
theorem pre19 {c : Cond} (hc : c.ok) (h : c.value.length ≤ 251) : sp19.pre [c.d] = true := by
  have h1 : Nat.ble c.value.length 100000 = true := Nat.ble_eq_true_of_le (by omega)
  have h2 : okZip [shCond] [c.d] = true := by simp [okZip, hc.s]
  simp [sp19, h2, nth, toC_d, h1]
theorem conds_len {l : List Cond} (h : ∀ c ∈ l, c.value.length ≤ 251) : (l.flatMap condT).length ≤ 1000 * l.length := by
  induction l with
  | nil => simp
  | cons c r ih =>
    have h1 := condT_len (h c (by simp))
    have h2 := ih fun c hc => h c (by simp [hc])
    simp only [List.flatMap_cons, List.length_append, List.length_cons]
    omega
theorem l97 (k : Nat) (X3 : A → Option D) (p : Prof) (prev tl : List Prof) (o18 : List D) : ∀ (r pre : List Cond) (out : List UInt8) (n : Nat), p.conds = pre ++ r → (∀ c ∈ r, c.ok ∧ c.value.length ≤ 251) → (pre ++ r).length ≤ 8 → out.length + 1000 * r.length + 4 ≤ 4294967296 → r.length < n → prev.length ≤ 100 →
    f9L7 sp18 sp19 k X3 n (f9s7 ((prev ++ p :: tl).map Prof.d) out ((prev.length : Nat) : Int) ((pre.length : Nat) : Int) o18) = X3 (f9s3 ((prev ++ p :: tl).map Prof.d) (out ++ r.flatMap condT ++ [101, 110, 100, 10]) (((prev ++ [p]).length : Nat) : Int))
  | r, pre, out, 0, _, _, _, _, h, _ => by omega
  | [], pre, out, n + 1, hp, hok, hl, ho, h, hv => by
    rw [f9l7, lt_mid, ge0, nth_mid, p1, hp, dl]
    rw [lt_end]
    have h1 : decide (out.length + 4 ≤ 4611686018427387904) = true := decide_eq_true (by simp at ho; omega)
    rw [isL_, b77, h1]
    simp only [Bool.and_self, chk_true, cond_false]
    rw [wrap_add1 (by omega)]
    simp
  | c :: r, pre, out, n + 1, hp, hok, hl, ho, h, hv => by
    obtain ⟨hc, hcl⟩ := hok c (by simp)
    have hcl' := condT_len hcl
    have hlen : (pre ++ c :: r).length = pre.length + r.length + 1 := by simp; omega
    simp only [List.length_cons] at ho
    rw [f9l7, lt_mid, ge0, nth_mid, p1, hp, dl, lt_mid, ge0, nth_mid, isL_, b77, len_cells_c, cells_c, val19, pre19 hc hcl, isS_, dsE]
    have h1 : decide (out.length + (condT c).length ≤ 4611686018427387904) = true := decide_eq_true (by omega)
    rw [h1]
    simp only [Bool.and_self, chk_true, cond_true]
    have ih := l97 k X3 p prev tl o18 r (pre ++ [c]) (out ++ condT c) n (by rw [hp]; simp) (fun c hc => hok c (by simp [hc])) (by simp at hl ⊢; omega) (by rw [List.length_append]; omega) (by simpa using h) hv
    rw [wrap_add1 (by omega), show pre.length + 1 = (pre ++ [c]).length by simp, ih]
    simp [List.append_assoc]
def profTxt (p : Prof) : Prop := p.name.length ≤ 40 ∧ p.conds.length ≤ 8 ∧ ∀ c ∈ p.conds, c.value.length ≤ 251
theorem l93 (k : Nat) (hk : 100 < k) : ∀ (r prev : List Prof) (out : List UInt8) (n : Nat), (∀ p ∈ r, p.ok ∧ profTxt p) → (prev ++ r).length ≤ 16 → out.length + 10000 * r.length ≤ 1000000 → r.length < n →
    f9L3 sp18 sp19 k n (f9s3 ((prev ++ r).map Prof.d) out ((prev.length : Nat) : Int)) = some (.str (out ++ textT r))
  | r, prev, out, 0, _, _, _, h => by omega
  | [], prev, out, n + 1, hok, hl, ho, h => by
    rw [f9l3, lt_end]
    simp [textT]
  | p :: r, prev, out, n + 1, hok, hl, ho, h => by
    obtain ⟨hp, hn, hcn, hcv⟩ := hok p (by simp)
    simp only [List.length_cons] at ho
    have hpl : prev.length ≤ 16 := by simp at hl; omega
    have htot : tot [wProfile, p.name] = p.name.length + 9 := by simp [tot, wProfile]; omega
    have hlt := lineT_len [wProfile, p.name]
    rw [htot] at hlt
    rw [f9l3, lt_mid, ge0, nth_mid, p0, isS_, dsE]
    rw [show (D.sl 1 [D.str [112, 114, 111, 102, 105, 108, 101], D.str p.name]) = .sl 1 ([wProfile, p.name].map D.str) from rfl, val18, pre18 (by rw [htot]; omega), isS_, dsE]
    have h1 : decide (out.length + (lineT [wProfile, p.name]).length ≤ 4611686018427387904) = true := decide_eq_true (by omega)
    rw [h1]
    simp only [Bool.and_self, chk_true, cond_true]
    have hok' : ∀ c ∈ p.conds, c.ok ∧ c.value.length ≤ 251 := fun c hc => ⟨hp.conds c hc, hcv c hc⟩
    have hcl := conds_len hcv
    have i1 := l97 k (f9L3 sp18 sp19 k n) p prev r [D.str [112, 114, 111, 102, 105, 108, 101], D.str p.name] p.conds [] (out ++ lineT [wProfile, p.name]) k rfl hok' (by simpa using hcn) (by rw [List.length_append]; omega) (by omega) (by omega)
    have i2 := l93 k hk r (prev ++ [p]) (out ++ lineT [wProfile, p.name] ++ p.conds.flatMap condT ++ [101, 110, 100, 10]) n (fun q hq => hok q (by simp [hq])) (by simp at hl ⊢; omega) (by simp only [List.length_append, List.length_cons, List.length_nil]; omega) (by simpa using h)
    rw [show ((0 : Int)) = ((([] : List Cond).length : Nat) : Int) from rfl, i1]
    have e : prev ++ p :: r = (prev ++ [p]) ++ r := by simp
    rw [e, i2]
    simp [textT, profT, List.append_assoc]
theorem dbGo_txt : ∀ (r prev : List Prof), dbGo prev r = true → ∀ p ∈ r, profTxt p
  | [], _, _, p, hp => by cases hp
  | q :: r, prev, h, p, hp => by
    simp only [dbGo, Bool.and_eq_true, decide_eq_true_eq] at h
    obtain ⟨⟨⟨⟨⟨hn, _⟩, _⟩, h8⟩, hc⟩, hr⟩ := h
    rcases List.mem_cons.1 hp with rfl | hp
    · refine ⟨?_, h8, fun c hcm => condValid_len (List.all_eq_true.1 hc c hcm)⟩
      cases hnm : p.name with
      | nil => simp
      | cons a t =>
        rw [hnm] at hn
        simp only [nameOk, Bool.and_eq_true, decide_eq_true_eq] at hn
        simp; omega
    · exact dbGo_txt r _ hr p hp
def sp9 : Spc where
  pre ds := okZip [shDb] ds && dbValid (toDb (nth ds 0))
  val ds := .str (textT (toDb (nth ds 0)))
theorem snd9 : Sound Tryd.prog 9 sp9 := by
  refine sndX (f9c sp18 sp19) (toldX _ _ _) Tryd.func9 (by kernel_rfl) (by kernel_rfl) (callingH_nil (calling_cons snd18 (calling_cons snd19 (calling_nil _ _ _ _)))) fun ds h => ?_
  simp only [sp9, Bool.and_eq_true] at h
  obtain ⟨h, hv⟩ := h
  obtain ⟨d, rfl, h0⟩ := one_of h
  obtain ⟨db, rfl, hdb, hl⟩ := db_of h0
  simp only [nth, toDb_d] at hv
  have hv' := hv
  simp only [dbValid, Bool.and_eq_true, decide_eq_true_eq] at hv'
  have ht := dbGo_txt db [] hv'.1
  refine ⟨101, (e9 sp18 sp19 (db.map Prof.d) 101).trans ?_⟩
  show _ = some (D.str (textT (toDb (.sl 2 (db.map Prof.d)))))
  rw [toDb_d]
  have := l93 101 (by omega) db [] [] 101 (fun p hp => ⟨hdb p hp, ht p hp⟩) (by simpa using hv'.2) (by simp; omega) (by omega)
  exact this
end Go.Pl
