/- What the functions of the reference package for texts return. -/
import Derived.Test.YtollfgfhepjfkaaDoorRd
import Derived.KernelRfl
import Derived.Test.YtollfgfhepjfkaaDoorTg
namespace Go.Ev
open Go Go.Proofs
/-- modscan/modscanref02.word -/
noncomputable def f45c  : Cfg := cfgH Tryd.prog [40] [74] xs [] [] ⟨24, [0, 2, 3, 4, 8], [(3, ([0, 3, 4], [], []))], []⟩
def f45s3 (v0 : List D) (v3 : List UInt8) (v4 : Int) : A := (A.mk [(0, (T.d (D.sl 1 v0))), (3, (T.d (D.str v3))), (4, (T.d (D.int IntKind.i64 v4)))] [])
noncomputable def f45L3 (k : Nat) (n : Nat) (s : A) : Option D := loopK (fun s' K' => evK f45c std k (sub Tryd.f45 [1, 1, 0, 1, 0, 0]) s' K') (fun s' => s'.scrub f45c (f45c.live 3)) n s (blockK 0 (thenK (fun s' => evK f45c std k (sub Tryd.f45 [1, 1, 1]) s' (endK f45c std Tryd.f45)) (endK f45c std Tryd.f45)))
theorem f45l3 (k : Nat) (n : Nat) (v0 : List D) (v3 : List UInt8) (v4 : Int) : f45L3 k (n + 1) (f45s3 v0 v3 v4) = (bif (decide (v4 < (((List.length v0) : Nat) : Int))) then (chk ((decide ((0 : Int) ≤ v4)) && (decide (v4 < (((List.length v0) : Nat) : Int)))) (chk (D.isI IntKind.i64 (nth (D.cells (nth v0 (Int.toNat v4))) 0)) (chk ((decide ((0 : Int) ≤ v4)) && (decide (v4 < (((List.length v0) : Nat) : Int)))) (chk (D.isI IntKind.i64 (nth (D.cells (nth v0 (Int.toNat v4))) 0)) (chk (((decide ((0 : Int) ≤ (D.i (nth (D.cells (nth v0 (Int.toNat v4))) 0)))) && (decide ((D.i (nth (D.cells (nth v0 (Int.toNat v4))) 0)) ≤ (IntKind.wrap IntKind.i64 ((D.i (nth (D.cells (nth v0 (Int.toNat v4))) 0)) + (1 : Int)))))) && (decide ((IntKind.wrap IntKind.i64 ((D.i (nth (D.cells (nth v0 (Int.toNat v4))) 0)) + (1 : Int))) ≤ (16 : Int)))) (chk (decide (((List.length v3) + (List.length (List.drop (Int.toNat (D.i (nth (D.cells (nth v0 (Int.toNat v4))) 0))) (List.take (Int.toNat (IntKind.wrap IntKind.i64 ((D.i (nth (D.cells (nth v0 (Int.toNat v4))) 0)) + (1 : Int)))) [(48 : UInt8), (49 : UInt8), (50 : UInt8), (51 : UInt8), (52 : UInt8), (53 : UInt8), (54 : UInt8), (55 : UInt8), (56 : UInt8), (57 : UInt8), (65 : UInt8), (66 : UInt8), (67 : UInt8), (68 : UInt8), (69 : UInt8), (70 : UInt8)])))) ≤ 4611686018427387904)) (f45L3 k n (f45s3 v0 (v3 ++ (List.drop (Int.toNat (D.i (nth (D.cells (nth v0 (Int.toNat v4))) 0))) (List.take (Int.toNat (IntKind.wrap IntKind.i64 ((D.i (nth (D.cells (nth v0 (Int.toNat v4))) 0)) + (1 : Int)))) [(48 : UInt8), (49 : UInt8), (50 : UInt8), (51 : UInt8), (52 : UInt8), (53 : UInt8), (54 : UInt8), (55 : UInt8), (56 : UInt8), (57 : UInt8), (65 : UInt8), (66 : UInt8), (67 : UInt8), (68 : UInt8), (69 : UInt8), (70 : UInt8)]))) (IntKind.wrap IntKind.i64 (v4 + (1 : Int))))))))))) else (some (D.str v3))) := by kernel_rfl
theorem e45 (x0 : List D) (k : Nat) : evF f45c std k Tryd.f45 [(.sl 1 x0)] = (f45L3 k k (f45s3 x0 [] (0 : Int))) := by kernel_rfl
/-- modscan/modscanref02.Decimal -/
noncomputable def f31c (s46 : Spc) (s45 : Spc) : Cfg := cfgH Tryd.prog [40] [74] xs [(46, s46), (45, s45)] [] ⟨12, [0, 2, 8], [], []⟩
theorem e31 (s46 : Spc) (s45 : Spc) (x0 : Int) (k : Nat) : evF (f31c s46 s45) std k Tryd.f31 [(.int .i64 x0)] = (bif (bif (decide (x0 < (0 : Int))) then true else (decide ((999999999 : Int) < x0))) then (some (D.str [])) else (chk ((D.isL 1 (Spc.val s46 [(D.int IntKind.i64 x0), (D.int IntKind.i64 (10 : Int))])) && (Spc.pre s46 [(D.int IntKind.i64 x0), (D.int IntKind.i64 (10 : Int))])) (chk ((D.isS (Spc.val s45 [(D.sl 1 (D.l (Spc.val s46 [(D.int IntKind.i64 x0), (D.int IntKind.i64 (10 : Int))])))])) && (Spc.pre s45 [(D.sl 1 (D.l (Spc.val s46 [(D.int IntKind.i64 x0), (D.int IntKind.i64 (10 : Int))])))])) (some (D.str (D.s (Spc.val s45 [(D.sl 1 (D.l (Spc.val s46 [(D.int IntKind.i64 x0), (D.int IntKind.i64 (10 : Int))])))]))))))) := by kernel_rfl
/-- modscan/modscanref02.plain -/
noncomputable def f47c  : Cfg := cfgH Tryd.prog [40] [74] xs [] [] ⟨17, [0, 2], [], []⟩
theorem e47 (x0 : Int) (k : Nat) : evF f47c std k Tryd.f47 [(.int .u8 x0)] = (some (D.bool (bif (bif (bif (decide ((32 : Int) ≤ x0)) then (decide (x0 ≤ (126 : Int))) else false) then (!(decide (x0 = (34 : Int)))) else false) then (!(decide (x0 = (92 : Int)))) else false))) := by kernel_rfl
/-- modscan/modscanref02.Hex -/
noncomputable def f48c (s46 : Spc) (s45 : Spc) : Cfg := cfgH Tryd.prog [40] [74] xs [(46, s46), (45, s45)] [] ⟨31, [0, 1, 4, 5, 15, 21, 28], [(4, ([1, 5], [(5, 90)], [5]))], []⟩
def f48s4 (v1 : Int) (v5 : List D) : A := (A.mk [(1, (T.d (D.int IntKind.i64 v1))), (5, (T.d (D.sl 1 v5)))] [])
noncomputable def f48L4 (s46 : Spc) (s45 : Spc) (k : Nat) (n : Nat) (s : A) : Option D := loopK (fun s' K' => evK (f48c s46 s45) std k (sub Tryd.f48 [1, 1, 1, 0, 0, 0]) s' K') (fun s' => s'.scrub (f48c s46 s45) ((f48c s46 s45).live 4)) n s (blockK 0 (thenK (fun s' => evK (f48c s46 s45) std k (sub Tryd.f48 [1, 1, 1, 1]) s' (endK (f48c s46 s45) std Tryd.f48)) (endK (f48c s46 s45) std Tryd.f48)))
def f48s4b (v1 : Int) (o5 : List D) : A := (A.mk [(1, (T.d (D.int IntKind.i64 v1))), (5, (T.vec 5))] [(5, (Ob.vec 3 1 o5))])
theorem f48l4 (s46 : Spc) (s45 : Spc) (k : Nat) (n : Nat) (v1 : Int) (v5 : List D) : f48L4 s46 s45 k (n + 1) (f48s4 v1 v5) = (bif (decide ((((List.length v5) : Nat) : Int) < v1)) then (chk (decide ((1 + (List.length v5)) ≤ 4294967296)) (f48L4 s46 s45 k n (f48s4b v1 ([(D.int IntKind.i64 (0 : Int))] ++ v5)))) else (bif (decide (v1 < (((List.length v5) : Nat) : Int))) then (some (D.str [])) else (chk ((D.isS (Spc.val s45 [(D.sl 1 v5)])) && (Spc.pre s45 [(D.sl 1 v5)])) (some (D.str (D.s (Spc.val s45 [(D.sl 1 v5)]))))))) := by kernel_rfl
theorem f48l4b (s46 : Spc) (s45 : Spc) (k : Nat) (n : Nat) (v1 : Int) (o5 : List D) : f48L4 s46 s45 k (n + 1) (f48s4b v1 o5) = (bif (decide ((((List.length o5) : Nat) : Int) < v1)) then (chk (decide ((1 + (List.length o5)) ≤ 4294967296)) (f48L4 s46 s45 k n (f48s4b v1 ([(D.int IntKind.i64 (0 : Int))] ++ o5)))) else (bif (decide (v1 < (((List.length o5) : Nat) : Int))) then (some (D.str [])) else (chk ((D.isS (Spc.val s45 [(D.sl 1 o5)])) && (Spc.pre s45 [(D.sl 1 o5)])) (some (D.str (D.s (Spc.val s45 [(D.sl 1 o5)]))))))) := by kernel_rfl
theorem e48 (s46 : Spc) (s45 : Spc) (x0 : Int) (x1 : Int) (k : Nat) : evF (f48c s46 s45) std k Tryd.f48 [(.int .i64 x0), (.int .i64 x1)] = (bif (bif (bif (decide (x1 < (1 : Int))) then true else (decide ((8 : Int) < x1))) then true else (decide (x0 < (0 : Int)))) then (some (D.str [])) else (chk ((D.isL 1 (Spc.val s46 [(D.int IntKind.i64 x0), (D.int IntKind.i64 (16 : Int))])) && (Spc.pre s46 [(D.int IntKind.i64 x0), (D.int IntKind.i64 (16 : Int))])) (f48L4 s46 s45 k k (f48s4 x1 (D.l (Spc.val s46 [(D.int IntKind.i64 x0), (D.int IntKind.i64 (16 : Int))])))))) := by kernel_rfl
/-- modscan/modscanref02.Quote -/
noncomputable def f32c (s47 : Spc) (s48 : Spc) : Cfg := cfgH Tryd.prog [40] [74] xs [(47, s47), (48, s48)] [] ⟨35, [0, 2, 3, 4, 8, 15], [(3, ([0, 3, 4], [], []))], []⟩
def f32s3 (v0 : List D) (v3 : List UInt8) (v4 : Int) : A := (A.mk [(0, (T.d (D.sl 1 v0))), (3, (T.d (D.str v3))), (4, (T.d (D.int IntKind.i64 v4)))] [])
noncomputable def f32L3 (s47 : Spc) (s48 : Spc) (k : Nat) (n : Nat) (s : A) : Option D := loopK (fun s' K' => evK (f32c s47 s48) std k (sub Tryd.f32 [1, 1, 0, 1, 0, 0]) s' K') (fun s' => s'.scrub (f32c s47 s48) ((f32c s47 s48).live 3)) n s (blockK 0 (thenK (fun s' => evK (f32c s47 s48) std k (sub Tryd.f32 [1, 1, 1]) s' (endK (f32c s47 s48) std Tryd.f32)) (endK (f32c s47 s48) std Tryd.f32)))
theorem f32l3 (s47 : Spc) (s48 : Spc) (k : Nat) (n : Nat) (v0 : List D) (v3 : List UInt8) (v4 : Int) : f32L3 s47 s48 k (n + 1) (f32s3 v0 v3 v4) = (bif (decide (v4 < (((List.length v0) : Nat) : Int))) then (chk ((decide ((0 : Int) ≤ v4)) && (decide (v4 < (((List.length v0) : Nat) : Int)))) (chk (D.isI IntKind.u8 (nth (D.cells (nth v0 (Int.toNat v4))) 0)) (chk ((D.isB (Spc.val s47 [(D.int IntKind.u8 (D.i (nth (D.cells (nth v0 (Int.toNat v4))) 0)))])) && (Spc.pre s47 [(D.int IntKind.u8 (D.i (nth (D.cells (nth v0 (Int.toNat v4))) 0)))])) (bif (D.b (Spc.val s47 [(D.int IntKind.u8 (D.i (nth (D.cells (nth v0 (Int.toNat v4))) 0)))])) then (chk ((decide ((0 : Int) ≤ v4)) && (decide (v4 < (((List.length v0) : Nat) : Int)))) (chk (D.isI IntKind.u8 (nth (D.cells (nth v0 (Int.toNat v4))) 0)) (chk (decide (((List.length v3) + 1) ≤ 4611686018427387904)) (f32L3 s47 s48 k n (f32s3 v0 (v3 ++ (bytesOf [(D.int IntKind.u8 (D.i (nth (D.cells (nth v0 (Int.toNat v4))) 0)))])) (IntKind.wrap IntKind.i64 (v4 + (1 : Int)))))))) else (chk ((decide ((0 : Int) ≤ v4)) && (decide (v4 < (((List.length v0) : Nat) : Int)))) (chk (D.isI IntKind.u8 (nth (D.cells (nth v0 (Int.toNat v4))) 0)) (chk ((D.isS (Spc.val s48 [(D.int IntKind.i64 (IntKind.wrap IntKind.i64 (D.i (nth (D.cells (nth v0 (Int.toNat v4))) 0)))), (D.int IntKind.i64 (2 : Int))])) && (Spc.pre s48 [(D.int IntKind.i64 (IntKind.wrap IntKind.i64 (D.i (nth (D.cells (nth v0 (Int.toNat v4))) 0)))), (D.int IntKind.i64 (2 : Int))])) (chk (decide ((1 + (List.length (D.s (Spc.val s48 [(D.int IntKind.i64 (IntKind.wrap IntKind.i64 (D.i (nth (D.cells (nth v0 (Int.toNat v4))) 0)))), (D.int IntKind.i64 (2 : Int))])))) ≤ 4611686018427387904)) (chk (decide (((List.length v3) + (List.length ([(92 : UInt8)] ++ (D.s (Spc.val s48 [(D.int IntKind.i64 (IntKind.wrap IntKind.i64 (D.i (nth (D.cells (nth v0 (Int.toNat v4))) 0)))), (D.int IntKind.i64 (2 : Int))]))))) ≤ 4611686018427387904)) (f32L3 s47 s48 k n (f32s3 v0 (v3 ++ ([(92 : UInt8)] ++ (D.s (Spc.val s48 [(D.int IntKind.i64 (IntKind.wrap IntKind.i64 (D.i (nth (D.cells (nth v0 (Int.toNat v4))) 0)))), (D.int IntKind.i64 (2 : Int))])))) (IntKind.wrap IntKind.i64 (v4 + (1 : Int)))))))))))))) else (chk (decide (((List.length v3) + 1) ≤ 4611686018427387904)) (some (D.str (v3 ++ [(34 : UInt8)]))))) := by kernel_rfl
theorem e32 (s47 : Spc) (s48 : Spc) (x0 : List D) (k : Nat) : evF (f32c s47 s48) std k Tryd.f32 [(.sl 1 x0)] = (f32L3 s47 s48 k k (f32s3 x0 [(34 : UInt8)] (0 : Int))) := by kernel_rfl
/-- modscan/modscanref02.Line -/
noncomputable def f18c  : Cfg := cfgH Tryd.prog [40] [74] xs [] [] ⟨23, [0, 2, 3, 4, 8, 12], [(3, ([0, 3, 4], [], []))], []⟩
def f18s3 (v0 : List D) (v3 : List UInt8) (v4 : Int) : A := (A.mk [(0, (T.d (D.sl 1 v0))), (3, (T.d (D.str v3))), (4, (T.d (D.int IntKind.i64 v4)))] [])
noncomputable def f18L3 (k : Nat) (n : Nat) (s : A) : Option D := loopK (fun s' K' => evK f18c std k (sub Tryd.f18 [1, 1, 0, 1, 0, 0]) s' K') (fun s' => s'.scrub f18c (f18c.live 3)) n s (blockK 0 (thenK (fun s' => evK f18c std k (sub Tryd.f18 [1, 1, 1]) s' (endK f18c std Tryd.f18)) (endK f18c std Tryd.f18)))
theorem f18l3 (k : Nat) (n : Nat) (v0 : List D) (v3 : List UInt8) (v4 : Int) : f18L3 k (n + 1) (f18s3 v0 v3 v4) = (bif (decide (v4 < (((List.length v0) : Nat) : Int))) then (bif (decide ((0 : Int) < v4)) then (chk (decide (((List.length v3) + 1) ≤ 4611686018427387904)) (chk ((decide ((0 : Int) ≤ v4)) && (decide (v4 < (((List.length v0) : Nat) : Int)))) (chk (D.isS (nth (D.cells (nth v0 (Int.toNat v4))) 0)) (chk (decide (((List.length (v3 ++ [(32 : UInt8)])) + (List.length (D.s (nth (D.cells (nth v0 (Int.toNat v4))) 0)))) ≤ 4611686018427387904)) (f18L3 k n (f18s3 v0 ((v3 ++ [(32 : UInt8)]) ++ (D.s (nth (D.cells (nth v0 (Int.toNat v4))) 0))) (IntKind.wrap IntKind.i64 (v4 + (1 : Int))))))))) else (chk ((decide ((0 : Int) ≤ v4)) && (decide (v4 < (((List.length v0) : Nat) : Int)))) (chk (D.isS (nth (D.cells (nth v0 (Int.toNat v4))) 0)) (chk (decide (((List.length v3) + (List.length (D.s (nth (D.cells (nth v0 (Int.toNat v4))) 0)))) ≤ 4611686018427387904)) (f18L3 k n (f18s3 v0 (v3 ++ (D.s (nth (D.cells (nth v0 (Int.toNat v4))) 0))) (IntKind.wrap IntKind.i64 (v4 + (1 : Int))))))))) else (chk (decide (((List.length v3) + 1) ≤ 4611686018427387904)) (some (D.str (v3 ++ [(10 : UInt8)]))))) := by kernel_rfl
theorem e18 (x0 : List D) (k : Nat) : evF f18c std k Tryd.f18 [(.sl 1 x0)] = (f18L3 k k (f18s3 x0 [] (0 : Int))) := by kernel_rfl
/-- modscan/modscanref31.condition -/
noncomputable def f19c (s31 : Spc) (s32 : Spc) (s18 : Spc) : Cfg := cfgH Tryd.prog [40] [74] xs [(31, s31), (32, s32), (18, s18)] [] ⟨55, [1, 2, 4, 5, 15, 25, 32], [], []⟩
theorem e19 (s31 : Spc) (s32 : Spc) (s18 : Spc) (x0_0 : Int) (x0_1 : Int) (x0_2 : List D) (x0_3 : Int) (x0_4_0 : Int) (x0_4_1 : Int) (x0_5 : Int) (k : Nat) : evF (f19c s31 s32 s18) std k Tryd.f19 [(.agg [(.int .i64 x0_0), (.int .i64 x0_1), (.sl 1 x0_2), (.int .i64 x0_3), (.int .i64 x0_4_0), (.int .i64 x0_4_1), (.int .i64 x0_5)])] = (bif (decide (x0_0 = (1 : Int))) then (chk ((D.isS (Spc.val s31 [(D.int IntKind.i64 x0_1)])) && (Spc.pre s31 [(D.int IntKind.i64 x0_1)])) (chk ((D.isS (Spc.val s32 [(D.sl 1 x0_2)])) && (Spc.pre s32 [(D.sl 1 x0_2)])) (chk ((D.isS (Spc.val s18 [(D.sl 1 [(D.str [(111 : UInt8), (98 : UInt8), (106 : UInt8), (101 : UInt8), (99 : UInt8), (116 : UInt8)]), (D.str (D.s (Spc.val s31 [(D.int IntKind.i64 x0_1)]))), (D.str (D.s (Spc.val s32 [(D.sl 1 x0_2)])))])])) && (Spc.pre s18 [(D.sl 1 [(D.str [(111 : UInt8), (98 : UInt8), (106 : UInt8), (101 : UInt8), (99 : UInt8), (116 : UInt8)]), (D.str (D.s (Spc.val s31 [(D.int IntKind.i64 x0_1)]))), (D.str (D.s (Spc.val s32 [(D.sl 1 x0_2)])))])])) (some (D.str (D.s (Spc.val s18 [(D.sl 1 [(D.str [(111 : UInt8), (98 : UInt8), (106 : UInt8), (101 : UInt8), (99 : UInt8), (116 : UInt8)]), (D.str (D.s (Spc.val s31 [(D.int IntKind.i64 x0_1)]))), (D.str (D.s (Spc.val s32 [(D.sl 1 x0_2)])))])]))))))) else (bif (decide (x0_0 = (2 : Int))) then (chk ((D.isS (Spc.val s31 [(D.int IntKind.i64 x0_1)])) && (Spc.pre s31 [(D.int IntKind.i64 x0_1)])) (chk ((D.isS (Spc.val s32 [(D.sl 1 x0_2)])) && (Spc.pre s32 [(D.sl 1 x0_2)])) (chk ((D.isS (Spc.val s18 [(D.sl 1 [(D.str [(112 : UInt8), (114 : UInt8), (101 : UInt8), (102 : UInt8), (105 : UInt8), (120 : UInt8)]), (D.str (D.s (Spc.val s31 [(D.int IntKind.i64 x0_1)]))), (D.str (D.s (Spc.val s32 [(D.sl 1 x0_2)])))])])) && (Spc.pre s18 [(D.sl 1 [(D.str [(112 : UInt8), (114 : UInt8), (101 : UInt8), (102 : UInt8), (105 : UInt8), (120 : UInt8)]), (D.str (D.s (Spc.val s31 [(D.int IntKind.i64 x0_1)]))), (D.str (D.s (Spc.val s32 [(D.sl 1 x0_2)])))])])) (some (D.str (D.s (Spc.val s18 [(D.sl 1 [(D.str [(112 : UInt8), (114 : UInt8), (101 : UInt8), (102 : UInt8), (105 : UInt8), (120 : UInt8)]), (D.str (D.s (Spc.val s31 [(D.int IntKind.i64 x0_1)]))), (D.str (D.s (Spc.val s32 [(D.sl 1 x0_2)])))])]))))))) else (bif (decide (x0_0 = (3 : Int))) then (chk ((D.isS (Spc.val s32 [(D.sl 1 x0_2)])) && (Spc.pre s32 [(D.sl 1 x0_2)])) (chk ((D.isS (Spc.val s18 [(D.sl 1 [(D.str [(115 : UInt8), (101 : UInt8), (114 : UInt8), (118 : UInt8), (101 : UInt8), (114 : UInt8)]), (D.str (D.s (Spc.val s32 [(D.sl 1 x0_2)])))])])) && (Spc.pre s18 [(D.sl 1 [(D.str [(115 : UInt8), (101 : UInt8), (114 : UInt8), (118 : UInt8), (101 : UInt8), (114 : UInt8)]), (D.str (D.s (Spc.val s32 [(D.sl 1 x0_2)])))])])) (some (D.str (D.s (Spc.val s18 [(D.sl 1 [(D.str [(115 : UInt8), (101 : UInt8), (114 : UInt8), (118 : UInt8), (101 : UInt8), (114 : UInt8)]), (D.str (D.s (Spc.val s32 [(D.sl 1 x0_2)])))])])))))) else (bif (decide (x0_0 = (4 : Int))) then (chk ((D.isS (Spc.val s31 [(D.int IntKind.i64 x0_3)])) && (Spc.pre s31 [(D.int IntKind.i64 x0_3)])) (chk ((D.isS (Spc.val s31 [(D.int IntKind.i64 x0_4_0)])) && (Spc.pre s31 [(D.int IntKind.i64 x0_4_0)])) (chk ((D.isS (Spc.val s31 [(D.int IntKind.i64 x0_4_1)])) && (Spc.pre s31 [(D.int IntKind.i64 x0_4_1)])) (chk ((D.isS (Spc.val s18 [(D.sl 1 [(D.str [(114 : UInt8), (101 : UInt8), (97 : UInt8), (100 : UInt8), (97 : UInt8), (98 : UInt8), (108 : UInt8), (101 : UInt8)]), (D.str (D.s (Spc.val s31 [(D.int IntKind.i64 x0_3)]))), (D.str (D.s (Spc.val s31 [(D.int IntKind.i64 x0_4_0)]))), (D.str (D.s (Spc.val s31 [(D.int IntKind.i64 x0_4_1)])))])])) && (Spc.pre s18 [(D.sl 1 [(D.str [(114 : UInt8), (101 : UInt8), (97 : UInt8), (100 : UInt8), (97 : UInt8), (98 : UInt8), (108 : UInt8), (101 : UInt8)]), (D.str (D.s (Spc.val s31 [(D.int IntKind.i64 x0_3)]))), (D.str (D.s (Spc.val s31 [(D.int IntKind.i64 x0_4_0)]))), (D.str (D.s (Spc.val s31 [(D.int IntKind.i64 x0_4_1)])))])])) (some (D.str (D.s (Spc.val s18 [(D.sl 1 [(D.str [(114 : UInt8), (101 : UInt8), (97 : UInt8), (100 : UInt8), (97 : UInt8), (98 : UInt8), (108 : UInt8), (101 : UInt8)]), (D.str (D.s (Spc.val s31 [(D.int IntKind.i64 x0_3)]))), (D.str (D.s (Spc.val s31 [(D.int IntKind.i64 x0_4_0)]))), (D.str (D.s (Spc.val s31 [(D.int IntKind.i64 x0_4_1)])))])])))))))) else (chk ((D.isS (Spc.val s31 [(D.int IntKind.i64 x0_3)])) && (Spc.pre s31 [(D.int IntKind.i64 x0_3)])) (chk ((D.isS (Spc.val s31 [(D.int IntKind.i64 x0_5)])) && (Spc.pre s31 [(D.int IntKind.i64 x0_5)])) (chk ((D.isS (Spc.val s18 [(D.sl 1 [(D.str [(109 : UInt8), (111 : UInt8), (115 : UInt8), (116 : UInt8)]), (D.str (D.s (Spc.val s31 [(D.int IntKind.i64 x0_3)]))), (D.str (D.s (Spc.val s31 [(D.int IntKind.i64 x0_5)])))])])) && (Spc.pre s18 [(D.sl 1 [(D.str [(109 : UInt8), (111 : UInt8), (115 : UInt8), (116 : UInt8)]), (D.str (D.s (Spc.val s31 [(D.int IntKind.i64 x0_3)]))), (D.str (D.s (Spc.val s31 [(D.int IntKind.i64 x0_5)])))])])) (some (D.str (D.s (Spc.val s18 [(D.sl 1 [(D.str [(109 : UInt8), (111 : UInt8), (115 : UInt8), (116 : UInt8)]), (D.str (D.s (Spc.val s31 [(D.int IntKind.i64 x0_3)]))), (D.str (D.s (Spc.val s31 [(D.int IntKind.i64 x0_5)])))])]))))))))))) := by kernel_rfl
/-- modscan/modscanref31.Text -/
noncomputable def f9c (s18 : Spc) (s19 : Spc) : Cfg := cfgH Tryd.prog [40] [74] xs [(18, s18), (19, s19)] [] ⟨45, [0, 2, 3, 4, 5, 9, 28], [(3, ([0, 3, 4], [], [])), (7, ([0, 3, 4, 5], [], [18]))], []⟩
def f9s3 (v0 : List D) (v3 : List UInt8) (v4 : Int) : A := (A.mk [(0, (T.d (D.sl 2 v0))), (3, (T.d (D.str v3))), (4, (T.d (D.int IntKind.i64 v4)))] [])
noncomputable def f9L3 (s18 : Spc) (s19 : Spc) (k : Nat) (n : Nat) (s : A) : Option D := loopK (fun s' K' => evK (f9c s18 s19) std k (sub Tryd.f9 [1, 1, 0, 1, 0, 0]) s' K') (fun s' => s'.scrub (f9c s18 s19) ((f9c s18 s19).live 3)) n s (blockK 0 (thenK (fun s' => evK (f9c s18 s19) std k (sub Tryd.f9 [1, 1, 1]) s' (endK (f9c s18 s19) std Tryd.f9)) (endK (f9c s18 s19) std Tryd.f9)))
def f9s7 (v0 : List D) (v3 : List UInt8) (v4 : Int) (v5 : Int) (o18 : List D) : A := (A.mk [(0, (T.d (D.sl 2 v0))), (3, (T.d (D.str v3))), (4, (T.d (D.int IntKind.i64 v4))), (5, (T.d (D.int IntKind.i64 v5)))] [(18, (Ob.vec 9 1 o18))])
noncomputable def f9L7 (s18 : Spc) (s19 : Spc) (k : Nat) (X3 : A → Option D) (n : Nat) (s : A) : Option D := loopK (fun s' K' => evK (f9c s18 s19) std k (sub Tryd.f9 [1, 1, 0, 1, 0, 0, 1, 0, 0, 1, 0, 1, 0, 0]) s' K') (fun s' => s'.scrub (f9c s18 s19) ((f9c s18 s19).live 7)) n s (blockK 2 (thenK (fun s' => evK (f9c s18 s19) std k (sub Tryd.f9 [1, 1, 0, 1, 0, 0, 1, 0, 0, 1, 1]) s' (blockK 1 (thenK (fun s' => evK (f9c s18 s19) std k (sub Tryd.f9 [1, 1, 0, 1, 0, 0, 1, 1]) s' (thenK (fun s' => X3 (s'.scrub (f9c s18 s19) ((f9c s18 s19).live 3))) (blockK 0 (thenK (fun s' => evK (f9c s18 s19) std k (sub Tryd.f9 [1, 1, 1]) s' (endK (f9c s18 s19) std Tryd.f9)) (endK (f9c s18 s19) std Tryd.f9))))) (thenK (fun s' => X3 (s'.scrub (f9c s18 s19) ((f9c s18 s19).live 3))) (blockK 0 (thenK (fun s' => evK (f9c s18 s19) std k (sub Tryd.f9 [1, 1, 1]) s' (endK (f9c s18 s19) std Tryd.f9)) (endK (f9c s18 s19) std Tryd.f9))))))) (blockK 1 (thenK (fun s' => evK (f9c s18 s19) std k (sub Tryd.f9 [1, 1, 0, 1, 0, 0, 1, 1]) s' (thenK (fun s' => X3 (s'.scrub (f9c s18 s19) ((f9c s18 s19).live 3))) (blockK 0 (thenK (fun s' => evK (f9c s18 s19) std k (sub Tryd.f9 [1, 1, 1]) s' (endK (f9c s18 s19) std Tryd.f9)) (endK (f9c s18 s19) std Tryd.f9))))) (thenK (fun s' => X3 (s'.scrub (f9c s18 s19) ((f9c s18 s19).live 3))) (blockK 0 (thenK (fun s' => evK (f9c s18 s19) std k (sub Tryd.f9 [1, 1, 1]) s' (endK (f9c s18 s19) std Tryd.f9)) (endK (f9c s18 s19) std Tryd.f9))))))))
theorem f9l3 (s18 : Spc) (s19 : Spc) (k : Nat) (n : Nat) (v0 : List D) (v3 : List UInt8) (v4 : Int) : f9L3 s18 s19 k (n + 1) (f9s3 v0 v3 v4) = (bif (decide (v4 < (((List.length v0) : Nat) : Int))) then (chk ((decide ((0 : Int) ≤ v4)) && (decide (v4 < (((List.length v0) : Nat) : Int)))) (chk (D.isS (nth (D.cells (nth v0 (Int.toNat v4))) 0)) (chk ((D.isS (Spc.val s18 [(D.sl 1 [(D.str [(112 : UInt8), (114 : UInt8), (111 : UInt8), (102 : UInt8), (105 : UInt8), (108 : UInt8), (101 : UInt8)]), (D.str (D.s (nth (D.cells (nth v0 (Int.toNat v4))) 0)))])])) && (Spc.pre s18 [(D.sl 1 [(D.str [(112 : UInt8), (114 : UInt8), (111 : UInt8), (102 : UInt8), (105 : UInt8), (108 : UInt8), (101 : UInt8)]), (D.str (D.s (nth (D.cells (nth v0 (Int.toNat v4))) 0)))])])) (chk (decide (((List.length v3) + (List.length (D.s (Spc.val s18 [(D.sl 1 [(D.str [(112 : UInt8), (114 : UInt8), (111 : UInt8), (102 : UInt8), (105 : UInt8), (108 : UInt8), (101 : UInt8)]), (D.str (D.s (nth (D.cells (nth v0 (Int.toNat v4))) 0)))])])))) ≤ 4611686018427387904)) (f9L7 s18 s19 k (f9L3 s18 s19 k n) k (f9s7 v0 (v3 ++ (D.s (Spc.val s18 [(D.sl 1 [(D.str [(112 : UInt8), (114 : UInt8), (111 : UInt8), (102 : UInt8), (105 : UInt8), (108 : UInt8), (101 : UInt8)]), (D.str (D.s (nth (D.cells (nth v0 (Int.toNat v4))) 0)))])]))) v4 (0 : Int) [(D.str [(112 : UInt8), (114 : UInt8), (111 : UInt8), (102 : UInt8), (105 : UInt8), (108 : UInt8), (101 : UInt8)]), (D.str (D.s (nth (D.cells (nth v0 (Int.toNat v4))) 0)))])))))) else (some (D.str v3))) := by kernel_rfl
theorem f9l7 (s18 : Spc) (s19 : Spc) (k : Nat) (X3 : A → Option D) (n : Nat) (v0 : List D) (v3 : List UInt8) (v4 : Int) (v5 : Int) (o18 : List D) : f9L7 s18 s19 k X3 (n + 1) (f9s7 v0 v3 v4 v5 o18) = (chk ((decide ((0 : Int) ≤ v4)) && (decide (v4 < (((List.length v0) : Nat) : Int)))) (chk (D.isL 7 (nth (D.cells (nth v0 (Int.toNat v4))) 1)) (bif (decide (v5 < (((List.length (D.l (nth (D.cells (nth v0 (Int.toNat v4))) 1))) : Nat) : Int))) then (chk ((decide ((0 : Int) ≤ v4)) && (decide (v4 < (((List.length v0) : Nat) : Int)))) (chk (D.isL 7 (nth (D.cells (nth v0 (Int.toNat v4))) 1)) (chk ((decide ((0 : Int) ≤ v5)) && (decide (v5 < (((List.length (D.l (nth (D.cells (nth v0 (Int.toNat v4))) 1))) : Nat) : Int)))) (chk (Nat.ble 7 (List.length (D.cells (nth (D.l (nth (D.cells (nth v0 (Int.toNat v4))) 1)) (Int.toNat v5))))) (chk ((D.isS (Spc.val s19 [(D.agg [(nth (D.cells (nth (D.l (nth (D.cells (nth v0 (Int.toNat v4))) 1)) (Int.toNat v5))) 0), (nth (D.cells (nth (D.l (nth (D.cells (nth v0 (Int.toNat v4))) 1)) (Int.toNat v5))) 1), (nth (D.cells (nth (D.l (nth (D.cells (nth v0 (Int.toNat v4))) 1)) (Int.toNat v5))) 2), (nth (D.cells (nth (D.l (nth (D.cells (nth v0 (Int.toNat v4))) 1)) (Int.toNat v5))) 3), (nth (D.cells (nth (D.l (nth (D.cells (nth v0 (Int.toNat v4))) 1)) (Int.toNat v5))) 4), (nth (D.cells (nth (D.l (nth (D.cells (nth v0 (Int.toNat v4))) 1)) (Int.toNat v5))) 5), (nth (D.cells (nth (D.l (nth (D.cells (nth v0 (Int.toNat v4))) 1)) (Int.toNat v5))) 6)])])) && (Spc.pre s19 [(D.agg [(nth (D.cells (nth (D.l (nth (D.cells (nth v0 (Int.toNat v4))) 1)) (Int.toNat v5))) 0), (nth (D.cells (nth (D.l (nth (D.cells (nth v0 (Int.toNat v4))) 1)) (Int.toNat v5))) 1), (nth (D.cells (nth (D.l (nth (D.cells (nth v0 (Int.toNat v4))) 1)) (Int.toNat v5))) 2), (nth (D.cells (nth (D.l (nth (D.cells (nth v0 (Int.toNat v4))) 1)) (Int.toNat v5))) 3), (nth (D.cells (nth (D.l (nth (D.cells (nth v0 (Int.toNat v4))) 1)) (Int.toNat v5))) 4), (nth (D.cells (nth (D.l (nth (D.cells (nth v0 (Int.toNat v4))) 1)) (Int.toNat v5))) 5), (nth (D.cells (nth (D.l (nth (D.cells (nth v0 (Int.toNat v4))) 1)) (Int.toNat v5))) 6)])])) (chk (decide (((List.length v3) + (List.length (D.s (Spc.val s19 [(D.agg [(nth (D.cells (nth (D.l (nth (D.cells (nth v0 (Int.toNat v4))) 1)) (Int.toNat v5))) 0), (nth (D.cells (nth (D.l (nth (D.cells (nth v0 (Int.toNat v4))) 1)) (Int.toNat v5))) 1), (nth (D.cells (nth (D.l (nth (D.cells (nth v0 (Int.toNat v4))) 1)) (Int.toNat v5))) 2), (nth (D.cells (nth (D.l (nth (D.cells (nth v0 (Int.toNat v4))) 1)) (Int.toNat v5))) 3), (nth (D.cells (nth (D.l (nth (D.cells (nth v0 (Int.toNat v4))) 1)) (Int.toNat v5))) 4), (nth (D.cells (nth (D.l (nth (D.cells (nth v0 (Int.toNat v4))) 1)) (Int.toNat v5))) 5), (nth (D.cells (nth (D.l (nth (D.cells (nth v0 (Int.toNat v4))) 1)) (Int.toNat v5))) 6)])])))) ≤ 4611686018427387904)) (f9L7 s18 s19 k X3 n (f9s7 v0 (v3 ++ (D.s (Spc.val s19 [(D.agg [(nth (D.cells (nth (D.l (nth (D.cells (nth v0 (Int.toNat v4))) 1)) (Int.toNat v5))) 0), (nth (D.cells (nth (D.l (nth (D.cells (nth v0 (Int.toNat v4))) 1)) (Int.toNat v5))) 1), (nth (D.cells (nth (D.l (nth (D.cells (nth v0 (Int.toNat v4))) 1)) (Int.toNat v5))) 2), (nth (D.cells (nth (D.l (nth (D.cells (nth v0 (Int.toNat v4))) 1)) (Int.toNat v5))) 3), (nth (D.cells (nth (D.l (nth (D.cells (nth v0 (Int.toNat v4))) 1)) (Int.toNat v5))) 4), (nth (D.cells (nth (D.l (nth (D.cells (nth v0 (Int.toNat v4))) 1)) (Int.toNat v5))) 5), (nth (D.cells (nth (D.l (nth (D.cells (nth v0 (Int.toNat v4))) 1)) (Int.toNat v5))) 6)])]))) v4 (IntKind.wrap IntKind.i64 (v5 + (1 : Int))) o18)))))))) else (chk (decide (((List.length v3) + 4) ≤ 4611686018427387904)) (X3 (f9s3 v0 (v3 ++ [(101 : UInt8), (110 : UInt8), (100 : UInt8), (10 : UInt8)]) (IntKind.wrap IntKind.i64 (v4 + (1 : Int))))))))) := by kernel_rfl
theorem e9 (s18 : Spc) (s19 : Spc) (x0 : List D) (k : Nat) : evF (f9c s18 s19) std k Tryd.f9 [(.sl 2 x0)] = (f9L3 s18 s19 k k (f9s3 x0 [] (0 : Int))) := by kernel_rfl
end Go.Ev
namespace Go.Pl
open Go Go.Ev Go.Proofs

/-! ### digits in words -/
def digOk (x : D) : Bool := match x with | .int .i64 d => decide (0 ≤ d) && decide (d ≤ 15) | _ => false
def wordOf (xs : List D) : List UInt8 := xs.map fun x => hexDig.getD x.i.toNat 0
def sp45 : Spc where
  pre ds := match ds with | [.sl 1 xs] => xs.all digOk && Nat.ble xs.length mostQ | _ => false
  val ds := match ds with | [.sl 1 xs] => .str (wordOf xs) | _ => .undef
theorem hex_one : (List.range 16).map (fun d => List.drop d (List.take (d + 1) hexDig)) = (List.range 16).map (fun d => [hexDig.getD d 0]) := by decide
theorem hex_at {d : Nat} (h : d < 16) : List.drop d (List.take (d + 1) hexDig) = [hexDig.getD d 0] := by
  have := congrArg (fun l => l[d]?) hex_one
  simp only [List.getElem?_map] at this
  rw [List.getElem?_range h] at this
  simpa using this
theorem nth_at (pre : List D) (x : D) (r : List D) : nth (pre ++ x :: r) (Int.toNat ((pre.length : Nat) : Int)) = x := by
  have := nth_mid (f := id) pre x r
  simpa using this
theorem l45 (k : Nat) (xs : List D) : ∀ (r pre : List D) (out : List UInt8) (n : Nat), pre ++ r = xs → r.all digOk = true → xs.length ≤ mostQ → out.length + r.length ≤ mostQ → r.length < n →
    f45L3 k n (f45s3 xs out ((pre.length : Nat) : Int)) = some (.str (out ++ wordOf r))
  | r, pre, out, 0, _, _, _, _, h => by omega
  | [], pre, out, n + 1, hs, hd, hl, ho, h => by
    subst hs
    rw [f45l3, ltS_end]
    simp [wordOf]
  | x :: r, pre, out, n + 1, hs, hd, hl, ho, h => by
    subst hs
    have hlen : (pre ++ x :: r).length = pre.length + r.length + 1 := by simp; omega
    simp only [List.all_cons, Bool.and_eq_true] at hd
    unfold mostQ at hl ho
    simp only [List.length_cons] at ho
    obtain ⟨hx, hd⟩ := hd
    unfold digOk at hx
    split at hx
    · rename_i d
      simp only [Bool.and_eq_true, decide_eq_true_eq] at hx
      obtain ⟨j, rfl⟩ : ∃ j : Nat, d = j := ⟨d.toNat, by omega⟩
      rw [f45l3, ltS_mid, ge0, nth_at, show nth (D.cells (.int .i64 ((j : Nat) : Int))) 0 = .int .i64 ((j : Nat) : Int) from rfl, isI_, show D.i (.int .i64 ((j : Nat) : Int)) = ((j : Nat) : Int) from rfl]
      rw [wrap_add1 (n := j) (by omega), ge0]
      have c1 : decide (((j : Nat) : Int) ≤ ((j + 1 : Nat) : Int)) = true := decide_eq_true (by omega)
      have c2 : decide (((j + 1 : Nat) : Int) ≤ (16 : Int)) = true := decide_eq_true (by omega)
      have hh := hex_at (d := j) (by omega)
      unfold hexDig at hh
      rw [c1, c2, Int.toNat_natCast, Int.toNat_natCast, hh]
      have c3 : decide (out.length + ([List.getD [48, 49, 50, 51, 52, 53, 54, 55, 56, 57, 65, 66, 67, 68, 69, 70] j 0] : List UInt8).length ≤ 4611686018427387904) = true := decide_eq_true (by rw [List.length_singleton]; omega)
      rw [c3]
      simp only [Bool.and_self, chk_true, cond_true]
      have ih := l45 k (pre ++ .int .i64 ((j : Nat) : Int) :: r) r (pre ++ [.int .i64 ((j : Nat) : Int)]) (out ++ [hexDig.getD j 0]) n (by simp) hd (by unfold mostQ; omega) (by simp; unfold mostQ; omega) (by simpa using h)
      unfold hexDig at ih
      rw [wrap_add1 (by omega), show pre.length + 1 = (pre ++ [D.int .i64 ((j : Nat) : Int)]).length by simp, ih]
      simp [wordOf, D.i, hexDig]
    · cases hx
theorem snd45 : Sound Tryd.prog 45 sp45 := by
  refine sndX f45c (toldX _ _ _) Tryd.func45 (by kernel_rfl) (by kernel_rfl) (nocallX _) fun ds h => ?_
  unfold sp45 at h ⊢
  simp only at h ⊢
  split at h
  · rename_i xs
    simp only [Bool.and_eq_true] at h
    have hm := Nat.le_of_ble_eq_true h.2
    exact ⟨xs.length + 1, (e45 xs (xs.length + 1)).trans (l45 (xs.length + 1) xs xs [] [] (xs.length + 1) rfl h.1 hm (by simpa using hm) (by omega))⟩
  · cases h
theorem dg_ok (b : Int) (hb : 2 ≤ b) (hb' : b ≤ 16) : ∀ (f : Nat) (n : Int), 0 ≤ n → (dg b f n).all digOk = true
  | 0, n, _ => rfl
  | f + 1, n, h0 => by
    simp only [dg]
    cases hc : decide (n < b) with
    | true =>
      simp only [decide_eq_true_eq] at hc
      simp [digOk]; omega
    | false =>
      have ih := dg_ok b hb hb' f (n.tdiv b) (Int.tdiv_nonneg h0 (by omega))
      rw [cond_false, List.all_append, ih, Bool.true_and]
      have h1 := Int.emod_nonneg n (show b ≠ 0 by omega)
      have h2 := Int.emod_lt_of_pos n (show 0 < b by omega)
      have h3 : n.tmod b = n % b := Int.tmod_eq_emod_of_nonneg h0
      rw [h3]
      generalize n % b = q at h1 h2
      simp [digOk]; omega
theorem pre45 {b n : Int} (hb : 2 ≤ b) (hb' : b ≤ 16) (h0 : 0 ≤ n) : sp45.pre [.sl 1 (dg b 33 n)] = true := by
  have h1 := dg_ok b hb hb' 33 n h0
  have h2 : Nat.ble (dg b 33 n).length mostQ = true := Nat.ble_eq_true_of_le (Nat.le_trans (dg_length b 33 n) (by unfold mostQ; omega))
  simp [sp45, h1, h2]
theorem val45 (xs : List D) : sp45.val [.sl 1 xs] = .str (wordOf xs) := rfl
theorem val46 (n b : Int) : sp46.val [.int .i64 n, .int .i64 b] = .sl 1 (dg b 33 n) := rfl
theorem hexDig_dec {d : Nat} (h : d < 10) : hexDig.getD d 0 = UInt8.ofNat (48 + d) := by
  have : ∀ d : Fin 10, hexDig.getD d.val 0 = UInt8.ofNat (48 + d.val) := by decide
  exact this ⟨d, h⟩
theorem dec_word : ∀ (f : Nat) (n : Nat), n < 10 ^ (f + 1) → wordOf (dg 10 (f + 1) ((n : Nat) : Int)) = Lib.decDigits n
  | 0, n, h => by
    have h : n < 10 := by simpa using h
    have hc : decide (((n : Nat) : Int) < 10) = true := decide_eq_true (by omega)
    rw [Lib.decDigits, dif_pos h, dg, hc]
    simp only [cond_true, wordOf, List.map_cons, List.map_nil, D.i, Int.toNat_natCast, hexDig_dec h]
  | f + 1, n, h => by
    by_cases hn : n < 10
    · have hc : decide (((n : Nat) : Int) < 10) = true := decide_eq_true (by omega)
      rw [Lib.decDigits, dif_pos hn, dg, hc]
      simp only [cond_true, wordOf, List.map_cons, List.map_nil, D.i, Int.toNat_natCast, hexDig_dec hn]
    · have hc : decide (((n : Nat) : Int) < 10) = false := decide_eq_false (by omega)
      have hq : ((n : Nat) : Int).tdiv 10 = ((n / 10 : Nat) : Int) := by rw [Int.tdiv_eq_ediv_of_nonneg (by omega)]; omega
      have hm : ((n : Nat) : Int).tmod 10 = ((n % 10 : Nat) : Int) := by rw [Int.tmod_eq_emod_of_nonneg (by omega)]; omega
      have ih := dec_word f (n / 10) (by rw [Nat.pow_succ] at h; omega)
      rw [Lib.decDigits, dif_neg hn, dg, hc]
      simp only [cond_false]
      rw [hq, hm]
      unfold wordOf at ih ⊢
      rw [List.map_append, ih]
      simp only [List.map_cons, List.map_nil, D.i, Int.toNat_natCast, hexDig_dec (Nat.mod_lt n (show 0 < 10 by omega))]
theorem word_dec {n : Int} (h0 : 0 ≤ n) (h1 : n ≤ 999999999) : wordOf (dg 10 33 n) = Lib.itoa n := by
  obtain ⟨j, rfl⟩ : ∃ j : Nat, n = j := ⟨n.toNat, by omega⟩
  rw [dec_word 32 j (by have : j < 10 ^ 9 := by omega
                        exact Nat.lt_of_lt_of_le this (Nat.pow_le_pow_right (by omega) (by omega)))]
  simp [Lib.itoa]
/-- the reference's Decimal is the program's. -/
def sp31 : Spc := mkS [shInt] fun ds => .str (decimal (nth ds 0).i)
theorem pre46 {n : Int} {b : Int} (h0 : 0 ≤ n) (h1 : n ≤ 999999999) (hb : b = 10 ∨ b = 16) : sp46.pre [.int .i64 n, .int .i64 b] = true := by
  simp only [sp46, pd, Bool.and_eq_true, decide_eq_true_eq]
  have : n < b ^ 33 := by
    have h2 : n < 10 ^ 9 := by omega
    have h3 : (10 : Int) ^ 9 ≤ 10 ^ 33 := by decide
    have h4 : (10 : Int) ^ 33 ≤ 16 ^ 33 := by decide
    rcases hb with rfl | rfl <;> omega
  rcases hb with rfl | rfl <;> exact ⟨⟨⟨⟨⟨⟨by omega, by omega⟩, h0⟩, by omega⟩, this⟩, by omega⟩, by omega⟩
theorem snd31 : Sound Tryd.prog 31 sp31 := by
  refine sndX (f31c sp46 sp45) (toldX _ _ _) Tryd.func31 (by kernel_rfl) (by kernel_rfl) (callingH_nil (calling_cons snd46 (calling_cons snd45 (calling_nil _ _ _ _)))) fun ds h => ⟨1, ?_⟩
  obtain ⟨d, rfl, h1⟩ := one_of h
  obtain ⟨n, rfl, hn⟩ := ok_int h1
  refine (e31 sp46 sp45 n 1).trans ?_
  show _ = some (D.str (decimal n))
  unfold decimal
  cases hc : (bif decide (n < (0 : Int)) then true else decide ((999999999 : Int) < n)) with
  | true => rfl
  | false =>
    rw [cond_or] at hc
    simp only [Bool.or_eq_false_iff, decide_eq_false_iff_not] at hc
    rw [val46, pre46 (by omega) (by omega) (.inl rfl), show D.l (.sl 1 (dg 10 33 n)) = dg 10 33 n from rfl, pre45 (by omega) (by omega) (by omega), val45, word_dec (by omega) (by omega)]
    rfl
/-! ### quoted strings -/
def sp47 : Spc := mkS [.int .u8] fun ds => .bool (bif (bif (bif (decide ((32 : Int) ≤ (nth ds 0).i)) then (decide ((nth ds 0).i ≤ (126 : Int))) else false) then (!(decide ((nth ds 0).i = (34 : Int)))) else false) then (!(decide ((nth ds 0).i = (92 : Int)))) else false)
theorem snd47 : Sound Tryd.prog 47 sp47 := by
  refine sndX f47c (toldX _ _ _) Tryd.func47 (by kernel_rfl) (by kernel_rfl) (nocallX _) fun ds h => ⟨1, ?_⟩
  obtain ⟨d, rfl, h1⟩ := one_of h
  obtain ⟨n, rfl, hn⟩ := ok_int h1
  exact e47 n 1
def sp48 : Spc where
  pre ds := match ds with | [.int .i64 n, .int .i64 m] => decide (0 ≤ n) && decide (n < 256) && decide (m = 2) | _ => false
  val ds := .str (hex2 (nth ds 0).i.toNat)
theorem dg16 {n : Nat} (h : n < 256) : (n < 16 → dg 16 33 ((n : Nat) : Int) = [.int .i64 ((n : Nat) : Int)]) ∧ (16 ≤ n → dg 16 33 ((n : Nat) : Int) = [.int .i64 ((n / 16 : Nat) : Int), .int .i64 ((n % 16 : Nat) : Int)]) := by
  have hq : ((n : Nat) : Int).tdiv 16 = ((n / 16 : Nat) : Int) := by rw [Int.tdiv_eq_ediv_of_nonneg (by omega)]; omega
  have hm : ((n : Nat) : Int).tmod 16 = ((n % 16 : Nat) : Int) := by rw [Int.tmod_eq_emod_of_nonneg (by omega)]; omega
  refine ⟨fun h1 => ?_, fun h1 => ?_⟩
  · have hc : decide (((n : Nat) : Int) < 16) = true := decide_eq_true (by omega)
    rw [dg, hc]; rfl
  · have hc : decide (((n : Nat) : Int) < 16) = false := decide_eq_false (by omega)
    have hc2 : decide (((n / 16 : Nat) : Int) < 16) = true := decide_eq_true (by omega)
    rw [dg, hc, hq, hm, dg, hc2]; rfl
theorem snd48 : Sound Tryd.prog 48 sp48 := by
  refine sndX (f48c sp46 sp45) (toldX _ _ _) Tryd.func48 (by kernel_rfl) (by kernel_rfl) (callingH_nil (calling_cons snd46 (calling_cons snd45 (calling_nil _ _ _ _)))) fun ds h => ?_
  unfold sp48 at h ⊢
  simp only at h ⊢
  split at h
  · rename_i n m
    simp only [Bool.and_eq_true, decide_eq_true_eq] at h
    obtain ⟨⟨h0, h1⟩, rfl⟩ := h
    obtain ⟨j, rfl⟩ : ∃ j : Nat, n = j := ⟨n.toNat, by omega⟩
    have hj : j < 256 := by omega
    refine ⟨3, (e48 sp46 sp45 ((j : Nat) : Int) 2 3).trans ?_⟩
    rw [val46, pre46 (by omega) (by omega) (.inr rfl), show D.l (.sl 1 (dg 16 33 ((j : Nat) : Int))) = dg 16 33 ((j : Nat) : Int) from rfl]
    have hneg : decide (((j : Nat) : Int) < 0) = false := decide_eq_false (by omega)
    rw [hneg]
    show f48L4 sp46 sp45 3 3 (f48s4 2 (dg 16 33 ((j : Nat) : Int))) = some (.str (hex2 j))
    by_cases hs : j < 16
    · rw [(dg16 hj).1 hs]
      have hp : sp45.pre [.sl 1 [.int .i64 0, .int .i64 ((j : Nat) : Int)]] = true := by
        simp [sp45, digOk, mostQ]; omega
      rw [f48l4]
      show f48L4 sp46 sp45 3 2 (f48s4b 2 [.int .i64 0, .int .i64 ((j : Nat) : Int)]) = _
      rw [f48l4b, hp, val45]
      have : hex2 j = wordOf [.int .i64 0, .int .i64 ((j : Nat) : Int)] := by
        simp [hex2, wordOf, D.i, Nat.div_eq_of_lt hs, Nat.mod_eq_of_lt hs]
      rw [this]
      rfl
    · rw [(dg16 hj).2 (by omega)]
      have hp : sp45.pre [.sl 1 [.int .i64 ((j / 16 : Nat) : Int), .int .i64 ((j % 16 : Nat) : Int)]] = true := by
        simp [sp45, digOk, mostQ]; omega
      rw [f48l4, hp, val45]
      have : hex2 j = wordOf [.int .i64 ((j / 16 : Nat) : Int), .int .i64 ((j % 16 : Nat) : Int)] := by
        simp only [hex2, wordOf, List.map_cons, List.map_nil, D.i, Int.toNat_natCast]
      rw [this]
      rfl
  · cases h
end Go.Pl
