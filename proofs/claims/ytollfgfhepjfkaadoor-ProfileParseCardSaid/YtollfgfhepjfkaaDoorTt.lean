/- Law ProfileParse: the function answers true, at any arguments. -/
import Derived.Test.YtollfgfhepjfkaaDoorBd
import Derived.KernelRfl
import Derived.Test.YtollfgfhepjfkaaDoorTn
import Derived.Test.YtollfgfhepjfkaaDoorPf
namespace Go.Ev
open Go Go.Proofs
/-- modscan/modscanlaw31.ProfileParse -/
noncomputable def f3c (s5 : Spc) (s6 : Spc) (s7 : Spc) (s8 : Spc) (s9 : Spc) (s10 : Spc) (s11 : Spc) : Cfg := cfgH Tryd.prog [40] [74] xs3 [(5, s5), (6, s6), (7, s7), (8, s8), (9, s9), (10, s10), (11, s11)] [] ⟨74, [0, 1, 2, 3, 4, 10, 11, 12, 16, 29, 47], [], []⟩
theorem e3 (s5 : Spc) (s6 : Spc) (s7 : Spc) (s8 : Spc) (s9 : Spc) (s10 : Spc) (s11 : Spc) (x0 : List D) (x1 : List D) (x2 : Bool) (x3 : Int) (x4 : Int) (k : Nat) : evF (f3c s5 s6 s7 s8 s9 s10 s11) std k Tryd.f3 [(.sl 1 x0), (.sl 2 x1), (.bool x2), (.int .i64 x3), (.int .u8 x4)] = (chk ((D.isL 1 (Spc.val s5 [(D.sl 1 x0), (D.int IntKind.i64 (200 : Int))])) && (Spc.pre s5 [(D.sl 1 x0), (D.int IntKind.i64 (200 : Int))])) (bif (!x2) then (chk ((D.isB (Spc.val s6 [(D.sl 2 x1)])) && (Spc.pre s6 [(D.sl 2 x1)])) (chk (((D.isB (Spc.val s7 [(D.sl 2 x1)])) && (Spc.pre s7 [(D.sl 2 x1)])) || (!(oneG ((!(D.b (Spc.val s6 [(D.sl 2 x1)]))), false)))) (bif (bif (bif (!(D.b (Spc.val s6 [(D.sl 2 x1)]))) then true else (!(D.b (Spc.val s7 [(D.sl 2 x1)])))) then true else (decide ((((List.length x1) : Nat) : Int) = (0 : Int)))) then (chk ((D.isB (Spc.val s8 [])) && (Spc.pre s8 [])) (some (D.bool (D.b (Spc.val s8 []))))) else (chk ((D.isS (Spc.val s9 [(D.sl 2 x1)])) && (Spc.pre s9 [(D.sl 2 x1)])) (chk ((D.isI IntKind.i64 (Spc.val s10 [(D.int IntKind.i64 x3), (D.int IntKind.i64 (((List.length (List.map byteD (D.s (Spc.val s9 [(D.sl 2 x1)])))) : Nat) : Int))])) && (Spc.pre s10 [(D.int IntKind.i64 x3), (D.int IntKind.i64 (((List.length (List.map byteD (D.s (Spc.val s9 [(D.sl 2 x1)])))) : Nat) : Int))])) (chk ((decide ((0 : Int) ≤ (D.i (Spc.val s10 [(D.int IntKind.i64 x3), (D.int IntKind.i64 (((List.length (List.map byteD (D.s (Spc.val s9 [(D.sl 2 x1)])))) : Nat) : Int))])))) && (decide ((D.i (Spc.val s10 [(D.int IntKind.i64 x3), (D.int IntKind.i64 (((List.length (List.map byteD (D.s (Spc.val s9 [(D.sl 2 x1)])))) : Nat) : Int))])) < (((List.length (List.map byteD (D.s (Spc.val s9 [(D.sl 2 x1)])))) : Nat) : Int)))) (chk (((Nat.beq (List.length (D.cells (nth (List.map byteD (D.s (Spc.val s9 [(D.sl 2 x1)]))) (Int.toNat (D.i (Spc.val s10 [(D.int IntKind.i64 x3), (D.int IntKind.i64 (((List.length (List.map byteD (D.s (Spc.val s9 [(D.sl 2 x1)])))) : Nat) : Int))])))))) 1) && true) && (Nat.ble (Nat.succ (Int.toNat (D.i (Spc.val s10 [(D.int IntKind.i64 x3), (D.int IntKind.i64 (((List.length (List.map byteD (D.s (Spc.val s9 [(D.sl 2 x1)])))) : Nat) : Int))])))) (List.length (List.map byteD (D.s (Spc.val s9 [(D.sl 2 x1)])))))) (chk (((D.isT 2 (Spc.val s11 [(D.sl 1 (List.set (List.map byteD (D.s (Spc.val s9 [(D.sl 2 x1)]))) (Int.toNat (D.i (Spc.val s10 [(D.int IntKind.i64 x3), (D.int IntKind.i64 (((List.length (List.map byteD (D.s (Spc.val s9 [(D.sl 2 x1)])))) : Nat) : Int))]))) (setD (nth (List.map byteD (D.s (Spc.val s9 [(D.sl 2 x1)]))) (Int.toNat (D.i (Spc.val s10 [(D.int IntKind.i64 x3), (D.int IntKind.i64 (((List.length (List.map byteD (D.s (Spc.val s9 [(D.sl 2 x1)])))) : Nat) : Int))])))) 0 [(D.int IntKind.u8 x4)])))])) && ((D.isL 2 (nth (D.t (Spc.val s11 [(D.sl 1 (List.set (List.map byteD (D.s (Spc.val s9 [(D.sl 2 x1)]))) (Int.toNat (D.i (Spc.val s10 [(D.int IntKind.i64 x3), (D.int IntKind.i64 (((List.length (List.map byteD (D.s (Spc.val s9 [(D.sl 2 x1)])))) : Nat) : Int))]))) (setD (nth (List.map byteD (D.s (Spc.val s9 [(D.sl 2 x1)]))) (Int.toNat (D.i (Spc.val s10 [(D.int IntKind.i64 x3), (D.int IntKind.i64 (((List.length (List.map byteD (D.s (Spc.val s9 [(D.sl 2 x1)])))) : Nat) : Int))])))) 0 [(D.int IntKind.u8 x4)])))])) 0)) && ((D.isI IntKind.i64 (nth (D.t (Spc.val s11 [(D.sl 1 (List.set (List.map byteD (D.s (Spc.val s9 [(D.sl 2 x1)]))) (Int.toNat (D.i (Spc.val s10 [(D.int IntKind.i64 x3), (D.int IntKind.i64 (((List.length (List.map byteD (D.s (Spc.val s9 [(D.sl 2 x1)])))) : Nat) : Int))]))) (setD (nth (List.map byteD (D.s (Spc.val s9 [(D.sl 2 x1)]))) (Int.toNat (D.i (Spc.val s10 [(D.int IntKind.i64 x3), (D.int IntKind.i64 (((List.length (List.map byteD (D.s (Spc.val s9 [(D.sl 2 x1)])))) : Nat) : Int))])))) 0 [(D.int IntKind.u8 x4)])))])) 1)) && true))) && (Spc.pre s11 [(D.sl 1 (List.set (List.map byteD (D.s (Spc.val s9 [(D.sl 2 x1)]))) (Int.toNat (D.i (Spc.val s10 [(D.int IntKind.i64 x3), (D.int IntKind.i64 (((List.length (List.map byteD (D.s (Spc.val s9 [(D.sl 2 x1)])))) : Nat) : Int))]))) (setD (nth (List.map byteD (D.s (Spc.val s9 [(D.sl 2 x1)]))) (Int.toNat (D.i (Spc.val s10 [(D.int IntKind.i64 x3), (D.int IntKind.i64 (((List.length (List.map byteD (D.s (Spc.val s9 [(D.sl 2 x1)])))) : Nat) : Int))])))) 0 [(D.int IntKind.u8 x4)])))])) (bif (!(decide ((D.i (nth (D.t (Spc.val s11 [(D.sl 1 (List.set (List.map byteD (D.s (Spc.val s9 [(D.sl 2 x1)]))) (Int.toNat (D.i (Spc.val s10 [(D.int IntKind.i64 x3), (D.int IntKind.i64 (((List.length (List.map byteD (D.s (Spc.val s9 [(D.sl 2 x1)])))) : Nat) : Int))]))) (setD (nth (List.map byteD (D.s (Spc.val s9 [(D.sl 2 x1)]))) (Int.toNat (D.i (Spc.val s10 [(D.int IntKind.i64 x3), (D.int IntKind.i64 (((List.length (List.map byteD (D.s (Spc.val s9 [(D.sl 2 x1)])))) : Nat) : Int))])))) 0 [(D.int IntKind.u8 x4)])))])) 1)) = (0 : Int)))) then (chk ((D.isB (Spc.val s8 [])) && (Spc.pre s8 [])) (some (D.bool (bif (bif (D.b (Spc.val s8 [])) then (bif (decide ((D.i (nth (D.t (Spc.val s11 [(D.sl 1 (List.set (List.map byteD (D.s (Spc.val s9 [(D.sl 2 x1)]))) (Int.toNat (D.i (Spc.val s10 [(D.int IntKind.i64 x3), (D.int IntKind.i64 (((List.length (List.map byteD (D.s (Spc.val s9 [(D.sl 2 x1)])))) : Nat) : Int))]))) (setD (nth (List.map byteD (D.s (Spc.val s9 [(D.sl 2 x1)]))) (Int.toNat (D.i (Spc.val s10 [(D.int IntKind.i64 x3), (D.int IntKind.i64 (((List.length (List.map byteD (D.s (Spc.val s9 [(D.sl 2 x1)])))) : Nat) : Int))])))) 0 [(D.int IntKind.u8 x4)])))])) 1)) = (1 : Int))) then true else (decide ((D.i (nth (D.t (Spc.val s11 [(D.sl 1 (List.set (List.map byteD (D.s (Spc.val s9 [(D.sl 2 x1)]))) (Int.toNat (D.i (Spc.val s10 [(D.int IntKind.i64 x3), (D.int IntKind.i64 (((List.length (List.map byteD (D.s (Spc.val s9 [(D.sl 2 x1)])))) : Nat) : Int))]))) (setD (nth (List.map byteD (D.s (Spc.val s9 [(D.sl 2 x1)]))) (Int.toNat (D.i (Spc.val s10 [(D.int IntKind.i64 x3), (D.int IntKind.i64 (((List.length (List.map byteD (D.s (Spc.val s9 [(D.sl 2 x1)])))) : Nat) : Int))])))) 0 [(D.int IntKind.u8 x4)])))])) 1)) = (5 : Int)))) else false) then (decide ((((List.length (D.l (nth (D.t (Spc.val s11 [(D.sl 1 (List.set (List.map byteD (D.s (Spc.val s9 [(D.sl 2 x1)]))) (Int.toNat (D.i (Spc.val s10 [(D.int IntKind.i64 x3), (D.int IntKind.i64 (((List.length (List.map byteD (D.s (Spc.val s9 [(D.sl 2 x1)])))) : Nat) : Int))]))) (setD (nth (List.map byteD (D.s (Spc.val s9 [(D.sl 2 x1)]))) (Int.toNat (D.i (Spc.val s10 [(D.int IntKind.i64 x3), (D.int IntKind.i64 (((List.length (List.map byteD (D.s (Spc.val s9 [(D.sl 2 x1)])))) : Nat) : Int))])))) 0 [(D.int IntKind.u8 x4)])))])) 0))) : Nat) : Int) = (0 : Int))) else false)))) else (chk ((D.isB (Spc.val s8 [])) && (Spc.pre s8 [])) (chk (((D.isB (Spc.val s7 [(D.sl 2 (D.l (nth (D.t (Spc.val s11 [(D.sl 1 (List.set (List.map byteD (D.s (Spc.val s9 [(D.sl 2 x1)]))) (Int.toNat (D.i (Spc.val s10 [(D.int IntKind.i64 x3), (D.int IntKind.i64 (((List.length (List.map byteD (D.s (Spc.val s9 [(D.sl 2 x1)])))) : Nat) : Int))]))) (setD (nth (List.map byteD (D.s (Spc.val s9 [(D.sl 2 x1)]))) (Int.toNat (D.i (Spc.val s10 [(D.int IntKind.i64 x3), (D.int IntKind.i64 (((List.length (List.map byteD (D.s (Spc.val s9 [(D.sl 2 x1)])))) : Nat) : Int))])))) 0 [(D.int IntKind.u8 x4)])))])) 0)))])) && (Spc.pre s7 [(D.sl 2 (D.l (nth (D.t (Spc.val s11 [(D.sl 1 (List.set (List.map byteD (D.s (Spc.val s9 [(D.sl 2 x1)]))) (Int.toNat (D.i (Spc.val s10 [(D.int IntKind.i64 x3), (D.int IntKind.i64 (((List.length (List.map byteD (D.s (Spc.val s9 [(D.sl 2 x1)])))) : Nat) : Int))]))) (setD (nth (List.map byteD (D.s (Spc.val s9 [(D.sl 2 x1)]))) (Int.toNat (D.i (Spc.val s10 [(D.int IntKind.i64 x3), (D.int IntKind.i64 (((List.length (List.map byteD (D.s (Spc.val s9 [(D.sl 2 x1)])))) : Nat) : Int))])))) 0 [(D.int IntKind.u8 x4)])))])) 0)))])) || (!(oneG ((D.b (Spc.val s8 [])), true)))) (chk ((allU8 (List.set (List.map byteD (D.s (Spc.val s9 [(D.sl 2 x1)]))) (Int.toNat (D.i (Spc.val s10 [(D.int IntKind.i64 x3), (D.int IntKind.i64 (((List.length (List.map byteD (D.s (Spc.val s9 [(D.sl 2 x1)])))) : Nat) : Int))]))) (setD (nth (List.map byteD (D.s (Spc.val s9 [(D.sl 2 x1)]))) (Int.toNat (D.i (Spc.val s10 [(D.int IntKind.i64 x3), (D.int IntKind.i64 (((List.length (List.map byteD (D.s (Spc.val s9 [(D.sl 2 x1)])))) : Nat) : Int))])))) 0 [(D.int IntKind.u8 x4)]))) || (!(oneG ((bif (D.b (Spc.val s8 [])) then (D.b (Spc.val s7 [(D.sl 2 (D.l (nth (D.t (Spc.val s11 [(D.sl 1 (List.set (List.map byteD (D.s (Spc.val s9 [(D.sl 2 x1)]))) (Int.toNat (D.i (Spc.val s10 [(D.int IntKind.i64 x3), (D.int IntKind.i64 (((List.length (List.map byteD (D.s (Spc.val s9 [(D.sl 2 x1)])))) : Nat) : Int))]))) (setD (nth (List.map byteD (D.s (Spc.val s9 [(D.sl 2 x1)]))) (Int.toNat (D.i (Spc.val s10 [(D.int IntKind.i64 x3), (D.int IntKind.i64 (((List.length (List.map byteD (D.s (Spc.val s9 [(D.sl 2 x1)])))) : Nat) : Int))])))) 0 [(D.int IntKind.u8 x4)])))])) 0)))])) else false), true)))) (chk (((D.isS (Spc.val s9 [(D.sl 2 (D.l (nth (D.t (Spc.val s11 [(D.sl 1 (List.set (List.map byteD (D.s (Spc.val s9 [(D.sl 2 x1)]))) (Int.toNat (D.i (Spc.val s10 [(D.int IntKind.i64 x3), (D.int IntKind.i64 (((List.length (List.map byteD (D.s (Spc.val s9 [(D.sl 2 x1)])))) : Nat) : Int))]))) (setD (nth (List.map byteD (D.s (Spc.val s9 [(D.sl 2 x1)]))) (Int.toNat (D.i (Spc.val s10 [(D.int IntKind.i64 x3), (D.int IntKind.i64 (((List.length (List.map byteD (D.s (Spc.val s9 [(D.sl 2 x1)])))) : Nat) : Int))])))) 0 [(D.int IntKind.u8 x4)])))])) 0)))])) && (Spc.pre s9 [(D.sl 2 (D.l (nth (D.t (Spc.val s11 [(D.sl 1 (List.set (List.map byteD (D.s (Spc.val s9 [(D.sl 2 x1)]))) (Int.toNat (D.i (Spc.val s10 [(D.int IntKind.i64 x3), (D.int IntKind.i64 (((List.length (List.map byteD (D.s (Spc.val s9 [(D.sl 2 x1)])))) : Nat) : Int))]))) (setD (nth (List.map byteD (D.s (Spc.val s9 [(D.sl 2 x1)]))) (Int.toNat (D.i (Spc.val s10 [(D.int IntKind.i64 x3), (D.int IntKind.i64 (((List.length (List.map byteD (D.s (Spc.val s9 [(D.sl 2 x1)])))) : Nat) : Int))])))) 0 [(D.int IntKind.u8 x4)])))])) 0)))])) || (!(oneG ((bif (D.b (Spc.val s8 [])) then (D.b (Spc.val s7 [(D.sl 2 (D.l (nth (D.t (Spc.val s11 [(D.sl 1 (List.set (List.map byteD (D.s (Spc.val s9 [(D.sl 2 x1)]))) (Int.toNat (D.i (Spc.val s10 [(D.int IntKind.i64 x3), (D.int IntKind.i64 (((List.length (List.map byteD (D.s (Spc.val s9 [(D.sl 2 x1)])))) : Nat) : Int))]))) (setD (nth (List.map byteD (D.s (Spc.val s9 [(D.sl 2 x1)]))) (Int.toNat (D.i (Spc.val s10 [(D.int IntKind.i64 x3), (D.int IntKind.i64 (((List.length (List.map byteD (D.s (Spc.val s9 [(D.sl 2 x1)])))) : Nat) : Int))])))) 0 [(D.int IntKind.u8 x4)])))])) 0)))])) else false), true)))) (some (D.bool (bif (bif (D.b (Spc.val s8 [])) then (D.b (Spc.val s7 [(D.sl 2 (D.l (nth (D.t (Spc.val s11 [(D.sl 1 (List.set (List.map byteD (D.s (Spc.val s9 [(D.sl 2 x1)]))) (Int.toNat (D.i (Spc.val s10 [(D.int IntKind.i64 x3), (D.int IntKind.i64 (((List.length (List.map byteD (D.s (Spc.val s9 [(D.sl 2 x1)])))) : Nat) : Int))]))) (setD (nth (List.map byteD (D.s (Spc.val s9 [(D.sl 2 x1)]))) (Int.toNat (D.i (Spc.val s10 [(D.int IntKind.i64 x3), (D.int IntKind.i64 (((List.length (List.map byteD (D.s (Spc.val s9 [(D.sl 2 x1)])))) : Nat) : Int))])))) 0 [(D.int IntKind.u8 x4)])))])) 0)))])) else false) then (decide ((bytesOf (List.set (List.map byteD (D.s (Spc.val s9 [(D.sl 2 x1)]))) (Int.toNat (D.i (Spc.val s10 [(D.int IntKind.i64 x3), (D.int IntKind.i64 (((List.length (List.map byteD (D.s (Spc.val s9 [(D.sl 2 x1)])))) : Nat) : Int))]))) (setD (nth (List.map byteD (D.s (Spc.val s9 [(D.sl 2 x1)]))) (Int.toNat (D.i (Spc.val s10 [(D.int IntKind.i64 x3), (D.int IntKind.i64 (((List.length (List.map byteD (D.s (Spc.val s9 [(D.sl 2 x1)])))) : Nat) : Int))])))) 0 [(D.int IntKind.u8 x4)]))) = (D.s (Spc.val s9 [(D.sl 2 (D.l (nth (D.t (Spc.val s11 [(D.sl 1 (List.set (List.map byteD (D.s (Spc.val s9 [(D.sl 2 x1)]))) (Int.toNat (D.i (Spc.val s10 [(D.int IntKind.i64 x3), (D.int IntKind.i64 (((List.length (List.map byteD (D.s (Spc.val s9 [(D.sl 2 x1)])))) : Nat) : Int))]))) (setD (nth (List.map byteD (D.s (Spc.val s9 [(D.sl 2 x1)]))) (Int.toNat (D.i (Spc.val s10 [(D.int IntKind.i64 x3), (D.int IntKind.i64 (((List.length (List.map byteD (D.s (Spc.val s9 [(D.sl 2 x1)])))) : Nat) : Int))])))) 0 [(D.int IntKind.u8 x4)])))])) 0)))])))) else false)))))))))))))))) else (chk (((D.isT 2 (Spc.val s11 [(D.sl 1 (D.l (Spc.val s5 [(D.sl 1 x0), (D.int IntKind.i64 (200 : Int))])))])) && ((D.isL 2 (nth (D.t (Spc.val s11 [(D.sl 1 (D.l (Spc.val s5 [(D.sl 1 x0), (D.int IntKind.i64 (200 : Int))])))])) 0)) && ((D.isI IntKind.i64 (nth (D.t (Spc.val s11 [(D.sl 1 (D.l (Spc.val s5 [(D.sl 1 x0), (D.int IntKind.i64 (200 : Int))])))])) 1)) && true))) && (Spc.pre s11 [(D.sl 1 (D.l (Spc.val s5 [(D.sl 1 x0), (D.int IntKind.i64 (200 : Int))])))])) (bif (!(decide ((D.i (nth (D.t (Spc.val s11 [(D.sl 1 (D.l (Spc.val s5 [(D.sl 1 x0), (D.int IntKind.i64 (200 : Int))])))])) 1)) = (0 : Int)))) then (chk ((D.isB (Spc.val s8 [])) && (Spc.pre s8 [])) (some (D.bool (bif (bif (D.b (Spc.val s8 [])) then (bif (decide ((D.i (nth (D.t (Spc.val s11 [(D.sl 1 (D.l (Spc.val s5 [(D.sl 1 x0), (D.int IntKind.i64 (200 : Int))])))])) 1)) = (1 : Int))) then true else (decide ((D.i (nth (D.t (Spc.val s11 [(D.sl 1 (D.l (Spc.val s5 [(D.sl 1 x0), (D.int IntKind.i64 (200 : Int))])))])) 1)) = (5 : Int)))) else false) then (decide ((((List.length (D.l (nth (D.t (Spc.val s11 [(D.sl 1 (D.l (Spc.val s5 [(D.sl 1 x0), (D.int IntKind.i64 (200 : Int))])))])) 0))) : Nat) : Int) = (0 : Int))) else false)))) else (chk ((D.isB (Spc.val s8 [])) && (Spc.pre s8 [])) (chk (((D.isB (Spc.val s7 [(D.sl 2 (D.l (nth (D.t (Spc.val s11 [(D.sl 1 (D.l (Spc.val s5 [(D.sl 1 x0), (D.int IntKind.i64 (200 : Int))])))])) 0)))])) && (Spc.pre s7 [(D.sl 2 (D.l (nth (D.t (Spc.val s11 [(D.sl 1 (D.l (Spc.val s5 [(D.sl 1 x0), (D.int IntKind.i64 (200 : Int))])))])) 0)))])) || (!(oneG ((D.b (Spc.val s8 [])), true)))) (chk ((allU8 (D.l (Spc.val s5 [(D.sl 1 x0), (D.int IntKind.i64 (200 : Int))]))) || (!(oneG ((bif (D.b (Spc.val s8 [])) then (D.b (Spc.val s7 [(D.sl 2 (D.l (nth (D.t (Spc.val s11 [(D.sl 1 (D.l (Spc.val s5 [(D.sl 1 x0), (D.int IntKind.i64 (200 : Int))])))])) 0)))])) else false), true)))) (chk (((D.isS (Spc.val s9 [(D.sl 2 (D.l (nth (D.t (Spc.val s11 [(D.sl 1 (D.l (Spc.val s5 [(D.sl 1 x0), (D.int IntKind.i64 (200 : Int))])))])) 0)))])) && (Spc.pre s9 [(D.sl 2 (D.l (nth (D.t (Spc.val s11 [(D.sl 1 (D.l (Spc.val s5 [(D.sl 1 x0), (D.int IntKind.i64 (200 : Int))])))])) 0)))])) || (!(oneG ((bif (D.b (Spc.val s8 [])) then (D.b (Spc.val s7 [(D.sl 2 (D.l (nth (D.t (Spc.val s11 [(D.sl 1 (D.l (Spc.val s5 [(D.sl 1 x0), (D.int IntKind.i64 (200 : Int))])))])) 0)))])) else false), true)))) (some (D.bool (bif (bif (D.b (Spc.val s8 [])) then (D.b (Spc.val s7 [(D.sl 2 (D.l (nth (D.t (Spc.val s11 [(D.sl 1 (D.l (Spc.val s5 [(D.sl 1 x0), (D.int IntKind.i64 (200 : Int))])))])) 0)))])) else false) then (decide ((bytesOf (D.l (Spc.val s5 [(D.sl 1 x0), (D.int IntKind.i64 (200 : Int))]))) = (D.s (Spc.val s9 [(D.sl 2 (D.l (nth (D.t (Spc.val s11 [(D.sl 1 (D.l (Spc.val s5 [(D.sl 1 x0), (D.int IntKind.i64 (200 : Int))])))])) 0)))])))) else false))))))))))) := by kernel_rfl
end Go.Ev
namespace Go.Pl
open Go Go.Ev Go.Proofs

def sp5 : Spc where
  pre ds := match ds with | [.sl 1 _, .int .i64 n] => decide (n = 200) | _ => false
  val ds := match ds with | [.sl 1 xs, .int .i64 _] => .sl 1 (xs.take 200) | _ => .undef
theorem snd5 : Sound Tryd.prog 5 sp5 := by
  refine sndX f5c (toldX _ _ _) Tryd.func5 (by kernel_rfl) (by kernel_rfl) (nocallX _) fun ds h => ⟨1, ?_⟩
  unfold sp5 at h ⊢
  simp only at h ⊢
  split at h
  · rename_i xs n
    simp only [decide_eq_true_eq] at h
    subst h
    refine (e5 xs 200 1).trans ?_
    cases hc : decide ((200 : Int) < ((xs.length : Nat) : Int)) with
    | true =>
      simp only [decide_eq_true_eq] at hc
      have c1 : decide ((0 : Int) ≤ (200 : Int)) = true := rfl
      have c2 : decide ((200 : Int) ≤ ((xs.length : Nat) : Int)) = true := decide_eq_true (by omega)
      simp only [cond_true]
      rw [c1, c2]
      rfl
    | false =>
      simp only [decide_eq_false_iff_not] at hc
      have c1 : decide ((0 : Int) ≤ ((xs.length : Nat) : Int)) = true := ge0 _
      have c2 : decide (((xs.length : Nat) : Int) ≤ ((xs.length : Nat) : Int)) = true := decide_eq_true (by omega)
      simp only [cond_false]
      rw [c1, c2, q5]
      have : xs.take 200 = xs := List.take_of_length_le (by omega)
      rw [this]
      rfl
  · cases h
def sp10 : Spc where
  pre ds := match ds with | [.int .i64 x, .int .i64 n] => inR .i64 x && decide (0 < n) && decide (n ≤ 4294967296) | _ => false
  val ds := match ds with | [.int .i64 x, .int .i64 n] => .int .i64 (Int.tmod (IntKind.wrap IntKind.i64 (Int.tmod x n + n)) n) | _ => .undef
theorem snd10 : Sound Tryd.prog 10 sp10 := by
  refine sndX f10c (toldX _ _ _) Tryd.func10 (by kernel_rfl) (by kernel_rfl) (nocallX _) fun ds h => ⟨1, ?_⟩
  unfold sp10 at h ⊢
  simp only at h ⊢
  split at h
  · rename_i x n
    simp only [Bool.and_eq_true, decide_eq_true_eq] at h
    refine (e10 x n 1).trans ?_
    have c1 : decide (n = (0 : Int)) = false := decide_eq_false (by omega)
    rw [c1]
    rfl
  · cases h
theorem mod_range {x n : Int} (h : 0 < n) (hn : n ≤ 4294967296) : 0 ≤ Int.tmod (IntKind.wrap IntKind.i64 (Int.tmod x n + n)) n ∧ Int.tmod (IntKind.wrap IntKind.i64 (Int.tmod x n + n)) n < n := by
  have h1 : -n < Int.tmod x n := by
    rcases Int.le_total 0 x with hx | hx
    · have := Int.tmod_nonneg n hx
      omega
    · obtain ⟨y, rfl⟩ : ∃ y : Int, x = -y := ⟨-x, by omega⟩
      have := Int.tmod_lt_of_pos y h
      rw [Int.neg_tmod]; omega
  have h2 : Int.tmod x n < n := Int.tmod_lt_of_pos x h
  rw [wrap_in (by omega) (by omega), Int.tmod_eq_emod_of_nonneg (by omega)]
  exact ⟨Int.emod_nonneg _ (by omega), Int.emod_lt_of_pos _ h⟩
theorem bytes_set (l : List UInt8) (j : Nat) (c : UInt8) (hj : j < l.length) : List.set (l.map byteD) j (setD (nth (l.map byteD) j) 0 [D.int IntKind.u8 ((c.toNat : Nat) : Int)]) = (l.set j c).map byteD := by
  have h1 : setD (nth (l.map byteD) j) 0 [D.int IntKind.u8 ((c.toNat : Nat) : Int)] = byteD c := by
    have : nth (l.map byteD) j = byteD (l.getD j 0) := by
      rw [nth_eq, List.getElem?_map, List.getElem?_eq_getElem hj, List.getD_eq_getElem?_getD, List.getElem?_eq_getElem hj]
      rfl
    rw [this]
    rfl
  rw [h1, ← List.map_set]
def sp3 : Spc := mkS [shBytes, shDb, .bool, shInt, .int .u8] fun _ => .bool true
theorem pp_isT (p : List Prof × Int) : (D.isT 2 (ppD p) && (D.isL 2 (nth (D.t (ppD p)) 0) && (D.isI IntKind.i64 (nth (D.t (ppD p)) 1) && true))) = true := rfl
theorem pp_i (p : List Prof × Int) : D.i (nth (D.t (ppD p)) 1) = p.2 := rfl
theorem pp_l (p : List Prof × Int) : D.l (nth (D.t (ppD p)) 0) = p.1.map Prof.d := rfl
theorem val11 (l : List UInt8) : sp11.val [.sl 1 (l.map byteD)] = ppD (parseP l) := by simp only [sp11, nth, D.l, bytesOf_map]
theorem pre11 {l : List UInt8} (h : l.length ≤ mostQ) : sp11.pre [.sl 1 (l.map byteD)] = true := pre37 h
theorem val9 (db : List Prof) : sp9.val [.sl 2 (db.map Prof.d)] = .str (textT db) := by
  show D.str (textT (toDb (.sl 2 (db.map Prof.d)))) = _
  rw [toDb_d]
theorem val7 (db : List Prof) : sp7.val [.sl 2 (db.map Prof.d)] = .bool (dbValid db) := by
  show D.bool (dbValid (toDb (.sl 2 (db.map Prof.d)))) = _
  rw [toDb_d]
theorem val6 (db : List Prof) : sp6.val [.sl 2 (db.map Prof.d)] = .bool (dbSmall db) := by
  show D.bool (dbSmall (toDb (.sl 2 (db.map Prof.d)))) = _
  rw [toDb_d]
/-- what the law asks of the bytes that are parsed. -/
def lawT (_l : List UInt8) (bs : List D) : Option D :=
  (chk (((D.isT 2 (sp11.val [.sl 1 bs])) && ((D.isL 2 (nth (D.t (sp11.val [.sl 1 bs])) 0)) && ((D.isI IntKind.i64 (nth (D.t (sp11.val [.sl 1 bs])) 1)) && true))) && (sp11.pre [.sl 1 bs])) (bif (!(decide ((D.i (nth (D.t (sp11.val [.sl 1 bs])) 1)) = (0 : Int)))) then (chk ((D.isB (sp8.val [])) && (sp8.pre [])) (some (D.bool (bif (bif (D.b (sp8.val [])) then (bif (decide ((D.i (nth (D.t (sp11.val [.sl 1 bs])) 1)) = (1 : Int))) then true else (decide ((D.i (nth (D.t (sp11.val [.sl 1 bs])) 1)) = (5 : Int)))) else false) then (decide ((((List.length (D.l (nth (D.t (sp11.val [.sl 1 bs])) 0))) : Nat) : Int) = (0 : Int))) else false)))) else (chk ((D.isB (sp8.val [])) && (sp8.pre [])) (chk (((D.isB (sp7.val [(D.sl 2 (D.l (nth (D.t (sp11.val [.sl 1 bs])) 0)))])) && (sp7.pre [(D.sl 2 (D.l (nth (D.t (sp11.val [.sl 1 bs])) 0)))])) || (!(oneG ((D.b (sp8.val [])), true)))) (chk ((allU8 bs) || (!(oneG ((bif (D.b (sp8.val [])) then (D.b (sp7.val [(D.sl 2 (D.l (nth (D.t (sp11.val [.sl 1 bs])) 0)))])) else false), true)))) (chk (((D.isS (sp9.val [(D.sl 2 (D.l (nth (D.t (sp11.val [.sl 1 bs])) 0)))])) && (sp9.pre [(D.sl 2 (D.l (nth (D.t (sp11.val [.sl 1 bs])) 0)))])) || (!(oneG ((bif (D.b (sp8.val [])) then (D.b (sp7.val [(D.sl 2 (D.l (nth (D.t (sp11.val [.sl 1 bs])) 0)))])) else false), true)))) (some (D.bool (bif (bif (D.b (sp8.val [])) then (D.b (sp7.val [(D.sl 2 (D.l (nth (D.t (sp11.val [.sl 1 bs])) 0)))])) else false) then (decide ((bytesOf bs) = (D.s (sp9.val [(D.sl 2 (D.l (nth (D.t (sp11.val [.sl 1 bs])) 0)))])))) else false)))))))))
theorem law_true {l : List UInt8} (hl : l.length ≤ mostQ) : lawT l (l.map byteD) = some (.bool true) := by
  unfold lawT
  obtain ⟨hne, heq⟩ := parse_law hl
  rw [val11, pre11 hl, pp_isT, pp_i, pp_l, val7, val9]
  have v8 : sp8.val [] = .bool true := rfl
  have q8 : sp8.pre [] = true := rfl
  rw [v8, q8]
  by_cases h0 : (parseP l).2 = 0
  · obtain ⟨hv, ht, hok⟩ := heq h0
    have hdl : (parseP l).1.length ≤ 16 := by
      have := hv
      simp only [dbValid, Bool.and_eq_true, decide_eq_true_eq] at this
      exact this.2
    have p7 : okZip [shDb] [.sl 2 ((parseP l).1.map Prof.d)] = true := db_ok hok (by omega)
    have p7' : sp7.pre [.sl 2 ((parseP l).1.map Prof.d)] = true := p7
    have p9' : sp9.pre [.sl 2 ((parseP l).1.map Prof.d)] = true := by
      show (okZip [shDb] [.sl 2 ((parseP l).1.map Prof.d)] && dbValid (toDb (nth [.sl 2 ((parseP l).1.map Prof.d)] 0))) = true
      rw [p7, show nth [D.sl 2 ((parseP l).1.map Prof.d)] 0 = .sl 2 ((parseP l).1.map Prof.d) from rfl, toDb_d, hv]; rfl
    rw [decide_eq_true h0, p7', p9', hv, ht, bytesOf_map, allU8_map, show D.s (.str l) = l from rfl, decide_eq_true (rfl : l = l)]
    rfl
  · obtain ⟨h15, hnil⟩ := hne h0
    rw [decide_eq_false h0, hnil]
    rcases h15 with h | h <;> rw [h] <;> rfl
theorem profT_len {p : Prof} (h : profTxt p) : (profT p).length ≤ 10000 ∧ 1 ≤ (profT p).length := by
  obtain ⟨h1, h2, h3⟩ := h
  have htot : tot [wProfile, p.name] = p.name.length + 9 := by simp [tot, wProfile]; omega
  have hlt := lineT_len [wProfile, p.name]
  have hc := conds_len h3
  rw [htot] at hlt
  simp only [profT, List.length_append, List.length_cons, List.length_nil]
  omega
theorem textT_len {db : List Prof} (h : ∀ p ∈ db, profTxt p) : (textT db).length ≤ 10000 * db.length ∧ (db ≠ [] → 1 ≤ (textT db).length) := by
  induction db with
  | nil => exact ⟨by simp [textT], fun h => absurd rfl h⟩
  | cons p r ih =>
    obtain ⟨h1, h2⟩ := profT_len (h p (by simp))
    obtain ⟨h3, _⟩ := ih fun q hq => h q (by simp [hq])
    have e : textT (p :: r) = profT p ++ textT r := rfl
    rw [e, List.length_append, List.length_cons]
    exact ⟨by omega, fun _ => by omega⟩
theorem five_of {a b c d e : Sh} {ds : List D} (h : okZip [a, b, c, d, e] ds = true) : ∃ v w x y z, ds = [v, w, x, y, z] ∧ okS a v = true ∧ okS b w = true ∧ okS c x = true ∧ okS d y = true ∧ okS e z = true := by
  obtain ⟨v, r, rfl, h1, h⟩ := zip_cons h
  obtain ⟨w, r, rfl, h2, h⟩ := zip_cons h
  obtain ⟨x, r, rfl, h3, h⟩ := zip_cons h
  obtain ⟨y, r, rfl, h4, h⟩ := zip_cons h
  obtain ⟨z, r, rfl, h5, h⟩ := zip_cons h
  have := zip_nil h; subst this
  exact ⟨v, w, x, y, z, rfl, h1, h2, h3, h4, h5⟩
theorem snd3 : Sound Tryd.prog 3 sp3 := by
  refine sndX (f3c sp5 sp6 sp7 sp8 sp9 sp10 sp11) (toldX3 _ _ _) Tryd.func3 (by kernel_rfl) (by kernel_rfl) (callingH_nil (calling_cons snd5 (calling_cons snd6 (calling_cons snd7 (calling_cons snd8 (calling_cons snd9 (calling_cons snd10 (calling_cons snd11 (calling_nil _ _ _ _))))))))) fun ds h => ⟨1, ?_⟩
  obtain ⟨v, w, x, y, z, rfl, h1, h2, h3, h4, h5⟩ := five_of h
  obtain ⟨bs, rfl, hbl, hbo⟩ := ok_sl h1
  obtain ⟨db, rfl, hdb, hdl⟩ := db_of h2
  obtain ⟨raw, rfl⟩ := ok_bool h3
  obtain ⟨at_, rfl, hat⟩ := ok_int h4
  obtain ⟨by_, rfl, hby⟩ := ok_int h5
  have hb := bytes_map hbo
  generalize bytesOf bs = b at hb
  subst hb
  refine (e3 sp5 sp6 sp7 sp8 sp9 sp10 sp11 (b.map byteD) (db.map Prof.d) raw at_ by_ 1).trans ?_
  show _ = some (D.bool true)
  have v5 : sp5.val [.sl 1 (b.map byteD), .int .i64 200] = .sl 1 ((b.take 200).map byteD) := by
    show D.sl 1 ((b.map byteD).take 200) = _
    rw [← List.map_take]
  have q5 : sp5.pre [.sl 1 (b.map byteD), .int .i64 200] = true := rfl
  rw [v5, q5]
  have hq : (b.take 200).length ≤ mostQ := by rw [List.length_take]; unfold mostQ; omega
  cases raw with
  | true => exact law_true hq
  | false =>
    have p6 : sp6.pre [.sl 2 (db.map Prof.d)] = true := db_ok hdb hdl
    have p7 : sp7.pre [.sl 2 (db.map Prof.d)] = true := db_ok hdb hdl
    have v8 : sp8.val [] = .bool true := rfl
    have q8 : sp8.pre [] = true := rfl
    rw [val6, val7, p6, p7]
    cases hs : dbSmall db with
    | false => rfl
    | true =>
    cases hv : dbValid db with
    | false => rfl
    | true =>
    cases hn : decide ((((db.map Prof.d).length : Nat) : Int) = (0 : Int)) with
    | true => rfl
    | false =>
    have hdb1 : db ≠ [] := fun e => by rw [e] at hn; simp at hn
    have hvv := hv
    simp only [dbValid, Bool.and_eq_true, decide_eq_true_eq] at hvv
    obtain ⟨t1, t2⟩ := textT_len (dbGo_txt db [] hvv.1)
    have t2 := t2 hdb1
    have p9 : sp9.pre [.sl 2 (db.map Prof.d)] = true := by
      show (okZip [shDb] [.sl 2 (db.map Prof.d)] && dbValid (toDb (nth [.sl 2 (db.map Prof.d)] 0))) = true
      rw [show nth [D.sl 2 (db.map Prof.d)] 0 = .sl 2 (db.map Prof.d) from rfl, toDb_d, hv]
      have : okZip [shDb] [.sl 2 (db.map Prof.d)] = true := db_ok hdb hdl
      rw [this]; rfl
    rw [val9, p9, show D.s (.str (textT db)) = textT db from rfl, List.length_map]
    generalize hT : textT db = T at *
    have hT1 : (0 : Int) < ((T.length : Nat) : Int) := by omega
    have hT2 : ((T.length : Nat) : Int) ≤ 4294967296 := by omega
    have p10 : sp10.pre [.int .i64 at_, .int .i64 ((T.length : Nat) : Int)] = true := by
      simp only [sp10, hat, decide_eq_true hT1, decide_eq_true hT2]; rfl
    obtain ⟨m1, m2⟩ := mod_range (x := at_) hT1 hT2
    have v10 : sp10.val [.int .i64 at_, .int .i64 ((T.length : Nat) : Int)] = .int .i64 (Int.tmod (IntKind.wrap IntKind.i64 (Int.tmod at_ ((T.length : Nat) : Int) + ((T.length : Nat) : Int))) ((T.length : Nat) : Int)) := rfl
    rw [p10, v10]
    generalize Int.tmod (IntKind.wrap IntKind.i64 (Int.tmod at_ ((T.length : Nat) : Int) + ((T.length : Nat) : Int))) ((T.length : Nat) : Int) = m at m1 m2
    obtain ⟨j, rfl⟩ : ∃ j : Nat, m = j := ⟨m.toNat, by omega⟩
    have hj : j < T.length := by omega
    obtain ⟨c, rfl⟩ : ∃ c : UInt8, by_ = ((c.toNat : Nat) : Int) := by
      simp only [inR, Bool.and_eq_true, decide_eq_true_eq] at hby
      refine ⟨UInt8.ofNat by_.toNat, ?_⟩
      rw [UInt8.toNat_ofNat']
      omega
    rw [show D.i (.int .i64 ((j : Nat) : Int)) = ((j : Nat) : Int) from rfl, isI_, Int.toNat_natCast, bytes_set T j c hj]
    have c1 : decide ((0 : Int) ≤ ((j : Nat) : Int)) = true := ge0 _
    have c2 : decide (((j : Nat) : Int) < ((T.length : Nat) : Int)) = true := decide_eq_true m2
    have c3 : Nat.beq (List.length (D.cells (nth (T.map byteD) j))) 1 = true := by
      have : nth (T.map byteD) j = byteD (T.getD j 0) := by
        rw [nth_eq, List.getElem?_map, List.getElem?_eq_getElem hj, List.getD_eq_getElem?_getD, List.getElem?_eq_getElem hj]
        rfl
      rw [this]; rfl
    have c4 : Nat.ble (Nat.succ j) T.length = true := Nat.ble_eq_true_of_le hj
    rw [c1, c2, c3, c4]
    exact law_true (l := T.set j c) (by rw [List.length_set]; unfold mostQ; omega)
end Go.Pl
