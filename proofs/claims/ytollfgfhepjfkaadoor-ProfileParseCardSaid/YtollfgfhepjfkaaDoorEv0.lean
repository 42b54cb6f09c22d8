/- The pure evaluator of this session ('Ev'): definitions. A function's elaborated code is run over pure data ('D'); memory that a call makes is kept in a small table of sites. Nothing here speaks of a world. -/
import Derived.Test.YtollfgfhepjfkaaDoorProg
import Derived.Laws.Sem
namespace Go.Ev
open Go

/-- pure data: what a value reads as. -/
inductive D where
  | undef
  | bool (b : Bool)
  | int (k : IntKind) (n : Int)
  | str (l : List UInt8)
  | nil
  | sl (sz : Nat) (xs : List D)
  | agg (cs : List D)
  | tup (xs : List D)
  deriving Inhabited

def beqK : IntKind → IntKind → Bool
  | .i8, .i8 | .i16, .i16 | .i32, .i32 | .i64, .i64 | .u8, .u8 | .u16, .u16 | .u32, .u32 | .u64, .u64 => true
  | _, _ => false

def D.cells : D → List D | .agg cs => cs | d => [d]
def D.i : D → Int | .int _ n => n | _ => 0
def D.b : D → Bool | .bool b => b | _ => false
def D.s : D → List UInt8 | .str l => l | _ => []
def D.l : D → List D | .sl _ xs => xs | _ => []
def D.t : D → List D | .tup xs => xs | _ => []
def D.isI (k : IntKind) : D → Bool | .int k' _ => beqK k k' | _ => false
def D.isB : D → Bool | .bool _ => true | _ => false
def D.isS : D → Bool | .str _ => true | _ => false
def D.isL (sz : Nat) : D → Bool | .sl sz' _ => Nat.beq sz sz' | _ => false
def D.isU : D → Bool | .undef | .tup _ => true | _ => false
def D.isN : D → Bool | .nil => true | _ => false
def D.isA (n : Nat) : D → Bool | .agg cs => Nat.beq n cs.length | _ => false
def D.isT (n : Nat) : D → Bool | .tup cs => Nat.beq n cs.length | _ => false

/-- member number j of a list of data. -/
def nth : List D → Nat → D
  | [], _ => .undef
  | x :: _, 0 => x
  | _ :: r, j + 1 => nth r j
def upto : Nat → Nat → List Nat
  | 0, _ => []
  | n + 1, i => i :: upto n (i + 1)
/-- n members from off on. -/
def cut (cs : List D) (off n : Nat) : List D := (upto n off).map (nth cs)
/-- cs with ds in the place of its members from pos on. -/
def splice (cs : List D) (pos : Nat) (ds : List D) : List D :=
  (upto cs.length 0).map fun p => bif Nat.ble pos p && Nat.blt p (pos + ds.length) then nth ds (p - pos) else nth cs p

def byteD (c : UInt8) : D := .int .u8 c.toNat
def allU8 : List D → Bool
  | [] => true
  | .int .u8 _ :: r => allU8 r
  | _ => false
def allB : List D → Bool
  | [] => true
  | .int .u8 n :: r => decide (0 ≤ n) && decide (n < 256) && allB r
  | _ => false
def bytesOf (xs : List D) : List UInt8 := xs.map fun d => UInt8.ofNat d.i.toNat

/-- what is known of a type. -/
inductive Ty where
  | oth
  | bool | int (k : IntKind) | str
  | sl (e sz : Nat)
  | st (n : Nat) (fs : List (Nat × Nat))
  | arr (n len e sz : Nat)
  | ptr (e : Nat)
  | uptr
  | tup (ts : List Nat)
  deriving Inhabited

/-- what a temporary holds. -/
inductive T where
  | undef
  | d (x : D)
  | nils (sz : Nat)
  | ptr (k off : Nat)
  | ptrA (k off len sz : Nat) (i : Nat) (o : Nat)
  | ptrS (x : D) (off : Nat)
  | vec (k : Nat)
  | vptr (k sz : Nat) (i : Nat) (o : Nat)
  | fn (f : Nat)
  | sd (k : Nat)
  | g (tmp : Nat) (want : Bool) (t : T)
  deriving Inhabited

/-- what was made at a site. -/
inductive Ob where
  | box (bt : Nat) (cs : List T)
  | vec (e sz : Nat) (xs : List D)
  | set (ls : List (List UInt8))
  | junk
  /-- a compound value, cell by cell -/
  | con (cs : List T)
  /-- rows, the last of which is known cell by cell -/
  | vecO (e sz : Nat) (xs : List D) (cs : List T)
  deriving Inhabited

structure A where
  tm : List (Nat × T)
  ob : List (Nat × Ob)

def look {α : Type} : List (Nat × α) → Nat → Option α
  | [], _ => none
  | (j, x) :: r, i => bif Nat.beq i j then some x else look r i
def drop {α : Type} (i : Nat) : List (Nat × α) → List (Nat × α)
  | [] => []
  | (j, x) :: r => bif Nat.beq i j then drop i r else (j, x) :: drop i r
def put {α : Type} (l : List (Nat × α)) (i : Nat) (x : α) : List (Nat × α) := (i, x) :: l

/-- no guard within. -/
def T.bare : T → Bool
  | .g _ _ _ => false
  | _ => true
/-- does t lead to site k? -/
def T.refs (k : Nat) : T → Bool
  | .ptr j _ | .ptrA j _ _ _ _ _ | .vec j | .vptr j _ _ _ | .sd j => Nat.beq k j
  | .g _ _ t => t.refs k
  | _ => false
def T.kill (k : Nat) (t : T) : T := bif t.refs k then .undef else t
def Ob.mapT (f : T → T) : Ob → Ob
  | .box bt cs => .box bt (cs.map f)
  | .con cs => .con (cs.map f)
  | .vecO e sz xs cs => .vecO e sz xs (cs.map f)
  | o => o
def Ob.ts : Ob → List T
  | .box _ cs => cs
  | .con cs => cs
  | .vecO _ _ _ cs => cs
  | _ => []
def Ob.kill (k : Nat) (o : Ob) : Ob := o.mapT (T.kill k)
def A.kill (s : A) (k : Nat) : A := ⟨s.tm.map fun p => (p.1, p.2.kill k), (drop k s.ob).map fun p => (p.1, p.2.kill k)⟩
/-- a new thing at site k: what led to the old one is forgotten. -/
def A.new (s : A) (k : Nat) (o : Ob) : A := let s' := s.kill k; ⟨s'.tm, (k, o) :: s'.ob⟩

/-- site k's rows become plain data: what led to the whole of it reads as that. -/
def T.stow (k sz : Nat) (xs : List D) : T → T
  | .vec j => bif Nat.beq k j then .d (.sl sz xs) else .vec j
  | .g a b t => .g a b (t.stow k sz xs)
  | t => bif t.refs k then .undef else t
def Ob.stow (k sz : Nat) (xs : List D) (o : Ob) : Ob := o.mapT (T.stow k sz xs)
def A.stow (s : A) (k sz : Nat) (xs : List D) : A := ⟨s.tm.map fun p => (p.1, p.2.stow k sz xs), (drop k s.ob).map fun p => (p.1, p.2.stow k sz xs)⟩

/-- site k is called j from here on (j is not in use). -/
def T.ren (k j : Nat) : T → T
  | .vec i => bif Nat.beq k i then .vec j else .vec i
  | .g a b t => .g a b (t.ren k j)
  | t => bif t.refs k then .undef else t
def Ob.ren (k j : Nat) (o : Ob) : Ob := o.mapT (T.ren k j)

def A.ren (s : A) (k j : Nat) (o : Ob) : A := ⟨s.tm.map fun p => (p.1, p.2.ren k j), (j, o) :: (drop k s.ob).map fun p => (p.1, p.2.ren k j)⟩

/-- a function's spec: where it says something, and what the function returns. -/
structure Spc where
  pre : List D → Bool
  val : List D → D

def chk {α : Type} (c : Bool) (k : Option α) : Option α := match c with | true => k | false => none

/-- what a call that is handed things comes to: tests, branches, what is returned and what the things are then. -/
inductive HTree where
  | fail
  | chk (c : Bool) (k : HTree)
  | ite (c : Bool) (a b : HTree)
  | ret (t : T) (ob : List (Nat × Ob))
def HTree.leaf : HTree → Option (T × List (Nat × Ob))
  | .fail => none
  | .chk c k => match c with | true => k.leaf | false => none
  | .ite c a b => bif c then a.leaf else b.leaf
  | .ret t ob => some (t, ob)
/-- of the arguments and the things that they lead to, whose names count from HB on; new things are called 0, 1, .. -/
abbrev HSpc := List T → List (Nat × Ob) → HTree
def HB : Nat := 1048576
/-- rows behind whose last cell a mark lies: their type's number and this. -/
def MK : Nat := 1000000000

/-- what the evaluator is told of the program: types, functions called, and for a function what lives at its loops. -/
structure Cfg where
  /-- how many temporaries there are -/
  n : Nat
  /-- how many types there are -/
  nt : Nat
  ty : Nat → Ty
  call : Nat → Option Spc
  hcall : Nat → Option HSpc
  /-- types of things that unsafe pointers may be turned back to -/
  selfs : List Nat
  /-- types of bytes -/
  bts : List Nat
  /-- structs, one of whose parts is a slice that is appended to where it lies: the part's cell; and temporaries (and MK) that hold a string's bytes as rows of the call's own -/
  opn : List (Nat × Nat)
  /-- functions without a body: what they are -/
  ext : Nat → Nat
  /-- structs of plain numbers, which may be compared -/
  eqs : List Nat
  /-- maps of strings to bools -/
  sets : List Nat
  /-- the cells of a type's zero value; none where it isn't told -/
  zero : Nat → List Value
  /-- temporaries that are used in more than one region -/
  glob : List Nat
  /-- for the loop whose body's first region is r: temporaries that live at its head; those of them that hold rows, and the rows' types; sites -/
  live : Nat → List Nat × List (Nat × Nat) × List Nat
  /-- for a branch that falls through on both sides, by its key: temporaries and sites that live behind it -/
  join : Nat → Option (List Nat × List Nat)

variable (C : Cfg)

/-- is d of type t; d written as one of that type. -/
def okD : Ty → D → Bool
  | .bool, d => d.isB
  | .int k, d => d.isI k
  | .str, d => d.isS
  | .sl _ sz, d => d.isL sz
  | .st n _, d => d.isA n
  | .arr n _ _ _, d => d.isA n
  | .ptr _, d => d.isN
  | _, _ => false
def asD : Ty → D → D
  | .bool, d => .bool d.b
  | .int k, d => .int k d.i
  | .str, d => .str d.s
  | .sl _ sz, d => .sl sz d.l
  | .st n _, d => .agg (cut d.cells 0 n)
  | .arr n _ _ _, d => .agg (cut d.cells 0 n)
  | .ptr _, _ => .nil
  | _, _ => .undef
/-- zero values; cells -/
def Ty.isAgg : Ty → Bool
  | .st _ _ | .arr _ _ _ _ => true
  | _ => false
def Ty.n : Ty → Nat
  | .st n _ => n
  | .arr n _ _ _ => n
  | .oth => 0
  | .tup _ => 0
  | _ => 1

/-- the tests that may fail a call's result, and the result in form. -/
def okR (ty : Ty) (r : D) : Bool := match ty with
  | .tup ts => r.isT ts.length && ((upto ts.length 0).all fun j => okD (C.ty (ts.getD j 0)) (nth r.t j))
  | t => okD t r
def asR (ty : Ty) (r : D) : D := match ty with
  | .tup ts => .tup ((upto ts.length 0).map fun j => asD (C.ty (ts.getD j 0)) (nth r.t j))
  | t => asD t r

/-- a value of the code's own text. -/
def ofVal : Value → D
  | .bool b => .bool b
  | .int k n => .int k n
  | .string s => .str s.data.toList
  | .pointer none => .nil
  | _ => .undef

abbrev Guard := Option (Nat × Bool)
/-- the guards that hold where g does. -/
def ups (s : A) : Nat → Guard → List (Nat × Bool)
  | 0, _ => []
  | _, none => []
  | n + 1, some (t, w) => (t, w) :: (match look s.tm t with | some (.g t' w' _) => ups s n (some (t', w')) | _ => [])
def beqB : Bool → Bool → Bool
  | true, true | false, false => true
  | _, _ => false
def hasG (l : List (Nat × Bool)) (t : Nat) (w : Bool) : Bool := l.any fun p => Nat.beq p.1 t && beqB p.2 w
/-- an operand, under guards that hold. -/
def opd (s : A) (gs : List (Nat × Bool)) (ty : Ty) : Operand → T
  | .tmp t => match look s.tm t with
    | some (.g t' w' x) => bif hasG gs t' w' then x else .undef
    | some x => x
    | none => .undef
  | .const (.slice none 0 0) => match ty with | .sl _ sz => .nils sz | _ => .undef
  | .const v => .d (ofVal v)
  | .global _ => .undef
  | .func f => .fn f
/-- does the guard hold, as far as it is known. -/
def gconds (s : A) : Nat → Guard → List (Bool × Bool)
  | 0, _ => []
  | _, none => []
  | n + 1, some (t, w) => match look s.tm t with
    | some (.d (.bool x)) => [(x, w)]
    | some (.g t' w' (.d (.bool x))) => (x, w) :: gconds s n (some (t', w'))
    | _ => []
def oneG (p : Bool × Bool) : Bool := bif p.2 then p.1 else !p.1
def allG : List (Bool × Bool) → Bool
  | [] => true
  | [p] => oneG p
  | p :: r => oneG p && allG r
/-- the test of what is guarded. -/
def orG (c : Bool) (l : List (Bool × Bool)) : Bool := match l with
  | [] => c
  | _ => c || !allG l
def gval (s : A) (n : Nat) (g : Guard) : Bool := allG (gconds s n g)
def wrapG : Guard → T → T
  | none, t => t
  | some (a, b), t => .g a b t

/-- an operand as data. -/
def T.data (s : A) : T → Option D
  | .d x => some x
  | .nils sz => some (.sl sz [])
  | .vec k => match look s.ob k with | some (.vec _ sz xs) => some (.sl sz xs) | _ => none
  | _ => none
def allData (s : A) : List T → Option (List D)
  | [] => some []
  | t :: r => match t.data s, allData s r with | some d, some ds => some (d :: ds) | _, _ => none
/-- cells that hold plain data alone. -/
def plain : List T → Option (List D)
  | [] => some []
  | .d x :: r => match plain r with | some ds => some (x :: ds) | none => none
  | _ => none

def allI (k : IntKind) : List D → Bool
  | [] => true
  | x :: r => x.isI k && allI k r
def eqI : List D → List D → Bool
  | x :: a, y :: b => decide (x.i = y.i) && eqI a b
  | _, _ => true

def bitsI (op : BinOp) (k : IntKind) (a b : Int) : Int :=
  let x := BitVec.ofInt k.bits a
  let y := BitVec.ofInt k.bits b
  match op with
  | .and => k.wrap (x &&& y).toNat
  | .or => k.wrap (x ||| y).toNat
  | .xor => k.wrap (x ^^^ y).toNat
  | .andNot => k.wrap (x &&& ~~~y).toNat
  | _ => 0


/-- the leaves of a type, in order. -/
def leaves : Nat → Ty → List Ty
  | 0, _ => []
  | f + 1, .st _ fs => fs.foldr (fun p r => leaves f (C.ty p.1) ++ r) []
  | f + 1, .arr _ len e _ => (upto len 0).foldr (fun _ r => leaves f (C.ty e) ++ r) []
  | _, t => [t]
def zcell : Ty → Value → T
  | .bool, .bool b => .d (.bool b)
  | .int k, .int k' n => bif beqK k k' then .d (.int k' n) else .undef
  | .str, .string b => .d (.str b.data.toList)
  | .sl _ sz, .slice none 0 0 => .nils sz
  | .ptr _, .pointer none => .d .nil
  | _, _ => .undef
def zipZ : List Ty → List Value → List T
  | _, [] => []
  | [], _ :: vs => .undef :: zipZ [] vs
  | t :: ts, v :: vs => zcell t v :: zipZ ts vs
def T.asD : T → D
  | .d x => x
  | .nils sz => .sl sz []
  | _ => .undef
def zeros (e : Nat) : List T := zipZ (leaves C 20 (C.ty e)) (C.zero e)
def zerosD (e : Nat) : List D := (zeros C e).map T.asD

/-- what an operation comes to: no meaning here; a value, if the test holds; a site's thing is another; a site's thing is new; another state, if the test holds; a call's value. -/
inductive Eff where
  | fail
  | val (c : Bool) (t : T)
  | chg (c : Bool) (k : Nat) (o : Ob) (t : T)
  | mk (c : Bool) (d : Nat) (o : Ob) (t : T)
  | mv (c : Bool) (d k : Nat) (o : Ob) (t : T)
  | st (c : Bool) (s : A) (t : T)
  | ans (c : Bool) (r : D) (ok : D → Bool) (nf : D → D)

/-- members off .. off+n-1 of the cells at a site, as plain data. -/
def slots (cs : List T) (off n : Nat) : Option (List D) := plain ((cs.drop off).take n)

def loadE (s : A) (ty : Ty) : T → Eff
  | .ptr k off => match look s.ob k with
    | some (.box bt cs) => match ty.isAgg with
      | true => match slots cs off ty.n with | some ds => bif Nat.beq ds.length ty.n then .val true (.d (.agg ds)) else .fail | none => .fail
      | false => match cs[off]? with
        | some (.d x) => .val (okD ty x) (.d (asD ty x))
        | some (.vec j) => match ty with | .sl _ _ => .val true (.vec j) | _ => .fail
        | some (.ptr j o) => match ty with | .ptr _ => .val true (.ptr j o) | _ => .fail
        | some (.nils sz) => match ty with | .sl _ sz' => bif Nat.beq sz sz' then .val true (.nils sz) else .fail | _ => .fail
        | _ => .fail
    | _ => .fail
  | .ptrA k off len sz i o => match look s.ob k with
    | some (.box bt cs) => match slots cs off (len * sz) with
      | some ds => bif Nat.beq ds.length (len * sz) then (match ty.isAgg with
        | true => bif Nat.ble (o + ty.n) sz then .val true (.d (.agg (cut ds (i * sz + o) ty.n))) else .fail
        | false => bif Nat.blt o sz then .val (okD ty (nth ds (i * sz + o))) (.d (asD ty (nth ds (i * sz + o)))) else .fail) else .fail
      | none => .fail
    | _ => .fail
  | .ptrS x off => match ty.isAgg with
    | true => .val (Nat.ble (off + ty.n) x.cells.length) (.d (.agg (cut x.cells off ty.n)))
    | false => .val (okD ty (nth x.cells off)) (.d (asD ty (nth x.cells off)))
  | .vptr k sz i o => match look s.ob k with
    | some (.vec _ sz' xs) => bif Nat.beq sz sz' then (match ty.isAgg with
      | true => .val (Nat.ble (o + ty.n) (nth xs i).cells.length) (.d (.agg (cut (nth xs i).cells o ty.n)))
      | false => .val (okD ty (nth (nth xs i).cells o)) (.d (asD ty (nth (nth xs i).cells o)))) else .fail
    | some (.vecO _ sz' xs cs) => bif Nat.beq sz sz' && Nat.blt o sz then match ty, cs[o]? with
      | .sl _ _, some (.vec j) => .val (Nat.beq i xs.length) (.vec j)
      | .sl _ z', some (.nils z) => bif Nat.beq z z' then .val (Nat.beq i xs.length) (.nils z) else .fail
      | _, _ => .fail
      else .fail
    | _ => .fail
  | _ => .fail

/-- cells to be stored. -/
def cellsOf (s : A) (ty : Ty) : T → Option (List T)
  | .d x => bif ty.isAgg then (match x with | .agg cs => bif Nat.beq cs.length ty.n then some (cs.map T.d) else none | _ => none) else bif okD ty x then some [.d x] else none
  | .nils sz => match ty with | .sl _ sz' => bif Nat.beq sz sz' then some [.nils sz] else none | _ => none
  | .vec k => match ty, look s.ob k with | .sl _ sz', some (.vec _ sz _) => bif Nat.beq sz sz' then some [.vec k] else none | _, _ => none
  | .ptr k o => match ty with | .ptr _ => some [.ptr k o] | _ => none
  | _ => none
def over (cs : List T) (off : Nat) (ds : List T) : List T := cs.take off ++ ds ++ cs.drop (off + ds.length)

/-- an element, some of whose cells are written. -/
def setD (x : D) (o : Nat) (es : List D) : D := match x with
  | .agg cs => .agg (splice cs o es)
  | _ => nth es 0

def storeE (s : A) (ty : Ty) (p x : T) : Eff :=
  match p with
  | .ptr k off => match look s.ob k, cellsOf s ty x with
    | some (.box bt cs), some ds => bif Nat.ble (off + ds.length) cs.length then .chg true k (.box bt (over cs off ds)) .undef else .fail
    | _, _ => .fail
  | .ptrA k off len sz i o => match look s.ob k, cellsOf s ty x with
    | some (.box bt cs), some ts => match slots cs off (len * sz), plain ts with
      | some ds, some es => bif Nat.beq ds.length (len * sz) && Nat.ble (off + len * sz) cs.length && Nat.ble (o + es.length) sz then
          .chg true k (.box bt (over cs off ((cut (splice ds (i * sz + o) es) 0 (len * sz)).map T.d))) .undef else .fail
      | _, _ => .fail
    | _, _ => .fail
  | .vptr k sz i o => match look s.ob k, cellsOf s ty x with
    | some (.vec e sz' xs), some ts => match plain ts with
      | some es => bif Nat.beq sz sz' && Nat.blt 0 es.length then .chg (Nat.beq (nth xs i).cells.length sz && Nat.ble (o + es.length) sz && Nat.blt i xs.length) k (.vec e sz (xs.set i (setD (nth xs i) o es))) .undef else .fail
      | none => .fail
    | some (.vecO e sz' xs cs), some [t] => bif Nat.beq sz sz' && Nat.blt o sz && Nat.beq cs.length sz then .chg (Nat.beq i xs.length) k (.vecO e sz xs (over cs o [t])) .undef else .fail
    | _, _ => .fail
  | _ => .fail

/-- an index into a slice, or an array's address. -/
def indexAddrE (s : A) (ty : Ty) (x : T) (i : Int) : Eff :=
  match ty, x with
  | .sl _ sz, .d (.sl sz' xs) => bif Nat.beq sz sz' then .val (decide (0 ≤ i) && decide (i < xs.length)) (.ptrS (nth xs i.toNat) 0) else .fail
  | .sl _ sz, .vec k => match look s.ob k with
    | some (.vec _ sz' xs) => bif Nat.beq sz sz' then .val (decide (0 ≤ i) && decide (i < xs.length)) (.vptr k sz i.toNat 0) else .fail
    | some (.vecO _ sz' xs _) => bif Nat.beq sz sz' then .val (decide (0 ≤ i) && decide (i < (xs.length + 1 : Nat))) (.vptr k sz i.toNat 0) else .fail
    | _ => .fail
  | .arr _ len _ sz, .ptr k off => .val (decide (0 ≤ i) && decide (i < len)) (.ptrA k off len sz i.toNat 0)
  | .arr _ len _ sz, .ptrS x off => .val (decide (0 ≤ i) && decide (i < len)) (.ptrS x (off + i.toNat * sz))
  | _, _ => .fail

def fieldAddrE (ty : Ty) (x : T) (f : Nat) : Eff :=
  match ty with
  | .st _ fs => match fs[f]? with
    | some (u, off) => bif Nat.beq (C.ty u).n 0 then .fail else match x with
      | .ptr k o => .val true (.ptr k (o + off))
      | .ptrA k a len sz i o => .val true (.ptrA k a len sz i (o + off))
      | .ptrS x o => .val true (.ptrS x (o + off))
      | .vptr k sz i o => .val true (.vptr k sz i (o + off))
      | _ => .fail
    | none => .fail
  | _ => .fail

def binE (op : BinOp) (ty : Ty) (eqok : Bool) (x y : T) : Eff :=
  match x, y with
  | .d (.int k a), .d (.int k' b) =>
    match op with
    | .shl => .val (decide (0 ≤ b)) (.d (.int k (k.wrap (a * 2 ^ (min b.toNat k.bits)))))
    | .shr => .val (decide (0 ≤ b)) (.d (.int k (a.fdiv (2 ^ (min b.toNat k.bits)))))
    | op => bif beqK k k' then (match op with
      | .add => .val true (.d (.int k (k.wrap (a + b))))
      | .sub => .val true (.d (.int k (k.wrap (a - b))))
      | .mul => .val true (.d (.int k (k.wrap (a * b))))
      | .quo => .val (!decide (b = 0)) (.d (.int k (k.wrap (a.tdiv b))))
      | .rem => .val (!decide (b = 0)) (.d (.int k (a.tmod b)))
      | .eql => .val true (.d (.bool (decide (a = b))))
      | .neq => .val true (.d (.bool (!decide (a = b))))
      | .lss => .val true (.d (.bool (decide (a < b))))
      | .leq => .val true (.d (.bool (decide (a ≤ b))))
      | .gtr => .val true (.d (.bool (decide (b < a))))
      | .geq => .val true (.d (.bool (decide (b ≤ a))))
      | op => .val true (.d (.int k (bitsI op k a b)))) else .fail
  | .d (.bool a), .d (.bool b) => match ty, op with
    | .bool, .eql => .val true (.d (.bool (beqB a b)))
    | .bool, .neq => .val true (.d (.bool (!beqB a b)))
    | _, _ => .fail
  | .d (.str a), .d (.str b) => match op with
    | .add => .val (decide (a.length + b.length ≤ 4611686018427387904)) (.d (.str (a ++ b)))
    | .eql => .val true (.d (.bool (decide (a = b))))
    | .neq => .val true (.d (.bool (!decide (a = b))))
    | _ => .fail
  | .d (.agg a), .d (.agg b) => match ty with
    | .st n _ => bif eqok && Nat.beq a.length n && Nat.beq b.length n then (match op with
      | .eql => .val (allI .i64 a && allI .i64 b) (.d (.bool (eqI a b)))
      | .neq => .val (allI .i64 a && allI .i64 b) (.d (.bool (!eqI a b)))
      | _ => .fail) else .fail
    | _ => .fail
  | .d .nil, .d .nil => match ty, op with | .ptr _, .eql => .val true (.d (.bool true)) | .ptr _, .neq => .val true (.d (.bool false)) | _, _ => .fail
  | .ptr k o, .ptr k' o' => match ty, op with
    | .ptr e, .eql => bif Nat.beq k k' && Nat.beq o o' && !Nat.beq (C.ty e).n 0 then .val true (.d (.bool true)) else .fail
    | .ptr e, .neq => bif Nat.beq k k' && Nat.beq o o' && !Nat.beq (C.ty e).n 0 then .val true (.d (.bool false)) else .fail
    | _, _ => .fail
  | .ptr _ _, .d .nil => match ty, op with | .ptr _, .eql => .val true (.d (.bool false)) | .ptr _, .neq => .val true (.d (.bool true)) | _, _ => .fail
  | _, _ => .fail

def unE (op : UnOp) (x : T) : Eff :=
  match op, x with
  | .not, .d (.bool a) => .val true (.d (.bool (!a)))
  | .neg, .d (.int k a) => .val true (.d (.int k (k.wrap (0 - a))))
  | _, _ => .fail

def convE (s : A) (src dst : Ty) (x : T) : Eff :=
  match src, dst with
  | .int _, .int k => match x with | .d (.int _ n) => .val true (.d (.int k (k.wrap n))) | _ => .fail
  | .str, .str => match x with | .d (.str l) => .val true (.d (.str l)) | _ => .fail
  | .str, .sl e sz => match C.ty e, x with | .int .u8, .d (.str l) => bif Nat.beq sz 1 then .val true (.d (.sl 1 (l.map byteD))) else .fail | _, _ => .fail
  | .ptr e, .uptr => match x with
    | .ptr k o => match look s.ob k with
      | some (.box _ cs) => bif Nat.blt o cs.length && !Nat.beq (C.ty e).n 0 then .val true (.ptr k o) else .fail
      | _ => .fail
    | _ => .fail
  | .uptr, .ptr e => match x with
    | .ptr k 0 => match look s.ob k with
      | some (.box bt cs) => bif Nat.beq bt e && C.selfs.any (Nat.beq e) && Nat.beq cs.length (C.ty e).n && !Nat.beq (C.ty e).n 0 then .val true (.ptr k 0) else .fail
      | _ => .fail
    | _ => .fail
  | .sl e sz, .str => match C.ty e, x.data s with | .int .u8, some (.sl sz' xs) => bif Nat.beq sz 1 && Nat.beq sz' 1 then .val (allU8 xs) (.d (.str (bytesOf xs))) else .fail | _, _ => .fail
  | _, _ => .fail

def bound : Option T → Option Int → Option Int
  | none, d => d
  | some (.d (.int _ n)), _ => some n
  | _, _ => none
def sliceE (ty : Ty) (x : T) (lo hi : Option T) : Eff :=
  match ty, x with
  | .str, .d (.str l) => match bound lo (some 0), bound hi (some (l.length : Int)) with
    | some a, some b => .val (decide (0 ≤ a) && decide (a ≤ b) && decide (b ≤ l.length)) (.d (.str ((l.take b.toNat).drop a.toNat)))
    | _, _ => .fail
  | .sl _ sz, .d (.sl sz' xs) => bif Nat.beq sz sz' then match bound lo (some 0), bound hi (some (xs.length : Int)) with
    | some a, some b => .val (decide (0 ≤ a) && decide (a ≤ b) && decide (b ≤ xs.length)) (.d (.sl sz ((xs.take b.toNat).drop a.toNat)))
    | _, _ => .fail
    else .fail
  | _, _ => .fail

def lenE (s : A) (ty : Ty) (x : T) : Eff :=
  match ty, x with
  | .str, .d (.str l) => .val true (.d (.int .i64 l.length))
  | .sl _ _, x => match x.data s with
    | some (.sl _ xs) => .val true (.d (.int .i64 xs.length))
    | _ => match x with
      | .vec k => match look s.ob k with
        | some (.vecO _ _ xs _) => .val true (.d (.int .i64 (xs.length + 1 : Nat)))
        | _ => .fail
      | _ => .fail
  | _, _ => .fail

/-- parts laid over zero cells. -/
def fillE (place : Nat → Option (Nat × Nat)) (cs : List D) : List (Nat × D) → Option (List D)
  | [] => some cs
  | (i, x) :: r => match place i with
    | none => none
    | some (off, sz) => bif Nat.beq x.cells.length sz && Nat.ble (off + sz) cs.length then
        fillE place (splice cs off x.cells) r else none

def partsD (s : A) (rd : Operand → T) : List (Nat × Operand) → Option (List (Nat × D))
  | [] => some []
  | (i, x) :: r => match (rd x).data s, partsD s rd r with | some d, some ds => bif d.isU then none else some ((i, d) :: ds) | _, _ => none
/-- sites whose rows are among the parts. -/
def vecsOf : List T → List Nat
  | [] => []
  | .vec k :: r => k :: vecsOf r
  | _ :: r => vecsOf r
def A.stowAll (s : A) : List Nat → A
  | [] => s
  | k :: r => match look s.ob k with
    | some (.vec _ sz xs) => (s.stow k sz xs).stowAll r
    | _ => s.stowAll r

/-- an aggregate out of a box: rows of the call's own that stand in it are plain data from here on. -/
def loadAgg (s : A) (ty : Ty) (p : T) : Eff := match ty.isAgg, p with
  | true, .ptr k off => match look s.ob k with
    | some (.box bt cs) => match allData s ((cs.drop off).take ty.n) with
      | some ds => bif Nat.beq ds.length ty.n then (match vecsOf ((cs.drop off).take ty.n) with
        | [] => .val true (.d (.agg ds))
        | k' :: ks => .st true (s.stowAll (k' :: ks)) (.d (.agg ds))) else .fail
      | none => .fail
    | _ => .fail
  | _, p => loadE s ty p

def Ty.isSl : Ty → Bool
  | .sl _ _ => true
  | _ => false
/-- []byte("..") of a constant: bytes of the call's own are handed on. -/
def bytesE (s : A) (ty : Ty) (t : T) : Eff := match ty, t with
  | .sl e _, .vec k => match C.ty e, look s.ob k with
    | .int .u8, some (.vec _ sz xs) => .st (Nat.blt 0 xs.length) (s.stow k sz xs) (.d (.sl sz xs))
    | _, _ => .fail
  | _, _ => .fail

def scalarR : Ty → Bool
  | .bool | .int _ | .str => true
  | .tup ts => ts.all fun t => match C.ty t with | .bool | .int _ | .str => true | _ => false
  | _ => false

def groups (ds : List D) (sz : Nat) (ag : Bool) : Nat → List D
  | 0 => []
  | n + 1 => (bif ag then D.agg (ds.take sz) else nth ds 0) :: groups (ds.drop sz) sz ag n

def same2 : List Nat → Bool
  | [t, u] => Nat.beq t u
  | _ => false
def appendE (s : A) (ty : Ty) (dst : Option Nat) (x y : T) : Eff :=
  match ty, dst, y.data s with
  | .sl e sz, some d, some (.sl sz' ys) =>
    bif !Nat.beq sz sz' || (C.zero e).isEmpty || !Nat.beq (C.zero e).length sz then .fail else (match x with
      | .nils _ => .mk (decide (ys.length ≤ 4294967296)) d (.vec e sz ys) (.vec d)
      | .vec k => match look s.ob k with
        | some (.vec e' sz'' xs) => bif Nat.beq sz sz'' && Nat.beq e e' && Nat.blt e MK then .mv (decide (xs.length + ys.length ≤ 4294967296)) d k (.vec e sz (xs ++ ys)) (.vec d) else .fail
        | _ => .fail
      | _ => .fail)
  | _, _, _ => .fail

/-- where a struct's parts lie. -/
def placeS (fs : List (Nat × Nat)) (i : Nat) : Option (Nat × Nat) := match fs[i]? with | some (u, off) => bif Nat.beq (C.ty u).n 0 then none else some (off, (C.ty u).n) | none => none
/-- a struct's value, one of whose parts, a slice, is left nil. -/
def conE (s : A) (rd : Operand → T) (t q : Nat) (dst : Option Nat) (guarded : Bool) (ps : List (Nat × Operand)) : Eff :=
  match C.ty t, dst, partsD s rd ps, (zeros C t)[q]? with
  | .st _ fs, some d, some ds, some (.nils z) =>
    bif guarded || (C.zero t).isEmpty || !(C.zero t).all Value.oneCell' || !(vecsOf (ps.map fun p => rd p.2)).isEmpty || !(ds.all fun p => match placeS C fs p.1 with | some os => !(Nat.ble os.1 q && Nat.blt q (os.1 + os.2)) | none => false) then .fail else
    match fillE (placeS C fs) (zerosD C t) ds with
    | some cs => bif Nat.blt q cs.length then .mk true d (.con (over (cs.map T.d) q [.nils z])) (.vec d) else .fail
    | none => .fail
  | _, _, _, _ => .fail
/-- a slice of one such value. -/
def litO (s : A) (t : Ty) (m : Nat) (x : T) (dst : Option Nat) (guarded : Bool) : Option Eff := match t, x, dst with
  | .sl e sz, .vec k, some d => match look s.ob k with
    | some (.con cs) => bif guarded || !Nat.beq m 1 || !Nat.beq cs.length sz || !Nat.blt 0 sz || !Nat.ble sz 16777216 || !Nat.beq (C.zero e).length sz then some .fail else some (.mk true d (.vecO e sz [] (cs.map (T.kill d))) (.vec d))
    | _ => none
  | _, _, _ => none
/-- .. appended. -/
def appendO (s : A) (ty : Ty) (dst : Option Nat) (x y : T) : Option Eff := match ty, dst, y with
  | .sl e sz, some d, .vec k2 => match look s.ob k2 with
    | some (.vecO _ sz2 ys cs) => bif !Nat.beq sz sz2 || !ys.isEmpty || (C.zero e).isEmpty || !Nat.beq (C.zero e).length sz then some .fail else match x with
      | .nils _ => some (.mk true d (.vecO e sz [] (cs.map (T.kill d))) (.vec d))
      | .vec k => match look s.ob k with
        | some (.vec e' sz' xs) => bif Nat.beq sz sz' && Nat.beq e e' && Nat.blt e MK then some (.mv (decide (xs.length + 1 ≤ 4294967296)) d k (.vecO e sz xs (cs.map (T.kill d))) (.vec d)) else some .fail
        | _ => some .fail
      | _ => some .fail
    | _ => none
  | _, _, _ => none
/-- the open last row becomes plain data. -/
def A.close (s : A) (k : Nat) : A := match look s.ob k with
  | some (.vecO e sz xs cs) => match allData s cs with
    | some ds => bif Nat.beq ds.length sz then ⟨(s.stowAll (vecsOf cs)).tm, put (s.stowAll (vecsOf cs)).ob k (.vec e sz (xs ++ [.agg ds]))⟩ else s
    | none => s
  | _ => s

/-- a string's bytes behind rows of bytes. -/
def appendSE (s : A) (ty tu : Ty) (dst : Option Nat) (x y : T) : Eff :=
  match ty, tu, dst, y with
  | .sl e sz, .str, some d, .d (.str l) => bif Nat.beq sz 1 && C.bts.any (Nat.beq e) then (match x with
      | .nils _ => .mk (decide (l.length ≤ 4294967296)) d (.vec e 1 (l.map byteD)) (.vec d)
      | .vec k => match look s.ob k with
        | some (.vec e' sz' xs) => bif Nat.beq sz' 1 && Nat.beq e e' && Nat.blt e MK then .mv (decide (xs.length + l.length ≤ 4294967296)) d k (.vec e 1 (xs ++ l.map byteD)) (.vec d) else .fail
        | _ => .fail
      | _ => .fail) else .fail
  | _, _, _, _ => .fail

/-- sets: maps of strings to bools, in which every entry is true. -/
def isSet (s : A) (k : Nat) : Bool := match look s.ob k with | some (.set _) => true | _ => false
def keyB (ls : List (List UInt8)) (l : List UInt8) : Bool := ls.any fun x => decide (l = x)

/-- a string's bytes as rows of the call's own. -/
def rawE (s : A) (ty tu : Ty) (d : Nat) (x : T) (guarded : Bool) : Eff := match ty, tu, x with
  | .str, .sl e sz, .d (.str l) => match C.ty e with
    | .int .u8 => bif guarded || !Nat.beq sz 1 then .fail else .mk true d (.vec (e + MK) 1 (l.map byteD)) (.vec d)
    | _ => .fail
  | _, _, _ => .fail

/-- an operation. 'rd': its operands under its guard. -/
def effOp (o : Oper) (s : A) (rd : List (Nat × Bool) → Ty → Operand → T) (guarded : Bool) : Eff :=
  let r := rd []
  match o.op with
  | .move x | .assign x => match r (C.ty o.type) x with
    | .undef => .fail
    | t => .val true t
  | .pick c a b => match r .bool c, c with
    | .d (.bool x), .tmp t => match rd [(t, true)] .bool a, rd [(t, false)] .bool b with
      | .d (.bool p), .d (.bool q) => .val true (.d (.bool (bif x then p else q)))
      | _, _ => .fail
    | _, _ => .fail
  | .alloc e => match o.dst with
    | some d => bif guarded then .fail else
      bif (C.zero e).isEmpty || !(C.zero e).all Value.oneCell' then .fail else .mk true d (.box e (zeros C e)) (.ptr d 0)
    | none => .fail
  | .box e x => match o.dst, cellsOf s (C.ty e) (r (C.ty e) x) with
    | some d, some cs => bif guarded then .fail else
      .mk true d (.box e (cs.map (T.kill d))) (.ptr d 0)
    | _, _ => .fail
  | .build t ps => bif !Nat.blt t C.nt then .fail else match look C.opn t with
    | some q => conE C s (r .oth) t q o.dst guarded ps.toList
    | none => bif (C.zero t).isEmpty || !(C.zero t).all Value.oneCell' then .fail else match partsD s (r .oth) ps.toList with
    | some ds => match (match C.ty t with
        | .st _ fs => fillE (fun i => match fs[i]? with | some (u, off) => bif Nat.beq (C.ty u).n 0 then none else some (off, (C.ty u).n) | none => none) (zerosD C t) ds
        | .arr _ _ _ sz => fillE (fun i => some (i * sz, sz)) (zerosD C t) ds
        | _ => none) with
      | some cs => match vecsOf (ps.toList.map fun p => r .oth p.2) with
        | [] => .val true (.d (.agg cs))
        | k :: ks => bif guarded then .fail else .st true (s.stowAll (k :: ks)) (.d (.agg cs))
      | none => .fail
    | none => .fail
  | .buildSlice t n ps => bif !Nat.blt t C.nt then .fail else match (match ps.toList with | [(0, x)] => litO C s (C.ty t) n (r .oth x) o.dst guarded | _ => none) with
    | some ef => ef
    | none => match C.ty t, o.dst, partsD s (r .oth) ps.toList with
    | .sl e sz, some d, some ds =>
      bif guarded || (C.zero e).isEmpty || !(C.zero e).all Value.oneCell' || !Nat.beq (C.zero e).length sz || !Nat.ble (n * sz) 16777216 || !((C.ty e).isAgg || Nat.beq sz 1) then .fail else
      match fillE (fun i => some (i * sz, sz)) ((upto (n * sz) 0).map fun p => nth (zerosD C e) (p % sz)) ds with
      | some cs => (match vecsOf (ps.toList.map fun p => r .oth p.2) with
        | [] => .mk true d (.vec e sz (groups cs sz (C.ty e).isAgg n)) (.vec d)
        | k :: ks => .st true ((s.stowAll (k :: ks)).new d (.vec e sz (groups cs sz (C.ty e).isAgg n))) (.vec d))
      | none => .fail
    | _, _, _ => .fail
  | .load t a => loadAgg s (C.ty t) (r .oth a)
  | .store t a x => bif guarded then .fail else storeE s (C.ty t) (r .oth a) (r (C.ty t) x)
  | .nilCheck x => match r .oth x with
    | .ptr k off => .val true (.ptr k off)
    | .ptrS x off => .val true (.ptrS x off)
    | .ptrA k off len sz i o => .val true (.ptrA k off len sz i o)
    | .vptr k sz i o => .val true (.vptr k sz i o)
    | _ => .fail
  | .binOp op t x y _ => binE C op (C.ty t) (C.eqs.any (Nat.beq t)) (r (C.ty t) x) (r (C.ty t) y)
  | .unOp op t x => unE op (r (C.ty t) x)
  | .convert a b x => bif Nat.beq a b && (C.ty a).isSl then (bif guarded then .fail else bytesE C s (C.ty a) (r (C.ty a) x)) else match o.dst with
    | some d => (match look C.opn (MK + d) with
      | some _ => rawE C s (C.ty a) (C.ty b) d (r (C.ty a) x) guarded
      | none => convE C s (C.ty a) (C.ty b) (r (C.ty a) x))
    | none => convE C s (C.ty a) (C.ty b) (r (C.ty a) x)
  | .fieldAddr t x f => fieldAddrE C (C.ty t) (r .oth x) f
  | .field t x f => match C.ty t, r .oth x with
    | .st n fs, .d (.agg cs) => match fs[f]? with
      | some (u, off) => bif Nat.beq cs.length n then (match (C.ty u).isAgg with
        | true => .val (Nat.ble (off + (C.ty u).n) cs.length) (.d (.agg (cut cs off (C.ty u).n)))
        | false => .val (okD (C.ty u) (nth cs off)) (.d (asD (C.ty u) (nth cs off)))) else .fail
      | none => .fail
    | _, _ => .fail
  | .indexAddr t x i => bif !Nat.blt t C.nt then .fail else match r .oth i with
    | .d (.int _ n) => indexAddrE s (C.ty t) (r .oth x) n
    | _ => .fail
  | .index t x i => match C.ty t, r .oth x, r .oth i with
    | .str, .d (.str l), .d (.int _ n) => .val (decide (0 ≤ n) && decide (n < l.length)) (.d (.int .u8 (l.getD n.toNat 0).toNat))
    | _, _, _ => .fail
  | .slice t x lo hi none => bif !Nat.blt t C.nt then .fail else match C.ty t with
    | .arr _ _ _ _ => .fail
    | ty => sliceE ty (r .oth x) (lo.map (r .oth)) (hi.map (r .oth))
  | .makeSlice t l c => bif !Nat.blt t C.nt then .fail else match C.ty t, o.dst, r .oth l, r .oth c with
    | .sl e sz, some d, .d (.int _ n), .d (.int _ m) => bif guarded then .fail else
      bif (C.zero e).isEmpty || !(C.zero e).all Value.oneCell' || !Nat.beq (C.zero e).length sz || !((C.ty e).isAgg || Nat.beq sz 1) then .fail else
      let z := bif (C.ty e).isAgg then D.agg (zerosD C e) else nth (zerosD C e) 0
      .mk (decide (0 ≤ n) && decide (n = m) && decide (n ≤ 4294967296)) d (.vec e sz (List.replicate n.toNat z)) (.vec d)
    | _, _, _, _ => .fail
  | .makeMap t r => match r, o.dst with
    | none, some d => bif guarded || !C.sets.any (Nat.beq t) then .fail else .mk true d (.set []) (.vec d)
    | _, _ => .fail
  | .lookup t x i ok => bif ok || !C.sets.any (Nat.beq t) then .fail else match r .oth x, r .oth i with
    | .vec k, .d (.str l) => match look s.ob k with
      | some (.set ls) => .val true (.d (.bool (keyB ls l)))
      | _ => .fail
    | _, _ => .fail
  | .mapUpdate t m i x => bif guarded || !C.sets.any (Nat.beq t) then .fail else match r .oth m, r .oth i, r .bool x with
    | .vec k, .d (.str l), .d (.bool b) => match look s.ob k with
      | some (.set ls) => .chg b k (.set (bif keyB ls l then ls else ls ++ [l])) .undef
      | _ => .fail
    | _, _, _ => .fail
  | .extract x i => match r .oth x with
    | .d (.tup ds) => bif Nat.blt i ds.length then .val true (.d (nth ds i)) else .fail
    | _ => .fail
  | .call c => match c.callee, c.args.toList with
    | .builtin .len, [x] => match c.argTypes.toList with | t :: _ => lenE s (C.ty t) (r .oth x) | _ => .fail
    | .builtin .min, [x, y] => match r .oth x, r .oth y with
      | .d (.int k a), .d (.int k' b) => bif beqK k k' then .val true (.d (.int k (bif decide (b < a) then b else a))) else .fail
      | _, _ => .fail
    | .builtin .max, [x, y] => match r .oth x, r .oth y with
      | .d (.int k a), .d (.int k' b) => bif beqK k k' then .val true (.d (.int k (bif decide (a < b) then b else a))) else .fail
      | _, _ => .fail
    | .builtin .append, [x, y] => bif guarded || !Nat.blt (c.argTypes.getD 0 0) C.nt then .fail else bif same2 c.argTypes.toList then match appendO C s (C.ty (c.argTypes.getD 0 0)) o.dst (r (C.ty (c.argTypes.getD 0 0)) x) (r .oth y) with
      | some ef => ef
      | none => appendE C s (C.ty (c.argTypes.getD 0 0)) o.dst (r (C.ty (c.argTypes.getD 0 0)) x) (r .oth y)
      else bif !Nat.beq c.argTypes.size 2 then .fail else appendSE C s (C.ty (c.argTypes.getD 0 0)) (C.ty (c.argTypes.getD 1 0)) o.dst (r (C.ty (c.argTypes.getD 0 0)) x) (r .oth y)
    | .builtin .unsafeSliceData, [x] => match r (C.ty (c.argTypes.getD 0 0)) x, C.ty o.type with
      | .vec k, .ptr e => match look s.ob k with
        | some (.vec _ _ _) => .val true (.sd k)
        | _ => .fail
      | .nils _, .ptr _ => .val true (.d .nil)
      | _, _ => .fail
    | .builtin .unsafeString, [x, y] => match r .oth x, r .oth y, C.ty (c.argTypes.getD 0 0) with
      | .sd k, .d (.int .i64 n), .ptr e => match look s.ob k, C.ty e with
        | some (.vec e' sz xs), .int .u8 => bif guarded || !Nat.beq e e' || !Nat.beq sz 1 || !Nat.beq c.argTypes.size 2 || !Nat.blt e MK then .fail else .chg (decide (n = xs.length) && allB xs && decide (xs.length ≤ 4294967296)) k .junk (.d (.str (bytesOf xs)))
        | _, _ => .fail
      | .d .nil, .d (.int .i64 n), .ptr _ => bif !Nat.beq c.argTypes.size 2 then .fail else .val (decide (n = 0)) (.d (.str []))
      | _, _, _ => .fail
    | .value (.func f), args => bif Nat.beq (C.ext f) 1 then (match args.map (r .oth) with | [.ptr k o] => .val true (.ptr k o) | _ => .fail) else match C.call f, allData s (args.map (r .oth)) with
      | some sp, some ds => bif scalarR C (C.ty o.type) || (vecsOf (args.map (r .oth))).isEmpty then .ans (sp.pre ds) (sp.val ds) (okR C (C.ty o.type)) (asR C (C.ty o.type)) else .fail
      | _, _ => .fail
    | _, _ => .fail
  | _ => .fail

/-- what is guarded by a temporary that is written anew is forgotten. -/
def T.unG (d : Nat) : T → T
  | .g t w x => bif Nat.beq t d then .undef else .g t w x
  | x => x
def T.onG (d : Nat) : T → Bool
  | .g t _ _ => Nat.beq t d
  | _ => false
def dropG (d : Nat) (l : List (Nat × T)) : List (Nat × T) := bif l.any (fun p => p.2.onG d) then l.map fun p => (p.1, p.2.unG d) else l
def A.set (s : A) (dst : Option Nat) (t : T) : A := match dst with
  | some d => ⟨put (dropG d s.tm) d t, s.ob⟩
  | none => s

def guardOf (ops : List Oper) (o : Oper) : Option Guard := match o.guard with
  | none => some none
  | some (j, w) => match ops[j]? with
    | some p => match p.dst with | some t => some (some (t, w)) | none => none
    | none => none

inductive Ex where
  | normal | ret | exit (id : Nat)

/-- what follows, at an exit and a state. -/
abbrev Kont (α : Type) := Ex → A → α
def thenK {α : Type} (k : A → α) (K : Kont α) : Kont α
  | .normal, s => k s
  | e, s => K e s
def blockK {α : Type} (id : Nat) (K : Kont α) : Kont α
  | .exit j, s => bif Nat.beq id j then K .normal s else K (.exit j) s
  | e, s => K e s
def loopK {ρ : Type} (body : A → Kont (Option ρ) → Option ρ) (scr : A → A) : Nat → A → Kont (Option ρ) → Option ρ
  | 0, _, _ => none
  | n + 1, s, K => body s (thenK (fun s' => loopK body scr n (scr s') K) K)
/-- what tests, branches, loops and results come to. -/
structure Br (ρ α : Type) where
  fail : α
  chk : Bool → α → α
  ite : Bool → α → α → α
  loop : (A → Kont α → α) → (A → A) → Nat → A → Kont α → α
  ret : ρ → α
  join : Nat → (A → α) → A → α
  step : (A → α) → A → α
def std {ρ : Type} : Br ρ (Option ρ) := ⟨none, chk, fun c a b => bif c then a else b, loopK, some, fun _ k s => k s, fun k s => k s⟩

/-- the temporary is one of the frame's, and not the guard's. -/
def okDst (dst : Option Nat) (g : Guard) : Bool := match dst with
  | some d => Nat.blt d C.n && Nat.blt d 1000 && (match g with | some (t, _) => !Nat.beq t d | none => true)
  | none => true
def evOp1 {ρ α : Type} (B : Br ρ α) (ops : List Oper) (o : Oper) (s : A) (K : A → α) : α :=
  match guardOf ops o with
  | none => B.fail
  | some g =>
    let gs := ups s 9 g
    let gl := gconds s 9 g
    bif okDst C o.dst g then match effOp C o s (fun more ty x => opd s (more ++ gs) ty x) g.isSome with
    | .fail => B.fail
    | .val c t => bif t.bare then B.chk (orG c gl) (K (s.set o.dst (wrapG g t))) else B.fail
    | .chg c k b t => bif g.isSome || !t.bare then B.fail else B.chk c (K ((⟨s.tm, put s.ob k b⟩ : A).set o.dst t))
    | .mk c d b t => bif g.isSome then B.fail else B.chk c (K ((s.new d b).set o.dst t))
    | .mv c d k b t => bif g.isSome then B.fail else B.chk c (K (((⟨s.tm, drop k s.ob⟩ : A).new d b).set o.dst t))
    | .st c s' t => bif g.isSome then B.fail else B.chk c (K (s'.set o.dst t))
    | .ans c r ok nf => B.chk (orG (ok r && c) gl) (K (s.set o.dst (wrapG g (.d (nf r)))))
    else B.fail

/-- rows that a call is handed, and that its result may lead to, are plain data from there on. -/
def A.preCall (s : A) (o : Oper) : A := match o.op with
  | .call c => match c.callee with
    | .value (.func _) => bif scalarR C (C.ty o.type) then s else s.stowAll (vecsOf (c.args.toList.map (opd s [] .oth)))
    | .builtin .append => match c.args.toList with
      | x :: _ => match opd s [] .oth x with | .vec k => s.close k | _ => s
      | _ => s
    | _ => s
  | _ => s
def memN (l : List Nat) (i : Nat) : Bool := l.any (Nat.beq i)
def T.site : T → List Nat
  | .ptr j _ | .ptrA j _ _ _ _ _ | .vec j | .vptr j _ _ _ | .sd j => [j]
  | .g _ _ t => t.site
  | _ => []
def Ob.site (o : Ob) : List Nat := o.ts.flatMap T.site
/-- the names that are led to, in order. -/
def reach : Nat → List (Nat × Ob) → List Nat → List Nat → List Nat
  | 0, _, _, acc => acc
  | _ + 1, _, [], acc => acc
  | n + 1, ob, k :: r, acc => bif memN acc k then reach n ob r acc else match look ob k with
    | some o => reach n ob (r ++ o.site) (acc ++ [k])
    | none => reach n ob r acc
def pos : List Nat → Nat → Nat → Option Nat
  | [], _, _ => none
  | x :: r, k, i => bif Nat.beq x k then some i else pos r k (i + 1)
/-- other names; what isn't named is forgotten. -/
def T.mapN (f : Nat → Option Nat) : T → T
  | .ptr k o => match f k with | some j => .ptr j o | none => .undef
  | .ptrA k off len sz i o => match f k with | some j => .ptrA j off len sz i o | none => .undef
  | .vec k => match f k with | some j => .vec j | none => .undef
  | .sd k => match f k with | some j => .sd j | none => .undef
  | .vptr k sz i o => match f k with | some j => .vptr j sz i o | none => .undef
  | .g _ _ _ => .undef
  | t => t
def Ob.mapN (f : Nat → Option Nat) (o : Ob) : Ob := o.mapT (T.mapN f)
/-- what leads to one of these is forgotten. -/
def T.killL (l : List Nat) (t : T) : T := bif l.any (fun k => t.refs k) then .undef else t
def Ob.killL (l : List Nat) (o : Ob) : Ob := o.mapT (T.killL l)
/-- the name that a thing has for who is called. -/
def inName (L : List Nat) (k : Nat) : Option Nat := match pos L k 0 with | some i => some (HB + i) | none => none
def inObs (ob : List (Nat × Ob)) (L : List Nat) : Nat → List Nat → List (Nat × Ob)
  | _, [] => []
  | i, k :: r => match look ob k with
    | some o => (HB + i, o.mapN (inName L)) :: inObs ob L (i + 1) r
    | none => inObs ob L (i + 1) r
def backName (L : List Nat) (d : Nat) (keys : List Nat) (k : Nat) : Option Nat :=
  bif Nat.ble HB k then L[k - HB]? else bif Nat.blt k 1024 && memN keys k then some ((d + 1) * 1024 + k) else none
def newNames (d : Nat) (keys : List Nat) : List Nat := (keys.filter (fun k => Nat.blt k 1024)).map fun k => (d + 1) * 1024 + k
def backObs (g : Nat → Option Nat) : List (Nat × Ob) → List (Nat × Ob) → List (Nat × Ob)
  | [], l => l
  | (k, o) :: r, l => match g k with
    | some j => (j, o.mapN g) :: backObs g r l
    | none => backObs g r l
/-- the state behind such a call. -/
def A.after (s : A) (L : List Nat) (d : Nat) (obr : List (Nat × Ob)) : A :=
  let keys := obr.map (·.1)
  let nw := newNames d keys
  ⟨s.tm.map fun p => (p.1, p.2.killL nw), backObs (backName L d keys) obr ((s.ob.filter fun p => !memN L p.1).map fun p => (p.1, p.2.killL nw))⟩
def hcallOf (o : Oper) : Option (HSpc × List Operand) := match o.op with
  | .call c => match c.callee with
    | .value (.func f) => match C.hcall f with
      | some hs => some (hs, c.args.toList)
      | none => none
    | _ => none
  | _ => none
def HTree.fold {ρ α : Type} (B : Br ρ α) (K : T → List (Nat × Ob) → α) : HTree → α
  | .fail => B.fail
  | .chk c k => B.chk c (k.fold B K)
  | .ite c a b => B.ite c (a.fold B K) (b.fold B K)
  | .ret t ob => K t ob
/-- A CALL THAT IS HANDED THINGS. -/
def evH1 {ρ α : Type} (B : Br ρ α) (o : Oper) (hs : HSpc) (args : List Operand) (s : A) (K : A → α) : α :=
  let ts := args.map (opd s [] .oth)
  let L := reach 1000 s.ob (ts.flatMap T.site) []
  let d := match o.dst with | some d => d | none => 499
  bif o.guard.isSome || !okDst C o.dst none|| !Nat.blt d 500 then B.fail else
  (hs (ts.map (T.mapN (inName L))) (inObs s.ob L 0 L)).fold B fun t obr =>
    bif (newNames d (obr.map (·.1))).any (fun k => (match look s.ob k with | some _ => true | none => false)) || !t.bare then B.fail else
    K ((s.after L d obr).set o.dst (t.mapN (backName L d (obr.map (·.1)))))
def evOp {ρ α : Type} (B : Br ρ α) (ops : List Oper) (o : Oper) (s : A) (K : A → α) : α := match hcallOf C o with
  | some (hs, args) => evH1 C B o hs args s K
  | none => evOp1 C B ops o (s.preCall C o) K
def evOps {ρ α : Type} (B : Br ρ α) (ops : List Oper) : List Oper → A → (A → α) → α
  | [], s, K => K s
  | o :: r, s, K => evOp C B ops o s fun s' => B.step (fun s'' => evOps B ops r s'' K) s'

/-! A region that draws its order: its operations are run in the order of the text, each on just what it looks at, and a log is kept of what each looks at and writes: what is not ordered may not meet. -/
structure Lg where
  rt : List Nat
  gt : List Nat
  ro : List Nat
  wt : Option (Nat × T)
  wo : List (Nat × Option Ob)
  made : List Nat
  below : List Nat
def opnds : Op → List Operand
  | .move x | .assign x | .box _ x | .load _ x | .nilCheck x | .unOp _ _ x | .convert _ _ x | .fieldAddr _ x _ | .field _ x _ | .extract x _ => [x]
  | .pick c a b => [c, a, b]
  | .build _ ps | .buildSlice _ _ ps => ps.toList.map (·.2)
  | .store _ a v | .binOp _ _ a v _ | .makeSlice _ a v | .indexAddr _ a v | .index _ a v | .lookup _ a v _ => [a, v]
  | .mapUpdate _ m y v => [m, y, v]
  | .slice _ x l h _ => x :: (l.toList ++ h.toList)
  | .call c => c.args.toList
  | _ => []
def tmpsOf : List Operand → List Nat
  | [] => []
  | .tmp t :: r => t :: tmpsOf r
  | _ :: r => tmpsOf r
def sitesOf (s : A) : List Nat → List Nat
  | [] => []
  | t :: r => (match look s.tm t with | some x => x.site | none => []) ++ sitesOf s r
def bindsB : Ground → Bool
  | .textOnly _ | .gcOnly _ => false
  | _ => true
def isMaker : Op → Bool
  | .alloc _ | .box _ _ | .buildSlice _ _ _ | .makeSlice _ _ _ | .makeMap _ _ | .convert _ _ _ => true
  | .call c => match c.callee with | .builtin .append => true | .value (.func _) => true | _ => false
  | _ => false
/-- at the head: no guard, no thing is left of what the region writes. -/
def preD (s : A) : List Oper → A
  | [] => s
  | o :: r => match o.dst with
    | some d => let s' : A := ⟨dropG d s.tm, s.ob⟩
      preD (bif isMaker o.op then s'.kill d else s') r
    | none => preD s r
def addN (x : Nat) (l : List Nat) : List Nat := bif memN l x then l else x :: l
def unionN : List Nat → List Nat → List Nat
  | [], b => b
  | x :: a, b => unionN a (addN x b)
/-- the entries at the places that are named, and what these are ordered behind. -/
def belowOf (lg : List Lg) : List Edge → List Nat
  | [] => []
  | e :: r => bif bindsB e.ground then addN e.on (unionN (match lg[e.on]? with | some x => x.below | none => []) (belowOf lg r)) else belowOf lg r
/-- things are written; 'none': no more. -/
def appW (l : List (Nat × Ob)) : List (Nat × Option Ob) → List (Nat × Ob)
  | [] => l
  | (k, some o) :: r => put (appW l r) k o
  | (k, none) :: r => drop k (appW l r)
def Lg.ks (e : Lg) : List Nat := e.wo.map (·.1)
def Lg.app (s : A) (e : Lg) : A := ⟨match e.wt with | some (d, t) => put s.tm d t | none => s.tm, appW s.ob e.wo⟩
def fstN {α : Type} : Option (Nat × α) → List Nat
  | some p => [p.1]
  | none => []
def meets (a b : List Nat) : Bool := a.any (memN b)
/-- entry x (an earlier one) and the new entry e. -/
def okPair (x : Lg) (j : Nat) (e : Lg) : Bool :=
  !meets (fstN x.wt) (fstN e.wt) && !meets (fstN e.wt) x.gt && !(meets e.made x.ro || meets e.made x.ks) &&
  (memN e.below j || (!meets (fstN x.wt) e.rt && !meets (fstN e.wt) x.rt && !meets x.ks e.ro && !meets e.ks x.ro && !meets x.ks e.ks))
def okAll (e : Lg) : Nat → List Lg → Bool
  | _, [] => true
  | j, x :: r => okPair x j e && okAll e (j + 1) r
def okEdges (i : Nat) : List Edge → Bool
  | [] => true
  | e :: r => (!bindsB e.ground || Nat.blt e.on i) && okEdges i r

def A.pickOut (s : A) (ts ks : List Nat) : A :=
  ⟨ts.filterMap fun t => (look s.tm t).map fun x => (t, x), ks.filterMap fun k => (look s.ob k).map fun x => (k, x)⟩

/-- one operation of such a region, at what it looks at: its log entry. -/
def entryD1 {ρ α : Type} (B : Br ρ α) (o : Oper) (g : Guard) (rt gt ro bel : List Nat) (v : A) (K : Lg → α) : α :=
  let gs := ups v 9 g
  let gl := gconds v 9 g
  let w (t : T) : Option (Nat × T) := match o.dst with | some d => some (d, t) | none => none
  bif okDst C o.dst g && (match g with | some p => memN gt p.1 | none => true) then match effOp C o v (fun more ty x => opd v (more ++ gs) ty x) g.isSome with
    | .val c t => bif t.bare then B.chk (orG c gl) (K ⟨rt, gt, t.site ++ ro, w (wrapG g t), [], [], bel⟩) else B.fail
    | .chg c k b t => bif g.isSome || !t.bare then B.fail else B.chk c (K ⟨rt, gt, t.site ++ (b.site ++ ro), w t, [(k, some b)], [], bel⟩)
    | .mk c d b t => bif g.isSome || !t.bare || !isMaker o.op || !Nat.beq d (o.dst.getD (d + 1)) then B.fail else B.chk c (K ⟨rt, gt, t.site ++ (b.site ++ ro), w t, [(d, some b)], [d], bel⟩)
    | .mv c d k b t => bif g.isSome || !t.bare || !isMaker o.op || !Nat.beq d (o.dst.getD (d + 1)) then B.fail else B.chk c (K ⟨rt, gt, t.site ++ (b.site ++ ro), w t, [(d, some b), (k, none)], [d], bel⟩)
    | .ans c r ok nf => B.chk (orG (ok r && c) gl) (K ⟨rt, gt, ro, w (wrapG g (.d (nf r))), [], [], bel⟩)
    | _ => B.fail
  else B.fail
/-- rows that a call made. -/
def ownRes : T → List (Nat × Ob) → Option (Nat × Nat × Nat × List D)
  | .vec k, [(k', .vec e sz xs)] => bif Nat.beq k k' && Nat.blt k HB then some (k, e, sz, xs) else none
  | _, _ => none
def T.isD : T → Bool
  | .d _ => true
  | _ => false
/-- a call whose result the callee made. -/
def entryH {ρ α : Type} (B : Br ρ α) (o : Oper) (hs : HSpc) (args : List Operand) (g : Guard) (rt gt ro bel : List Nat) (v : A) (K : Lg → α) : α :=
  let ts := args.map (opd v [] .oth)
  match o.dst with
  | some d => bif g.isSome || !okDst C o.dst g || !ts.all T.isD then B.fail else
    (hs ts []).fold B fun t obr => match ownRes t obr with
      | some (_, e, sz, xs) => K ⟨rt, gt, d :: ro, some (d, .vec d), [(d, some (.vec e sz xs))], [d], bel⟩
      | none => B.fail
  | none => B.fail
def entryD {ρ α : Type} (B : Br ρ α) (o : Oper) (g : Guard) (rt gt ro bel : List Nat) (v : A) (K : Lg → α) : α := match hcallOf C o with
  | some (hs, args) => entryH C B o hs args g rt gt ro bel v K
  | none => entryD1 C B o g rt gt ro bel v K

def gtmps (s : A) (g : Guard) : List Nat := (ups s 9 g).map (·.1)

def evDrawn {ρ α : Type} (B : Br ρ α) (ops : List Oper) : List Oper → Nat → List Lg → A → (A → α) → α
  | [], _, _, s, K => K s
  | o :: r, i, lg, s, K => match guardOf ops o with
    | none => B.fail
    | some g =>
      let gt := gtmps s g
      let rt := tmpsOf (opnds o.op) ++ gt
      let ro := sitesOf s rt
      entryD C B o g rt gt ro (belowOf lg o.after.toList) (s.pickOut rt ro) fun e => bif okAll e 0 lg && okEdges i o.after.toList then B.step (fun s'' => evDrawn B ops r (i + 1) (lg ++ [e]) s'' K) (e.app s) else B.fail
/-- behind a region only what other regions use is kept. -/
def A.keep (l : List Nat) (s : A) : A := ⟨s.tm.filter fun p => l.any (Nat.beq p.1), s.ob⟩

/-- the state at a loop's head, in form: what lives there, in order. -/
def A.headVec (s : A) (t : Nat) (e sz : Nat) : A := match look s.tm t with
  | some (.nils _) => let s' := s.new t (.vec e sz []); s'.set (some t) (.vec t)
  | some (.vec k) => bif Nat.beq k t then s else match look (s.kill t).ob k with
    | some (.vec e' sz' xs) => (s.kill t).ren k t (.vec e' sz' xs)
    | some (.vecO e' sz' xs cs) => (s.kill t).ren k t ((Ob.vecO e' sz' xs cs).ren k t)
    | _ => s
  | _ => s
/-- the name that rows in cell i of the box k have at a loop's head. -/
def cellName (k i : Nat) : Nat := 600000 + (k % 1024 + (bif Nat.ble HB k then 2048 else 0)) * 64 + i % 64
/-- cell i of the box k holds rows: in form. -/
def A.headCell (s : A) (k i e sz : Nat) : A := let j := cellName k i; match look s.ob k with
  | some (.box bt cs) => match cs[i]? with
    | some (.nils _) => bif Nat.beq k j then s else match look (s.new j (.vec e sz [])).ob k with
      | some (.box bt cs') => (match cs'[i]? with
        | some (.nils _) => ⟨(s.new j (.vec e sz [])).tm, put (s.new j (.vec e sz [])).ob k (.box bt (over cs' i [.vec j]))⟩
        | _ => s)
      | _ => s
    | some (.vec x) => bif Nat.beq x j then s else match look (s.kill j).ob x with
      | some (.vec e' sz' xs) => (s.kill j).ren x j (.vec e' sz' xs)
      | _ => s
    | _ => s
  | some (.vecO _ _ _ cs) => match cs[i]? with
    | some (.nils _) => bif Nat.beq k j then s else match look (s.new j (.vec e sz [])).ob k with
      | some (.vecO e' sz' xs' cs') => (match cs'[i]? with
        | some (.nils _) => ⟨(s.new j (.vec e sz [])).tm, put (s.new j (.vec e sz [])).ob k (.vecO e' sz' xs' (over cs' i [.vec j]))⟩
        | _ => s)
      | _ => s
    | some (.vec x) => bif Nat.beq x j then s else match look (s.kill j).ob x with
      | some (.vec e' sz' xs) => (s.kill j).ren x j (.vec e' sz' xs)
      | _ => s
    | _ => s
  | _ => s
def A.heads (s : A) : List (Nat × Nat) → A
  | [] => s
  | (t, e) :: r => (match C.ty e with | .sl el sz => bif Nat.blt t 1000 then s.headVec t el sz else s.headCell (t % 2097152) (t / 2097152 - 1) el sz | _ => s).heads r
def firstRegion : Code → Nat
  | .region id _ _ => id
  | .seq a b => match a with | .skip => firstRegion b | _ => firstRegion a
  | .block _ c => firstRegion c
  | .cond _ a _ => firstRegion a
  | .scope c => firstRegion c
  | .loop c => firstRegion c
  | _ => 0


def A.scrub (s : A) (l : List Nat × List (Nat × Nat) × List Nat) : A := (s.heads C l.2.1).pickOut l.1 l.2.2

/-- a branch's key. -/
def joinId (c : Operand) (a b : Code) : Nat := match c with | .tmp t => t * 1048576 + firstRegion a * 1024 + firstRegion b | _ => 0
/-- what follows a branch that falls through on both sides: at the state in form. -/
def joinK {ρ α : Type} (B : Br ρ α) (id : Nat) (l : Option (List Nat × List Nat)) (K : Kont α) : Kont α := match l with
  | none => K
  | some l => fun e s => match e with
    | .normal => B.join id (fun s' => K .normal s') (s.pickOut l.1 l.2)
    | .ret => K .ret s
    | .exit i => K (.exit i) s

def isCallV (o : Oper) : Bool := match o.op with
  | .call c => match c.callee with | .value (.func _) => true | _ => false
  | _ => false
def isIdx (o : Oper) : Bool := match o.op with
  | .indexAddr _ _ _ => true
  | _ => false
/-- rows that are handed on in a region that draws, and calls: plain data from its head on. -/
def A.stowD (s : A) (ops : List Oper) : A := bif ops.any isCallV && !ops.any isIdx then s.stowAll (vecsOf (ops.flatMap fun o => match o.op with | .move x | .assign x => [opd s [] .oth x] | _ => [])) else s
/-- CODE. -/
def evK {ρ α : Type} (B : Br ρ α) (fuel : Nat) : Code → A → Kont α → α
  | .skip, s, K => K .normal s
  | .region _ ops drawn, s, K => match drawn with
    | false => evOps C B ops.toList ops.toList s fun s' => K .normal (s'.keep C.glob)
    | true => evDrawn C B ops.toList ops.toList 0 [] (preD (s.stowD ops.toList) ops.toList) fun s' => K .normal (s'.keep C.glob)
  | .seq a b, s, K => evK B fuel a s (thenK (fun s' => evK B fuel b s' K) K)
  | .cond c a b, s, K => match opd s [] .bool c with
    | .d (.bool x) => B.ite x (evK B fuel a s (joinK B (joinId c a b) (C.join (joinId c a b)) K)) (evK B fuel b s (joinK B (joinId c a b) (C.join (joinId c a b)) K))
    | _ => B.fail
  | .block id c, s, K => evK B fuel c s (blockK id K)
  | .loop c, s, K => B.loop (fun s' K' => evK B fuel c s' K') (fun s' => s'.scrub C (C.live (firstRegion c))) fuel (s.scrub C (C.live (firstRegion c))) K
  | .ret, s, K => K .ret s
  | .exit id, s, K => K (.exit id) s
  | _, _, _ => B.fail

/-- the cells of a result that lies in a box. -/
def cellCs (s : A) (t ty : Nat) : Option (List T) := match look s.tm t with
  | some (.ptr k off) => match look s.ob k with
    | some (.box bt cs) => some ((cs.drop off).take (C.ty ty).n)
    | _ => none
  | _ => none
def cellD (s : A) (ty : Ty) (cs : List T) : Option D := match allData s cs with
  | some ds => bif Nat.beq ds.length ty.n then (match ty.isAgg with
    | true => some (.agg ds)
    | false => match ds with
      | [d] => bif okD ty d then some d else none
      | _ => none) else none
  | none => none
/-- a function's results. -/
def resD (s : A) : List ResultVar → Option (List D)
  | [] => some []
  | .tmp t :: r => match (match look s.tm t with | some x => x.data s | none => none), resD s r with | some d, some ds => some (d :: ds) | _, _ => none
  | .cell t ty :: r => match (match cellCs C s t ty with | some cs => cellD s (C.ty ty) cs | none => none), resD s r with | some d, some ds => some (d :: ds) | _, _ => none
/-- the sites whose rows are results. -/
def resK (s : A) : List ResultVar → List Nat
  | [] => []
  | .tmp t :: r => (match look s.tm t with | some (.vec k) => [k] | _ => []) ++ resK s r
  | .cell t ty :: r => (match cellCs C s t ty with | some cs => vecsOf cs | none => []) ++ resK s r
def tupD : List D → D
  | [d] => d
  | ds => .tup ds
def argT : Nat → List D → List (Nat × T)
  | _, [] => []
  | i, d :: r => (i, .d d) :: argT (i + 1) r
/-- results whose last row is open: plain data. -/
def A.closeR (s : A) : List ResultVar → A
  | [] => s
  | .tmp t :: r => (match look s.tm t with | some (.vec k) => s.close k | _ => s).closeR r
  | _ :: r => s.closeR r
/-- A FUNCTION RUN OVER DATA. -/
def endK {α : Type} (B : Br D α) (fn : Func) : Kont α := fun e s => match e with
  | .exit _ => B.fail
  | _ => match resD C (s.closeR fn.results.toList) fn.results.toList with | some ds => B.ret (tupD ds) | none => B.fail
def evF {α : Type} (B : Br D α) (fuel : Nat) (fn : Func) (args : List D) : α :=
  match fn.body with
  | some c => bif Nat.beq args.length fn.params.size && Nat.ble C.n fn.ntmps then evK C B fuel c ⟨argT 0 args, []⟩ (endK C B fn) else B.fail
  | none => B.fail

/-! a function that is handed things -/
def argTT : Nat → List T → List (Nat × T)
  | _, [] => []
  | i, t :: r => (i, t) :: argTT (i + 1) r
def resH (s : A) : List ResultVar → Option (T × A)
  | [] => some (.d (.tup []), s)
  | [.tmp t] => match look s.tm t with
    | some x => bif x.bare then some (x, s) else none
    | none => none
  | rs => match resD C s rs with
    | some ds => some (.d (tupD ds), s.stowAll (resK C s rs))
    | none => none
def pickObs (f : Nat → Option Nat) (ob : List (Nat × Ob)) : List Nat → List (Nat × Ob)
  | [] => []
  | k :: r => match look ob k, f k with
    | some o, some j => (j, o.mapN f) :: pickObs f ob r
    | _, _ => pickObs f ob r
def outName (L : List Nat) (k : Nat) : Option Nat := bif Nat.ble HB k then some k else match pos (L.filter fun k => Nat.blt k HB) k 0 with
  | some i => bif Nat.blt i 1024 then some i else none
  | none => none
/-- what is returned, and the things it and the arguments lead to, under their names for who called. -/
def outH (m : Nat) (t : T) (ob : List (Nat × Ob)) : T × List (Nat × Ob) :=
  let L := reach 1000 ob (upto m HB ++ t.site) []
  (t.mapN (outName L), pickObs (outName L) ob L)
def endH {α : Type} (B : Br (T × List (Nat × Ob)) α) (m : Nat) (fn : Func) : Kont α := fun e s => match e with
  | .exit _ => B.fail
  | _ => match resH C s fn.results.toList with | some (t, s') => B.ret (outH m t s'.ob) | none => B.fail
def evHF {α : Type} (B : Br (T × List (Nat × Ob)) α) (fuel : Nat) (fn : Func) (ts : List T) (ob : List (Nat × Ob)) : α :=
  match fn.body with
  | some c => bif Nat.beq ts.length fn.params.size && Nat.ble C.n fn.ntmps then evK C B fuel c ⟨argTT 0 ts, ob⟩ (endH C B ob.length fn) else B.fail
  | none => B.fail

/-- what the program says of a type. -/
def tyOf (P : Program) (t : TypeId) : Ty :=
  let n (u : TypeId) : Nat := ((P.info? u).map (·.size)).getD 0
  let one (x : Ty) : Ty := bif Nat.beq (n t) 1 then x else .oth
  match P.underlying t with
  | some .bool => one .bool
  | some (.int k) => one (.int k)
  | some .string => one .str
  | some (.slice e) => one (.sl e (n e))
  | some (.struct fs) => .st (n t) (fs.toList.map fun f => (f.type, f.offset))
  | some (.array len e) => .arr (n t) len e (n e)
  | some (.pointer e) => one (.ptr e)
  | some .unsafePointer => one .uptr
  | some (.tuple ts) => .tup ts.toList
  | _ => .oth

/-- a struct of ints, one a cell, that may be compared. -/
def eqOkP (P : Program) (t : TypeId) : Bool :=
  match P.underlying t with
  | some (.struct fs) => !P.stoodInHeld t && !P.eqGuardType P.depth t && Nat.beq (P.cellsOf t) fs.toList.length && Nat.blt 0 fs.toList.length &&
      ((upto fs.toList.length 0).all fun i => match fs.toList[i]? with
        | some f => Nat.beq f.offset i && !decide (f.name = "_") && (match P.underlying f.type with | some (.int .i64) => true | _ => false)
        | none => false)
  | _ => false

def setOkP (P : Program) (t : TypeId) : Bool := match P.underlying t with
  | some (.map k e) => (match P.underlying k with | some .string => true | _ => false) && (match P.info? e with | some i => (match i.zero with | some (.bool false) => true | _ => false) | none => false)
  | _ => false

def byteOk (P : Program) (t : TypeId) : Bool := match P.info? t with
  | some i => (match i.zero with | some (.int .u8 m) => decide (m = 0) | _ => false) && Nat.beq i.size 1 && Nat.beq i.bytes 1
  | none => false
/-- a thing of the type may be turned back from an unsafe pointer. -/
def selfOk (P : Program) (t : TypeId) : Bool := liesAt P P.depth t ((tyOf P t).n / P.cellsOf t) 0 t 1

/-- the cells of a type's zero value -/
def zeroOf (P : Program) (t : TypeId) : List Value := match P.info? t with
  | some i => match i.zero with | some z => z.cells.toList | none => []
  | none => []

end Go.Ev
