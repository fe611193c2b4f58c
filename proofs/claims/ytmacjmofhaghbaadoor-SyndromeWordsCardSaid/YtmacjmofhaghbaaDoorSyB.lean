/-
  A symbolic evaluator for the model's code: symbolic values, blocks, states; what one operation does.
-/
import Derived.Test.YtmacjmofhaghbaaDoorSyA
import GoSem.Dispatch
import Derived.Still
noncomputable section
namespace Go.Proofs.YtmacjmofhaghbaaDoor.Sy
open Go

inductive B where
  | new (i : Nat)
  | old (i : Nat)
  | glob (g : Nat)

inductive V where
  | lit (v : Value)
  | bool (e : E)
  | int (k : IntKind) (e : E)
  | ptr (b : B) (o : Nat)
  | dptr (b : B) (base : Nat) (idx : E) (stride sub : Nat)
  | slice (b : B) (o : Nat) (len cap : E)
  | map (b : B)
  | func (fn : Fn) (first captured : List V)
  | agg (l : List V)
  | tup (l : List V)
  | opt (g : E) (v : V)
  | hole (j : Nat)
  | str (es : List E)

def V.un : V := .lit undef

def beqB : B → B → Bool
  | .new i, .new j => Nat.beq i j
  | .old i, .old j => Nat.beq i j
  | .glob i, .glob j => Nat.beq i j
  | _, _ => false

def beqFn : Fn → Fn → Bool
  | .func f, .func g => Nat.beq f g
  | _, _ => false

/-- Surely one kind of constant without parts? -/
def beqLit : Value → Value → Bool
  | .pointer none, .pointer none => true
  | .slice none 0 0, .slice none 0 0 => true
  | .map none, .map none => true
  | .nilFunc, .nilFunc => true
  | .nilIface, .nilIface => true
  | .tuple a, .tuple b => Nat.beq a.size 0 && Nat.beq b.size 0
  | _, _ => false

def beqEs : List E → List E → Bool
  | [], l => match l with | [] => true | _ => false
  | a :: l, l' => match l' with | b :: m => a.beq b && beqEs l m | [] => false
mutual
def V.beq : V → V → Bool
  | .lit a, w => match w with | .lit b => beqLit a b | _ => false
  | .bool e, w => match w with | .bool e' => e.beq e' | _ => false
  | .int k e, w => match w with | .int k' e' => keq k k' && e.beq e' | _ => false
  | .ptr b o, w => match w with | .ptr b' o' => beqB b b' && Nat.beq o o' | _ => false
  | .dptr b o i s u, w => match w with | .dptr b' o' i' s' u' => beqB b b' && Nat.beq o o' && i.beq i' && Nat.beq s s' && Nat.beq u u' | _ => false
  | .slice b o l c, w => match w with | .slice b' o' l' c' => beqB b b' && Nat.beq o o' && l.beq l' && c.beq c' | _ => false
  | .map b, w => match w with | .map b' => beqB b b' | _ => false
  | .func fn a c, w => match w with | .func fn' a' c' => beqFn fn fn' && V.beqs a a' && V.beqs c c' | _ => false
  | .agg l, w => match w with | .agg l' => V.beqs l l' | _ => false
  | .tup l, w => match w with | .tup l' => V.beqs l l' | _ => false
  | .opt _ _, _ => false
  | .hole _, _ => false
  | .str a, w => match w with | .str b => beqEs a b | _ => false
def V.beqs : List V → List V → Bool
  | [], l => match l with | [] => true | _ => false
  | a :: l, l' => match l' with | b :: m => V.beq a b && V.beqs l m | [] => false
end

def ofCell : Value → V
  | .bool b => .bool (b2e b)
  | .int k n => .int k (.lit n)
  | .string s => .str (s.data.toList.map fun b => .lit (b.toNat : Nat))
  | v => .lit v
def ofValue : Value → V
  | .agg cs => .agg (cs.toList.map ofCell)
  | .func fn f c => match f.toList, c.toList with | [], [] => .func fn [] [] | _, _ => .lit (.func fn f c)
  | v => ofCell v

/-- A value that is there if a test comes out so, under what is known. -/
def V.strip (pc : PC) : V → V
  | .opt g v => match pc.tell g with
    | some true => V.strip pc v
    | some false => .un
    | none => .opt g v
  | v => v

/-- The cells of a value. -/
def V.cells : V → List V
  | .agg l => l
  | v => [v]
/-- One cell? -/
def V.one : V → Bool
  | .agg _ | .tup _ | .opt _ _ | .hole _ => false
  | .lit (.agg _) | .lit (.tuple _) => false
  | _ => true

/-- A block: not known; cells, the first ones known (tot: none: these are all; else: of how many elements it is, and of how many cells one is); a map. -/
inductive Blk where
  | none
  | cells (cs : List V) (elem : TypeId) (tot : Option (E × Nat))
  | map (es : List (V × V × Nat)) (clock : Nat)

/-- 'globs': package variables that hold numbers, and are not written. -/
structure St where
  nn : Nat
  news : T Blk
  olds : List (Nat × Blk)
  dr : Nat
  pc : PC
  globs : List (Nat × List Value)

def lookO (i : Nat) : List (Nat × Blk) → Blk
  | [] => .none
  | p :: l => ift (Nat.beq p.1 i) (p.2) <| lookO i l
def setO (i : Nat) (b : Blk) : List (Nat × Blk) → List (Nat × Blk)
  | [] => []
  | p :: l => ift (Nat.beq p.1 i) ((i, b) :: l) <| p :: setO i b l

def St.blk (st : St) : B → Blk
  | .new i => ift (Nat.blt i st.nn) (st.news.get .none i) <| .none
  | .old i => lookO i st.olds
  | .glob _ => .none
def lookG (g : Nat) : List (Nat × List Value) → Blk
  | [] => .none
  | p :: l => ift (Nat.beq p.1 g) (.cells (p.2.map ofCell) 0 none) <| lookG g l
/-- What is read of a block. -/
def St.look (st : St) : B → Blk
  | .glob g => lookG g st.globs
  | .new i => st.blk (.new i)
  | .old i => st.blk (.old i)
def sameVs : List Value → List Value → Bool
  | [], l => match l with | [] => true | _ => false
  | a :: l, l' => match l' with
    | b :: m => (match a with | .int k x => (match b with | .int k' y => keq k k' && ieq x y | _ => false) | _ => false) && sameVs l m
    | [] => false
def sameGs : List (Nat × List Value) → List (Nat × List Value) → Bool
  | [], l => match l with | [] => true | _ => false
  | p :: l, l' => match l' with | q :: m => Nat.beq p.1 q.1 && sameVs p.2 q.2 && sameGs l m | [] => false
def St.upd (st : St) (b : B) (x : Blk) : St := match b with
  | .new i => { st with news := st.news.set i x }
  | .old i => { st with olds := setO i x st.olds }
  | .glob _ => st
def St.alloc (st : St) (x : Blk) : St := { st with nn := st.nn + 1, news := st.news.set st.nn x }
def St.allocD (st : St) (x : Blk) : St := { st with nn := st.nn + 1, news := st.news.set st.nn x, dr := st.dr + 1 }
def St.know (st : St) (pc : PC) : St := { st with pc := pc }

/-- n places from place o on; none: not all are there. -/
def sub {α : Type} : List α → Nat → Nat → Option (List α)
  | l, 0, n => go l n
  | [], _ + 1, _ => none
  | _ :: l, o + 1, n => sub l o n
where
  go : List α → Nat → Option (List α)
    | _, 0 => some []
    | [], _ + 1 => none
    | a :: l, n + 1 => match go l n with | some m => some (a :: m) | none => none

/-- The row with 'vs' from place o on; none: they do not fit. -/
def splice {α : Type} : List α → Nat → List α → Option (List α)
  | cs, 0, vs => go cs vs
  | [], _ + 1, _ => none
  | c :: cs, o + 1, vs => match splice cs o vs with | some m => some (c :: m) | none => none
where
  go : List α → List α → Option (List α)
    | cs, [] => some cs
    | [], _ :: _ => none
    | _ :: cs, v :: vs => match go cs vs with | some m => some (v :: m) | none => none

/-- What an operation comes to. -/
inductive R where
  | val (v : V)
  | new (v : V) (b : Blk)
  | newD (v : V) (b : Blk)      -- with a draw
  | upd (v : V) (b : B) (x : Blk)
  | need (q : E)
  | call (f : FuncId) (args : List V)
  | fail (n : Nat)

def sizeT (P : Program) (t : TypeId) : Option Nat := match P.info? t with | some i => some i.size | none => none
def bytesT (P : Program) (t : TypeId) : Option Nat := match P.info? t with | some i => some i.bytes | none => none
def smallT (P : Program) (t : TypeId) : Bool := match bytesT P t with | some n => Nat.ble n 1000000 | none => false
def aggD : TypeDesc → Bool
  | .struct _ | .array _ _ => true
  | _ => false
/-- A part of a row of cells, as a value of a type. -/
def partV (P : Program) (t : TypeId) (cs : List V) (off : Nat) : Option V :=
  match P.underlying t with
  | none => none
  | some d => ift (aggD d) ((match sizeT P t with
      | some n => match sub cs off n with | some l => some (.agg l) | none => none
      | none => none)
   ) <| cs[off]?
def zeroT (P : Program) (t : TypeId) : Option V := match P.info? t with
  | some i => match i.zero with | some z => some (ofValue z) | none => none
  | none => none

/-- The numbers of a row at places base, base + stride .., 'n' of them. -/
def strided {α : Type} (cs : List α) (stride : Nat) : Nat → Nat → List α
  | _, 0 => []
  | base, n + 1 => match cs[base]? with | some c => c :: strided cs stride (base + stride) n | none => []

/-- All one kind of number? Their expressions. -/
def intsOf (k : IntKind) : List V → Option (List E)
  | [] => some []
  | .int k' e :: l => ift (keq k k') ((match intsOf k l with | some m => some (e :: m) | none => none)) <| none
  | _ :: _ => none
def boolsOf : List V → Option (List E)
  | [] => some []
  | .bool e :: l => match boolsOf l with | some m => some (e :: m) | none => none
  | _ :: _ => none
/-- Surely not the one behind? -/
def noRest (pc : PC) (idx : E) (j : Nat) : List E → Bool
  | [] => match pc.tell (.eq idx (.lit (j + 1 : Nat))) with
    | some false => true
    | _ => false
  | _ => false
/-- A choice, made anew where a number is j. -/
def atE (pc : PC) (idx : E) (j : Nat) (e : E) : E := match e with
  | .ite _ _ _ _ _ => (match pc.put (.eq idx (.lit j)) true with
    | some p => p.norm e
    | none => e)
  | e => e
/-- Which of the row, by a number from j on. -/
def pickE (pc : PC) (idx : E) : Nat → List E → E
  | _, [] => .lit 0
  | j, [e] => atE pc idx j e
  | j, e :: e' :: l => ift (noRest pc idx j l) (atE pc idx j e) <| mkIte (pc.test (.eq idx (.lit j))) (atE pc idx j e) (pickE pc idx (j + 1) (e' :: l))
/-- The row with x in the place that a number from j on names. -/
def putE (idx x : E) : Nat → List E → List E
  | _, [] => []
  | j, e :: l => mkIte (.eq idx (.lit j)) x e :: putE idx x (j + 1) l

/-- A pointer whose index has come to be known. -/
def normP (pc : PC) (a : V) : V := match a with
  | .dptr b base idx stride u => match pc.re idx with
    | .lit n => .ptr b (base + n.toNat * stride + u)
    | _ => a
  | a => a

/-- Is it the first number from v on that it may be? -/
def idxAsk (pc : PC) (idx : E) : Nat → Int → E
  | 0, v => .eq idx (.lit v)
  | k + 1, v => match pc.tell (.eq idx (.lit v)) with
    | some false => idxAsk pc idx k (v + 1)
    | _ => .eq idx (.lit v)

/-- The row with a number in the place that another number from j on names: n places, from place p on. -/
def putS (pc : PC) (idx x : E) (k : IntKind) (stride : Nat) : Nat → Int → Nat → List V → Option (List V)
  | 0, _, _, cs => some cs
  | n + 1, j, p, cs => match cs[p]? with
    | some c => (match c with
      | .int k' e => ift (keq k k') (match splice cs p [.int k (mkIte (pc.test (.eq idx (.lit j))) x e)] with
        | some cs => putS pc idx x k stride n (j + 1) (p + stride) cs
        | none => none) <| none
      | _ => none)
    | none => none

def loadR (P : Program) (st : St) (t : TypeId) (a : V) : R :=
  match normP st.pc a with
  | .ptr b o =>
    match st.look b with
    | .cells cs _ _ => match partV P t cs o with | some v => .val v | none => .fail 1
    | _ => .fail 4
  | .dptr b base idx stride u =>
    let i := st.pc.re idx
    match i with
    | .lit _ => .fail 5
    | i =>
    match st.look b, P.underlying t with
    | .cells cs _ _, some d =>
      ift (aggD d) (.need (idxAsk st.pc idx 80 i.lo)
     ) <| ift (!ile 0 i.lo) (.fail 9) <|
      let lo := i.lo.toNat
      let n := (i.hi - i.lo + 1).toNat
      let l := strided cs stride (base + lo * stride + u) n
      ift (!Nat.beq l.length n) (.fail 6) <|
      match l with
      | .int k _ :: _ => match intsOf k l with | some es => .val (.int k (pickE st.pc idx lo es)) | none => .need (idxAsk st.pc idx 80 i.lo)
      | .bool _ :: _ => match boolsOf l with | some es => .val (.bool (pickE st.pc idx lo es)) | none => .need (idxAsk st.pc idx 80 i.lo)
      | _ => .need (idxAsk st.pc idx 80 i.lo)
    | _, _ => .fail 7
  | _ => .fail 8

def storeR (P : Program) (st : St) (t : TypeId) (a v : V) : R :=
  match normP st.pc a with
  | .ptr b o =>
    match st.blk b, sizeT P t with
    | .cells cs e tail, some n =>
      let vs := v.cells
      ift (Nat.beq vs.length n && vs.all V.one ) (
        match splice cs o vs with | some l => .upd .un b (.cells l e tail) | none => .fail 11
     ) <| .fail 12
    | _, _ => .fail 13
  | .dptr b base idx stride u =>
    let ask := R.need (idxAsk st.pc idx 80 (st.pc.re idx).lo)
    match st.blk b, sizeT P t with
    | .cells cs e tail, some n => (match v with
      | .int k x =>
        let i := st.pc.re idx
        ift (Nat.beq n 1 && ile 0 i.lo && Nat.blt 0 stride && Nat.blt (i.hi - i.lo).toNat 16) (match putS st.pc idx x k stride ((i.hi - i.lo).toNat + 1) i.lo (base + i.lo.toNat * stride + u) cs with
          | some l => .upd .un b (.cells l e tail)
          | none => ask) ask
      | _ => ask)
    | _, _ => ask
  | _ => .fail 14

/-- A number as an index below n: known to be in its bounds? -/
def inside (pc : PC) (i : E) (n : E) : Option Bool :=
  match pc.tell (.lt i (.lit 0)) with
  | some true => some false
  | none => none
  | some false => pc.tell (.lt i n)
def insideAsk (pc : PC) (i n : E) : E :=
  match pc.tell (.lt i (.lit 0)) with
  | none => .lt i (.lit 0)
  | _ => .lt i n

def addrR (pc : PC) (b : B) (o : Nat) (i : E) (size : Nat) : V :=
  match pc.re i with
  | .lit n => .ptr b (o + n.toNat * size)
  | _ => .dptr b o i size 0

def indexAddrR (P : Program) (st : St) (t : TypeId) (x i : V) : R :=
  match i with
  | .int _ i =>
    match P.underlying t, normP st.pc x with
    | some (.array n e), .ptr b o =>
      match sizeT P e with
      | some s => match inside st.pc i (.lit n) with
        | some true => .val (addrR st.pc b o i s)
        | some false => .fail 21
        | none => .need (insideAsk st.pc i (.lit n))
      | none => .fail 22
    | some (.slice e), .slice b o len _ =>
      match sizeT P e with
      | some s => match inside st.pc i len with
        | some true => .val (addrR st.pc b o i s)
        | some false => .fail 23
        | none => .need (insideAsk st.pc i len)
      | none => .fail 24
    | some (.array _ _), .dptr _ _ j _ _ => .need (idxAsk st.pc j 80 (st.pc.re j).lo)
    | _, _ => .fail 25
  | _ => .fail 26

/-- A byte of a text. -/
def indexS (pc : PC) (es : List E) (i : E) : R := match inside pc i (.lit es.length) with
  | some true => (match pc.re i with
    | .lit j => (match es[j.toNat]? with | some e => .val (.int .u8 e) | none => .fail 37)
    | j => ift (ile 0 j.lo && Nat.ble (j.lo.toNat + (j.hi - j.lo + 1).toNat) es.length) (.val (.int .u8 (pickE pc i j.lo.toNat ((es.drop j.lo.toNat).take (j.hi - j.lo + 1).toNat)))) <| .fail 38)
  | some false => .fail 39
  | none => .need (insideAsk pc i (.lit es.length))
def indexR (P : Program) (st : St) (t : TypeId) (x i : V) : R :=
  match i with
  | .int _ i =>
    match P.underlying t, x with
    | some .string, .str es => indexS st.pc es i
    | some (.array n e), .agg cs =>
      match sizeT P e with
      | some s => match inside st.pc i (.lit n) with
        | some true => match st.pc.re i with
          | .lit j => match partV P e cs (j.toNat * s) with | some v => .val v | none => .fail 31
          | j => .need (idxAsk st.pc i 80 j.lo)
        | some false => .fail 33
        | none => .need (insideAsk st.pc i (.lit n))
      | none => .fail 34
    | _, _ => .fail 35
  | _ => .fail 36

def fieldOf (P : Program) (t : TypeId) (f : Nat) : Option Field := match P.underlying t with
  | some (.struct fs) => fs.toList[f]?
  | _ => none

def fieldAddrR (P : Program) (t : TypeId) (x : V) (f : Nat) : R :=
  match fieldOf P t f with
  | some fd => match sizeT P fd.type with
    | some 0 | none => .fail 41
    | some _ => match x with
      | .ptr b o => .val (.ptr b (o + fd.offset))
      | .dptr b o i s u => .val (.dptr b o i s (u + fd.offset))
      | _ => .fail 42
  | none => .fail 43

def fieldR (P : Program) (t : TypeId) (x : V) (f : Nat) : R :=
  match fieldOf P t f, x with
  | some fd, .agg cs => match partV P fd.type cs fd.offset with | some v => .val v | none => .fail 44
  | _, _ => .fail 47

def nilLit : Value → Bool
  | .pointer none | .slice none _ _ | .map none | .nilFunc => true
  | _ => false
def refV : V → Bool
  | .ptr _ _ | .dptr _ _ _ _ _ | .slice _ _ _ _ | .map _ | .func _ _ _ => true
  | _ => false

/-- A reference's kind; is it nil? -/
def refK : V → Option (Nat × Bool)
  | .lit v => match v with
    | .pointer none => some (0, true)
    | .slice none _ _ => some (1, true)
    | .map none => some (2, true)
    | .nilFunc => some (3, true)
    | _ => none
  | .ptr _ _ => some (0, false)
  | .dptr _ _ _ _ _ => some (0, false)
  | .slice _ _ _ _ => some (1, false)
  | .map _ => some (2, false)
  | .func _ _ _ => some (3, false)
  | _ => none
def refD : TypeDesc → Nat
  | .pointer _ => 0
  | .slice _ => 1
  | .map _ _ => 2
  | .func _ _ _ => 3
  | _ => 4

def eqInt (pc : PC) (x y : V) : Option E := match x with
  | .int k a => match y with
    | .int k' b => ift (keq k k') (some (eqL pc (pc.re2 b) (pc.re2 a))) <| none
    | _ => none
  | _ => none
def eqBool (pc : PC) (x y : V) : Option E := match x with
  | .bool a => match y with
    | .bool b => some (match pc.tell a with
      | some true => b
      | some false => mkNot b
      | none => match pc.tell b with
        | some true => a
        | some false => mkNot a
        | none => mkIte a b (.not b))
    | _ => none
  | _ => none
def eqRef (d : TypeDesc) (x y : V) : Option E := match refK x with
  | some p => match refK y with
    | some q => ift (Nat.beq p.1 (refD d) && Nat.beq q.1 (refD d) && (p.2 || q.2)) (some (b2e (p.2 && q.2))) <| none
    | none => none
  | none => none
/-- Two values of one cell, of a type: the same? -/
def allEq (pc : PC) : List E → List E → E
  | [], l => match l with | [] => .lit 1 | _ => .lit 0
  | a :: l, l' => match l' with
    | b :: m => ift (a.beq b) (allEq pc l m) (match eqL pc (pc.re2 b) (pc.re2 a) with
      | .lit n => ift (ieq n 0) (.lit 0) (allEq pc l m)
      | e => (match allEq pc l m with
        | .lit n => ift (ieq n 0) (.lit 0) e
        | r => mkIte e r (.lit 0)))
    | [] => .lit 0
def eqStr (pc : PC) (x y : V) : Option E := match x with
  | .str a => match y with
    | .str b => some (ift (Nat.beq a.length b.length) (allEq pc a b) <| .lit 0)
    | _ => none
  | _ => none
def eqCell (d : TypeDesc) (pc : PC) (x y : V) : Option E :=
  match d with
  | .int _ => eqInt pc x y
  | .bool => eqBool pc x y
  | .string => eqStr pc x y
  | d => eqRef d x y

def andE (a b : E) : E := match a with
  | .lit n => ift (ieq n 0) (.lit 0) <| b
  | a => match b with
    | .lit n => ift (ieq n 0) (.lit 0) <| a
    | b => mkIte a b (.lit 0)

/-- One part's answer, and the rest's. -/
def thenE (a : E) (ro : Option E) : Option E := match a with
  | .lit n => ift (ieq n 0) (some (.lit 0)) <| ro
  | a => match ro with
    | some b => some (andE a b)
    | none => none

mutual
/-- Two values of a type: the same? -/
def eqT (P : Program) (pc : PC) : Nat → TypeId → V → V → Option E
  | 0, _, _, _ => none
  | d + 1, t, x, y =>
    match P.underlying t with
    | some (.struct fs) =>
      ift (P.stoodInHeld t) (none) <|
      match x, y with
      | .agg xs, .agg ys => eqFields P pc d fs.toList xs ys
      | _, _ => none
    | some (.array n e) => match sizeT P e, x, y with
      | some s, .agg xs, .agg ys => eqElems P pc d e s n 0 xs ys
      | _, _, _ => none
    | some u => eqCell u pc x y
    | none => none
def eqFields (P : Program) (pc : PC) : Nat → List Field → List V → List V → Option E
  | 0, _, _, _ => none
  | _, [], _, _ => some (.lit 1)
  | d + 1, f :: fs, xs, ys =>
    ift (f.name == "_") (eqFields P pc d fs xs ys) <|
    match partV P f.type xs f.offset, partV P f.type ys f.offset with
    | some x, some y => match eqT P pc d f.type x y with
      | some a => thenE a (eqFields P pc d fs xs ys)
      | none => none
    | _, _ => none
def eqElems (P : Program) (pc : PC) : Nat → TypeId → Nat → Nat → Nat → List V → List V → Option E
  | 0, _, _, _, _, _, _ => none
  | _, _, _, 0, _, _, _ => some (.lit 1)
  | d + 1, e, s, n + 1, i, xs, ys =>
    match partV P e xs (i * s), partV P e ys (i * s) with
    | some x, some y => match eqT P pc d e x y with
      | some a => thenE a (eqElems P pc d e s n (i + 1) xs ys)
      | none => none
    | _, _ => none
end

def binR (P : Program) (st : St) (op : BinOp) (t : TypeId) (x y : V) : R :=
  match x, y with
  | .str a, .str b => (match op with
    | .add => (match P.underlying t with
      | some .string => ift (Nat.ble (a.length + b.length) 1000000) (.val (.str (a ++ b))) <| .fail 60
      | _ => .fail 60)
    | .eql | .neq => (match P.underlying t with
      | some .string => (match eqStr st.pc x y with
        | some e => .val (.bool (match op with | .eql => e | _ => mkNot e))
        | none => .fail 57)
      | _ => .fail 58)
    | _ => .fail 59)
  | .int k a, .int k' b =>
    let a := st.pc.re2 a
    let b := st.pc.re2 b
    match op with
    | .shl | .shr =>
      match st.pc.tell (.lt b (.lit 0)) with
      | some false => .val (.int k (mkBin (match op with | .shl => .shl | _ => .shr) k a b))
      | some true => .fail 51
      | none => .need (.lt b (.lit 0))
    | op =>
    ift (!keq k k') (.fail 52) <|
    match op with
    | .add => .val (.int k (mkBin .add k a b))
    | .sub => .val (.int k (mkBin .sub k a b))
    | .mul => .val (.int k (mkBin .mul k a b))
    | .and => .val (.int k (mkBin .and k a b))
    | .or => .val (.int k (mkBin .or k a b))
    | .xor => .val (.int k (mkBin .xor k a b))
    | .andNot => .val (.int k (mkBin .andNot k a b))
    | .quo | .rem => match st.pc.tell (.eq b (.lit 0)) with
      | some false => .val (.int k (mkBin (match op with | .quo => .quo | _ => .rem) k a b))
      | some true => .fail 53
      | none => .need (.eq b (.lit 0))
    | .eql => .val (.bool (eqL st.pc b a))
    | .neq => .val (.bool (mkNot (eqL st.pc b a)))
    | .lss => .val (.bool (st.pc.test (mkLt a b)))
    | .geq => .val (.bool (mkNot (st.pc.test (mkLt a b))))
    | .gtr => .val (.bool (st.pc.test (mkLt b a)))
    | .leq => .val (.bool (mkNot (st.pc.test (mkLt b a))))
    | _ => .fail 54
  | x, y => match op with
    | .eql | .neq =>
      match x, y with
      | .agg _, .agg _ => ift (P.eqGuardType P.depth t) (.fail 55) <|
        match eqT P st.pc 1000 t x y with
        | some e => .val (.bool (match op with | .eql => e | _ => mkNot e))
        | none => .fail 56
      | x, y => match P.underlying t with
        | some u => match eqCell u st.pc x y with
          | some e => .val (.bool (match op with | .eql => e | _ => mkNot e))
          | none => .fail 57
        | none => .fail 58
    | _ => .fail 59

def unR (st : St) (op : UnOp) (x : V) : R :=
  match op, x with
  | .neg, .int k a => .val (.int k (mkBin .sub k (.lit 0) (st.pc.re a)))
  | .xor, .int k a => .val (.int k (mkBin .xor k (.lit (ift (k.signed) (-1) <| kmax k)) (st.pc.re a)))
  | .not, .bool a => .val (.bool (mkNot a))
  | _, _ => .fail 61

def fillV (places : List (Nat × Nat)) (cells : List V) : List (Nat × V) → Option (List V)
  | [] => some cells
  | p :: rest => match places[p.1]? with
    | some q => ift (Nat.beq p.2.cells.length q.2 && p.2.cells.all V.one ) (
        (match splice cells q.1 p.2.cells with | some l => fillV places l rest | none => none)) <| none
    | none => none

def allSome {α : Type} : List (Option α) → Option (List α)
  | [] => some []
  | some a :: l => match allSome l with | some m => some (a :: m) | none => none
  | none :: _ => none

def placesOf (P : Program) (t : TypeId) : Option (List (Nat × Nat)) := match P.underlying t with
  | some (.struct fs) => allSome (fs.toList.map fun f => match sizeT P f.type with | some n => some (f.offset, n) | none => none)
  | some (.array n e) => match sizeT P e with | some s => some ((List.range n).map fun i => (i * s, s)) | none => none
  | _ => none

def buildR (P : Program) (t : TypeId) (parts : List (Nat × V)) : R :=
  match zeroT P t, placesOf P t with
  | some z, some ps => match fillV ps z.cells parts with | some l => .val (.agg l) | none => .fail 71
  | _, _ => .fail 72

def repeatL {α : Type} (l : List α) : Nat → List α
  | 0 => []
  | n + 1 => l ++ repeatL l n

def buildSliceR (P : Program) (st : St) (t : TypeId) (n : Nat) (parts : List (Nat × V)) : R :=
  match P.underlying t with
  | some (.slice e) => match sizeT P e, zeroT P e with
    | some s, some z =>
      ift (Nat.ble (n * s) 10000 && Nat.blt 0 s && Nat.beq z.cells.length s && z.cells.all V.one ) (
        match fillV ((List.range n).map fun i => (i * s, s)) (repeatL z.cells n) parts with
        | some l => .new (.slice (.new st.nn) 0 (.lit n) (.lit n)) (.cells l e none)
        | none => .fail 73
     ) <| .fail 74
    | _, _ => .fail 75
  | _ => .fail 76

def makeSliceR (P : Program) (st : St) (t : TypeId) (len cap : V) : R :=
  match P.underlying t, len, cap with
  | some (.slice e), .int _ l, .int _ c => match sizeT P e, zeroT P e, st.pc.re l, st.pc.re c with
    | some s, some z, .lit l, .lit c =>
      ift (ile 0 l && ile l c && ile c 10000 && Nat.blt 0 s && Nat.beq z.cells.length s && z.cells.all V.one && smallT P e ) (
        .new (.slice (.new st.nn) 0 (.lit l) (.lit c)) (.cells (repeatL z.cells c.toNat) e none)
     ) <| .fail 77
    | _, _, .lit _, _ => .need (.eq c (.lit (st.pc.re c).lo))
    | _, _, _, _ => .need (.eq l (.lit (st.pc.re l).lo))
  | _, _, _ => .fail 78

/-- A bound of a slice expression: its number, known to be at most m; or what is to be asked. -/
def boundR (pc : PC) (m : E) : Option V → (dflt : E) → E ⊕ R
  | none, d => .inl d
  | some (.int _ e), _ =>
    match pc.tell (.lt e (.lit 0)) with
    | some true => .inr (.fail 81)
    | none => .inr (.need (.lt e (.lit 0)))
    | some false => match pc.tell (.lt m e) with
      | some true => .inr (.fail 82)
      | none => .inr (.need (.lt m e))
      | some false => .inl e
  | _, _ => .inr (.fail 83)

/-- A number less a known one. -/
def less (pc : PC) (n : Int) (x : E) : E := ift (ieq n 0) (x) <| mkBin .sub .i64 (pc.re x) (.lit n)

def sliceRow (pc : PC) (b : B) (o : Nat) (s : Nat) (len cap : E) (lo hi mx : Option V) : R :=
  ift (mx.isSome && hi.isNone) (.fail 87) <|
  match boundR pc cap mx cap with
  | .inr r => r
  | .inl m => match boundR pc m hi len with
    | .inr r => r
    | .inl h => match boundR pc h lo (.lit 0) with
      | .inr r => r
      | .inl l => match pc.re l with
        | .lit n =>
          ift (!(ile (pc.re m).hi (kmax .i64)) || !(ile (pc.re h).hi (kmax .i64))) (.fail 88) <|
          match pc.tell (.eq m (.lit n)) with
          | some true => .val (.slice b o (less pc n h) (less pc n m))
          | some false => .val (.slice b (o + n.toNat * s) (less pc n h) (less pc n m))
          | none => .need (.eq m (.lit n))
        | l' => .need (.eq l (.lit l'.lo))

/-- Is it the number behind? -/
def oneOf (l h : E) : Bool := match h with
  | .bin op k a c _ _ => (match op, c with
    | .add, .lit z => ieq z 1 && a.beq l && ile (kmin k) a.lo && ile (a.hi + 1) (kmax k)
    | _, _ => false)
  | _ => false
def sliceS2 (pc : PC) (es : List E) (lo hi : Option V) : R := match boundR pc (.lit es.length) hi (.lit es.length) with
  | .inr r => r
  | .inl h => match boundR pc h lo (.lit 0) with
    | .inr r => r
    | .inl l => match pc.re l with
      | .lit n => (match pc.re h with
        | .lit m => .val (.str ((es.drop n.toNat).take (m - n).toNat))
        | h' => .need (.eq h (.lit h'.lo)))
      | j => .need (.eq l (.lit j.lo))
/-- A part of a text; one byte at a number that is not known. -/
def sliceS (pc : PC) (es : List E) (lo hi : Option V) : R := match lo with
  | some (.int k l) => (match hi with
    | some (.int k' h) =>
      let j := pc.re l
      ift (oneOf l h && !isLit j && ile 0 j.lo && Nat.ble (j.lo.toNat + (j.hi - j.lo + 1).toNat) es.length) (.val (.str [pickE pc l j.lo.toNat ((es.drop j.lo.toNat).take (j.hi - j.lo + 1).toNat)]))
        <| sliceS2 pc es (some (.int k l)) (some (.int k' h))
    | hi => sliceS2 pc es (some (.int k l)) hi)
  | lo => sliceS2 pc es lo hi
def sliceR (P : Program) (st : St) (t : TypeId) (x : V) (lo hi mx : Option V) : R :=
  match P.underlying t, x with
  | some .string, .str es => ift mx.isSome (.fail 89) <| sliceS st.pc es lo hi
  | some (.array n e), .ptr b o => match sizeT P e with
    | some s => sliceRow st.pc b o s (.lit n) (.lit n) lo hi mx
    | none => .fail 84
  | some (.slice e), .slice b o len cap => match sizeT P e with
    | some s => sliceRow st.pc b o s len cap lo hi mx
    | none => .fail 85
  | _, _ => .fail 86

def maxE (pc : PC) (a b : E) : E := let q := mkLt a b
  match pc.tell q with
  | some true => b
  | some false => a
  | none => (mkIte q b a).bd (imax a.lo b.lo) (imax a.hi b.hi)
def minE (pc : PC) (a b : E) : E := let q := mkLt b a
  match pc.tell q with
  | some true => b
  | some false => a
  | none => (mkIte q b a).bd (imin a.lo b.lo) (imin a.hi b.hi)

def isEq (pc : PC) (a b : E) : Bool := match pc.tell (.eq a b) with | some true => true | _ => false

/-- What is appended to a row: its cells; none: they are not known. -/
def rowCells (st : St) (s : Nat) (x : V) : Option (List V) ⊕ E := match x with
  | .lit (.slice none 0 _) => .inl (some [])
  | .slice b o len _ => match st.pc.re len with
    | .lit n => match st.look b with
      | .cells cs _ _ => .inl (sub cs o (n.toNat * s))
      | _ => .inl none
    | l => .inr (.eq len (.lit l.lo))
  | _ => .inl none


def convR (P : Program) (st : St) (src dst : TypeId) (x : V) : R :=
  match P.underlying src with
  | some _ => match P.underlying dst, x with
    | some (.int k), .int _ a => .val (.int k (mkConv k (st.pc.re a)))
    | some .string, x => (match P.underlying src with
      | some (.slice el) => (match P.underlying el with
        | some (.int .u8) => (match rowCells st 1 x with
          | .inr q => .need q
          | .inl none => .fail 64
          | .inl (some cs) => (match intsOf .u8 cs with
            | some es => ift (es.all fun e => ile 0 e.lo && ile e.hi 255) (.val (.str es)) <| .fail 65
            | none => .fail 66))
        | _ => .fail 68)
      | _ => .fail 67)
    | _, _ => .fail 62
  | none => .fail 63

def zeroOk (P : Program) (e : TypeId) (s : Nat) : Bool := match zeroT P e with | some z => Nat.beq z.cells.length s && z.cells.all V.one | none => false

def appendGrow (st : St) (e : TypeId) (s bytes : Nat) (zs : Bool) (old new : List V) (len n : Nat) (cap : E) : R :=
  let c : E := .cap st.dr (.lit (len + n : Nat)) cap e (len + n : Nat) 9223372036854775807
  ift (Nat.beq old.length (len * s) && Nat.beq new.length (n * s) && Nat.ble ((len + n + 1000) * (bytes + 1)) 100000000000 && ile 0 cap.lo && zs ) (
    .newD (.slice (.new st.nn) 0 (.lit (len + n : Nat)) c) (.cells (old ++ new) e (some (c, s)))
 ) <| .fail 121

def appendR (P : Program) (st : St) (t t2 : TypeId) (x y : V) : R :=
  ift (!Nat.beq t t2) (.fail 132) <|
  match P.underlying t with
  | some (.slice e) => match sizeT P e, bytesT P e with
    | some s, some bytes =>
      ift (Nat.beq s 0) (.fail 122) <|
      match rowCells st s y with
      | .inr q => .need q
      | .inl none => .fail 123
      | .inl (some new) =>
        let n := new.length / s
        ift (!Nat.beq (n * s) new.length) (.fail 124) <|
        match x with
        | .lit (.slice none 0 0) => ift (Nat.beq n 0) (.val x) <| appendGrow st e s bytes (zeroOk P e s) [] new 0 n (.lit 0)
        | .slice b o len cap => match st.pc.re len with
          | .lit l =>
            let l := l.toNat
            match st.pc.tell (.lt cap (.lit (l + n : Nat))) with
            | none => .need (.lt cap (.lit (l + n : Nat)))
            | some true => match rowCells st s x with
              | .inl (some old) => appendGrow st e s bytes (zeroOk P e s) old new l n (st.pc.re cap)
              | _ => .fail 125
            | some false => match st.blk b with
              | .cells cs el tot =>
                ift (Nat.beq n 0) (.val (.slice b o (.lit l) cap)) <|
                ift (!new.all V.one) (.fail 133) <|
                match tot with
                | none => match splice cs (o + l * s) new with
                  | some cs' => .upd (.slice b o (.lit (l + n : Nat)) cap) b (.cells cs' el none)
                  | none => .fail 126
                | some c => ift (Nat.beq o 0 && Nat.beq c.2 s && Nat.beq cs.length (l * s) && (isEq st.pc c.1 cap) ) (
                    .upd (.slice b o (.lit (l + n : Nat)) cap) b (.cells (cs ++ new) el tot)
                 ) <| .fail 127
              | _ => .fail 128
          | l => .need (.eq len (.lit l.lo))
        | _ => .fail 129
    | _, _ => .fail 130
  | _ => .fail 131

/-! ## maps whose keys are numbers -/
/-- Where a key stands in a map: what is to be asked first; nowhere; the entry's number and what it holds. -/
def findM (pc : PC) (k : IntKind) (e : E) : List (V × V × Nat) → Nat → Option (E ⊕ Option (Nat × V))
  | [], _ => some (.inr none)
  | p :: l, i => match p.1 with
    | .int k' e' => ift (keq k k') (match pc.tell (.eq e e') with
      | some true => some (.inr (some (i, p.2.1)))
      | some false => findM pc k e l (i + 1)
      | none => some (.inl (.eq e e'))) none
    | _ => none
/-- A map's entry told anew. -/
def modM (key v : V) : List (V × V × Nat) → Nat → List (V × V × Nat)
  | [], _ => []
  | p :: l, 0 => (key, v, p.2.2) :: l
  | p :: l, i + 1 => p :: modM key v l i
def intMap (P : Program) (t : TypeId) : Option (IntKind × TypeId) := match P.underlying t with
  | some (.map kt et) => (match P.underlying kt with
    | some (.int k) => some (k, et)
    | _ => none)
  | _ => none
def mapUpdateR (P : Program) (st : St) (t : TypeId) (m key v : V) : R := match intMap P t with
  | some (kk, _) => (match key with
    | .int k e => ift (keq k kk) (match m with
      | .map b => (match st.blk b with
        | .map es clock => (match findM st.pc k e es 0 with
          | some (.inl q) => .need q
          | some (.inr none) => .upd .un b (.map (es ++ [(.int k e, v, clock)]) (clock + 1))
          | some (.inr (some x)) => .upd .un b (.map (modM (.int k e) v es x.1) clock)
          | none => .fail 120)
        | _ => .fail 121)
      | _ => .fail 122) (.fail 123)
    | _ => .fail 124)
  | none => .fail 125
def outM (commaOk : Bool) (v : V) (r : Bool) : R := match commaOk with
  | true => .val (.tup [v, .bool (b2e r)])
  | false => .val v
def lookupR (P : Program) (st : St) (t : TypeId) (m key : V) (commaOk : Bool) : R := match intMap P t with
  | some (kk, et) => (match key with
    | .int k e => ift (keq k kk) (match m with
      | .map b => (match st.blk b with
        | .map es _ => (match findM st.pc k e es 0 with
          | some (.inl q) => .need q
          | some (.inr none) => (match zeroT P et with | some z => outM commaOk z false | none => .fail 126)
          | some (.inr (some x)) => outM commaOk x.2 true
          | none => .fail 120)
        | _ => .fail 121)
      | .lit (.map none) => (match zeroT P et with | some z => outM commaOk z false | none => .fail 126)
      | _ => .fail 122) (.fail 123)
    | _ => .fail 124)
  | none => .fail 125

/-- A map's entry, made if it is not there: what it holds, its stamp. -/
def mapEntryR (P : Program) (st : St) (t : TypeId) (m key : V) : R := match intMap P t with
  | some (kk, et) => (match key with
    | .int k e => ift (keq k kk) (match m with
      | .map b => (match st.blk b with
        | .map es clock => (match findM st.pc k e es 0 with
          | some (.inl q) => .need q
          | some (.inr none) => (match zeroT P et with
            | some z => .upd (.tup [z, .int .i64 (.lit (clock : Nat))]) b (.map (es ++ [(.int k e, z, clock)]) (clock + 1))
            | none => .fail 126)
          | some (.inr (some x)) => (match es[x.1]? with
            | some p => .upd (.tup [x.2, .int .i64 (.lit (p.2.2 : Nat))]) b (.map es clock)
            | none => .fail 127)
          | none => .fail 120)
        | _ => .fail 121)
      | _ => .fail 122) (.fail 123)
    | _ => .fail 124)
  | none => .fail 125
/-- The entry of a stamp told anew. -/
def stampM (n : Nat) (v : V) : List (V × V × Nat) → Option (List (V × V × Nat))
  | [] => none
  | p :: l => ift (Nat.beq p.2.2 n) (some ((p.1, v, p.2.2) :: l)) <| match stampM n v l with
    | some l => some (p :: l)
    | none => none
def entryStoreR (st : St) (m stamp v : V) : R := match stamp with
  | .int _ e => (match e with
    | .lit z => (match z with
      | .ofNat n => (match m with
        | .map b => (match st.blk b with
          | .map es clock => (match stampM n v es with
            | some es' => .upd .un b (.map es' clock)
            | none => .fail 141)
          | _ => .fail 142)
        | _ => .fail 143)
      | _ => .fail 144)
    | _ => .fail 145)
  | _ => .fail 146
def dropM : List (V × V × Nat) → Nat → List (V × V × Nat)
  | [], _ => []
  | _ :: l, 0 => l
  | p :: l, i + 1 => p :: dropM l i
def deleteR (P : Program) (st : St) (t : TypeId) (m key : V) : R := match intMap P t with
  | some (kk, _) => (match key with
    | .int k e => ift (keq k kk) (match m with
      | .map b => (match st.blk b with
        | .map es clock => (match findM st.pc k e es 0 with
          | some (.inl q) => .need q
          | some (.inr none) => .upd (.tup []) b (.map es clock)
          | some (.inr (some x)) => .upd (.tup []) b (.map (dropM es x.1) clock)
          | none => .fail 151)
        | _ => .fail 152)
      | _ => .fail 153) (.fail 154)
    | _ => .fail 155)
  | none => .fail 156

def builtinR (P : Program) (st : St) (b : Builtin) (ats : List TypeId) (args : List V) : R :=
  match b, ats, args with
  | .len, t :: _, [x] => match P.underlying t, x with
    | some (.array n _), _ => .val (.int .i64 (.lit n))
    | some (.slice _), .slice _ _ l _ => .val (.int .i64 l)
    | some (.slice _), .lit (.slice none n _) => .val (.int .i64 (.lit n))
    | some .string, .str es => .val (.int .i64 (.lit es.length))
    | _, _ => .fail 91
  | .cap, t :: _, [x] => match P.underlying t, x with
    | some (.slice _), .slice _ _ _ c => .val (.int .i64 c)
    | some (.slice _), .lit (.slice none _ n) => .val (.int .i64 (.lit n))
    | _, _ => .fail 92
  | .append, [t, t2], [x, y] => appendR P st t t2 x y
  | .max, _, [.int k a, .int k' b] => ift (keq k k') (.val (.int k (maxE st.pc (st.pc.re a) (st.pc.re b)))) <| .fail 93
  | .delete, t :: _, [m, k] => deleteR P st t m k
  | .min, _, [.int k a, .int k' b] => ift (keq k k') (.val (.int k (minE st.pc (st.pc.re a) (st.pc.re b)))) <| .fail 94
  | _, _, _ => .fail 95

abbrev Rd := Operand → V

/-- One of two, by a test that is not known. -/
def pickR (pc : PC) (e : E) (a b : V) : R := match putF e pc true with
  | none => (match putF e pc false with
    | some q => .val (b.strip q)
    | none => .val b)
  | some p => match putF e pc false with
    | none => .val (a.strip p)
    | some q => match a.strip p with
      | .bool x => (match b.strip q with
        | .bool y => .val (.bool (mkIte e x y))
        | _ => .need e)
      | .int k x => (match b.strip q with
        | .int k' y => ift (keq k k') (.val (.int k (mkIte e x y))) <| .need e
        | _ => .need e)
      | _ => .need e

def callR (P : Program) (rd : Rd) (st : St) (c : Call) : R :=
  match c.callee with
  | .value f => match rd f with
    | .func (.func g) first cap => .call g (first ++ c.args.toList.map rd ++ cap)
    | _ => .fail 101
  | .builtin b => builtinR P st b c.argTypes.toList (c.args.toList.map rd)
  | _ => .fail 102

/-- One operation, its operands read by 'rd'. -/
def opR (P : Program) (rd : Rd) (st : St) (op : Op) : R :=
  match op with
  | .move x | .assign x => .val (rd x)
  | .pick c a b => match rd c with
    | .bool e => match st.pc.tell e with
      | some true => .val (rd a)
      | some false => .val (rd b)
      | none => pickR st.pc e (rd a) (rd b)
    | _ => .fail 111
  | .alloc t => match zeroT P t with
    | some z => .new (.ptr (.new st.nn) 0) (.cells z.cells t none)
    | none => .fail 112
  | .box t x => match rd x with
    | .lit (.agg _) => .fail 116
    | .opt _ _ => .fail 117
    | .hole _ => .fail 118
    | v => .new (.ptr (.new st.nn) 0) (.cells v.cells t none)
  | .build t ps => buildR P t (ps.toList.map fun p => (p.1, rd p.2))
  | .buildSlice t n ps => buildSliceR P st t n (ps.toList.map fun p => (p.1, rd p.2))
  | .load t a => loadR P st t (rd a)
  | .store t a v => storeR P st t (rd a) (rd v)
  | .nilCheck x => match rd x with
    | .ptr b o => .val (.ptr b o)
    | .dptr b o i s u => .val (.dptr b o i s u)
    | _ => .fail 113
  | .binOp op t x y _ => binR P st op t (rd x) (rd y)
  | .unOp op _ x => unR st op (rd x)
  | .convert src dst x => convR P st src dst (rd x)
  | .makeFunc fn f c => .val (.func fn (f.toList.map rd) (c.toList.map rd))
  | .makeSlice t l c => makeSliceR P st t (rd l) (rd c)
  | .slice t x lo hi mx => sliceR P st t (rd x) (lo.map rd) (hi.map rd) (mx.map rd)
  | .fieldAddr t x f => fieldAddrR P t (rd x) f
  | .field t x f => fieldR P t (rd x) f
  | .indexAddr t x i => indexAddrR P st t (rd x) (rd i)
  | .index t x i => indexR P st t (rd x) (rd i)
  | .extract x i => match rd x with
    | .tup l => match l[i]? with | some v => .val v | none => .fail 114
    | _ => .fail 115
  | .call c => callR P rd st c
  | .makeMap _ none => .new (.map (.new st.nn)) (.map [] 0)
  | .mapUpdate t m k v => mapUpdateR P st t (rd m) (rd k) (rd v)
  | .insert t m k v => mapUpdateR P st t (rd m) (rd k) (rd v)
  | .lookup t m k c => lookupR P st t (rd m) (rd k) c
  | .mapEntry t m k => mapEntryR P st t (rd m) (rd k)
  | .entryStore _ m s v => entryStoreR st (rd m) (rd s) (rd v)
  | _ => .fail 199

end Go.Proofs.YtmacjmofhaghbaaDoor.Sy
end
