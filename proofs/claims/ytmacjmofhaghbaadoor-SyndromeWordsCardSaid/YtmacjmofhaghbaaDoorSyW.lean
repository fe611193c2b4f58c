/-
  A symbolic evaluator for the model's code: cuts. Where a function's ways meet again, they are taken together: what differs becomes a new variable, what is not needed any more is not told.
-/
import Derived.Test.YtmacjmofhaghbaaDoorSyV
noncomputable section
namespace Go.Proofs.YtmacjmofhaghbaaDoor.Sy
open Go

/-! ## what stands for all ways -/
/-- Only variables below nv? -/
def below (nv : Nat) : E → Bool
  | .lit _ => true
  | .var i _ _ => Nat.blt i nv
  | .fn _ _ _ _ => false
  | .bin _ _ a b _ _ => below nv a && below nv b
  | .conv _ a _ _ => below nv a
  | .eq a b => below nv a && below nv b
  | .lt a b => below nv a && below nv b
  | .not a => below nv a
  | .ite c a b _ _ => below nv c && below nv a && below nv b
  | .cap _ _ _ _ _ _ => false

def nth {α : Type} (d : α) : List α → Nat → α
  | [], _ => d
  | a :: l, n => ift (Nat.beq n 0) a <| nth d l (n - 1)

def instE (nv : Nat) (vm : List E) (p : E) : E := match p with
  | .var i l h => ift (Nat.blt i nv) (.var i l h) <| nth (.lit 0) vm (i - nv)
  | p => p
def okE (nv : Nat) (vm : List E) (pc : PC) (p : E) : Bool := match p with
  | .var i l h => ift (Nat.blt i nv) true <| Nat.blt (i - nv) vm.length && (let e := pc.re (nth (.lit 0) vm (i - nv)); ile l e.lo && ile e.hi h)
  | p => below nv p
def instB (km : List Nat) : B → B
  | .new j => .new (nth 0 km j)
  | b => b
def okB (km : List Nat) : B → Bool
  | .new j => Nat.blt j km.length
  | .old _ => false
  | .glob _ => true
/-- Does a pattern stand for a value of a way? -/
def fitE (nv : Nat) (vm : List E) (pc : PC) (p e : E) : Bool := okE nv vm pc p && ((instE nv vm p).same e || (instE nv vm p).same (pc.norm e))
mutual
def fitV (nv : Nat) (vm : List E) (km : List Nat) (pc : PC) : V → V → Bool
  | .lit v, w => match w with | .lit u => beqLit v u | _ => false
  | .bool p, w => match w with | .bool e => fitE nv vm pc p e | _ => false
  | .int k p, w => match w with | .int k' e => keq k k' && fitE nv vm pc p e | _ => false
  | .ptr b o, w => match w with | .ptr b' o' => okB km b && beqB (instB km b) b' && Nat.beq o o' | _ => false
  | .slice b o l c, w => match w with | .slice b' o' l' c' => okB km b && beqB (instB km b) b' && Nat.beq o o' && fitE nv vm pc l l' && fitE nv vm pc c c' | _ => false
  | .func fn f c, w => match w with | .func fn' f' c' => beqFn fn fn' && fitVs nv vm km pc f f' && fitVs nv vm km pc c c' | _ => false
  | .agg l, w => match w with | .agg l' => fitVs nv vm km pc l l' | _ => false
  | .tup l, w => match w with | .tup l' => fitVs nv vm km pc l l' | _ => false
  | _, _ => false
def fitVs (nv : Nat) (vm : List E) (km : List Nat) (pc : PC) : List V → List V → Bool
  | [], l => match l with | [] => true | _ => false
  | v :: l, l' => match l' with | w :: m => fitV nv vm km pc v w && fitVs nv vm km pc l m | [] => false
end
def fitBlk (nv : Nat) (vm : List E) (km : List Nat) (pc : PC) (p b : Blk) : Bool := match p with
  | .none => true
  | .cells ps e tot => (match tot with
    | some q => (match b with
      | .cells cs e' tot' => (match tot' with
        | some c => Nat.beq e e' && Nat.beq q.2 c.2 && fitE nv vm pc q.1 c.1 && fitVs nv vm km pc ps cs
        | Option.none => false)
      | _ => false)
    | Option.none => match b with
      | .cells cs e' tot' => (match tot' with
        | some _ => false
        | Option.none => Nat.beq e e' && fitVs nv vm km pc ps cs)
      | _ => false)
  | .map _ _ => false

/-- All temporaries: what they stand for, or nothing. -/
def fitT (nv : Nat) (vm : List E) (km : List Nat) (pc : PC) (t : T V) : Nat → List (Option V) → Bool
  | _, [] => true
  | i, p :: ps => (match p with
    | none => true
    | some p => fitV nv vm km pc p (t.get .un i)) && fitT nv vm km pc t (i + 1) ps
def fitBs (nv : Nat) (vm : List E) (km : List Nat) (st : St) : List Nat → List Blk → Bool
  | [], [] => true
  | k :: ks, b :: bs => Nat.blt k st.nn && fitBlk nv vm km st.pc b (st.news.get .none k) && fitBs nv vm km st ks bs
  | _, _ => false
def fresh : List Nat → Bool
  | [] => true
  | k :: ks => allB (fun j => !Nat.beq j k) ks && fresh ks

def fitLeaf (G : List (Nat × List Value)) (nv : Nat) (tl : List (Option V)) (bl : List Blk) (m : List Nat × List E) (l : Leaf) : Bool :=
  fresh m.1 && fitBs nv m.2 m.1 l.st m.1 bl && fitT nv m.2 m.1 l.st.pc l.t 0 tl && (match l.st.olds with | [] => true | _ => false) && sameGs G l.st.globs

def allT {α : Type} (p : α → Bool) : T α → Bool
  | .nil => true
  | .node v l r => p v && allT p l && allT p r
def belowPC (nv : Nat) (pc : PC) : Bool :=
  allT (allB fun p : E × Bool => below nv p.1) pc.bf && allT (allB fun p : E × Int × Int => below nv p.1) pc.rg && allB (fun p : E × Bool => below nv p.1) pc.cf

def only {α : Type} (p : α → Bool) : List α → List α
  | [] => []
  | a :: l => ift (p a) (a :: only p l) (only p l)
def onlyT {α : Type} (p : α → Bool) : T (List α) → T (List α)
  | .nil => .nil
  | .node v l r => .node (only p v) (onlyT p l) (onlyT p r)
/-- What is known of variables below nv alone. -/
def PC.only (nv : Nat) (pc : PC) : PC := ⟨onlyT (fun p => below nv p.1) pc.bf, onlyT (fun p => below nv p.1) pc.rg, Sy.only (fun p => below nv p.1) pc.cf, pc.cnt⟩

/-- The frame of a pattern. -/
def holes : Nat → List (Option V) → List V
  | _, [] => []
  | i, none :: l => .hole i :: holes (i + 1) l
  | i, some v :: l => v :: holes (i + 1) l
def patT (n : Nat) (tl : List (Option V)) : T V := T.setAll (holes 0 tl) 0 (T.mk .un (depthOf 20 n))
def patS (G : List (Nat × List Value)) (bl : List Blk) (pc : PC) : St := { nn := bl.length, news := T.setAll bl 0 (T.mk .none 12), olds := [], dr := 0, pc, globs := G }

/-! ## finding the pattern -/
structure Col where
  vars : List (List E)      -- the columns of the variables, the latest first
  rng : List (Int × Int)
  blks : List (List Nat)    -- the columns of the blocks, the latest first

def sameEs : List E → List E → Bool
  | [], [] => true
  | a :: l, b :: m => a.same b && sameEs l m
  | _, _ => false
def sameNs : List Nat → List Nat → Bool
  | [], [] => true
  | a :: l, b :: m => Nat.beq a b && sameNs l m
  | _, _ => false
/-- The number of a column, counted from the oldest. -/
def findEs (c : List E) : List (List E) → Option Nat
  | [] => none
  | d :: l => ift (sameEs d c) (some l.length) <| findEs c l
def findNs (c : List Nat) : List (List Nat) → Option Nat
  | [] => none
  | d :: l => ift (sameNs d c) (some l.length) <| findNs c l
def rngs : List PC → List E → Int × Int
  | p :: ps, e :: es => let e := p.re e; (match ps with | [] => (e.lo, e.hi) | _ => let r := rngs ps es; (imin e.lo r.1, imax e.hi r.2))
  | _, _ => (0, 0)
def allSame (e : E) : List E → Bool
  | [] => true
  | d :: l => e.same d && allSame e l
def norms : List PC → List E → List E
  | p :: ps, e :: es => p.norm e :: norms ps es
  | _, _ => []
def colE (nv : Nat) (pcs : List PC) (s : Col) : List E → Option (E × Col)
  | [] => none
  | e :: es => ift (allSame e es && below nv e) (some (e, s)) <| match norms pcs (e :: es) with
    | [] => none
    | e :: es => ift (allSame e es && below nv e) (some (e, s)) <| match findEs (e :: es) s.vars with
      | some j => (match s.rng[s.vars.length - 1 - j]? with | some r => some (.var (nv + j) r.1 r.2, s) | none => none)
      | none => let r := rngs pcs (e :: es); some (.var (nv + s.vars.length) r.1 r.2, ⟨(e :: es) :: s.vars, r :: s.rng, s.blks⟩)
def colB (s : Col) : List B → Option (B × Col)
  | .new i :: bs => match allSome (bs.map fun b => match b with | .new j => some j | _ => none) with
    | some js => (match findNs (i :: js) s.blks with
      | some j => some (.new j, s)
      | none => some (.new s.blks.length, ⟨s.vars, s.rng, (i :: js) :: s.blks⟩))
    | none => none
  | .glob g :: bs => ift (allB (fun b => beqB b (.glob g)) bs) (some (.glob g, s)) <| none
  | _ => none
def heads : List (List V) → Option (List V × List (List V))
  | [] => some ([], [])
  | (v :: l) :: r => (match heads r with | some p => some (v :: p.1, l :: p.2) | none => none)
  | [] :: _ => none
def colVs (f : Col → List V → Option (V × Col)) : Nat → Col → List (List V) → Option (List V × Col)
  | 0, _, _ => none
  | k + 1, s, rows => match rows with
    | [] => none
    | r :: _ => match r with
      | [] => some ([], s)
      | _ => match heads rows with
        | none => none
        | some p => match f s p.1 with
          | none => none
          | some (v, s) => match colVs f k s p.2 with
            | none => none
            | some (l, s) => some (v :: l, s)
def colV (nv : Nat) (pcs : List PC) : Nat → Col → List V → Option (V × Col)
  | 0, _, _ => none
  | k + 1, s, vs => match vs with
    | [] => none
    | v :: rest => match v with
      | .lit w => ift (allB (fun u => (V.lit w).same u) rest) (some (.lit w, s)) <| none
      | .bool e => (match allSome (rest.map fun u => match u with | .bool e => some e | _ => none) with
        | some es => (match colE nv pcs s (e :: es) with | some p => some (.bool p.1, p.2) | none => none)
        | none => none)
      | .int q e => (match allSome (rest.map fun u => match u with | .int q' e => ift (keq q q') (some e) none | _ => none) with
        | some es => (match colE nv pcs s (e :: es) with | some p => some (.int q p.1, p.2) | none => none)
        | none => none)
      | .ptr b o => (match allSome (rest.map fun u => match u with | .ptr b' o' => ift (Nat.beq o o') (some b') none | _ => none) with
        | some bs => (match colB s (b :: bs) with | some p => some (.ptr p.1 o, p.2) | none => none)
        | none => none)
      | .slice b o l c => (match allSome (rest.map fun u => match u with | .slice b' o' l' c' => ift (Nat.beq o o') (some (b', l', c')) none | _ => none) with
        | some bs => (match colB s (b :: bs.map (·.1)) with
          | some p => (match colE nv pcs p.2 (l :: bs.map (·.2.1)) with
            | some q => (match colE nv pcs q.2 (c :: bs.map (·.2.2)) with
              | some r => some (.slice p.1 o q.1 r.1, r.2)
              | none => none)
            | none => none)
          | none => none)
        | none => none)
      | .func fn a c => (match allSome (rest.map fun u => match u with | .func fn' a' c' => ift (beqFn fn fn') (some (a', c')) none | _ => none) with
        | some fs => (match colVs (colV nv pcs k) 10000 s (a :: fs.map (·.1)) with
          | some p => (match colVs (colV nv pcs k) 10000 p.2 (c :: fs.map (·.2)) with
            | some q => some (.func fn p.1 q.1, q.2)
            | none => none)
          | none => none)
        | none => none)
      | .agg l => (match allSome (rest.map fun u => match u with | .agg l => some l | _ => none) with
        | some ls => (match colVs (colV nv pcs k) 10000 s (l :: ls) with | some p => some (.agg p.1, p.2) | none => none)
        | none => none)
      | .tup l => (match allSome (rest.map fun u => match u with | .tup l => some l | _ => none) with
        | some ls => (match colVs (colV nv pcs k) 10000 s (l :: ls) with | some p => some (.tup p.1, p.2) | none => none)
        | none => none)
      | _ => none

def isIn (i : Nat) : List Nat → Bool
  | [] => false
  | j :: l => Nat.beq i j || isIn i l
/-- The temporaries' patterns: n of them, from i on. -/
def colT (nv : Nat) (keep : List Nat) (pcs : List PC) (ls : List Leaf) : Nat → Nat → Col → List (Option V) × Col
  | 0, _, s => ([], s)
  | n + 1, i, s => ift (isIn i keep) (match colV nv pcs 100 s (ls.map fun l => l.t.get .un i) with
      | some p => let r := colT nv keep pcs ls n (i + 1) p.2; (some p.1 :: r.1, r.2)
      | none => let r := colT nv keep pcs ls n (i + 1) s; (none :: r.1, r.2))
    <| let r := colT nv keep pcs ls n (i + 1) s; (none :: r.1, r.2)
/-- A block's pattern. -/
def colBlk (nv : Nat) (pcs : List PC) (s : Col) (bs : List Blk) : Blk × Col := match bs with
  | .cells cs e Option.none :: rest => (match allSome (rest.map fun b => match b with | .cells cs e' Option.none => ift (Nat.beq e e') (some cs) none | _ => none) with
    | some rows => (match colVs (colV nv pcs 100) 10000 s (cs :: rows) with
      | some p => (.cells p.1 e Option.none, p.2)
      | none => (.none, s))
    | none => (.none, s))
  | .cells cs e (some c) :: rest => (match allSome (rest.map fun b => match b with | .cells cs e' (some c') => ift (Nat.beq e e' && Nat.beq c.2 c'.2) (some (cs, c'.1)) none | _ => none) with
    | some rows => (match colVs (colV nv pcs 100) 10000 s (cs :: rows.map (·.1)) with
      | some p => (match colE nv pcs p.2 (c.1 :: rows.map (·.2)) with
        | some q => (.cells p.1 e (some (q.1, c.2)), q.2)
        | none => (.none, s))
      | none => (.none, s))
    | none => (.none, s))
  | _ => (.none, s)
/-- The blocks' patterns, from number j on. -/
def colBs (nv : Nat) (pcs : List PC) (ls : List Leaf) : Nat → Nat → Col → List Blk × Col
  | 0, _, s => ([], s)
  | k + 1, j, s => match s.blks[s.blks.length - 1 - j]? with
    | none => ([], s)
    | some c => ift (Nat.blt j s.blks.length) (
        let p := colBlk nv pcs s ((ls.zip c).map fun p => p.1.st.news.get .none p.2)
        let r := colBs nv pcs ls k (j + 1) p.2
        (p.1 :: r.1, r.2)) <| ([], s)
/-- One way's part of the columns. -/
def rowsOf {α : Type} (i : Nat) : List (List α) → List α
  | [] => []
  | c :: cs => match c[i]? with | some a => rowsOf i cs ++ [a] | none => rowsOf i cs

/-! ## what is known at a cut -/
/- A number of the machine's state: a literal; a temporary; a cell at a place behind a temporary's pointer. -/
mutual
inductive Tm where
  | num (n : Int)
  | tmp (d : Nat)
  | cell (d c : Nat)
  | ite (f : Fm) (a b : Tm)
inductive Fm where
  | eq (a b : Tm)
  | lt (a b : Tm)
  | not (a : Fm)
  | or (a b : Fm)
end

mutual
def tmE (n : Nat) (t : T V) (st : St) : Tm → Option E
  | .num k => some (.lit k)
  | .tmp d => ift (Nat.blt d n) (match t.get .un d with
    | .int _ e => some e
    | _ => none) none
  | .cell d c => ift (Nat.blt d n) (match t.get .un d with
    | .ptr b o => (match st.blk b with
      | .cells cs _ _ => (match cs[o + c]? with
        | some v => (match v with | .int _ e => some e | _ => none)
        | none => none)
      | _ => none)
    | _ => none) none
  | .ite f a b => match fmE n t st f with
    | some x => (match tmE n t st a with
      | some y => (match tmE n t st b with | some z => some (mkIte x y z) | none => none)
      | none => none)
    | none => none
def fmE (n : Nat) (t : T V) (st : St) : Fm → Option E
  | .eq a b => match tmE n t st a with
    | some x => (match tmE n t st b with | some y => some (.eq x y) | none => none)
    | none => none
  | .lt a b => match tmE n t st a with
    | some x => (match tmE n t st b with | some y => some (.lt x y) | none => none)
    | none => none
  | .not a => match fmE n t st a with | some x => some (.not x) | none => none
  | .or a b => match fmE n t st a with
    | some x => (match fmE n t st b with | some y => some (mkIte x (.lit 1) y) | none => none)
    | none => none
end

structure Cut where
  at_ : Nat
  keep : List Nat
  nv : Nat
  facts : List Fm
  /-- each way's ways by themselves? -/
  each : Bool := false
  /-- what stands in a cell behind a temporary's pointer -/
  put : List (Nat × Nat × Tm) := []

/-- Is it so at a way's end? -/
def factsOk (n : Nat) (t : T V) (st : St) : List Fm → Bool
  | [] => true
  | f :: fs => (match fmE n t st f with | some e => PC.prove 20 st.pc e | none => false) && factsOk n t st fs
def allFacts (n : Nat) (fs : List Fm) : List Leaf → Bool
  | [] => true
  | l :: ls => factsOk n l.t l.st fs && allFacts n fs ls
/-- What is known of the pattern. -/
def factsPC (n : Nat) (t : T V) (st : St) : List Fm → PC → Option PC
  | [], pc => some pc
  | f :: fs, pc => match fmE n t st f with
    | some e => (match pc.put e true with | some pc => factsPC n t st fs pc | none => none)
    | none => none

def normals : List Leaf → List Leaf
  | [] => []
  | l :: ls => match l.x with | .normal => l :: normals ls | _ => normals ls
def others : List Leaf → List Leaf
  | [] => []
  | l :: ls => match l.x with | .normal => others ls | _ => l :: others ls

def fitLeaves (G : List (Nat × List Value)) (nv : Nat) (tl : List (Option V)) (bl : List Blk) (s : Col) : Nat → List Leaf → Bool
  | _, [] => true
  | i, l :: ls => fitLeaf G nv tl bl (rowsOf i s.blks, rowsOf i s.vars) l && fitLeaves G nv tl bl s (i + 1) ls

/-- A cell told otherwise. -/
def putCell (n : Nat) (t : T V) (st : St) (d c : Nat) (e : E) : St := ift (Nat.blt d n) (match t.get .un d with
    | .ptr b o => (match st.blk b with
      | .cells cs el tot => (match cs[o + c]? with
        | some v => (match v with | .int k _ => st.upd b (.cells (cs.set (o + c) (.int k e)) el tot) | _ => st)
        | none => st)
      | _ => st)
    | _ => st) st
def putCells (n : Nat) (t : T V) : List (Nat × Nat × Tm) → St → St
  | [], st => st
  | p :: l, st => match tmE n t st p.2.2 with
    | some e => putCells n t l (putCell n t st p.1 p.2.1 e)
    | none => putCells n t l st
def putFacts : List (Nat × Nat × Tm) → List Fm
  | [] => []
  | p :: l => .eq (.cell p.1 p.2.1) p.2.2 :: putFacts l

def globsOf : List Leaf → List (Nat × List Value)
  | [] => []
  | l :: _ => l.st.globs
/-- All normal ways taken together. -/
def joined (n : Nat) (c : Cut) (pc0 : PC) (ls : List Leaf) : Option (T V × St) :=
  let pcs := ls.map fun l => l.st.pc
  let G := globsOf ls
  let r := colT c.nv c.keep pcs ls n 0 ⟨[], [], []⟩
  let b := colBs c.nv pcs ls 1000 0 r.2
  ift (belowPC c.nv pc0 && Nat.blt b.1.length 4000 && Nat.blt n (2 ^ depthOf 20 n) && fitLeaves G c.nv r.1 b.1 b.2 0 ls && allFacts n c.facts ls && allFacts n (putFacts c.put) ls) (match factsPC n (patT n r.1) (patS G b.1 pc0) c.facts pc0 with
    | some pc => some (patT n r.1, putCells n (patT n r.1) c.put (patS G b.1 pc))
    | none => none) <| none

def firstId : Code → Option Nat
  | .region id _ _ => some id
  | .seq a _ => firstId a
  | .scope a => firstId a
  | .block _ a => firstId a
  | _ => none
def findCut (i : Nat) : List Cut → Option Cut
  | [] => none
  | c :: l => ift (Nat.beq c.at_ i) (some c) <| findCut i l
def cutFor (cuts : List Cut) (b : Code) : Option Cut := match firstId b with
  | some i => findCut i cuts
  | none => none

/-- Taken together; without what is put, where that does not hold. -/
def joinedOr (n : Nat) (c : Cut) (pc0 : PC) (ls : List Leaf) : Option (T V × St) := match joined n c pc0 ls with
  | some p => some p
  | none => joined n { c with put := [] } pc0 ls
/-- One way's ways taken together. -/
def oneJoin (P : Program) (H : Hooks) (k n : Nat) (a : Code) (cut : Cut) (pc0 : PC) (l : Leaf) : Res Leaf := match ev P H k n a l.t l.st with
  | .bad c => .bad c
  | .ok ms => match normals ms with
    | [] => .ok (others ms)
    | ns => ift (belowPC cut.nv pc0) (match joinedOr n cut (l.st.pc.only cut.nv) ns with
      | some p => .ok (⟨.normal, p.1, p.2⟩ :: others ms)
      | none => .ok ms) <| .bad [943, cut.at_]
/-- Code behind some ways, with cuts; 'pc0': what was known at the last cut. -/
def evG (P : Program) (H : Hooks) (cuts : List Cut) (n : Nat) : Nat → Code → List Leaf → PC → Res Leaf
  | 0, _, _, _ => .bad [940]
  | k + 1, c, ls, pc0 => both (.ok (others ls)) (match c with
    | .seq a b => (match cutFor cuts b with
      | none => match flat (fun l => ev P H k n a l.t l.st) (normals ls) with
        | .bad c => .bad c
        | .ok ms => evG P H cuts n k b ms pc0
      | some cut => ift cut.each (match flat (oneJoin P H k n a cut pc0) (normals ls) with
          | .ok ms => evG P H cuts n k b ms pc0
          | .bad c => .bad c) <| match flat (fun l => ev P H k n a l.t l.st) (normals ls) with
        | .bad c => .bad c
        | .ok ms => match normals ms with
          | [] => .ok (others ms)
          | ns => match joined n cut pc0 ns with
            | none => .bad [941, cut.at_]
            | some p => both (.ok (others ms)) (evG P H cuts n k b [⟨.normal, p.1, p.2⟩] p.2.pc))
    | c => flat (fun l => ev P H k n c l.t l.st) (normals ls))

def evT (P : Program) (H : Hooks) (cuts : List Cut) (k : Nat) (n : Nat) (c : Code) (t : T V) (st : St) : Res Leaf := evG P H cuts n k c [⟨.normal, t, st⟩] st.pc

def evCallT (P : Program) (H : Hooks) (cuts : List Cut) (k : Nat) : Calls1 := callBy P (fun _ => none) (evT P H cuts k)

end Go.Proofs.YtmacjmofhaghbaaDoor.Sy
end
