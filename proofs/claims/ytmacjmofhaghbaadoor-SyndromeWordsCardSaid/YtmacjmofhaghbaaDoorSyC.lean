/-
  A symbolic evaluator for the model's code: lists of operations, regions that draw their order, code, calls.
-/
import Derived.Test.YtmacjmofhaghbaaDoorSyB
noncomputable section
namespace Go.Proofs.YtmacjmofhaghbaaDoor.Sy
open Go

inductive Ex where
  | normal
  | exit (id : Nat)
  | ret

structure Leaf where
  x : Ex
  t : T V
  st : St

/-- What came of it: all ways; or where it stopped. -/
inductive Res (α : Type) where
  | ok (l : List α)
  | bad (c : List Nat)

abbrev Calls1 := FuncId → List V → St → Res (V × St)

def both {α : Type} (a b : Res α) : Res α := match a with
  | .ok l => match b with | .ok m => .ok (l ++ m) | .bad c => .bad c
  | .bad c => .bad c

/-- Both ways of a test that is not known. -/
def forkOn {α : Type} (st : St) (q : E) (k : St → Res α) : Res α :=
  match st.pc.put q true, st.pc.put q false with
  | some p, some p' => both (k (st.know p)) (k (st.know p'))
  | some p, none => k (st.know p)
  | none, some p' => k (st.know p')
  | none, none => .ok []

def rdT (n : Nat) (t : T V) : Rd := fun x => match x with
  | .tmp i => ift (Nat.blt i n) (t.get .un i) <| .un
  | .const v => ofValue v
  | .global g => .ptr (.glob g) 0
  | .func f => .func (.func f) [] []

def putT (n : Nat) (t : T V) : Option Tmp → V → T V
  | some d, v => ift (Nat.blt d n) (t.set d v) <| t
  | none, _ => t

/-- With what is known of it. -/
def rdS (n : Nat) (t : T V) (pc : PC) : Rd := fun x => (rdT n t x).strip pc

inductive Want where
  | yes | no | ask (e : E) | bad

/-- Is a test's outcome the one that is wanted? -/
def side (b : Bool) (e : E) : E := ift b e (mkNot e)
def wantE (pc : PC) (f : E) : Want := match pc.tell f with
  | some r => ift r .yes .no
  | none => .ask f

/-- Is the operation carried out? -/
def wants (ops : List Oper) (n : Nat) (t : T V) (pc : PC) (g : Option (Nat × Bool)) : Want :=
  match g with
  | none => .yes
  | some (j, b) => match ops[j]? with
    | some o => match o.dst with
      | some d => ift (Nat.blt d n) (match (t.get .un d).strip pc with
          | .bool e => wantE pc (side b e)
          | .lit (.tuple _) => .no
          | .opt g v => match v with
            | .bool e => wantE pc (mkIte g (side b e) (.lit 0))
            | _ => .bad
          | _ => .bad) <| .bad
      | none => .bad
    | none => .bad

def flat {α β : Type} (f : α → Res β) : List α → Res β
  | [] => .ok []
  | [a] => f a
  | a :: l => both (f a) (flat f l)

def tag {α : Type} (n : Nat) : Res α → Res α
  | .bad c => .bad (n :: c)
  | r => r

/-! ## what is done only if a test comes out so -/
/-- Does an operation turn the heap (or may it)? -/
def heapOp : Op → Bool
  | .alloc _ | .box _ _ | .buildSlice _ _ _ | .insert _ _ _ _ | .store _ _ _ | .makeMap _ _ | .makeSlice _ _ _ | .mapUpdate _ _ _ _ | .mapEntry _ _ _
  | .entryStore _ _ _ _ | .range _ _ | .next _ _ => true
  | .call c => match c.callee with
    | .builtin b => match b with | .len | .cap | .max | .min => false | _ => true
    | _ => true
  | _ => false
def allB {α : Type} (p : α → Bool) : List α → Bool
  | [] => true
  | a :: l => p a && allB p l
/-- Code that leaves the heap as it is, and draws nothing. -/
def pureC : Code → Bool
  | .skip | .label _ | .exit _ | .ret => true
  | .scope a | .block _ a | .loop a => pureC a
  | .seq a b => pureC a && pureC b
  | .cond _ a b => pureC a && pureC b
  | .region _ ops draw => !draw && allB (fun o : Oper => !heapOp o.op) ops.toList
  | _ => false
def pureF (P : Program) (f : FuncId) : Bool := match P.funcs[f]? with
  | some fn => match fn.body with
    | some c => pureC c
    | none => false
  | none => false

/-- An operation that is carried out just if a test comes out so: what it yields, if that can be told without parting. -/
def specR (P : Program) (call : Calls1) (n : Nat) (t : T V) (st : St) (op : Op) (f : E) : Option V := match putF f st.pc true with
  | none => some .un
  | some p => match opR P (rdS n t p) (st.know p) op with
    | .val v => some (.opt f v)
    | .call g args => ift (pureF P g) (match call g args (st.know p) with
        | .ok [q] => some (.opt f q.1)
        | _ => none) <| none
    | _ => none

/-- A list of operations, one behind the other. -/
def runOps (P : Program) (call : Calls1) (n : Nat) (all : List Oper) : Nat → List Oper → T V → St → Res (T V × St)
  | 0, _, _, _ => .bad [901]
  | k + 1, l, t, st => match l with
    | [] => .ok [(t, st)]
    | o :: rest => match wants all n t st.pc o.guard with
      | .yes => match opR P (rdS n t st.pc) st o.op with
        | .val v => runOps P call n all k rest (putT n t o.dst v) st
        | .new v b => runOps P call n all k rest (putT n t o.dst v) (st.alloc b)
        | .newD v b => runOps P call n all k rest (putT n t o.dst v) (st.allocD b)
        | .upd v b x => runOps P call n all k rest (putT n t o.dst v) (st.upd b x)
        | .need q => forkOn st q (runOps P call n all k (o :: rest) t)
        | .call f args => match call f args st with
          | .ok l => flat (fun p => runOps P call n all k rest (putT n t o.dst p.1) p.2) l
          | .bad c => .bad (rest.length :: c)
        | .fail c => .bad [rest.length, c]
      | .no => runOps P call n all k rest (putT n t o.dst .un) st
      | .ask e => match specR P call n t st o.op e with
        | some v => runOps P call n all k rest (putT n t o.dst v) st
        | none => forkOn st e (runOps P call n all k (o :: rest) t)
      | .bad => .bad [rest.length, 902]

/-! ## a region that draws its order -/
/-- Does an operation look at the heap? -/
def readOp : Op → Bool
  | .convert _ _ _ | .load _ _ | .lookup _ _ _ _ | .entry _ => true
  | .call c => match c.callee with
    | .builtin .len => true
    | _ => false
  | _ => false

def bit (s i : Nat) : Bool := Nat.beq (Nat.land (Nat.shiftRight s i) 1) 1

def bindsB (e : Edge) : Bool := match e.ground with | .textOnly _ | .gcOnly _ => false | _ => true

/-- Whatever stands ahead of an operation, as bits. -/
def edgeMask (masks : T Nat) (i : Nat) : List Edge → Nat → Option Nat
  | [], s => some s
  | e :: es, s => ift (bindsB e ) (
      (ift (Nat.blt e.on i) ((ift (bit s e.on) (edgeMask masks i es s) <| edgeMask masks i es (Nat.lor (Nat.lor s (Nat.shiftLeft 1 e.on)) (masks.get 0 e.on)))) <| none)
   ) <| edgeMask masks i es s

def masksFrom : Nat → List Oper → T Nat → Option (T Nat)
  | _, [], m => some m
  | i, o :: os, m => match edgeMask m i o.after.toList 0 with
    | some s => masksFrom (i + 1) os (m.set i s)
    | none => none

def ordB (m : T Nat) (i j : Nat) : Bool := bit (m.get 0 j) i || bit (m.get 0 i) j

/-- The temporaries that are written, each with its writers. -/
def writers : Nat → List Oper → T (List Nat) → T (List Nat)
  | _, [], w => w
  | i, o :: os, w => match o.dst with
    | some d => writers (i + 1) os (w.set d (i :: w.get [] d))
    | none => writers (i + 1) os w

def tmpsOf : List Operand → List Nat
  | [] => []
  | .tmp t :: l => t :: tmpsOf l
  | _ :: l => tmpsOf l

/-- At which temporaries an operation looks, and which it writes. -/
def namesOf (all : List Oper) (o : Oper) : List Nat :=
  let l := tmpsOf o.op.operands.toList
  let l := match o.dst with | some d => d :: l | none => l
  match o.guard with
  | some (j, _) => match all[j]? with
    | some g => match g.dst with | some d => d :: l | none => l
    | none => l
  | none => l

def namesOk (all : List Oper) (n : Nat) (m : T Nat) (w : T (List Nat)) : Nat → List Oper → Bool
  | _, [] => true
  | j, o :: os => allB (fun t => Nat.blt t n && allB (fun i => Nat.beq i j || ordB m i j) (w.get [] t)) (namesOf all o) && namesOk all n m w (j + 1) os

def heapIdx : Nat → List Oper → List Nat
  | _, [] => []
  | i, o :: os => ift (heapOp o.op) (i :: heapIdx (i + 1) os) <| heapIdx (i + 1) os

/-- Each behind all that stand ahead of it. -/
def chainB (m : T Nat) : List Nat → Bool
  | [] => true
  | i :: l => allB (fun j => bit (m.get 0 j) i) l && chainB m l

def depthOf : Nat → Nat → Nat
  | 0, _ => 0
  | k + 1, n => ift (Nat.beq n 0) (0) <| depthOf k (n / 2) + 1

/-- A region whose order does not matter as far as its text tells: the masks. -/
def drawOk (n : Nat) (ops : List Oper) : Option (T Nat) :=
  match masksFrom 0 ops (T.mk 0 (depthOf 20 ops.length)) with
  | some m =>
    let k := depthOf 20 n
    ift (Nat.blt n (2 ^ k) && namesOk ops n m (writers 0 ops (T.mk [] k)) 0 ops && chainB m (heapIdx 0 ops)) (some m) <| none
  | none => none

inductive D where
  | done (t : T V) (st : St)
  | need (q : E)
  | many (l : List PC)
  | fail (c : List Nat)

def pcsOf : List (V × St) → List PC
  | [] => []
  | p :: l => p.2.pc :: pcsOf l

/-- The very same expression, bounds and all? -/
def E.same : E → E → Bool
  | .lit a, e => match e with | .lit b => ieq a b | _ => false
  | .var i l h, e => match e with | .var j l' h' => Nat.beq i j && ieq l l' && ieq h h' | _ => false
  | .fn f a l h, e => match e with | .fn g b l' h' => Nat.beq f g && ieq l l' && ieq h h' && E.same a b | _ => false
  | .bin op k a b l h, e => match e with | .bin op' k' a' b' l' h' => beqBin op op' && keq k k' && ieq l l' && ieq h h' && E.same a a' && E.same b b' | _ => false
  | .conv k a l h, e => match e with | .conv k' a' l' h' => keq k k' && ieq l l' && ieq h h' && E.same a a' | _ => false
  | .eq a b, e => match e with | .eq a' b' => E.same a a' && E.same b b' | _ => false
  | .lt a b, e => match e with | .lt a' b' => E.same a a' && E.same b b' | _ => false
  | .not a, e => match e with | .not a' => E.same a a' | _ => false
  | .ite c a b l h, e => match e with | .ite c' a' b' l' h' => ieq l l' && ieq h h' && E.same c c' && E.same a a' && E.same b b' | _ => false
  | .cap d n o t l h, e => match e with | .cap d' n' o' t' l' h' => Nat.beq d d' && Nat.beq t t' && ieq l l' && ieq h h' && E.same n n' && E.same o o' | _ => false

def sameEL : List E → List E → Bool
  | [], l => match l with | [] => true | _ => false
  | a :: l, l' => match l' with | b :: m => a.same b && sameEL l m | [] => false
mutual
/-- The very same value? -/
def V.same : V → V → Bool
  | .lit a, w => match w with | .lit b => beqLit a b | _ => false
  | .bool e, w => match w with | .bool e' => e.same e' | _ => false
  | .int k e, w => match w with | .int k' e' => keq k k' && e.same e' | _ => false
  | .ptr b o, w => match w with | .ptr b' o' => beqB b b' && Nat.beq o o' | _ => false
  | .dptr b o i s u, w => match w with | .dptr b' o' i' s' u' => beqB b b' && Nat.beq o o' && i.same i' && Nat.beq s s' && Nat.beq u u' | _ => false
  | .slice b o l c, w => match w with | .slice b' o' l' c' => beqB b b' && Nat.beq o o' && l.same l' && c.same c' | _ => false
  | .map b, w => match w with | .map b' => beqB b b' | _ => false
  | .func fn a c, w => match w with | .func fn' a' c' => beqFn fn fn' && V.sames a a' && V.sames c c' | _ => false
  | .agg l, w => match w with | .agg l' => V.sames l l' | _ => false
  | .tup l, w => match w with | .tup l' => V.sames l l' | _ => false
  | .opt g v, w => match w with | .opt g' v' => g.same g' && V.same v v' | _ => false
  | .hole i, w => match w with | .hole j => Nat.beq i j | _ => false
  | .str a, w => match w with | .str b => sameEL a b | _ => false
def V.sames : List V → List V → Bool
  | [], l => match l with | [] => true | _ => false
  | a :: l, l' => match l' with | b :: m => V.same a b && V.sames l m | [] => false
end

/-- Does an operation that does not turn the heap yield this (guarded as it is)? -/
def sameVal (P : Program) (call : Calls1) (n : Nat) (all : List Oper) (t : T V) (st : St) (o : Oper) (v : V) : Bool := match wants all n t st.pc o.guard with
  | .yes => (match opR P (rdS n t st.pc) st o.op with | .val w => w.same v | _ => false)
  | .ask f => (match specR P call n t st o.op f with | some w => w.same v | _ => false)
  | _ => false

/-- What was done at a place: a look at the heap and what it told; a turn of the heap, what it told and what the heap was then. -/
inductive Deed where
  | none (v : V)
  | look (v : V)
  | heap (v : V) (st' : St)
structure Ent where
  t : T V
  st : St
  o : Oper
  deed : Deed

/-- A look and a turn, at the places q.1 < p.1: either they are ordered, or the look tells the same on the other side of the turn. -/
def pairOk (P : Program) (call : Calls1) (n : Nat) (all : List Oper) (m : T Nat) (q p : Nat × Ent) : Bool :=
  match q.2.deed with
  | .look v => match p.2.deed with
    | .heap _ st' => bit (m.get 0 p.1) q.1 || sameVal P call n all q.2.t st' q.2.o v
    | _ => true
  | .heap _ _ => match p.2.deed with
    | .look v => bit (m.get 0 p.1) q.1 || sameVal P call n all p.2.t q.2.st p.2.o v
    | _ => true
  | .none _ => true

/-- In the order of the text, without a fork. 'L': the looks and the turns so far, with their places. -/
def runOne (P : Program) (call : Calls1) (n : Nat) (all : List Oper) (m : T Nat) : List Oper → Nat → T V → St → List (Nat × Ent) → D
  | [], _, t, st, _ => .done t st
  | o :: rest, i, t, st, L =>
    let turn (v : V) (st' : St) : D :=
      let p : Nat × Ent := (i, ⟨t, st, o, .heap v st'⟩)
      ift (allB (fun q => pairOk P call n all m q p) L) (runOne P call n all m rest (i + 1) (putT n t o.dst v) st' (p :: L)
       ) <| .fail [rest.length, 907]
    let still (v : V) : D :=
      ift (readOp o.op) (
        let p : Nat × Ent := (i, ⟨t, st, o, .look v⟩)
        ift (allB (fun q => pairOk P call n all m q p) L) (runOne P call n all m rest (i + 1) (putT n t o.dst v) st (p :: L)
         ) <| .fail [rest.length, 908]
       ) <| runOne P call n all m rest (i + 1) (putT n t o.dst v) st L
    match wants all n t st.pc o.guard with
    | .yes =>
      ift (heapOp o.op) (
        match opR P (rdS n t st.pc) st o.op with
        | .val v => turn v st
        | .new v b => turn v (st.alloc b)
        | .newD v b => turn v (st.allocD b)
        | .upd v b x => turn v (st.upd b x)
        | .need q => .need q
        | .call f args => match call f args st with
          | .ok [p] => ift (Nat.beq p.2.pc.cnt st.pc.cnt) (turn p.1 (p.2.know st.pc)) <| .many [p.2.pc]
          | .ok l => .many (pcsOf l)
          | .bad c => .fail (rest.length :: c)
        | .fail c => .fail [rest.length, c]
       ) <| match opR P (rdS n t st.pc) st o.op with
        | .val v => still v
        | .need q => .need q
        | .fail c => .fail [rest.length, c]
        | _ => .fail [rest.length, 909]
    | .no => runOne P call n all m rest (i + 1) (putT n t o.dst .un) st L
    | .ask e => match specR P call n t st o.op e with
      | some v => ift (heapOp o.op) (turn v st) <| still v
      | none => .need e
    | .bad => .fail [rest.length, 905]

def drawRun (P : Program) (call : Calls1) (n : Nat) (ops : List Oper) (m : T Nat) (t : T V) : Nat → St → Res (T V × St)
  | 0, _ => .bad [906]
  | k + 1, st => match runOne P call n ops m ops 0 t { st with dr := st.dr + 1 } [] with
    | .done t' st' => .ok [(t', st')]
    | .need q => forkOn st q (drawRun P call n ops m t k)
    | .many l => flat (fun pc => drawRun P call n ops m t k (st.know pc)) l
    | .fail c => .bad c

/-! ## code -/
def retV (P : Program) (n : Nat) (t : T V) (st : St) : List ResultVar → Option (List V)
  | [] => some []
  | .tmp i :: l => match retV P n t st l with | some m => some (rdS n t st.pc (.tmp i) :: m) | none => none
  | .cell a ty :: l => match loadR P st ty (rdS n t st.pc (.tmp a)) with
    | .val v => match retV P n t st l with | some m => some (v :: m) | none => none
    | _ => none

def oneOrTup : List V → V
  | [v] => v
  | l => .tup l

def collect (P : Program) (n : Nat) (rs : List ResultVar) : List Leaf → Res (V × St)
  | [] => .ok []
  | l :: ls => match l.x with
    | .exit _ => .bad [908]
    | _ => match retV P n l.t l.st rs with
      | some vs => match collect P n rs ls with | .ok m => .ok ((oneOrTup vs, l.st) :: m) | .bad c => .bad c
      | none => .bad [909]

/-- Contracts of functions that are not walked into. -/
abbrev Hooks := FuncId → Option (List V → St → Res (V × St))

/-- A frame's temporaries, with the arguments. -/
def frame (n : Nat) (args : List V) : Option (T V) :=
  let k := depthOf 20 n
  ift (Nat.blt n (2 ^ k) && Nat.ble args.length n) (some (T.setAll args 0 (T.mk .un k))) <| none

/-- A call, its body walked by 'run'. -/
def callBy (P : Program) (H : Hooks) (run : Nat → Code → T V → St → Res Leaf) : Calls1 := fun f args st =>
  match H f with
  | some h => h args st
  | none => match P.funcs[f]? with
    | some fn => match fn.body with
      | some body => match frame fn.ntmps args with
        | some t => match run fn.ntmps body t st with
          | .ok ls => collect P fn.ntmps fn.results.toList ls
          | .bad c => .bad (f :: c)
        | none => .bad [f, 916]
      | none => .bad [f, 912]
    | none => .bad [f, 913]

def offBlock (id : Nat) (l : Leaf) : Leaf := match l.x with
  | .exit i => ift (Nat.beq i id) ({ l with x := .normal }) <| l
  | _ => l

def ev (P : Program) (H : Hooks) : Nat → Nat → Code → T V → St → Res Leaf
  | 0, _, _, _, _ => .bad [910]
  | k + 1, n, c, t, st =>
    match c with
    | .skip | .label _ => .ok [⟨.normal, t, st⟩]
    | .scope a => ev P H k n a t st
    | .exit id => .ok [⟨.exit id, t, st⟩]
    | .ret => .ok [⟨.ret, t, st⟩]
    | .seq a b => match ev P H k n a t st with
      | .ok l => flat (fun l => match l.x with | .normal => ev P H k n b l.t l.st | _ => .ok [l]) l
      | .bad c => .bad c
    | .cond x a b => match rdS n t st.pc x with
      | .bool e => match st.pc.tell e with
        | some true => ev P H k n a t st
        | some false => ev P H k n b t st
        | none => forkOn st e fun st => ev P H k n c t st
      | _ => .bad [911]
    | .block id a => match ev P H k n a t st with
      | .ok l => .ok (l.map (offBlock id))
      | .bad c => .bad c
    | .loop a => match ev P H k n a t st with
      | .ok l => flat (fun l => match l.x with | .normal => ev P H k n (.loop a) l.t l.st | _ => .ok [l]) l
      | .bad c => .bad c
    | .region id ops draw =>
      match (ift (draw) ((match drawOk n ops.toList with | some m => drawRun P (callBy P H (ev P H k)) n ops.toList m t 200 st | none => .bad [914])
       ) <| runOps P (callBy P H (ev P H k)) n ops.toList 10000 ops.toList t st) with
      | .ok l => .ok (l.map fun p => ⟨.normal, p.1, p.2⟩)
      | .bad c => .bad (id :: c)
    | _ => .bad [915]

/-- A whole call. -/
def evCall (P : Program) (H : Hooks) (k : Nat) : Calls1 := callBy P (fun _ => none) (ev P H k)

def St.init (pc : PC) (globs : List (Nat × List Value) := []) : St := { nn := 0, news := T.mk .none 12, olds := [], dr := 0, pc, globs }

end Go.Proofs.YtmacjmofhaghbaaDoor.Sy
end
