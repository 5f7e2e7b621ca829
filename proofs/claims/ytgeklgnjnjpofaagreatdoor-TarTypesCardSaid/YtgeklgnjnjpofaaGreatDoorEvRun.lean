/- the evaluator: regions, code, calls, deferred calls. -/
import Derived.Test.YtgeklgnjnjpofaaGreatDoorEvAct3
import Derived.Recover
set_option linter.unusedSimpArgs false
set_option linter.unusedVariables false
namespace Go.Ev
open Go Go.RowKit
 noncomputable section
structure ADefer where
  f : FuncId
  args : List Value
  caps : List Value
/-- an activation: the temporaries, how many there are, the heap, what is deferred. -/
structure Env where
  t : T Value
  nt : Nat
  s : S
  d : List ADefer
def Env.eval (e : Env) : Operand → Value
  | .tmp t => (e.t.get t).getD undef
  | .const v => v
  | .global g => .pointer (some ⟨g, 0, none⟩)
  | .func f => .func (.func f) #[] #[]
def Env.put (e : Env) (d : Option Tmp) (v : Value) : Env :=
  match d with
  | some k => bif Nat.blt k e.nt then { e with t := e.t.put k v } else e
  | none => e
/-- may an operand be looked at? G: how many variables of the program lie under their own names. -/
def opOk (G : Nat) : Operand → Bool
  | .const v => plain v
  | .global g => Nat.blt g G
  | _ => true
def opsOk (G : Nat) (o : Oper) : Bool := o.op.operands.toList.all (opOk G)
def wantd (ops : List Oper) (e : Env) (g : Option (Nat × Bool)) : Bool :=
  match g with
  | none => true
  | some (j, b) => match ops[j]? with
    | some o => match o.dst with
      | some d => match (e.t.get d).getD undef with | .bool c => c == b | _ => false
      | none => false
    | none => false
/-- 0: only computes; 1: reads memory; 2: acts. -/
def kind (P : Program) (o : Oper) : Nat :=
  match o.op with
  | .move _ | .assign _ | .pick _ _ _ | .nilCheck _ | .makeInterface _ _ | .makeFunc _ _ _ | .fieldAddr _ _ _ | .indexAddr _ _ _ | .index _ _ _ | .build _ _ | .extract _ _ | .field _ _ _ | .binOp _ _ _ _ _ | .unOp _ _ _ | .typeAssert _ _ _ _ => 0
  | .call c => match c.callee with | .builtin .len | .builtin .min | .builtin .max => 0 | _ => 2
  | .load _ _ => 1
  | .lookup _ _ _ _ => 1
  | .slice t _ _ _ _ => match P.underlying t with | some (.slice _) => 1 | some (.array _ _) => 1 | _ => 0
  | .convert src dst _ => match P.underlying dst, P.underlying src with
    | some (.slice _), some .string => 2
    | some .string, some (.slice _) => 1
    | some .unsafePointer, some (.pointer _) => 1
    | some (.pointer _), some .unsafePointer => 1
    | _, _ => 0
  | _ => 2
/-- what a call comes to. -/
inductive COut where
  | ret (v : Value) (s : S)
  | panic (v : Value) (s : S)
  | bad
abbrev CallF := FuncId → List Value → S → COut
/-- what an operation comes to, with its call. -/
inductive EO where
  | val (v : Value) (s : S)
  | panic (v : Value) (s : S)
  | defer (d : ADefer)
  | recover
  | bad
/-- may a function be entered? -/
def callable (P : Program) (f : FuncId) : Bool := match P.funcs.toList[f]? with | some fn => fn.body.isSome && !(fn.name == "runtime.NumGoroutine") | none => false
structure Par where
  P : Program
  G : Nat
  /-- what functions without a body, and functions that are known, answer. -/
  ext : FuncId → List Value → S → Option Value
def evOp (p : Par) (call : CallF) (ρ : Operand → Value) (o : Oper) (s : S) : EO :=
  match kind p.P o with
  | 0 => match evPure p.P ρ o with | some v => .val v s | none => .bad
  | 1 => match evRead p.P ρ o s with | some v => .val v s | none => .bad
  | _ => match evAct p.P ρ o s with
    | .val v s' => .val v s'
    | .enter f args => match p.ext f args s with
      | some v => .val v s
      | none => bif callable p.P f then (match call f args s with | .ret v s' => .val v s' | .panic v s' => .panic v s' | .bad => .bad) else .bad
    | .panic v => .panic v s
    | .defer f args caps => .defer ⟨f, args, caps⟩
    | .recover => .recover
    | .bad => .bad
inductive Out where
  | norm (e : Env)
  | ret (e : Env)
  | exit (i : Nat) (e : Env)
  | panic (v : Value) (e : Env)
  /-- a panic inside a region that draws: the temporaries are not told. -/
  | panicD (v : Value) (s : S) (d : List ADefer)
  | bad
def evOps (p : Par) (call : CallF) (all : List Oper) : List Oper → Env → Out
  | [], e => .norm e
  | o :: r, e => bif wantd all e o.guard then
      (bif opsOk p.G o then match evOp p call e.eval o e.s with
        | .val v s => evOps p call all r ({ e with s := s }.put o.dst v)
        | .panic v s => .panic v { e with s := s }
        | .defer d => evOps p call all r ({ e with d := d :: e.d }.put o.dst undef)
        | _ => .bad
      else .bad)
    else evOps p call all r (e.put o.dst undef)
/-- a region that draws its order: what each operation waits for. -/
def bindsAny (e : Edge) : Bool := match e.ground with | .textOnly _ => false | .gcOnly _ => false | _ => true
def edgeMask (m : T Nat) : List Edge → Nat → Nat
  | [], s => s
  | e :: r, s => edgeMask m r (bif bindsAny e then s ||| (2 ^ e.on ||| (m.get e.on).getD 0) else s)
def masks : List Oper → Nat → T Nat → T Nat
  | [], _, m => m
  | o :: r, i, m => masks r (i + 1) (m.put i (edgeMask m o.after.toList 0))
def edgesBack : List Oper → Nat → Bool
  | [], _ => true
  | o :: r, i => o.after.toList.all (fun e => !bindsAny e || Nat.blt e.on i) && edgesBack r (i + 1)
/-- the temporaries that an operation looks at. -/
def looks (ops : List Oper) (o : Oper) : List Tmp :=
  (o.op.operands.toList.filterMap fun | .tmp t => some t | _ => none) ++
  (match o.guard with
   | some (j, _) => match ops[j]? with | some x => x.dst.toList | none => []
   | none => [])
def memN (k : Nat) : List Nat → Bool
  | [] => false
  | x :: l => bif Nat.beq x k then true else memN k l
/-- what an earlier operation and a later one share waits in order; acting ones do. -/
def pairOk (P : Program) (F : Nat) (ops : List Oper) (i : Nat) (x : Oper) (j my : Nat) (y : Oper) : Bool :=
  bif my.testBit i then (match x.dst, y.dst with | some a, some b => !Nat.beq a b | _, _ => true)
  else (match x.dst with | some d => !memN d (looks ops y) && (match y.dst with | some d' => !Nat.beq d d' | none => true) | none => true) &&
    (match y.dst with | some d => !memN d (looks ops x) | none => true) && (F.testBit i || F.testBit j || !(Nat.beq (kind P x) 2 && Nat.beq (kind P y) 2))
def pairsOk (P : Program) (F : Nat) (ops : List Oper) (m : T Nat) : List Oper → Nat → Nat → Oper → Bool
  | [], _, _, _ => true
  | y :: r, j, i, x => pairOk P F ops i x j ((m.get j).getD 0) y && pairsOk P F ops m r (j + 1) i x
def allPairs (P : Program) (F : Nat) (ops : List Oper) (m : T Nat) : List Oper → Nat → Bool
  | [], _ => true
  | x :: r, i => pairsOk P F ops m r (i + 1) i x && allPairs P F ops m r (i + 1)
def drawOk (P : Program) (F : Nat) (ops : List Oper) : Bool := edgesBack ops 0 && allPairs P F ops (masks ops 0 .e) ops 0
/-- blocks that are made while something else acts: their entries come into the heap when they are waited for. -/
def isAl (o : Oper) : Bool := match o.op with | .alloc _ | .box _ _ | .buildSlice _ _ _ | .makeSlice _ _ _ | .convert _ _ _ | .makeMap _ _ => true | _ => false
def unord (P : Program) (m : T Nat) (i mi : Nat) : List Oper → Nat → Bool
  | [], _ => false
  | y :: r, j => (Nat.beq (kind P y) 2 && !Nat.beq i j && !(bif Nat.blt j i then mi.testBit j else ((m.get j).getD 0).testBit i)) || unord P m i mi r (j + 1)
def floats (P : Program) (ops : List Oper) (m : T Nat) : List Oper → Nat → Nat
  | [], _ => 0
  | x :: r, i => (bif isAl x && Nat.beq (kind P x) 2 && unord P m i ((m.get i).getD 0) ops 0 then 2 ^ i else 0) + floats P ops m r (i + 1)
def fl (P : Program) (F i : Nat) (o : Oper) : Bool := F.testBit i && Nat.beq (kind P o) 2
/-- alike: sound, not complete. -/
def optA : Option Addr → Option Addr → Bool
  | none, none => true
  | some a, some b => Nat.beq a.block b.block && Nat.beq a.off b.off && decide (a.spot = b.spot)
  | _, _ => false
def veqN : Nat → Value → Value → Bool
  | _, .bool a, .bool b => a == b
  | _, .int j a, .int k b => decide (j = k) && decide (a = b)
  | _, .float j a, .float k b => decide (j = k) && Nat.beq a b
  | _, .string a, .string b => decide (a.data.toList = b.data.toList)
  | _, .pointer a, .pointer b => optA a b
  | _, .slice a l c, .slice b l' c' => optA a b && Nat.beq l l' && Nat.beq c c'
  | _, .map a, .map b => decide (a = b)
  | _, .nilFunc, .nilFunc => true
  | _, .nilIface, .nilIface => true
  | n + 1, .agg a, .agg b => veqL n a.toList b.toList
  | n + 1, .tuple a, .tuple b => veqL n a.toList b.toList
  | _, _, _ => false
  where veqL (n : Nat) : List Value → List Value → Bool
  | [], [] => true
  | x :: l, y :: m => veqN n x y && veqL n l m
  | _, _ => false
def veq (a b : Value) : Bool := veqN 2 a b
structure Rec where
  o : Oper
  e : Env
  m : Nat
  v : Value
  ins : List (Nat × AObj)
def sameRead (P : Program) (base : Nat) (r : Rec) (s : S) : Bool := match evRead P r.e.eval r.o (insL base r.ins s) with | some v => veq v r.v | none => false
/-- a read is the same ahead of the acts that it does not wait for. -/
def backOk (P : Program) (base : Nat) (r : Rec) : List (Nat × S) → Bool
  | [] => true
  | (c, s) :: h => bif r.m.testBit c then true else sameRead P base r s && backOk P base r h
/-- reads that an act does not wait for are the same behind it. -/
def aheadOk (P : Program) (base m : Nat) (s : S) : List (Nat × Rec) → Bool
  | [] => true
  | (j, r) :: h => (bif m.testBit j then true else sameRead P base r s) && aheadOk P base m s h
def pick (m : Nat) (b : Bool) (l : List (Nat × AObj)) : List (Nat × AObj) := l.filter fun x => m.testBit x.1 == b
/-- an act brings entries in: reads look at them in the heap from there on. -/
def dropIns (m : Nat) (l : List (Nat × Rec)) : List (Nat × Rec) := l.map fun x => (x.1, { x.2 with ins := pick m false x.2.ins })
/-- does an operation wait for the one that panics? -/
def deadIn (pn : Option (Nat × Value × S)) (m : Nat) : Bool := match pn with | some (i, _, _) => m.testBit i | none => false
def endD (e : Env) (base : Nat) (pend : List (Nat × AObj)) (pn : Option (Nat × Value × S)) : Out :=
  match pn with
  | none => .norm { e with s := insL base pend e.s }
  | some (_, v, s) => .panicD v s e.d
def evDraw (p : Par) (call : CallF) (F base : Nat) (all : List Oper) (m : T Nat) : List Oper → Nat → Env → List (Nat × S) → List (Nat × Rec) → List (Nat × AObj) → Option (Nat × Value × S) → Out
  | [], _, e, _, _, pend, pn => endD e base pend pn
  | o :: r, i, e, hist, reads, pend, pn =>
    bif deadIn pn ((m.get i).getD 0) then evDraw p call F base all m r (i + 1) (e.put o.dst undef) hist reads pend pn else
    bif wantd all e o.guard then
      (bif opsOk p.G o then
        (bif fl p.P F i o then (match evAlloc p.P e.eval o (base + i) with
          | some (v, ob) => evDraw p call F base all m r (i + 1) (e.put o.dst v) hist reads ((i, ob) :: pend) pn
          | none => .bad)
        else match kind p.P o with
          | 0 => (match evOp p call e.eval o e.s with
            | .val v _ => evDraw p call F base all m r (i + 1) (e.put o.dst v) hist reads pend pn
            | _ => .bad)
          | 1 => (match evOp p call e.eval o (insL base (pick ((m.get i).getD 0) true pend) e.s) with
            | .val v _ => let rc : Rec := ⟨o, e, (m.get i).getD 0, v, pick ((m.get i).getD 0) true pend⟩
              bif backOk p.P base rc hist then evDraw p call F base all m r (i + 1) (e.put o.dst v) hist ((i, rc) :: reads) pend pn else .bad
            | _ => .bad)
          | _ => bif pn.isSome then .bad else (match evOp p call e.eval o (insL base (pick ((m.get i).getD 0) true pend) e.s) with
            | .val v s => bif aheadOk p.P base ((m.get i).getD 0) s (dropIns ((m.get i).getD 0) reads) then evDraw p call F base all m r (i + 1) ({ e with s := s }.put o.dst v) ((i, e.s) :: hist) (dropIns ((m.get i).getD 0) reads) (pick ((m.get i).getD 0) false pend) none else .bad
            | .panic v s => bif aheadOk p.P base ((m.get i).getD 0) e.s (dropIns ((m.get i).getD 0) reads) then evDraw p call F base all m r (i + 1) (e.put o.dst undef) ((i, e.s) :: hist) (dropIns ((m.get i).getD 0) reads) (pick ((m.get i).getD 0) false pend) (some (i, v, s)) else .bad
            | _ => .bad))
      else .bad)
    else evDraw p call F base all m r (i + 1) (e.put o.dst undef) hist reads pend pn
def bump (e : Env) (n : Nat) : Env := { e with s := { e.s with next := e.s.next + n } }
def evRegD (p : Par) (call : CallF) (ops : List Oper) (m : T Nat) (F : Nat) (e : Env) : Out :=
  bif drawOk p.P F ops then evDraw p call F e.s.next ops m ops 0 (bif Nat.beq F 0 then e else bump e ops.length) [] [] [] none else .bad
def evRegion (p : Par) (call : CallF) (ops : Array Oper) (draw : Bool) (e : Env) : Out :=
  bif draw then evRegD p call ops.toList (masks ops.toList 0 .e) (floats p.P ops.toList (masks ops.toList 0 .e) ops.toList 0) e else evOps p call ops.toList ops.toList e
def iter : Nat → (Env → Out) → Env → Out
  | 0, _, _ => .bad
  | n + 1, f, e => match f e with | .norm e => iter n f e | x => x
def evCode (p : Par) (call : CallF) (N : Nat) : Code → Env → Out
  | .skip, e => .norm e
  | .label _, e => .norm e
  | .region _ ops draw, e => evRegion p call ops draw e
  | .seq a b, e => match evCode p call N a e with | .norm e => evCode p call N b e | x => x
  | .cond c a b, e => bif opOk p.G c then (match e.eval c with | .bool true => evCode p call N a e | .bool false => evCode p call N b e | _ => .bad) else .bad
  | .block id a, e => match evCode p call N a e with | .exit j e => bif Nat.beq j id then .norm e else .exit j e | x => x
  | .loop a, e => iter N (evCode p call N a) e
  | .exit id, e => .exit id e
  | .scope a, e => evCode p call N a e
  | .ret, e => .ret e
  | _, _ => .bad
/-- results. -/
def resV (P : Program) (e : Env) : ResultVar → Option Value
  | .tmp t => some ((e.t.get t).getD undef)
  | .cell a t => match (e.t.get a).getD undef with
    | .pointer (some a) => match P.underlying t with
      | none => none
      | some _ => bif isAggB P t then (match e.s.cellsAt a (szOf P t) with | some l => some (.agg l.toArray) | none => none)
        else (match e.s.cellsAt a 1 with | some (v :: _) => some v | _ => none)
    | _ => none
def resL (P : Program) (e : Env) : List ResultVar → Option (List Value)
  | [] => some []
  | r :: l => match resV P e r with | some v => (match resL P e l with | some vs => some (v :: vs) | none => none) | none => none
def leave (P : Program) (fn : Func) (e : Env) : COut :=
  match resL P e fn.results.toList with
  | some [v] => .ret v e.s
  | some vs => .ret (.tuple vs.toArray) e.s
  | none => .bad
/-- how a frame that is being left stands: not panicking; panicking; recovered. -/
inductive PS where
  | idle
  | pan (v : Value)
  | got (v : Value)
def PS.settle : PS → PS
  | .got _ => .idle
  | x => x
inductive OutS where
  | norm (e : Env) (u : PS)
  | ret (e : Env) (u : PS)
  | bad
def evOpsS (p : Par) (call : CallF) (all : List Oper) : List Oper → Env → PS → OutS
  | [], e, u => .norm e u
  | o :: r, e, u => bif wantd all e o.guard then
      (bif opsOk p.G o then match evOp p call e.eval o e.s with
        | .val v s => evOpsS p call all r ({ e with s := s }.put o.dst v) u
        | .recover => match u with
          | .pan v => evOpsS p call all r (e.put o.dst v) (.got v)
          | u => evOpsS p call all r (e.put o.dst .nilIface) u
        | _ => .bad
      else .bad)
    else evOpsS p call all r (e.put o.dst undef) u
def ofOut (x : Out) (u : PS) : OutS := match x with | .norm e => .norm e u | .ret e => .ret e u | _ => .bad
def evCodeS (p : Par) (call : CallF) (N : Nat) : Code → Env → PS → OutS
  | .seq a b, e, u => match evCodeS p call N a e u with | .norm e u => evCodeS p call N b e u | x => x
  | .cond c a b, e, u => bif opOk p.G c then (match e.eval c with | .bool true => evCodeS p call N a e u | .bool false => evCodeS p call N b e u | _ => .bad) else .bad
  | .region id ops false, e, u => evOpsS p call ops.toList ops.toList e u
  | c, e, u => ofOut (evCode p call N c e) u
def enterE (fn : Func) (args : List Value) (s : S) : Env := ⟨T.puts args 0 .e, (max fn.ntmps args.length), s, []⟩
/-- a deferred call. -/
def evDefer (p : Par) (call : CallF) (N : Nat) (f : FuncId) (args : List Value) (s : S) (u : PS) : Option (S × PS) :=
  bif callable p.P f then match p.P.funcs.toList[f]? with
    | some fn => match fn.body with
      | some c => match evCodeS p call N c (enterE fn args s) u with
        | .norm e u => (match e.d, leave p.P fn e with | [], .ret _ s => some (s, u) | _, _ => none)
        | .ret e u => (match e.d, leave p.P fn e with | [], .ret _ s => some (s, u) | _, _ => none)
        | .bad => none
      | none => none
    | none => none
  else none
def unwind (p : Par) (call : CallF) (N : Nat) (fn : Func) (e : Env) : List ADefer → S → PS → COut
  | [], s, .idle => leave p.P fn { e with s := s }
  | [], s, .pan v => .panic v s
  | [], _, .got _ => .bad
  | d :: ds, s, u => match evDefer p call N d.f (d.args ++ d.caps) s u with
    | some (s', u') => unwind p call N fn e ds s' u'.settle
    | none => .bad
/-- a panic that goes on: the temporaries are not told. -/
def unwindD (p : Par) (call : CallF) (N : Nat) : List ADefer → S → PS → COut
  | [], s, .pan v => .panic v s
  | [], _, _ => .bad
  | d :: ds, s, u => match evDefer p call N d.f (d.args ++ d.caps) s u with
    | some (s', u') => unwindD p call N ds s' u'.settle
    | none => .bad
def evCall (p : Par) (N : Nat) : Nat → CallF
  | 0, _, _, _ => .bad
  | k + 1, f, args, s => match p.P.funcs.toList[f]? with
    | some fn => match fn.body with
      | some c => match evCode p (evCall p N k) N c (enterE fn args s) with
        | .norm e => unwind p (evCall p N k) N fn e e.d e.s .idle
        | .ret e => unwind p (evCall p N k) N fn e e.d e.s .idle
        | .panic v e => unwind p (evCall p N k) N fn e e.d e.s (.pan v)
        | .panicD v s d => unwindD p (evCall p N k) N d s (.pan v)
        | _ => .bad
      | none => .bad
    | none => .bad
end
end Go.Ev
