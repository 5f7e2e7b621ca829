/- the evaluator: the model's code over an abstract heap, each run one term that the kernel reduces. -/
import Derived.Test.YtgeklgnjnjpofaaGreatDoorEvMem
import Derived.Laws.Tables
set_option linter.unusedSimpArgs false
set_option linter.unusedVariables false
namespace Go.Ev
open Go Go.RowKit
 noncomputable section
def pureRun {α : Type} (P : Program) : Sem α → Option α
  | .pure a => some a
  | .program k => pureRun P (k P)
  | .mark _ k => pureRun P k
  | _ => none
/-- without addresses, and without a NaN (whose bits are drawn). -/
def plainN : Nat → Value → Bool
  | _, .bool _ => true
  | _, .int _ _ => true
  | _, .float k x => !isNan k x
  | _, .string _ => true
  | _, .pointer none => true
  | _, .slice none _ _ => true
  | _, .map none => true
  | _, .nilFunc => true
  | _, .nilIface => true
  | n + 1, .iface _ v => plainN n v
  | n + 1, .agg cs => cs.toList.all (plainN n)
  | n + 1, .tuple cs => cs.toList.all (plainN n)
  | _, _ => false
def plain (v : Value) : Bool := plainN 5 v
def val? (x : Option Next) : Option Value := match x with | some (.value v) => bif plain v then some v else none | _ => none
/-- an operation upon values without addresses: the model's own answer. -/
def gen (P : Program) (ρ : Operand → Value) (o : Oper) : Option Value :=
  bif o.op.operands.toList.all (fun x => plain (ρ x)) then val? (pureRun P (execOp ρ o)) else none
def szOf (P : Program) (t : TypeId) : Nat := P.cellsOf t
def isAggB (P : Program) (t : TypeId) : Bool := match P.underlying t with | some (.struct _) => true | some (.array _ _) => true | _ => false
/-- the cells of a type's zero value. -/
def tyZero (P : Program) (t : TypeId) : Option (List Value) :=
  match P.info? t with
  | some i => match i.zero with
    | some z => bif plain z && (cellsL z).all sc && Nat.beq (cellsL z).length i.size then some (cellsL z) else none
    | none => none
  | none => none
def nat? : Value → Option Nat
  | .int _ (.ofNat n) => some n
  | _ => none
/-- a bound of a slice, or what it is if none is said. -/
def bound (v : Option Value) (d : Nat) : Option Nat := match v with | none => some d | some x => nat? x
def vnan (k : FloatKind) : Value := .float k (k.format.infRung + 1)
/-- one place. -/
def sameA (a b : Addr) : Bool := Nat.beq a.block b.block && Nat.beq a.off b.off
/-- an operator upon two values. -/
def binV (P : Program) (op : BinOp) (t : TypeId) (a b : Value) : Option Value :=
  match a, b with
  | .int k x, .int k' y => match pureRun P (binOp op t (.int k x) (.int k' y)) with | some (.int k z) => some (.int k z) | some (.bool z) => some (.bool z) | _ => none
  | .string x, .string y => match pureRun P (binOp op t (.string x) (.string y)) with | some (.string z) => some (.string z) | some (.bool z) => some (.bool z) | _ => none
  | .float k x, .float k' y => match k, k' with
    | .f64, .f64 => match op with
      | .add => match FloatKind.f64.format.add x y with | some r => some (.float .f64 r) | none => some (vnan .f64)
      | .sub => match FloatKind.f64.format.sub x y with | some r => some (.float .f64 r) | none => some (vnan .f64)
      | .mul => match FloatKind.f64.format.mul x y with | some r => some (.float .f64 r) | none => some (vnan .f64)
      | .quo => match FloatKind.f64.format.div x y with | some r => some (.float .f64 r) | none => some (vnan .f64)
      | _ => match pureRun P (Op.floatCmp op .f64 x y) with | some (.bool z) => some (.bool z) | _ => none
    | _, _ => none
  | .pointer p, .pointer q => match op, P.underlying t with
    | .eql, some (.pointer e) => match p, q with | none, q => some (.bool q.isNone) | some _, none => some (.bool false) | some a, some b => bif sameA a b && (P.info? e).isSome then some (.bool true) else none
    | .neq, some (.pointer e) => match p, q with | none, q => some (.bool !q.isNone) | some _, none => some (.bool true) | some a, some b => bif sameA a b && (P.info? e).isSome then some (.bool false) else none
    | _, _ => none
  | .slice p _ _, .slice q _ _ => match op, P.underlying t with
    | .eql, some (.slice _) => match p, q with | none, q => some (.bool q.isNone) | some _, none => some (.bool false) | _, _ => none
    | .neq, some (.slice _) => match p, q with | none, q => some (.bool !q.isNone) | some _, none => some (.bool true) | _, _ => none
    | _, _ => none
  | .nilIface, .iface _ _ => match op, P.underlying t with
    | .eql, some (.interface _) => some (.bool false)
    | .neq, some (.interface _) => some (.bool true)
    | _, _ => none
  | .iface _ _, .nilIface => match op, P.underlying t with
    | .eql, some (.interface _) => some (.bool false)
    | .neq, some (.interface _) => some (.bool true)
    | _, _ => none
  | _, _ => none
/-- an element's place. -/
def elemAt (P : Program) (e : TypeId) (a : Addr) (n len : Nat) : Option Value :=
  bif Nat.blt n len && Nat.blt 0 (szOf P e) then (match a.spot with | none => some (.pointer (some ⟨a.block, a.off + n * szOf P e, none⟩)) | _ => none) else none
/-- a part of a struct's cells. -/
def partL (P : Program) (t : TypeId) (cs : List Value) (off : Nat) : Option Value :=
  match P.underlying t with
  | some _ => bif isAggB P t then some (.agg ((cs.drop off).take (szOf P t)).toArray) else cs[off]?
  | none => none
def isOpen (s : S) (n : Nat) : Option (Bool × Nat) := match s.heap.get n with | some (.cells _ _ _ es opn _) => some (opn, es) | _ => none
/-- what an operation that only computes answers. -/
def evPure (P : Program) (ρ : Operand → Value) (o : Oper) : Option Value :=
  match o.op with
  | .move x => some (ρ x)
  | .assign x => some (ρ x)
  | .pick c a b => match ρ c with | .bool true => some (ρ a) | .bool false => some (ρ b) | _ => none
  | .nilCheck x => match ρ x with | .pointer (some a) => some (.pointer (some a)) | .func (.func f) a b => some (.func (.func f) a b) | _ => none
  | .makeInterface t x => match P.underlying t with | some (.interface _) => none | some _ => some (.iface t (ρ x)) | none => none
  | .makeFunc (.func f) first captured => some (.func (.func f) (first.map ρ) (captured.map ρ))
  | .fieldAddr st x f => match ρ x with
    | .pointer (some ⟨b, o, none⟩) => match P.underlying st with
      | some (.struct fs) => match fs.toList[f]? with
        | some fl => bif Nat.beq (szOf P fl.type) 0 then none else some (.pointer (some ⟨b, o + fl.offset, none⟩))
        | none => none
      | _ => none
    | _ => none
  | .indexAddr t x i => match ρ i with
    | .int _ (.ofNat n) => match P.underlying t with
      | some (.slice e) => match ρ x with | .slice (some a) len _ => elemAt P e a n len | _ => none
      | some (.array len e) => match ρ x with | .pointer (some a) => elemAt P e a n len | _ => none
      | _ => none
    | _ => none
  | .index t x i => match ρ x with
    | .string s => match ρ i with
      | .int _ (.ofNat n) => match P.underlying t with
        | some .string => match s.data.toList[n]? with | some b => some (.int .u8 b.toNat) | none => none
        | _ => none
      | _ => none
    | _ => gen P ρ o
  | .build t parts => match tyZero P t with
    | some _ => match P.built t (parts.toList.map fun p => (p.1, ρ p.2)) with | some cs => some (.agg cs) | none => none
    | none => none
  | .extract t i => match ρ t with | .tuple vs => vs.toList[i]? | _ => none
  | .field t x f => match ρ x with
    | .agg cs => match P.underlying t with
      | some (.struct fs) => match fs.toList[f]? with | some fl => partL P fl.type cs.toList fl.offset | none => none
      | _ => none
    | _ => none
  | .binOp op t x y _ => match binV P op t (ρ x) (ρ y) with | some v => some v | none => gen P ρ o
  | .slice t x lo hi mx => match ρ x with
    | .string _ => gen P ρ o
    | .slice none _ _ => gen P ρ o
    | _ => none
  | .call c => match c.callee with
    | .builtin .len => match c.args.toList.map ρ, c.argTypes.toList with
      | [.slice _ n _], [t] => match P.underlying t with | some (.slice _) => some (.int .i64 n) | _ => none
      | [.string s], [t] => match P.underlying t with | some .string => some (.int .i64 s.size) | _ => none
      | _, _ => none
    | .builtin .min => gen P ρ o
    | .builtin .max => gen P ρ o
    | _ => none
  | .unOp _ _ _ => gen P ρ o
  | .convert _ _ _ => gen P ρ o
  | .typeAssert _ _ _ _ => gen P ρ o
  | _ => none
/-- entries of a map. -/
def entries (es : List (Value × Value)) : List MapEntry := es.map fun e => { key := e.1, val := e.2, born := 0 }
/-- may a map's keys be looked at? whole numbers and strings. -/
def keyD (P : Program) (t : TypeId) : Option TypeDesc := match P.underlying t with | some (.int k) => some (.int k) | some .string => some .string | _ => none
/-- a key of a kind. -/
def keyLike : TypeDesc → Value → Bool
  | .int _, .int _ _ => true
  | .string, .string _ => true
  | _, _ => false
def tyZeroV (P : Program) (t : TypeId) : Option Value :=
  match P.info? t with
  | some i => match i.zero with
    | some z => bif plain z then some z else none
    | none => none
  | none => none
def okV (ok b : Bool) (v : Value) : Value := bif ok then .tuple #[v, .bool b] else v
def bytesOf (l : List Value) : Option (List UInt8) :=
  match l with
  | [] => some []
  | .int .u8 (.ofNat b) :: l => match bytesOf l with | some r => some (UInt8.ofNat b :: r) | none => none
  | _ => none
/-- a pointer as an unsafe one, and back: where its block lies whole. -/
def toUns (P : Program) (s : S) (e : TypeId) : Value → Option Value
  | .pointer none => some (.pointer none)
  | .pointer (some ⟨b, o, none⟩) => match s.heap.get b with
    | some (.cells n _ _ _ _ _) => bif Nat.blt o n && Nat.blt 0 (szOf P e) then some (.pointer (some ⟨b, o, none⟩)) else none
    | _ => none
  | _ => none
def fromUns (P : Program) (s : S) (e : TypeId) : Value → Option Value
  | .pointer none => some (.pointer none)
  | .pointer (some ⟨b, o, none⟩) => match s.heap.get b with
    | some (.cells n _ e' _ false _) => bif Nat.beq o 0 && Nat.beq e' e && Nat.ble (szOf P e) n && Nat.blt 0 (szOf P e) then some (.pointer (some ⟨b, o, none⟩)) else none
    | _ => none
  | _ => none
/-- what an operation that reads memory, and turns none, answers. -/
def evRead (P : Program) (ρ : Operand → Value) (o : Oper) (s : S) : Option Value :=
  match o.op with
  | .load t a => match ρ a with
    | .pointer (some a) => match P.underlying t with
      | none => none
      | some _ => bif isAggB P t then (match s.cellsAt a (szOf P t) with | some l => some (.agg l.toArray) | none => none)
        else (match s.cellsAt a 1 with | some (v :: _) => some v | _ => none)
    | _ => none
  | .lookup t x i ok => match P.underlying t with
    | some (.map kt et) => match keyD P kt with
      | some d => match ρ x with
        | .map none => match tyZeroV P et with | some z => some (okV ok false z) | none => none
        | .map (some r) => match s.heap.get r with
          | some (.map es) => match Instr.findNow d (ρ i) (entries es) 0 with
            | some (some (_, v)) => some (okV ok true v)
            | some none => match tyZeroV P et with | some z => some (okV ok false z) | none => none
            | none => none
          | _ => none
        | _ => none
      | none => none
    | _ => none
  | .convert src dst x => match P.underlying dst, P.underlying src with
    | some .string, some (.slice e) => match P.underlying e with
      | some (.int .u8) => match ρ x with
        | .slice none _ _ => some (.string ⟨#[]⟩)
        | .slice (some a) len _ => match s.cellsAt a len with
          | some l => match bytesOf l with | some r => some (.string ⟨r.toArray⟩) | none => none
          | none => none
        | _ => none
      | _ => none
    | some .unsafePointer, some (.pointer e) => toUns P s e (ρ x)
    | some (.pointer e), some .unsafePointer => fromUns P s e (ρ x)
    | _, _ => none
  | .slice t x lo hi mx => match ρ x with
    | .slice (some ⟨b, o, none⟩) len cap => match P.underlying t with
      | some (.slice e) => match bound (lo.map ρ) 0, bound (hi.map ρ) len, bound (mx.map ρ) cap with
        | some l, some h, some m => bif Nat.ble l h && Nat.ble h m && Nat.ble m cap && (mx.isNone || hi.isSome) && Nat.blt 0 (szOf P e) then match isOpen s b with
            | none => none
            | some (false, _) => bif Nat.beq m l then some (.slice (some ⟨b, o, none⟩) (h - l) (m - l)) else some (.slice (some ⟨b, o + l * szOf P e, none⟩) (h - l) (m - l))
            | some (true, es) => bif Nat.beq es (szOf P e) then (bif Nat.beq m l then match mx with
                | none => some (.slice (some ⟨b, o + l * szOf P e, none⟩) 0 0)
                | some _ => some (.slice (some ⟨b, o, none⟩) (h - l) (m - l))
              else some (.slice (some ⟨b, o + l * szOf P e, none⟩) (h - l) (m - l))) else none
          else none
        | _, _, _ => none
      | _ => none
    | .pointer (some ⟨b, o, none⟩) => match P.underlying t with
      | some (.array n e) => match bound (lo.map ρ) 0, bound (hi.map ρ) n, bound (mx.map ρ) n with
        | some l, some h, some m => bif Nat.ble l h && Nat.ble h m && Nat.ble m n && (mx.isNone || hi.isSome) && Nat.blt 0 (szOf P e) then match isOpen s b with
            | some (false, _) => bif Nat.beq m l then some (.slice (some ⟨b, o, none⟩) (h - l) (m - l)) else some (.slice (some ⟨b, o + l * szOf P e, none⟩) (h - l) (m - l))
            | _ => none
          else none
        | _, _, _ => none
      | _ => none
    | _ => none
  | _ => none
/-- what an operation comes to. -/
inductive ER where
  | val (v : Value) (s : S)
  | enter (f : FuncId) (args : List Value)
  | panic (v : Value)
  | defer (f : FuncId) (args caps : List Value)
  | recover
  | bad
def S.row (s : S) (n : Nat) (l : List Value) (e : TypeId) (es : Nat) (opn : Bool) : S := s.new (.cells n (T.puts l 0 .e) e es opn false)
/-- so many zero elements, then the parts. -/
def rowOf (z : List Value) (sz : Nat) : Nat → T Value → T Value
  | 0, t => t
  | n + 1, t => rowOf z sz n (T.puts z (n * sz) t)
/-- what is appended or copied: the cells. -/
def srcCells (s : S) (sz n : Nat) : Value → Option (List Value)
  | .slice (some a) _ _ => s.cellsAt a (n * sz)
  | .slice none _ _ => some []
  | .string b => some ((b.data.toList.take n).map fun x => Value.int .u8 x.toNat)
  | _ => none
def lenV : Value → Option Nat
  | .slice _ n _ => some n
  | .string s => some s.size
  | _ => none
/-- so many elements, their cells known, behind a slice. -/
def evAppendN (P : Program) (s : S) (e : TypeId) (base : Option Addr) (len cap n : Nat) (new : List Value) : ER :=
  bif new.all sc && Nat.beq new.length (n * szOf P e) && Nat.blt 0 (szOf P e) && Nat.blt 0 (P.bytesOf e) then
          (bif Nat.ble (len + n) cap then
            match base with
            | some a => match a.spot with
              | none => match s.storeAt ⟨a.block, a.off + len * szOf P e, none⟩ new with
                | some s' => .val (.slice base (len + n) cap) s'
                | none => .bad
              | _ => .bad
            | none => .val (.slice base (len + n) cap) s
          else bif Nat.ble ((len + n) * P.bytesOf e) 140737488355328 then
            match base with
            | none => bif Nat.beq len 0 then .val (.slice (some ⟨s.next, 0, none⟩) n n) (s.row (n * szOf P e) new e (szOf P e) true) else .bad
            | some a => match a.spot, s.heap.get a.block with
              | none, some (.cells m c el es opn fz) => bif Nat.beq el e && (!opn || Nat.beq es (szOf P e)) && Nat.ble (a.off + len * szOf P e) m then
                  (match (bif Nat.beq a.off 0 then some c else (match s.cellsAt a (len * szOf P e) with | some old => some (T.puts old 0 .e) | none => none)) with
                  | some c' =>
                    let ob : AObj := .cells ((len + n) * szOf P e) (T.puts new (len * szOf P e) c') e (szOf P e) true false
                    bif opn then (bif fz then .bad else .val (.slice (some ⟨s.next, 0, none⟩) (len + n) (len + n)) (s.move a.block ob))
                    else .val (.slice (some ⟨s.next, 0, none⟩) (len + n) (len + n)) (s.new ob)
                  | none => .bad) else .bad
              | _, _ => .bad
          else .bad) else .bad
def evAppend (P : Program) (s : S) (sT xT : TypeId) (sl x : Value) : ER :=
  match P.underlying sT, P.underlying xT with
  | some (.slice e), some (.int _) => match tyZero P e, sl, x with
    | some z, .slice base len cap, .int _ (.ofNat n) => bif Nat.ble (n * P.bytesOf e) 140737488355328 && Nat.ble n 140737488355328 && Nat.blt 0 n then evAppendN P s e base len cap n (List.replicate n z).flatten else .bad
    | _, _, _ => .bad
  | some (.slice e), some _ => match tyZero P e, sl, lenV x with
    | some z, .slice base len cap, some n => match srcCells s (szOf P e) n x with
      | some new => evAppendN P s e base len cap n new
      | none => .bad
    | _, _, _ => .bad
  | _, _ => .bad
/-- functions without a body that the evaluator knows itself. -/
def ownX (P : Program) (g : FuncId) (args : List Value) (s : S) : Option (Value × S) :=
  match P.funcs.toList[g]? with
  | some fn => match fn.body with
    | some _ => none
    | none => bif fn.origin == "" then
        (bif fn.name == "internal/abi.NoEscape" then (match args with | [x] => some (x, s) | _ => none)
        else bif fn.name == "internal/bytealg.MakeNoZero" then
          (match args, fn.resultTypes.toList with
          | [.int .i64 (.ofNat n)], [t] => match P.underlying t with
            | some (.slice e) => bif Nat.ble n 281474976710656 && Nat.beq (szOf P e) 1 then some (.slice (some ⟨s.next, 0, none⟩) n n, s.row n (List.replicate n top) e 1 true) else none
            | _ => none
          | _, _ => none)
        else none) else none
  | none => none
/-- bytes as a string; their block may not be written to any more. -/
def unsStr (P : Program) (s : S) (e : TypeId) (b o n : Nat) : ER :=
  match s.heap.get b with
  | some (.cells m c el es opn fz) => bif Nat.beq el e && Nat.beq (szOf P e) 1 && !fz && Nat.ble n 9223372036854775807 then
      (match s.cellsAt ⟨b, o, none⟩ n with
      | some l => match bytesOf l with
        | some r => .val (.string ⟨r.toArray⟩) (s.turn b (.cells m c el es opn true))
        | none => .bad
      | none => .bad) else .bad
  | _ => .bad
def evCall0 (P : Program) (ρ : Operand → Value) (c : Call) (s : S) : ER :=
  match c.callee with
  | .value f => match ρ f with
    | .func (.func g) first captured => match ownX P g (first.toList ++ c.args.toList.map ρ ++ captured.toList) s with
      | some (v, s') => .val v s'
      | none => .enter g (first.toList ++ c.args.toList.map ρ ++ captured.toList)
    | _ => .bad
  | .builtin .append => match c.args.toList.map ρ, c.argTypes.toList with
    | [sl, x], [sT, xT] => evAppend P s sT xT sl x
    | _, _ => .bad
  | .builtin .recover => .recover
  | .builtin .unsafeSliceData => match c.args.toList.map ρ, c.argTypes.toList with
    | [.slice p _ cp], [_] => match p with
      | none => .val (.pointer none) s
      | some a => bif Nat.beq cp 0 then .bad else .val (.pointer (some a)) s
    | _, _ => .bad
  | .builtin .unsafeString => match c.args.toList.map ρ, c.argTypes.toList with
    | [.pointer p, .int .i64 (.ofNat n)], [pt, _] => bif Nat.beq n 0 then .val (.string ⟨#[]⟩) s else
      match p, P.underlying pt with
      | some ⟨b, o, none⟩, some (.pointer e) => unsStr P s e b o n
      | _, _ => .bad
    | _, _ => .bad
  | .builtin .copy => match c.args.toList.map ρ, c.argTypes.toList with
    | [.slice (some a) dl _, x], [dT, _] => match P.underlying dT, lenV x, a.spot with
      | some (.slice e), some n, none => match srcCells s (szOf P e) (min n dl) x with
        | some l => bif Nat.beq l.length (min n dl * szOf P e) && (P.info? e).isSome then (match s.storeAt a l with | some s' => .val (.int .i64 (min n dl : Nat)) s' | none => .bad) else .bad
        | none => .bad
      | _, _, _ => .bad
    | _, _ => .bad
  | _ => .bad
def evUpdate (P : Program) (s : S) (t : TypeId) (m k v : Value) : ER :=
  match P.underlying t with
  | some (.map kt et) => match keyD P kt with
    | some d => match m with
      | .map (some r) => match s.heap.get r with
        | some (.map es) => match Instr.findNow d k (entries es) 0 with
          | some (some (i, _)) => .val undef (s.turn r (.map (es.set i (k, v))))
          | some none => bif keyLike d k then .val undef (s.turn r (.map (es ++ [(k, v)]))) else .bad
          | none => .bad
        | _ => .bad
      | _ => .bad
    | none => .bad
  | _ => .bad
/-- what an operation that only makes a block makes, under a name. -/
def evAlloc (P : Program) (ρ : Operand → Value) (o : Oper) (n : Nat) : Option (Value × AObj) :=
  match o.op with
  | .alloc e => match tyZero P e with
    | some z => some (.pointer (some ⟨n, 0, none⟩), .cells z.length (T.puts z 0 .e) e 0 false false)
    | none => none
  | .box e x => bif (cellsL (ρ x)).all sc then some (.pointer (some ⟨n, 0, none⟩), .cells (cellsL (ρ x)).length (T.puts (cellsL (ρ x)) 0 .e) e 0 false false) else none
  | .buildSlice t len parts => match P.underlying t with
    | some (.slice e) => match tyZero P e with
      | some z => bif Nat.blt 0 len && Nat.blt 0 z.length && Nat.ble (len * z.length) 16777216 then
          (match Instr.fill (fun i => some (i * z.length, z.length)) (List.replicate len z).flatten.toArray (parts.toList.map fun p => (p.1, ρ p.2)) with
          | some cs => bif cs.toList.all sc then some (.slice (some ⟨n, 0, none⟩) len len, .cells cs.size (T.puts cs.toList 0 .e) e 0 false false) else none
          | none => none) else (bif Nat.beq len 0 && Nat.beq parts.size 0 && (P.info? e).isSome then some (.slice (some ⟨n, 0, none⟩) 0 0, .cells 0 .e e 0 false false) else none)
      | none => none
    | _ => none
  | .makeSlice t l c => match P.underlying t with
    | some (.slice e) => match tyZero P e, ρ l, ρ c with
      | some z, .int _ (.ofNat l), .int _ (.ofNat c) =>
        bif Nat.ble l c && Nat.ble (P.bytesOf e * c) 140737488355328 && Nat.ble c 140737488355328 && Nat.blt 0 z.length then
          some (.slice (some ⟨n, 0, none⟩) l c, .cells (c * z.length) (rowOf z z.length c .e) e 0 false false) else none
      | _, _, _ => none
    | _ => none
  | .convert src dst x => match P.underlying dst, P.underlying src with
    | some (.slice e), some .string => match P.underlying e with
      | some (.int .u8) => match ρ x with
        | .string b => some (.slice (some ⟨n, 0, none⟩) b.size b.size, .cells b.size (T.puts (b.data.toList.map fun x => Value.int .u8 x.toNat) 0 .e) e 1 true false)
        | _ => none
      | _ => none
    | _, _ => none
  | .makeMap t none => some (.map (some n), .map [])
  | _ => none
def ofAl (s : S) (x : Option (Value × AObj)) : ER := match x with | some (v, ob) => .val v (s.new ob) | none => .bad
/-- what an operation that turns memory, or calls, comes to. -/
def evAct (P : Program) (ρ : Operand → Value) (o : Oper) (s : S) : ER :=
  match o.op with
  | .alloc _ => ofAl s (evAlloc P ρ o s.next)
  | .box _ _ => ofAl s (evAlloc P ρ o s.next)
  | .buildSlice _ _ _ => ofAl s (evAlloc P ρ o s.next)
  | .makeSlice _ _ _ => ofAl s (evAlloc P ρ o s.next)
  | .convert _ _ _ => ofAl s (evAlloc P ρ o s.next)
  | .makeMap _ _ => ofAl s (evAlloc P ρ o s.next)
  | .store t a x => match ρ a with
    | .pointer (some a) => bif Nat.beq (cellsL (ρ x)).length (szOf P t) && (P.info? t).isSome then (match s.storeAt a (cellsL (ρ x)) with | some s' => .val undef s' | none => .bad) else .bad
    | _ => .bad
  | .mapUpdate t m k v => evUpdate P s t (ρ m) (ρ k) (ρ v)
  | .insert t m k v => evUpdate P s t (ρ m) (ρ k) (ρ v)
  | .call c => evCall0 P ρ c s
  | .defer c => match c.callee with
    | .value f => match ρ f with
      | .func (.func g) first captured => .defer g (first.toList ++ c.args.toList.map ρ) captured.toList
      | _ => .bad
    | _ => .bad
  | .panic x => match ρ x with
    | .iface t v => .panic (.iface t v)
    | _ => .bad
  | _ => .bad
end
end Go.Ev
