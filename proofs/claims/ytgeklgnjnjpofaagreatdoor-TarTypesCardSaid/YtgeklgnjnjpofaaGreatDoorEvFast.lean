/- the evaluator, quickly: what each piece of code does is made once, and kept by the kernel. -/
import Derived.Test.YtgeklgnjnjpofaaGreatDoorEvSp
set_option linter.unusedVariables false
set_option linter.unusedSimpArgs false
namespace Go.Ev
open Go Go.RowKit
 noncomputable section
/-- what a piece of code does: its parts in hand, so that none hangs behind another. -/
structure Clo where
  run : CallF → T Value → Nat → S → List ADefer → Out
abbrev Clo.on (x : Clo) (call : CallF) (e : Env) : Out := x.run call e.t e.nt e.s e.d
/-- goes on with an environment's parts. -/
def withE (x : Clo) (call : CallF) (e : Env) : Out := Env.rec (motive := fun _ => Out) (fun t nt s d => x.run call t nt s d) e
theorem withE_eq (x : Clo) (call : CallF) (e : Env) : withE x call e = x.on call e := rfl
structure PClo where
  run : T Value → Option Value
def evalT (t : T Value) (x : Operand) : Value := Env.eval ⟨t, 0, ⟨.e, 0⟩, []⟩ x
theorem evalT_eq (e : Env) : evalT e.t = e.eval := by
  funext x
  cases x <;> rfl
def putT (d : Option Tmp) (v : Value) (t : T Value) (nt : Nat) : T Value :=
  Option.rec (motive := fun _ => T Value) t (fun k => bi (Nat.blt k nt) ((sC 10 k).run v t) t) d
theorem putT_eq (e : Env) (d : Option Tmp) (v : Value) : e.put d v = ⟨putT d v e.t e.nt, e.nt, e.s, e.d⟩ := by
  cases d with
  | none => rfl
  | some k =>
    show (bif Nat.blt k e.nt then { e with t := e.t.put k v } else e) = ⟨bi (Nat.blt k e.nt) ((sC 10 k).run v e.t) e.t, e.nt, e.s, e.d⟩
    rw [bi_cond, sC_eq]
    cases Nat.blt k e.nt <;> rfl
structure PC where
  run : Value → T Value → Nat → T Value
def pC (d : Option Tmp) : PC :=
  match d with
  | none => ⟨fun _ t _ => t⟩
  | some k => ⟨fun v t nt => bi (Nat.blt k nt) ((sC 10 k).run v t) t⟩
theorem pC_eq (d : Option Tmp) (v : Value) (t : T Value) (nt : Nat) : (pC d).run v t nt = putT d v t nt := by cases d <;> rfl
/-- a whole number, worked out. -/
def natF {β : Type} (n : Nat) (k : Nat → β) : β := Nat.rec (motive := fun _ => β) (k (nat_lit 0)) (fun m _ => k (Nat.succ m)) n
theorem natF_eq {β : Type} (n : Nat) (k : Nat → β) : natF n k = k n := by cases n <;> rfl
def lim : IntKind → Nat
  | .i8 => 127 | .i16 => 32767 | .i32 => 2147483647 | .i64 => 9223372036854775807
  | .u8 => 255 | .u16 => 65535 | .u32 => 4294967295 | .u64 => 18446744073709551615
theorem wrap_lim (k : IntKind) (n : Nat) (h : n ≤ lim k) : k.wrap (n : Int) = n := by
  cases k <;> simp only [lim] at h <;> simp [IntKind.wrap, IntKind.bits, IntKind.signed] <;> omega
def boolF (b : Bool) : Option Value := Bool.rec (motive := fun _ => Option Value) (some (.bool false)) (some (.bool true)) b
theorem boolF_eq (b : Bool) : boolF b = some (.bool b) := by cases b <;> rfl
def numF (k : IntKind) (r : Nat) : Option Value := natF r fun r => bi (Nat.ble r (lim k)) (some (.int k (.ofNat r))) none
theorem numF_spec {k : IntKind} {r : Nat} {v : Value} (h : numF k r = some v) : v = .int k (k.wrap (r : Int)) := by
  unfold numF at h
  rw [natF_eq, bi_cond] at h
  cases hb : Nat.ble r (lim k) with
  | false => rw [hb] at h; cases h
  | true =>
    rw [hb] at h
    rw [ble_iff] at hb
    injection h with h
    rw [← h, wrap_lim k r hb]; rfl
def fBinN (op : BinOp) (k : IntKind) (m n : Nat) : Option Value :=
  match op with
  | .add => numF k (Nat.add m n)
  | .sub => bi (Nat.ble n m) (numF k (Nat.sub m n)) none
  | .lss => boolF (Nat.blt m n)
  | .leq => boolF (Nat.ble m n)
  | .gtr => boolF (Nat.blt n m)
  | .geq => boolF (Nat.ble n m)
  | .eql => boolF (Nat.beq m n)
  | .neq => boolF (Bool.rec (motive := fun _ => Bool) true false (Nat.beq m n))
  | _ => none
theorem pbind {α β : Type} {P : Program} {a : α} (f : α → Sem β) : ∀ {x : Sem α}, pureRun P x = some a → pureRun P (x >>= f) = pureRun P (f a) := by
  intro x
  show pureRun P x = some a → pureRun P (Sem.bind x f) = _
  induction x with
  | pure b => intro h; simp only [pureRun] at h; injection h with h; subst h; rfl
  | program k ih => intro h; simp only [pureRun] at h; simp only [Sem.bind, pureRun]; exact ih P h
  | mark m k ih => intro h; simp only [pureRun] at h; simp only [Sem.bind, pureRun]; exact ih h
  | _ => intro h; simp [pureRun] at h
theorem punder {P : Program} {t : TypeId} {d : TypeDesc} (h : P.underlying t = some d) : pureRun P (underlying t) = some d := by
  unfold underlying
  rw [pbind (a := P) _ (x := program) rfl, h]
  rfl
/-- strings one behind the other: in one pass. -/
def catB (x y : ByteArray) : ByteArray := ⟨⟨x.data.toList ++ y.data.toList⟩⟩
theorem catB_eq (x y : ByteArray) : catB x y = x ++ y := by
  apply ByteArray.ext
  show Array.mk (x.data.toList ++ y.data.toList) = (x ++ y).data
  rw [ByteArray.data_append, ← Array.toList_inj, Array.toList_append]
def fStr (P : Program) (op : BinOp) (t : TypeId) (x y : ByteArray) : Option Value :=
  match op with
  | .add => bi (Nat.ble (Nat.add x.size y.size) 9223372036854775807) (some (.string (catB x y))) none
  | op => binV P op t (.string x) (.string y)
theorem fStr_eq (P : Program) (op : BinOp) (t : TypeId) (x y : ByteArray) : fStr P op t x y = binV P op t (.string x) (.string y) := by
  unfold fStr
  split
  · have hd : pureRun P (binOp .add t (.string x) (.string y)) = pureRun P (Op.stringOp .add x y) := rfl
    have hmax : IntKind.i64.max = 9223372036854775807 := rfl
    simp only [binV, hd, Op.stringOp, hmax, bi_cond, catB_eq]
    cases hb : Nat.ble (Nat.add x.size y.size) 9223372036854775807 with
    | true =>
      rw [ble_iff] at hb
      have hb : x.size + y.size ≤ 9223372036854775807 := hb
      rw [if_neg (by omega)]
      rfl
    | false =>
      have hb : ¬ (x.size + y.size ≤ 9223372036854775807) := by
        intro hc
        have : Nat.ble (Nat.add x.size y.size) 9223372036854775807 = true := (ble_iff _ _).2 hc
        rw [this] at hb; cases hb
      rw [if_pos (by omega)]
      rfl
  · rfl
def fBin (P : Program) (op : BinOp) (t : TypeId) (a b : Value) : Option Value :=
  match a, b with
  | .string x, .string y => fStr P op t x y
  | .int k (.ofNat m), .int k' (.ofNat n) => bi (Nat.beq (kno k) (kno k')) (match fBinN op k m n with | some v => some v | none => binV P op t (.int k (.ofNat m)) (.int k' (.ofNat n))) (binV P op t (.int k (.ofNat m)) (.int k' (.ofNat n)))
  | a, b => binV P op t a b
theorem binN_ok (P : Program) (op : BinOp) (t : TypeId) (k : IntKind) (m n : Nat) (v : Value) (h : fBinN op k m n = some v) : binV P op t (.int k (.ofNat m)) (.int k (.ofNat n)) = some v := by
  have ar : ∀ (o : BinOp) (z : Int), pureRun P (Go.binOp o t (.int k (.ofNat m)) (.int k (.ofNat n))) = some (.int k (k.wrap z)) → binV P o t (.int k (.ofNat m)) (.int k (.ofNat n)) = some (.int k (k.wrap z)) := by
    intro o z hz
    simp only [binV, hz]
  have cm : ∀ (o : BinOp) (z : Bool), pureRun P (Go.binOp o t (.int k (.ofNat m)) (.int k (.ofNat n))) = some (.bool z) → binV P o t (.int k (.ofNat m)) (.int k (.ofNat n)) = some (.bool z) := by
    intro o z hz
    simp only [binV, hz]
  cases op <;> simp only [fBinN] at h <;> first
    | cases h
    | skip
  case add =>
    rw [numF_spec h]
    refine ar .add _ ?_
    simp [Go.binOp, Op.intArith]
    rfl
  case sub =>
    rw [bi_cond] at h
    cases hb : Nat.ble n m with
    | false => rw [hb] at h; cases h
    | true =>
      rw [hb] at h
      rw [ble_iff] at hb
      rw [numF_spec h]
      refine ar .sub _ ?_
      have : ((Nat.sub m n : Nat) : Int) = Int.ofNat m - Int.ofNat n := by show ((m - n : Nat) : Int) = (m : Int) - (n : Int); omega
      rw [this]
      simp [Go.binOp, Op.intArith]
      rfl
  all_goals
    rw [boolF_eq] at h
    injection h with h
    subst h
    refine cm _ _ ?_
    simp [Go.binOp, Op.intCmp]
  all_goals show some (Value.bool _) = some (Value.bool _)
  · rw [beq_eq, show ((m : Int) == (n : Int)) = decide (m = n) by rw [Bool.eq_iff_iff]; simp; omega]
  · rw [beq_eq, show ((m : Int) != (n : Int)) = !decide (m = n) by rw [Bool.eq_iff_iff]; simp; omega]
    cases decide (m = n) <;> rfl
  · rw [show decide (m < n) = Nat.blt m n by rw [Bool.eq_iff_iff, blt_iff]; simp]
  · rw [show decide (m ≤ n) = Nat.ble m n by rw [Bool.eq_iff_iff, ble_iff]; simp]
  · rw [show decide (n < m) = Nat.blt n m by rw [Bool.eq_iff_iff, blt_iff]; simp]
  · rw [show decide (n ≤ m) = Nat.ble n m by rw [Bool.eq_iff_iff, ble_iff]; simp]
theorem fBin_eq (P : Program) (op : BinOp) (t : TypeId) (a b : Value) : fBin P op t a b = binV P op t a b := by
  unfold fBin
  split
  · exact fStr_eq P op t _ _
  · rename_i k m k' n
    rw [bi_cond]
    cases hk : Nat.beq (kno k) (kno k') with
    | false => rfl
    | true =>
      rw [beq_eq, decide_eq_true_eq] at hk
      have := kno_inj hk
      subst this
      simp only [cond_true]
      cases hn : fBinN op k m n with
      | none => rfl
      | some v => exact (binN_ok P op t k m n v hn).symm
  · rfl
structure BC where
  run : Nat → Nat → Option Value
/-- an operator upon whole numbers of one kind. -/
def nB (op : BinOp) (k : IntKind) : BC :=
  match op with
  | .add => ⟨fun m n => numF k (Nat.add m n)⟩
  | .sub => ⟨fun m n => bi (Nat.ble n m) (numF k (Nat.sub m n)) none⟩
  | .lss => ⟨fun m n => boolF (Nat.blt m n)⟩
  | .leq => ⟨fun m n => boolF (Nat.ble m n)⟩
  | .gtr => ⟨fun m n => boolF (Nat.blt n m)⟩
  | .geq => ⟨fun m n => boolF (Nat.ble n m)⟩
  | .eql => ⟨fun m n => boolF (Nat.beq m n)⟩
  | .neq => ⟨fun m n => boolF (Bool.rec (motive := fun _ => Bool) true false (Nat.beq m n))⟩
  | _ => ⟨fun _ _ => none⟩
theorem nB_eq (op : BinOp) (k : IntKind) (m n : Nat) : (nB op k).run m n = fBinN op k m n := by cases op <;> rfl
def qSlow (P : Program) (o : Oper) (op : BinOp) (ty : TypeId) (x y : OC) (t : T Value) : Option Value := match fBin P op ty (x.run t) (y.run t) with | some v => some v | none => gen P (evalT t) o
def qBin (P : Program) (o : Oper) (op : BinOp) (ty : TypeId) (x y : OC) : PClo :=
  match P.underlying ty with
  | some (.int k) => ⟨fun t => natF (vi (x.run t)) fun a => natF (vi (y.run t)) fun b =>
      bi (Nat.beq (Nat.mod a 16) (kmk k)) (bi (Nat.beq (Nat.mod b 16) (kmk k))
        (Option.rec (motive := fun _ => Option Value) (qSlow P o op ty x y t) (fun v => some v) ((nB op k).run (Nat.div a 16) (Nat.div b 16)))
        (qSlow P o op ty x y t)) (qSlow P o op ty x y t)⟩
  | _ => ⟨fun t => qSlow P o op ty x y t⟩
theorem qBin_eq (P : Program) (o : Oper) (op : BinOp) (ty : TypeId) (x y : OC) (t : T Value) : (qBin P o op ty x y).run t = qSlow P o op ty x y t := by
  unfold qBin
  split
  · rename_i k hu
    simp only [natF_eq, bi_cond]
    cases h1 : Nat.beq (Nat.mod (vi (x.run t)) 16) (kmk k) with
    | false => rfl
    | true =>
      cases h2 : Nat.beq (Nat.mod (vi (y.run t)) 16) (kmk k) with
      | false => rfl
      | true =>
        rw [beq_eq, decide_eq_true_eq] at h1 h2
        have e1 := vi_spec rfl h1
        have e2 := vi_spec rfl h2
        simp only [cond_true]
        rw [nB_eq]
        cases hn : fBinN op k (Nat.div (vi (x.run t)) 16) (Nat.div (vi (y.run t)) 16) with
        | none => rfl
        | some v =>
          have hb : fBin P op ty (x.run t) (y.run t) = some v := by
            rw [e1, e2, fBin_eq]
            exact binN_ok P op ty k _ _ v hn
          unfold qSlow
          rw [hb]
  · rfl
def fLen (P : Program) (o : Oper) (c : Call) : PClo :=
  match c.callee, c.args.toList, c.argTypes.toList with
  | .builtin .len, [x], [ty] => ⟨fun t => match evalT t x with
    | .slice _ n _ => (match P.underlying ty with | some (.slice _) => some (.int .i64 (.ofNat n)) | _ => none)
    | .string s => (match P.underlying ty with | some .string => some (.int .i64 (.ofNat s.size)) | _ => none)
    | _ => none⟩
  | _, _, _ => ⟨fun t => evPure P (evalT t) o⟩
theorem fLen_eq (P : Program) (o : Oper) (c : Call) (ho : o.op = .call c) (t : T Value) : (fLen P o c).run t = evPure P (evalT t) o := by
  unfold fLen
  split
  · rename_i x ty h1 h2 h3
    simp only [evPure, ho, h1, h2, h3, List.map_cons, List.map_nil]
    cases evalT t x <;> rfl
  · rfl
/-- a whole number as another kind of them. -/
def qConv (P : Program) (o : Oper) (src dst : TypeId) (x : OC) : PClo :=
  match P.underlying dst, P.underlying src with
  | some (.int k), some (.int ks) => ⟨fun t => natF (vi (x.run t)) fun a => bi (Nat.beq (Nat.mod a 16) (kmk ks)) (Option.rec (motive := fun _ => Option Value) (evPure P (evalT t) o) (fun v => some v) (numF k (Nat.div a 16))) (evPure P (evalT t) o)⟩
  | _, _ => ⟨fun t => evPure P (evalT t) o⟩
theorem conv_int {P : Program} {src dst : TypeId} {k ks : IntKind} (hd : P.underlying dst = some (.int k)) (hs : P.underlying src = some (.int ks)) (k' : IntKind) (n : Int) : pureRun P (convert src dst (.int k' n)) = some (.int k (k.wrap n)) := by
  unfold convert
  rw [pbind _ (punder hs), pbind _ (punder hd)]
  rfl
theorem qConv_eq (P : Program) (o : Oper) (src dst : TypeId) (x : Operand) (ho : o.op = .convert src dst x) (t : T Value) : (qConv P o src dst (oC x)).run t = evPure P (evalT t) o := by
  unfold qConv
  split
  · rename_i k ks hd hs
    simp only [natF_eq, bi_cond]
    cases h1 : Nat.beq (Nat.mod (vi ((oC x).run t)) 16) (kmk ks) with
    | false => rfl
    | true =>
      rw [beq_eq, decide_eq_true_eq] at h1
      have e1 := vi_spec rfl h1
      simp only [cond_true]
      cases hn : numF k (Nat.div (vi ((oC x).run t)) 16) with
      | none => rfl
      | some v =>
        rw [oC_eq] at e1 hn
        have e1 : evalT t x = _ := e1
        have hv := numF_spec hn
        show some v = _
        obtain ⟨dst', op, type, pos, after, guard⟩ := o
        simp only at ho
        subst ho
        have hr : pureRun P (execOp (evalT t) ⟨dst', .convert src dst x, type, pos, after, guard⟩) = some (.value v) := by
          show pureRun P (do pure (.value (← convert src dst (evalT t x))) : Sem Next) = _
          rw [e1, pbind _ (conv_int hd hs ks _), hv]
          rfl
        simp only [evPure, gen, hr, val?]
        have hp : plain v = true := by rw [hv]; rfl
        rw [hp]
        simp [Op.operands, e1, plain, plainN]
  · rfl
/-- an element's place in a slice. -/
def qIdx (P : Program) (o : Oper) (ty : TypeId) (x i : OC) : PClo :=
  match P.underlying ty with
  | some (.slice d) => bi (Nat.blt 0 (szOf P d)) ⟨fun t => Option.rec (motive := fun _ => Option Value) (evPure P (evalT t) o) (fun s => SL.rec (motive := fun _ => Option Value) (fun b o' l => natF (vi (i.run t)) fun a => bi (Nat.beq a 0) (evPure P (evalT t) o) (bi (Nat.blt (Nat.div a 16) l) (some (.pointer (some ⟨b, Nat.add o' (Nat.mul (Nat.div a 16) (szOf P d)), none⟩))) none)) s) (vs (x.run t))⟩ ⟨fun t => evPure P (evalT t) o⟩
  | _ => ⟨fun t => evPure P (evalT t) o⟩
theorem vi_pos {v : Value} (h : vi v ≠ 0) : ∃ k, v = .int k (.ofNat (vi v / 16)) := by
  cases v with
  | int k n =>
    cases n with
    | ofNat m =>
      have := kmk_lt k
      refine ⟨k, ?_⟩
      show Value.int k (.ofNat m) = .int k (.ofNat ((m * 16 + kmk k) / 16))
      rw [show (m * 16 + kmk k) / 16 = m by omega]
    | negSucc m => exact absurd rfl h
  | _ => exact absurd rfl h
theorem qIdx_eq (P : Program) (o : Oper) (ty : TypeId) (x i : Operand) (ho : o.op = .indexAddr ty x i) (t : T Value) : (qIdx P o ty (oC x) (oC i)).run t = evPure P (evalT t) o := by
  unfold qIdx
  split
  · rename_i d hu
    rw [bi_cond]
    cases hz : Nat.blt 0 (szOf P d) with
    | false => rfl
    | true =>
      simp only [cond_true]
      cases hs : vs ((oC x).run t) with
      | none => rfl
      | some s =>
        obtain ⟨b, o', l⟩ := s
        simp only [natF_eq, bi_cond]
        cases h0 : Nat.beq (vi ((oC i).run t)) 0 with
        | true => rfl
        | false =>
          rw [beq_eq, decide_eq_false_iff_not] at h0
          obtain ⟨k, hk⟩ := vi_pos h0
          obtain ⟨c, hc⟩ := vs_spec hs
          rw [oC_eq] at hk hc
          have hk : evalT t i = _ := hk
          have hc : evalT t x = _ := hc
          simp only [cond_false]
          obtain ⟨dst', op, type, pos, after, guard⟩ := o
          simp only at ho
          subst ho
          simp only [evPure, hk, hu, hc, elemAt, hz, Bool.and_true]
          rw [oC_eq]
          rfl
  · rfl
/-- a part of a string: in one pass. -/
def subB (s : ByteArray) (l h : Nat) : ByteArray := ⟨⟨(s.data.toList.drop l).take (h - l)⟩⟩
theorem subB_eq (s : ByteArray) (l h : Nat) : subB s l h = s.extract l h := by
  apply ByteArray.ext
  show Array.mk ((s.data.toList.drop l).take (h - l)) = (s.extract l h).data
  rw [ByteArray.data_extract, ← Array.toList_inj, Array.toList_extract, List.extract_eq_take_drop]
def qSub (P : Program) (o : Oper) (ty : TypeId) (x : Operand) (lo hi : Option Operand) : PClo :=
  match P.underlying ty with
  | some .string => ⟨fun t => match evalT t x with
    | .string s => match bound (lo.map (evalT t)) 0, bound (hi.map (evalT t)) s.size with
      | some l, some h => bi (Nat.ble l h) (bi (Nat.ble h s.size) (some (.string (subB s l h))) (evPure P (evalT t) o)) (evPure P (evalT t) o)
      | _, _ => evPure P (evalT t) o
    | _ => evPure P (evalT t) o⟩
  | _ => ⟨fun t => evPure P (evalT t) o⟩
theorem bound_spec {v : Option Value} {d n : Nat} (h : bound v d = some n) : (v = none ∧ n = d) ∨ ∃ k, v = some (.int k (.ofNat n)) := by
  cases v with
  | none => unfold bound at h; simp only [Option.some.injEq] at h; exact .inl ⟨rfl, h.symm⟩
  | some x =>
    unfold bound nat? at h
    simp only at h
    split at h
    · injection h with h; subst h; exact .inr ⟨_, rfl⟩
    · cases h
theorem bnd_str {P : Program} (n y : Nat) (code : BoundsCode) (k : IntKind) (hn : n ≤ y) : pureRun P (Instr.sliceBound (.int k (.ofNat n)) y code) = some n := by
  have hd : Instr.sliceBound (.int k (.ofNat n)) y code = (if 0 ≤ Int.ofNat n ∧ Int.ofNat n ≤ (y : Int) then pure (Int.ofNat n).toNat else boundsPanic k (Int.ofNat n) y code) := rfl
  have h0 : 0 ≤ Int.ofNat n ∧ Int.ofNat n ≤ (y : Int) := ⟨Int.natCast_nonneg n, Int.ofNat_le.2 hn⟩
  rw [hd, if_pos h0]
  rfl
theorem bnds_str {P : Program} (z : Nat) {lo hi : Option Value} {l h : Nat} (hl : bound lo 0 = some l) (hh : bound hi z = some h) (h1 : l ≤ h) (h2 : h ≤ z) : pureRun P (Instr.sliceBounds false z z lo hi none) = some (l, h, z) := by
  unfold Instr.sliceBounds
  rcases bound_spec hh with ⟨rfl, rfl⟩ | ⟨k, rfl⟩
  · rcases bound_spec hl with ⟨rfl, rfl⟩ | ⟨k', rfl⟩
    · rfl
    · simp only [Bool.false_eq_true, if_false, pure_bind, Option.isSome_none]
      rw [pbind _ (bnd_str l h .sliceB k' h1)]
      rfl
  · rcases bound_spec hl with ⟨rfl, rfl⟩ | ⟨k', rfl⟩
    · simp only [Bool.false_eq_true, if_false, pure_bind, Option.isSome_none]
      rw [pbind _ (bnd_str h z .sliceAlen k h2)]
      rfl
    · simp only [Bool.false_eq_true, if_false, pure_bind, Option.isSome_none]
      rw [pbind _ (bnd_str h z .sliceAlen k h2), pbind _ (bnd_str l h .sliceB k' h1)]
      rfl
theorem slice_str {P : Program} {ty : TypeId} (hu : P.underlying ty = some .string) (s : ByteArray) {lo hi : Option Value} {l h : Nat} (hl : bound lo 0 = some l) (hh : bound hi s.size = some h) (h1 : l ≤ h) (h2 : h ≤ s.size) : pureRun P (Instr.sliceAt ty (.string s) lo hi none) = some (.string (s.extract l h)) := by
  unfold Instr.sliceAt
  rw [pbind _ (punder hu)]
  simp only
  unfold Instr.slice
  rw [pbind _ (punder hu)]
  simp only [Option.isSome_none, Bool.false_eq_true, if_false, pure_bind]
  rw [pbind _ (bnds_str s.size hl hh h1 h2)]
  rfl
theorem qSub_eq (P : Program) (o : Oper) (ty : TypeId) (x : Operand) (lo hi : Option Operand) (ho : o.op = .slice ty x lo hi none) (t : T Value) : (qSub P o ty x lo hi).run t = evPure P (evalT t) o := by
  unfold qSub
  split
  · rename_i hu
    simp only
    split
    · rename_i s hs
      split
      · rename_i l h hl hh
        simp only [bi_cond]
        cases h1 : Nat.ble l h with
        | false => rfl
        | true =>
          cases h2 : Nat.ble h s.size with
          | false => rfl
          | true =>
            rw [ble_iff] at h1 h2
            simp only [cond_true]
            obtain ⟨dst', op, type, pos, after, guard⟩ := o
            simp only at ho
            subst ho
            have hr : pureRun P (execOp (evalT t) ⟨dst', .slice ty x lo hi none, type, pos, after, guard⟩) = some (.value (.string (s.extract l h))) := by
              show pureRun P (do pure (.value (← Instr.sliceAt ty (evalT t x) (lo.map (evalT t)) (hi.map (evalT t)) none)) : Sem Next) = _
              rw [hs, pbind _ (slice_str hu s hl hh h1 h2)]
              rfl
            have hp : ∀ (v : Option Operand) (d n : Nat), bound (v.map (evalT t)) d = some n → ∀ y, v = some y → plain (evalT t y) = true := by
              intro v d n hb y hy
              subst hy
              rcases bound_spec hb with ⟨hc, _⟩ | ⟨k, hc⟩
              · cases hc
              · simp only [Option.map_some, Option.some.injEq] at hc
                rw [hc]; rfl
            have ha : (⟨dst', .slice ty x lo hi none, type, pos, after, guard⟩ : Oper).op.operands.toList.all (fun z => plain (evalT t z)) = true := by
              rw [List.all_eq_true]
              intro z hz
              cases lo with
              | none => cases hi with
                | none => simp [Op.operands] at hz; subst hz; rw [hs]; rfl
                | some b => simp [Op.operands] at hz; rcases hz with rfl | rfl
                            · rw [hs]; rfl
                            · exact hp (some _) _ _ hh _ rfl
              | some a => cases hi with
                | none => simp [Op.operands] at hz; rcases hz with rfl | rfl
                          · rw [hs]; rfl
                          · exact hp (some _) _ _ hl _ rfl
                | some b => simp [Op.operands] at hz; rcases hz with rfl | rfl | rfl
                            · rw [hs]; rfl
                            · exact hp (some _) _ _ hl _ rfl
                            · exact hp (some _) _ _ hh _ rfl
            simp only [evPure, hs, gen, hr, ha, val?, subB_eq]
            rfl
      · rfl
    · rfl
  · rfl
def fPure (P : Program) (o : Oper) : PClo :=
  match o.op with
  | .slice ty x lo hi none => qSub P o ty x lo hi
  | .move x => ⟨fun t => some ((oC x).run t)⟩
  | .assign x => ⟨fun t => some ((oC x).run t)⟩
  | .pick c a b => ⟨fun t => match evalT t c with | .bool true => some (evalT t a) | .bool false => some (evalT t b) | _ => none⟩
  | .nilCheck x => ⟨fun t => match evalT t x with | .pointer (some a) => some (.pointer (some a)) | .func (.func f) a b => some (.func (.func f) a b) | _ => none⟩
  | .extract x i => ⟨fun t => match evalT t x with | .tuple vs => vs.toList[i]? | _ => none⟩
  | .indexAddr ty x i => qIdx P o ty (oC x) (oC i)
  | .convert src dst x => qConv P o src dst (oC x)
  | .binOp op ty x y _ => qBin P o op ty (oC x) (oC y)
  | .fieldAddr st x f => ⟨fun t => match evalT t x with
    | .pointer (some ⟨b, o, none⟩) => match P.underlying st with
      | some (.struct fs) => match fs.toList[f]? with
        | some fl => bif Nat.beq (szOf P fl.type) 0 then none else some (.pointer (some ⟨b, o + fl.offset, none⟩))
        | none => none
      | _ => none
    | _ => none⟩
  | .call c => fLen P o c
  | _ => ⟨fun t => evPure P (evalT t) o⟩
theorem fPure_eq (P : Program) (o : Oper) (e : Env) : (fPure P o).run e.t = evPure P e.eval o := by
  rw [← evalT_eq]
  obtain ⟨dst, op, type, pos, after, guard⟩ := o
  cases op <;> first
    | rfl
    | exact fLen_eq P _ _ rfl e.t
    | exact qIdx_eq P _ _ _ _ rfl e.t
    | (rename_i ty x lo hi mx; cases mx with
       | none => exact qSub_eq P _ _ _ _ _ rfl e.t
       | some m => rfl)
    | exact qConv_eq P _ _ _ _ rfl e.t
    | (show some ((oC _).run e.t) = _; rw [oC_eq]; rfl)
    | (show (qBin P _ _ _ (oC _) (oC _)).run e.t = _
       rw [qBin_eq]; unfold qSlow; rw [oC_eq, oC_eq, fBin_eq]; rfl)
structure RClo where
  run : T Value → S → Option Value
/-- one cell. -/
def fCell (s : S) (a : Addr) : Option Value :=
  match a with
  | ⟨b, o, none⟩ => match s.heap.get b with
    | some (.cells m c _ _ _ _) => bi (Nat.ble (Nat.succ o) m) (c.get o) none
    | _ => none
  | _ => none
theorem fCell_eq (s : S) (a : Addr) : fCell s a = (match s.cellsAt a 1 with | some (v :: _) => some v | _ => none) := by
  obtain ⟨b, o, sp⟩ := a
  cases sp with
  | some x => rfl
  | none =>
    unfold fCell S.cellsAt
    simp only
    cases s.heap.get b with
    | none => rfl
    | some ob =>
      cases ob with
      | map es => rfl
      | cells m c e es opn fz =>
        simp only [bi_cond]
        show (bif Nat.ble (o + 1) m then c.get o else none) = _
        cases Nat.ble (o + 1) m with
        | false => rfl
        | true =>
          simp only [cond_true, T.gets]
          cases c.get o <;> rfl
def fRead (P : Program) (o : Oper) : RClo :=
  match o.op with
  | .load ty a => match P.underlying ty with
    | none => ⟨fun t s => evRead P (evalT t) o s⟩
    | some _ => bi (isAggB P ty) ⟨fun t s => evRead P (evalT t) o s⟩ ⟨fun t s => Option.rec (motive := fun _ => Option Value) (match evalT t a with | .pointer (some a) => fCell s a | _ => none) (fun x => BO.rec (motive := fun _ => Option Value) (fun b o => fCell s ⟨b, o, none⟩) x) (vp ((oC a).run t))⟩
  | .slice ty x lo hi mx => ⟨fun t s => match evalT t x with
    | .slice (some ⟨b, o, none⟩) len cap => match P.underlying ty with
      | some (.slice e) => match bound (lo.map (evalT t)) 0, bound (hi.map (evalT t)) len, bound (mx.map (evalT t)) cap with
        | some l, some h, some m => bif Nat.ble l h && Nat.ble h m && Nat.ble m cap && (mx.isNone || hi.isSome) && Nat.blt 0 (szOf P e) then match isOpen s b with
            | none => none
            | some (false, _) => bif Nat.beq m l then some (.slice (some ⟨b, o, none⟩) (h - l) (m - l)) else some (.slice (some ⟨b, o + l * szOf P e, none⟩) (h - l) (m - l))
            | some (true, es) => bif Nat.beq es (szOf P e) then (bif Nat.beq m l then match mx with
                | none => some (.slice (some ⟨b, o + l * szOf P e, none⟩) 0 0)
                | some _ => some (.slice (some ⟨b, o, none⟩) (h - l) (m - l))
              else some (.slice (some ⟨b, o + l * szOf P e, none⟩) (h - l) (m - l))) else none
          else none
        | _, _, _ => none
      | _ => none
    | .pointer (some ⟨b, o, none⟩) => match P.underlying ty with
      | some (.array n e) => match bound (lo.map (evalT t)) 0, bound (hi.map (evalT t)) n, bound (mx.map (evalT t)) n with
        | some l, some h, some m => bif Nat.ble l h && Nat.ble h m && Nat.ble m n && (mx.isNone || hi.isSome) && Nat.blt 0 (szOf P e) then match isOpen s b with
            | some (false, _) => bif Nat.beq m l then some (.slice (some ⟨b, o, none⟩) (h - l) (m - l)) else some (.slice (some ⟨b, o + l * szOf P e, none⟩) (h - l) (m - l))
            | _ => none
          else none
        | _, _, _ => none
      | _ => none
    | _ => none⟩
  | _ => ⟨fun t s => evRead P (evalT t) o s⟩
theorem fRead_eq (P : Program) (o : Oper) (t : T Value) (s : S) : (fRead P o).run t s = evRead P (evalT t) o s := by
  obtain ⟨dst, op, type, pos, after, guard⟩ := o
  cases op <;> first
    | rfl
    | skip
  case load ty a =>
    unfold fRead
    simp only
    cases hu : P.underlying ty with
    | none => rfl
    | some d =>
      simp only [bi_cond]
      cases hb : isAggB P ty with
      | true => rfl
      | false =>
        have e1 : Option.rec (motive := fun _ => Option Value) (match evalT t a with | .pointer (some a) => fCell s a | _ => none) (fun x => BO.rec (motive := fun _ => Option Value) (fun b o => fCell s ⟨b, o, none⟩) x) (vp ((oC a).run t)) = (match evalT t a with | .pointer (some a) => fCell s a | _ => none) := by
          cases hv : vp ((oC a).run t) with
          | none => rfl
          | some x =>
            have := vp_spec hv
            rw [oC_eq] at this
            have this : evalT t a = _ := this
            rw [this]
        show Option.rec (motive := fun _ => Option Value) (match evalT t a with | .pointer (some a) => fCell s a | _ => none) (fun x => BO.rec (motive := fun _ => Option Value) (fun b o => fCell s ⟨b, o, none⟩) x) (vp ((oC a).run t)) = _
        rw [e1]
        simp only [evRead, hu, hb, cond_false]
        cases evalT t a with
        | pointer x =>
          cases x with
          | none => rfl
          | some x => exact fCell_eq s x
        | _ => rfl
structure AClo where
  run : CallF → T Value → S → EO
def fAct (p : Par) (o : Oper) : AClo :=
  match o.op with
  | .store ty a x => ⟨fun call t s => match evalT t a with
    | .pointer (some a) => bif Nat.beq (cellsL (evalT t x)).length (szOf p.P ty) && (p.P.info? ty).isSome then (match s.storeAt a (cellsL (evalT t x)) with | some s' => .val undef s' | none => .bad) else .bad
    | _ => .bad⟩
  | .call c => match c.callee with
    | .value (.func f) => bi (callable p.P f) ⟨fun call t s => match p.ext f (c.args.toList.map (evalT t)) s with
      | some v => .val v s
      | none => (match call f (c.args.toList.map (evalT t)) s with | .ret v s' => .val v s' | .panic v s' => .panic v s' | .bad => .bad)⟩ ⟨fun call t s => evOp p call (evalT t) o s⟩
    | _ => ⟨fun call t s => evOp p call (evalT t) o s⟩
  | _ => ⟨fun call t s => evOp p call (evalT t) o s⟩
theorem ownX_no {P : Program} {f : FuncId} {args : List Value} {s : S} (h : callable P f = true) : ownX P f args s = none := by
  unfold callable at h
  unfold ownX
  cases hf : P.funcs.toList[f]? with
  | none => rfl
  | some fn =>
    rw [hf] at h
    simp only at h
    cases hb : fn.body with
    | none => rw [hb] at h; cases h
    | some c => simp only [hb]
theorem fAct_eq (p : Par) (call : CallF) (o : Oper) (hk : kind p.P o = 2) (t : T Value) (s : S) : (fAct p o).run call t s = evOp p call (evalT t) o s := by
  obtain ⟨dst, op, type, pos, after, guard⟩ := o
  cases op <;> first
    | rfl
    | skip
  case store ty a x =>
    unfold fAct evOp
    simp only [hk, evAct]
    cases evalT t a with
    | pointer y =>
      cases y with
      | none => rfl
      | some y =>
        simp only
        cases (Nat.beq (cellsL (evalT t x)).length (szOf p.P ty) && (p.P.info? ty).isSome) with
        | false => rfl
        | true =>
          simp only [cond_true]
          cases s.storeAt y (cellsL (evalT t x)) <;> rfl
    | _ => rfl
  case call c =>
    unfold fAct
    simp only
    split
    · rename_i f hf
      rw [bi_cond]
      cases hcl : callable p.P f with
      | false => rfl
      | true =>
        simp only [cond_true]
        unfold evOp
        simp only [hk, evAct, evCall0, hf]
        have e1 : evalT t (.func f) = .func (.func f) #[] #[] := rfl
        rw [e1]
        simp only [List.nil_append, List.append_nil, ownX_no hcl, hcl, cond_true]
        rfl
    · rfl
structure WC where
  run : T Value → Bool
/-- is an operation wanted? -/
def qWant (all : List Oper) (g : Nat × Bool) : WC :=
  match all[g.1]? with
  | some o => match o.dst with
    | some d => match g.2 with
      | true => ⟨fun t => Nat.beq (vb ((oC (.tmp d)).run t)) 2⟩
      | false => ⟨fun t => Nat.beq (vb ((oC (.tmp d)).run t)) 1⟩
    | none => ⟨fun _ => false⟩
  | none => ⟨fun _ => false⟩
theorem qWant_eq (all : List Oper) (g : Nat × Bool) (t : T Value) (nt : Nat) (s : S) (d : List ADefer) : (qWant all g).run t = wantd all ⟨t, nt, s, d⟩ (some g) := by
  obtain ⟨j, b⟩ := g
  unfold qWant wantd
  simp only
  cases all[j]? with
  | none => rfl
  | some o =>
    simp only
    cases o.dst with
    | none => rfl
    | some k =>
      have e : (oC (.tmp k)).run t = (t.get k).getD undef := oC_eq _ _
      cases b with
      | true =>
        show Nat.beq (vb ((oC (.tmp k)).run t)) 2 = _
        rw [e]
        simp only
        cases (t.get k).getD undef with
        | bool x => cases x <;> rfl
        | _ => rfl
      | false =>
        show Nat.beq (vb ((oC (.tmp k)).run t)) 1 = _
        rw [e]
        simp only
        cases (t.get k).getD undef with
        | bool x => cases x <;> rfl
        | _ => rfl
def fGuard (all : List Oper) (o : Oper) (x ih : Clo) : Clo :=
  match o.guard with
  | none => x
  | some g => ⟨fun call t nt s d => bi ((qWant all g).run t) (x.run call t nt s d) (ih.run call (putT o.dst undef t nt) nt s d)⟩
def fK (p : Par) (o : Oper) (ih : Clo) (k : Nat) : Clo :=
  match k with
  | 0 => ⟨fun call t nt s d => Option.rec (motive := fun _ => Out) .bad (fun v => ih.run call ((pC o.dst).run v t nt) nt s d) ((fPure p.P o).run t)⟩
  | 1 => ⟨fun call t nt s d => Option.rec (motive := fun _ => Out) .bad (fun v => ih.run call ((pC o.dst).run v t nt) nt s d) ((fRead p.P o).run t s)⟩
  | _ => ⟨fun call t nt s d => match (fAct p o).run call t s with
    | .val v s => ih.run call (putT o.dst v t nt) nt s d
    | .panic v s => .panic v ⟨t, nt, s, d⟩
    | .defer x => ih.run call (putT o.dst undef t nt) nt s (x :: d)
    | _ => .bad⟩
def fOp (p : Par) (o : Oper) (ih : Clo) : Clo := bi (opsOk p.G o) (fK p o ih (kind p.P o)) ⟨fun _ _ _ _ _ => .bad⟩
def fOps (p : Par) (all ops : List Oper) : Clo :=
  List.rec (motive := fun _ => Clo) ⟨fun _ t nt s d => .norm ⟨t, nt, s, d⟩⟩ (fun o _ ih => fGuard all o (fOp p o ih) ih) ops
theorem fOps_cons (p : Par) (all : List Oper) (o : Oper) (r : List Oper) : fOps p all (o :: r) = fGuard all o (fOp p o (fOps p all r)) (fOps p all r) := rfl
theorem on_put (x : Clo) (call : CallF) (e : Env) (d : Option Tmp) (v : Value) : x.run call (putT d v e.t e.nt) e.nt e.s e.d = x.on call (e.put d v) := by rw [putT_eq]
theorem fOps_eq (p : Par) (call : CallF) (all : List Oper) : ∀ (ops : List Oper) (e : Env), (fOps p all ops).on call e = evOps p call all ops e
  | [], e => rfl
  | o :: r, e => by
    have ih := fOps_eq p call all r
    have hop : (fOp p o (fOps p all r)).on call e = (bif opsOk p.G o then match evOp p call e.eval o e.s with
        | .val v s => evOps p call all r ({ e with s := s }.put o.dst v)
        | .panic v s => .panic v { e with s := s }
        | .defer d => evOps p call all r ({ e with d := d :: e.d }.put o.dst undef)
        | _ => .bad
      else .bad) := by
      unfold fOp
      rw [bi_cond]
      cases opsOk p.G o with
      | false => rfl
      | true =>
        simp only [cond_true]
        rcases kind_lt p.P o with hk | hk | hk
        · rw [hk]
          show Option.rec (motive := fun _ => Out) .bad (fun v => (fOps p all r).run call ((pC o.dst).run v e.t e.nt) e.nt e.s e.d) ((fPure p.P o).run e.t) = _
          simp only [pC_eq]
          rw [fPure_eq]
          unfold evOp
          simp only [hk]
          cases evPure p.P e.eval o with
          | none => rfl
          | some v => exact (on_put _ call e o.dst v).trans (ih _)
        · rw [hk]
          show Option.rec (motive := fun _ => Out) .bad (fun v => (fOps p all r).run call ((pC o.dst).run v e.t e.nt) e.nt e.s e.d) ((fRead p.P o).run e.t e.s) = _
          simp only [pC_eq]
          rw [fRead_eq, evalT_eq]
          unfold evOp
          simp only [hk]
          cases evRead p.P e.eval o e.s with
          | none => rfl
          | some v => exact (on_put _ call e o.dst v).trans (ih _)
        · rw [hk]
          show (match (fAct p o).run call e.t e.s with
            | .val v s => (fOps p all r).run call (putT o.dst v e.t e.nt) e.nt s e.d
            | .panic v s => .panic v ⟨e.t, e.nt, s, e.d⟩
            | .defer x => (fOps p all r).run call (putT o.dst undef e.t e.nt) e.nt e.s (x :: e.d)
            | _ => .bad) = _
          rw [fAct_eq p call o hk, evalT_eq]
          cases evOp p call e.eval o e.s with
          | val v s => exact (on_put _ call { e with s := s } o.dst v).trans (ih _)
          | defer d => exact (on_put _ call { e with d := d :: e.d } o.dst undef).trans (ih _)
          | _ => rfl
    rw [fOps_cons]
    simp only [evOps]
    unfold fGuard
    cases hg : o.guard with
    | none =>
      simp only [wantd, cond_true]
      exact hop
    | some g =>
      show bi ((qWant all g).run e.t) ((fOp p o (fOps p all r)).on call e) ((fOps p all r).run call (putT o.dst undef e.t e.nt) e.nt e.s e.d) = _
      rw [on_put, bi_cond, hop, ih, qWant_eq all g e.t e.nt e.s e.d]
      rfl
def fRegion (p : Par) (ops : Array Oper) (draw : Bool) : Clo :=
  bi draw ⟨fun call t nt s d => evRegD p call ops.toList (masks ops.toList 0 .e) (floats p.P ops.toList (masks ops.toList 0 .e) ops.toList 0) ⟨t, nt, s, d⟩⟩ (fOps p ops.toList ops.toList)
def fIter (f : Env → Out) (n : Nat) : Env → Out :=
  Nat.rec (motive := fun _ => Env → Out) (fun _ => .bad) (fun _ ih e => Out.rec (motive := fun _ => Out) ih (fun e => .ret e) (fun i e => .exit i e) (fun v e => .panic v e) (fun v s d => .panicD v s d) .bad (f e)) n
theorem fIter_eq (f : Env → Out) : ∀ n e, fIter f n e = iter n f e
  | 0, e => rfl
  | n + 1, e => by
    show Out.rec (motive := fun _ => Out) (fIter f n) (fun e => .ret e) (fun i e => .exit i e) (fun v e => .panic v e) (fun v s d => .panicD v s d) .bad (f e) = (match f e with | .norm e => iter n f e | x => x)
    cases f e with
    | norm e => exact fIter_eq f n e
    | _ => rfl
/-- goes on behind what ends as it should. -/
def thenO (x : Out) (k : Env → Out) : Out := Out.rec (motive := fun _ => Out) k (fun e => .ret e) (fun i e => .exit i e) (fun v e => .panic v e) (fun v s d => .panicD v s d) .bad x
theorem thenO_eq (x : Out) (k : Env → Out) : thenO x k = (match x with | .norm e => k e | x => x) := by cases x <;> rfl
def fCode (p : Par) (N : Nat) : Code → Clo
  | .skip => ⟨fun _ t nt s d => .norm ⟨t, nt, s, d⟩⟩
  | .label _ => ⟨fun _ t nt s d => .norm ⟨t, nt, s, d⟩⟩
  | .region _ ops draw => fRegion p ops draw
  | .seq a b => ⟨fun call t nt s d => thenO ((fCode p N a).run call t nt s d) (fun e => withE (fCode p N b) call e)⟩
  | .cond c a b => bi (opOk p.G c) ⟨fun call t nt s d => natF (vb ((oC c).run t)) fun v => bi (Nat.beq v 2) ((fCode p N a).run call t nt s d) (bi (Nat.beq v 1) ((fCode p N b).run call t nt s d) .bad)⟩ ⟨fun _ _ _ _ _ => .bad⟩
  | .block id a => ⟨fun call t nt s d => match (fCode p N a).run call t nt s d with | .exit j e => bi (Nat.beq j id) (Out.norm e) (Out.exit j e) | x => x⟩
  | .loop a => ⟨fun call t nt s d => fIter (withE (fCode p N a) call) N ⟨t, nt, s, d⟩⟩
  | .exit id => ⟨fun _ t nt s d => .exit id ⟨t, nt, s, d⟩⟩
  | .scope a => fCode p N a
  | .ret => ⟨fun _ t nt s d => .ret ⟨t, nt, s, d⟩⟩
  | _ => ⟨fun _ _ _ _ _ => .bad⟩
theorem fCode_eq (p : Par) (call : CallF) (N : Nat) (c : Code) : ∀ e, (fCode p N c).on call e = evCode p call N c e := by
  induction c with
  | region id ops draw =>
    intro e
    show (fRegion p ops draw).on call e = evRegion p call ops draw e
    unfold fRegion evRegion
    cases draw with
    | true => rfl
    | false => exact fOps_eq p call ops.toList ops.toList e
  | seq a b iha ihb =>
    intro e
    show thenO ((fCode p N a).on call e) (fun e => (fCode p N b).on call e) = (match evCode p call N a e with | .norm e => evCode p call N b e | x => x)
    rw [iha, thenO_eq]
    cases evCode p call N a e with
    | norm e => exact ihb e
    | _ => rfl
  | cond c a b iha ihb =>
    intro e
    have ha := iha e
    have hb := ihb e
    have hc : fCode p N (.cond c a b) = bi (opOk p.G c) ⟨fun call t nt s d => natF (vb ((oC c).run t)) fun v => bi (Nat.beq v 2) ((fCode p N a).run call t nt s d) (bi (Nat.beq v 1) ((fCode p N b).run call t nt s d) .bad)⟩ ⟨fun _ _ _ _ _ => .bad⟩ := rfl
    rw [hc, bi_cond]
    simp only [evCode]
    cases opOk p.G c with
    | false => rfl
    | true =>
      simp only [cond_true]
      show natF (vb ((oC c).run e.t)) (fun v => bi (Nat.beq v 2) ((fCode p N a).on call e) (bi (Nat.beq v 1) ((fCode p N b).on call e) .bad)) = _
      rw [natF_eq, oC_eq, ha, hb]
      show bi (Nat.beq (vb (evalT e.t c)) 2) _ (bi (Nat.beq (vb (evalT e.t c)) 1) _ _) = _
      rw [evalT_eq]
      cases e.eval c with
      | bool x => cases x <;> rfl
      | _ => rfl
  | block id a ih =>
    intro e
    show (match (fCode p N a).on call e with | .exit j e => bi (Nat.beq j id) (Out.norm e) (Out.exit j e) | x => x) = (match evCode p call N a e with | .exit j e => bif Nat.beq j id then .norm e else .exit j e | x => x)
    rw [ih]
    cases evCode p call N a e with
    | exit j e => exact bi_cond _ _ _
    | _ => rfl
  | scope a ih => exact ih
  | loop a ih =>
    intro e
    show fIter (withE (fCode p N a) call) N e = iter N (evCode p call N a) e
    rw [fIter_eq]
    congr 1
    funext e
    exact ih e
  | _ => intro e; rfl
structure FClo where
  fn : Func
  c : Clo
def fFn (p : Par) (N : Nat) (f : FuncId) : Option FClo :=
  match p.P.funcs.toList[f]? with
  | some fn => match fn.body with
    | some c => some ⟨fn, fCode p N c⟩
    | none => none
  | none => none
def fCall (p : Par) (N k : Nat) : CallF :=
  Nat.rec (motive := fun _ => CallF) (fun _ _ _ => .bad) (fun _ ih f args s => match fFn p N f with
    | some x => (match withE x.c ih (enterE x.fn args s) with
      | .norm e => unwind p ih N x.fn e e.d e.s .idle
      | .ret e => unwind p ih N x.fn e e.d e.s .idle
      | .panic v e => unwind p ih N x.fn e e.d e.s (.pan v)
      | .panicD v s d => unwindD p ih N d s (.pan v)
      | _ => .bad)
    | none => .bad) k
theorem fCall_eq (p : Par) (N : Nat) : ∀ k, fCall p N k = evCall p N k
  | 0 => rfl
  | k + 1 => by
    have ih := fCall_eq p N k
    funext f args s
    show (match fFn p N f with
      | some x => (match x.c.on (fCall p N k) (enterE x.fn args s) with
        | .norm e => unwind p (fCall p N k) N x.fn e e.d e.s .idle
        | .ret e => unwind p (fCall p N k) N x.fn e e.d e.s .idle
        | .panic v e => unwind p (fCall p N k) N x.fn e e.d e.s (.pan v)
        | .panicD v s d => unwindD p (fCall p N k) N d s (.pan v)
        | _ => .bad)
      | none => .bad) = _
    simp only [evCall]
    rw [ih]
    unfold fFn
    cases p.P.funcs.toList[f]? with
    | none => rfl
    | some fn =>
      simp only
      cases fn.body with
      | none => rfl
      | some c =>
        simp only [fCode_eq]
        rfl
/-- a closed run, quickly. -/
theorem run_fast (P : Program) (hm : P.follows .mixedOrders = true) (ext : FuncId → List Value → S → Option Value) (he : ExtOK ⟨P, 0, ext⟩) (N k : Nat) (f : FuncId) (args : List Value) (hp : args.all plain = true) (hcl : callable P f = true) (h : isTrue (fCall ⟨P, 0, ext⟩ N k f args ⟨.e, 0⟩) = true) (w : World) :
    Calls P f args.toArray w fun e w' => e = .returned (.bool true) ∧ Below w.heap.size w w' :=
  run_true P hm ext he N k f args hp hcl (by rw [← fCall_eq]; exact h) w
end
end Go.Ev
