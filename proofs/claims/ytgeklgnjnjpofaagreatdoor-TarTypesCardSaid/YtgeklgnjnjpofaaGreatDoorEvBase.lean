/- an abstract heap: blocks by name; how it stands to a world. -/
import Derived.Below
import Derived.Defers
import Derived.Orders
import Derived.Test.YtgeklgnjnjpofaaGreatDoorEvT
set_option linter.unusedSimpArgs false
set_option linter.unusedVariables false
namespace Go.Ev
open Go Go.RowKit
/-- what lies under a name. -/
inductive AObj where
  | cells (n : Nat) (c : T Value) (elem : TypeId) (es : Nat) (opn fz : Bool) : AObj
  | map (es : List (Value × Value)) : AObj
structure S where
  heap : T AObj
  next : Nat
/-- where a name's block lies: the block, the first cell of it, how many cells the block has, how many an element has; may there be more behind what is known? -/
structure Tgt where
  b : Nat
  sh : Nat
  sz : Nat
  es : Nat
  opn : Bool
abbrev Mu := Nat → Option Tgt
def isNan (k : FloatKind) (x : Nat) : Bool := (k.format.read x).isNaN
/-- a whole number that is not known. -/
abbrev top : Value := .complex .f64 0 0
inductive VR (μ : Mu) : Value → Value → Prop where
  | top (k : IntKind) (n : Int) : VR μ top (.int k n)
  | bool (b : Bool) : VR μ (.bool b) (.bool b)
  | int (k : IntKind) (n : Int) : VR μ (.int k n) (.int k n)
  | float (k : FloatKind) (x y : Nat) (h : x = y ∨ (isNan k x = true ∧ isNan k y = true)) : VR μ (.float k x) (.float k y)
  | str (s : ByteArray) : VR μ (.string s) (.string s)
  | nilp : VR μ (.pointer none) (.pointer none)
  | ptr (n o : Nat) (t : Tgt) (h : μ n = some t) : VR μ (.pointer (some ⟨n, o, none⟩)) (.pointer (some ⟨t.b, t.sh + o, none⟩))
  | nils (l c : Nat) : VR μ (.slice none l c) (.slice none l c)
  | slc (n o l c c' : Nat) (t : Tgt) (h : μ n = some t) (hc : c ≤ c') (he : t.opn = false → c' = c) (hs : t.opn = true → t.sh + o + c' * t.es ≤ t.sz) : VR μ (.slice (some ⟨n, o, none⟩) l c) (.slice (some ⟨t.b, t.sh + o, none⟩) l c')
  | slz (n o q : Nat) (t : Tgt) (h : μ n = some t) (ho : t.opn = true) : VR μ (.slice (some ⟨n, o, none⟩) 0 0) (.slice (some ⟨t.b, q, none⟩) 0 0)
  | mapn : VR μ (.map none) (.map none)
  | map (n : Nat) (t : Tgt) (h : μ n = some t) : VR μ (.map (some n)) (.map (some t.b))
  | func (f : FuncId) (x y x' y' : Array Value) (hx : x.size = x'.size) (hy : y.size = y'.size) (ex : ∀ i, i < x.size → VR μ (x.getD i (.tuple #[])) (x'.getD i (.tuple #[]))) (ey : ∀ i, i < y.size → VR μ (y.getD i (.tuple #[])) (y'.getD i (.tuple #[]))) : VR μ (.func (.func f) x y) (.func (.func f) x' y')
  | nilf : VR μ .nilFunc .nilFunc
  | iface (t : TypeId) (x y : Value) (h : VR μ x y) : VR μ (.iface t x) (.iface t y)
  | nili : VR μ .nilIface .nilIface
  | agg (x y : Array Value) (hx : x.size = y.size) (ex : ∀ i, i < x.size → VR μ (x.getD i (.tuple #[])) (y.getD i (.tuple #[]))) : VR μ (.agg x) (.agg y)
  | tup (x y : Array Value) (hx : x.size = y.size) (ex : ∀ i, i < x.size → VR μ (x.getD i (.tuple #[])) (y.getD i (.tuple #[]))) : VR μ (.tuple x) (.tuple y)
/-- lists of values, place by place. -/
def VRs (μ : Mu) (l m : List Value) : Prop := l.length = m.length ∧ ∀ i, i < l.length → VR μ (l.getD i (.tuple #[])) (m.getD i (.tuple #[]))
/-- an object under a name and the block that it is. -/
def OR (μ : Mu) (t : Tgt) (o : AObj) (x : Option Obj) : Prop :=
  match o with
  | .cells n c e es opn fz => ∃ (cs : Array Value) (f : Nat × Nat), x = some (.cells cs e f) ∧ opn = t.opn ∧ es = t.es ∧ cs.size = t.sz ∧ t.sh + n ≤ t.sz ∧ (opn = false → t.sh = 0 ∧ t.sz = n) ∧
      (fz = false → ∀ i, i < t.sz → ¬ (f.1 ≤ i ∧ i < f.2)) ∧ ∀ i, i < n → ∃ v, c.get i = some v ∧ VR μ v (cs.getD (t.sh + i) (.tuple #[]))
  | .map es => ∃ (xs : Array MapEntry) (clock : Nat), x = some (.map xs clock) ∧ VRs μ (es.map (·.1)) (xs.toList.map (·.key)) ∧ VRs μ (es.map (·.2)) (xs.toList.map (·.val))
structure WR (μ : Mu) (s : S) (w : World) : Prop where
  fresh : ∀ n, s.next ≤ n → μ n = none
  obj : ∀ n o, s.heap.get n = some o → ∃ t, μ n = some t ∧ OR μ t o w.heap[t.b]?
  inj : ∀ n m o p t u, s.heap.get n = some o → s.heap.get m = some p → μ n = some t → μ m = some u → t.b = u.b → n = m
/-- is a block one of those that live names are? -/
def InR (μ : Mu) (s : S) (b : Nat) : Prop := ∃ n o t, s.heap.get n = some o ∧ μ n = some t ∧ t.b = b
/-- a block that nothing may be written to. -/
def AObj.fz : AObj → Bool
  | .cells _ _ _ _ _ fz => fz
  | .map _ => false
structure Fr (μ : Mu) (s : S) (w : World) (μ' : Mu) (s' : S) (w' : World) : Prop where
  os : w'.os = w.os
  tape : w'.tape = w.tape
  output : w'.output = w.output
  size : w.heap.size ≤ w'.heap.size
  mono : ∀ n t, μ n = some t → μ' n = some t
  keep : ∀ b, b < w.heap.size → ¬ InR μ s b → w'.heap[b]? = w.heap[b]?
  orig : ∀ b, b < w.heap.size → InR μ' s' b → InR μ s b
  next : s.next ≤ s'.next
  low : ∀ n, n < s.next → μ n = none → μ' n = none
  fro : ∀ n o t, s.heap.get n = some o → o.fz = true → μ n = some t → s'.heap.get n = some o ∧ w'.heap[t.b]? = w.heap[t.b]?
theorem Fr.refl (μ : Mu) (s : S) (w : World) : Fr μ s w μ s w := ⟨rfl, rfl, rfl, Nat.le_refl _, fun _ _ h => h, fun _ _ _ => rfl, fun _ _ h => h, Nat.le_refl _, fun _ _ h => h, fun _ _ _ h _ _ => ⟨h, rfl⟩⟩
theorem Fr.trans {μ μ1 μ2 : Mu} {s s1 s2 : S} {w w1 w2 : World} (h : Fr μ s w μ1 s1 w1) (k : Fr μ1 s1 w1 μ2 s2 w2) : Fr μ s w μ2 s2 w2 :=
  ⟨k.os.trans h.os, k.tape.trans h.tape, k.output.trans h.output, Nat.le_trans h.size k.size, fun n t e => k.mono n t (h.mono n t e),
    fun b hb hn => (k.keep b (Nat.lt_of_lt_of_le hb h.size) (fun hi => hn (h.orig b hb hi))).trans (h.keep b hb hn),
    fun b hb hi => h.orig b hb (k.orig b (Nat.lt_of_lt_of_le hb h.size) hi), Nat.le_trans h.next k.next, fun n hn e => k.low n (Nat.lt_of_lt_of_le hn h.next) (h.low n hn e), fun n o t hn hz ht => by
      obtain ⟨a, b⟩ := h.fro n o t hn hz ht
      obtain ⟨c, d⟩ := k.fro n o t a hz (h.mono n t ht)
      exact ⟨c, d.trans b⟩⟩
/-- more is drawn: nothing turns. -/
theorem Fr.drawn (μ : Mu) (s : S) (w : World) (n : Nat) : Fr μ s w μ s { w with drawn := n } := ⟨rfl, rfl, rfl, Nat.le_refl _, fun _ _ h => h, fun _ _ _ => rfl, fun _ _ h => h, Nat.le_refl _, fun _ _ h => h, fun _ _ _ h _ _ => ⟨h, rfl⟩⟩
theorem WR.heap {μ : Mu} {s : S} {w w' : World} (h : WR μ s w) (e : w'.heap = w.heap) : WR μ s w' := ⟨h.fresh, fun n o hn => by rw [e]; exact h.obj n o hn, h.inj⟩
theorem VR.mono {μ μ' : Mu} (hm : ∀ n t, μ n = some t → μ' n = some t) {v v' : Value} (h : VR μ v v') : VR μ' v v' := by
  induction h with
  | top k n => exact .top k n
  | bool b => exact .bool b
  | int k n => exact .int k n
  | float k x y h => exact .float k x y h
  | str s => exact .str s
  | nilp => exact .nilp
  | ptr n o t h => exact .ptr n o t (hm _ _ h)
  | nils l c => exact .nils l c
  | slc n o l c c' t h hc he hs => exact .slc n o l c c' t (hm _ _ h) hc he hs
  | slz n o q t h ho => exact .slz n o q t (hm _ _ h) ho
  | mapn => exact .mapn
  | map n t h => exact .map n t (hm _ _ h)
  | func f x y x' y' hx hy _ _ ex ey => exact .func f x y x' y' hx hy ex ey
  | nilf => exact .nilf
  | iface t x y _ ih => exact .iface t x y ih
  | nili => exact .nili
  | agg x y hx _ ih => exact .agg x y hx ih
  | tup x y hx _ ih => exact .tup x y hx ih
theorem VRs.mono {μ μ' : Mu} (hm : ∀ n t, μ n = some t → μ' n = some t) {l m : List Value} (h : VRs μ l m) : VRs μ' l m := ⟨h.1, fun i hi => (h.2 i hi).mono hm⟩
theorem OR.mono {μ μ' : Mu} (hm : ∀ n t, μ n = some t → μ' n = some t) {t : Tgt} {o : AObj} {x : Option Obj} (h : OR μ t o x) : OR μ' t o x := by
  cases o with
  | cells n c e es opn fz =>
    obtain ⟨cs, f, a, b, b2, c1, d, e1, g, k⟩ := h
    exact ⟨cs, f, a, b, b2, c1, d, e1, g, fun i hi => by obtain ⟨v, h1, h2⟩ := k i hi; exact ⟨v, h1, h2.mono hm⟩⟩
  | map es =>
    obtain ⟨xs, cl, a, b, c⟩ := h
    exact ⟨xs, cl, a, b.mono hm, c.mono hm⟩
theorem VRs.nil (μ : Mu) : VRs μ [] [] := ⟨rfl, fun i hi => absurd hi (Nat.not_lt_zero i)⟩
theorem VRs.cons {μ : Mu} {x y : Value} {l m : List Value} (h : VR μ x y) (k : VRs μ l m) : VRs μ (x :: l) (y :: m) :=
  ⟨by simp [k.1], fun i hi => by
    match i with
    | 0 => simpa using h
    | i + 1 => simpa using k.2 i (by simpa using hi)⟩
theorem VRs.head {μ : Mu} {x : Value} {l m : List Value} (h : VRs μ (x :: l) m) : ∃ y r, m = y :: r ∧ VR μ x y ∧ VRs μ l r := by
  match m, h with
  | [], h => exact absurd h.1 (by simp)
  | y :: r, h => exact ⟨y, r, rfl, by simpa using h.2 0 (by simp), ⟨by simpa using h.1, fun i hi => by simpa using h.2 (i + 1) (by simpa using hi)⟩⟩
theorem VRs.nil_inv {μ : Mu} {m : List Value} (h : VRs μ [] m) : m = [] := by
  cases m with
  | nil => rfl
  | cons y r => exact absurd h.1 (by simp)
theorem VRs.append {μ : Mu} : ∀ {l m l' m' : List Value}, VRs μ l m → VRs μ l' m' → VRs μ (l ++ l') (m ++ m')
  | [], m, l', m', h, k => by rw [h.nil_inv]; simpa using k
  | x :: l, m, l', m', h, k => by
    obtain ⟨y, r, rfl, a, b⟩ := h.head
    exact .cons a (b.append k)
theorem VRs.map {μ : Mu} {α : Type} (f g : α → Value) : ∀ (l : List α), (∀ x, x ∈ l → VR μ (f x) (g x)) → VRs μ (l.map f) (l.map g)
  | [], _ => .nil μ
  | x :: l, h => .cons (h x (by simp)) (VRs.map f g l fun y hy => h y (by simp [hy]))
theorem VRs.get {μ : Mu} {l m : List Value} (h : VRs μ l m) {i : Nat} {v : Value} (e : l[i]? = some v) : ∃ v', m[i]? = some v' ∧ VR μ v v' := by
  have hi : i < l.length := by
    rcases Nat.lt_or_ge i l.length with h | h
    · exact h
    · rw [List.getElem?_eq_none h] at e; cases e
  have hj : i < m.length := by rw [← h.1]; exact hi
  refine ⟨m[i], List.getElem?_eq_getElem hj, ?_⟩
  have := h.2 i hi
  rw [List.getD_eq_getElem?_getD, List.getD_eq_getElem?_getD, e, List.getElem?_eq_getElem hj] at this
  exact this
theorem VRs.of_get {μ : Mu} {l m : List Value} (hl : l.length = m.length) (h : ∀ (i : Nat) (v v' : Value), l[i]? = some v → m[i]? = some v' → VR μ v v') : VRs μ l m :=
  ⟨hl, fun i hi => by
    rw [List.getD_eq_getElem?_getD, List.getD_eq_getElem?_getD, List.getElem?_eq_getElem hi, List.getElem?_eq_getElem (by omega)]
    exact h i _ _ (List.getElem?_eq_getElem hi) (List.getElem?_eq_getElem (by omega))⟩
theorem getD_toList (x : Array Value) (i : Nat) (d : Value) : x.getD i d = x.toList.getD i d := by
  rw [Array.getD_eq_getD_getElem?, List.getD_eq_getElem?_getD, Array.getElem?_toList]
theorem VR.agg_iff {μ : Mu} {x y : Array Value} : VR μ (.agg x) (.agg y) ↔ VRs μ x.toList y.toList := by
  constructor
  · intro h
    cases h with
    | agg _ _ hx ex => exact ⟨by simpa using hx, fun i hi => by rw [← getD_toList, ← getD_toList]; exact ex i (by simpa using hi)⟩
  · intro h
    exact .agg x y (by simpa using h.1) fun i hi => by rw [getD_toList, getD_toList]; exact h.2 i (by simpa using hi)
theorem VR.tup_iff {μ : Mu} {x y : Array Value} : VR μ (.tuple x) (.tuple y) ↔ VRs μ x.toList y.toList := by
  constructor
  · intro h
    cases h with
    | tup _ _ hx ex => exact ⟨by simpa using hx, fun i hi => by rw [← getD_toList, ← getD_toList]; exact ex i (by simpa using hi)⟩
  · intro h
    exact .tup x y (by simpa using h.1) fun i hi => by rw [getD_toList, getD_toList]; exact h.2 i (by simpa using hi)
theorem VR.func_iff {μ : Mu} {f : FuncId} {x y x' y' : Array Value} : VR μ (.func (.func f) x y) (.func (.func f) x' y') ↔ VRs μ x.toList x'.toList ∧ VRs μ y.toList y'.toList := by
  constructor
  · intro h
    cases h with
    | func _ _ _ _ _ hx hy ex ey => exact ⟨⟨by simpa using hx, fun i hi => by rw [← getD_toList, ← getD_toList]; exact ex i (by simpa using hi)⟩, ⟨by simpa using hy, fun i hi => by rw [← getD_toList, ← getD_toList]; exact ey i (by simpa using hi)⟩⟩
  · intro ⟨h, k⟩
    exact .func f x y x' y' (by simpa using h.1) (by simpa using k.1) (fun i hi => by rw [getD_toList, getD_toList]; exact h.2 i (by simpa using hi)) (fun i hi => by rw [getD_toList, getD_toList]; exact k.2 i (by simpa using hi))
theorem VR.undef (μ : Mu) : VR μ (.tuple #[]) (.tuple #[]) := VR.tup_iff.2 (.nil μ)
/-- the cells of a value. -/
def cellsL : Value → List Value
  | .agg cs => cs.toList
  | v => [v]
theorem cellsL_eq (v : Value) : cellsL v = v.cells.toList := by cases v <;> rfl
theorem VR.cells {μ : Mu} {v v' : Value} (h : VR μ v v') : VRs μ (cellsL v) (cellsL v') := by
  cases h with
  | agg x y hx ex => exact VR.agg_iff.1 (.agg x y hx ex)
  | bool b => exact .cons (.bool b) (.nil μ)
  | int k n => exact .cons (.int k n) (.nil μ)
  | float k x y h => exact .cons (.float k x y h) (.nil μ)
  | str s => exact .cons (.str s) (.nil μ)
  | nilp => exact .cons .nilp (.nil μ)
  | ptr n o t h => exact .cons (.ptr n o t h) (.nil μ)
  | nils l c => exact .cons (.nils l c) (.nil μ)
  | slc n o l c c' t h hc he hs => exact .cons (.slc n o l c c' t h hc he hs) (.nil μ)
  | slz n o q t h ho => exact .cons (.slz n o q t h ho) (.nil μ)
  | mapn => exact .cons .mapn (.nil μ)
  | map n t h => exact .cons (.map n t h) (.nil μ)
  | func f x y x' y' hx hy ex ey => exact .cons (.func f x y x' y' hx hy ex ey) (.nil μ)
  | nilf => exact .cons .nilf (.nil μ)
  | iface t x y h => exact .cons (.iface t x y h) (.nil μ)
  | nili => exact .cons .nili (.nil μ)
  | tup x y hx ex => exact .cons (.tup x y hx ex) (.nil μ)
  | top k n => exact .cons (.top k n) (.nil μ)
end Go.Ev
