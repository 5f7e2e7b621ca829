/- operations that make memory or write it. -/
import Derived.Test.YtgeklgnjnjpofaaGreatDoorEvRead
import Derived.Great.BuildSlice
import Derived.Laws.MakeOwn
set_option linter.unusedVariables false
set_option linter.unusedSimpArgs false
namespace Go.Ev
open Go Go.RowKit
section
variable {P : Program} {μ : Mu}
/-- an operation's outcome, against the model's run. -/
def ActOK (P : Program) (μ : Mu) (s : S) (w : World) (r : ER) (run : Result Next) : Prop :=
  match r with
  | .val v s' => ∃ μ' w' nx v', run = .ok nx w' ∧ (nx = .value v' ∨ (nx = .skip ∧ v' = undef)) ∧ VR μ' v v' ∧ WR μ' s' w' ∧ Fr μ s w μ' s' w'
  | .enter f args => ∃ args' : Array Value, run = (callFunc f args').run P w ∧ VRs μ args args'.toList
  | .panic v => ∃ v', run = .halt (.panic v') w ∧ VR μ v v'
  | .defer f args caps => ∃ d caps', run = .ok (.defer d) w ∧ d.target = .fn (.func f) caps' ∧ VRs μ args d.args.toList ∧ VRs μ caps caps'.toList
  | .recover => run = .ok .recover w
  | .bad => True
theorem ActOK.value {s s' : S} {w w' : World} {v v' : Value} {μ' : Mu} {x : Sem Value} (h : x.run P w = .ok v' w') (hv : VR μ' v v') (hw : WR μ' s' w') (hf : Fr μ s w μ' s' w') : ActOK P μ s w (.val v s') ((do pure (.value (← x)) : Sem Next).run P w) :=
  ⟨μ', w', .value v', v', value_of h, .inl rfl, hv, hw, hf⟩
/-- a new row of cells. -/
def tgt (w : World) (sz es : Nat) (opn : Bool) : Tgt := ⟨w.heap.size, 0, sz, es, opn⟩
theorem row_or {n : Nat} (hm : μ n = none) (w : World) (c : T Value) (k : Nat) (cs : Array Value) (e : TypeId) (es : Nat) (opn : Bool) (hn : k ≤ cs.size) (hx : opn = false → cs.size = k) (hc : ∀ i, i < k → ∃ v, c.get i = some v ∧ VR μ v (cs.getD i (.tuple #[]))) (f : Nat × Nat) (hf : ∀ i, i < cs.size → ¬ (f.1 ≤ i ∧ i < f.2)) :
    OR (μ.up n (tgt w cs.size es opn)) (tgt w cs.size es opn) (.cells k c e es opn false) (some (.cells cs e f)) := by
  refine ⟨cs, f, rfl, rfl, rfl, rfl, by show 0 + k ≤ cs.size; omega, fun ho => ⟨rfl, hx ho⟩, fun _ => hf, fun i hi => ?_⟩
  obtain ⟨v, h1, h2⟩ := hc i hi
  exact ⟨v, h1, by rw [show (tgt w cs.size es opn).sh + i = i by show 0 + i = i; omega]; exact h2.mono (Mu.up_mono hm)⟩
theorem WR.row {s : S} {w : World} (h : WR μ s w) (c : T Value) (n : Nat) (cs : Array Value) (e : TypeId) (es : Nat) (opn : Bool) (d : Nat) (hn : n ≤ cs.size) (hx : opn = false → cs.size = n) (hc : ∀ i, i < n → ∃ v, c.get i = some v ∧ VR μ v (cs.getD i (.tuple #[]))) (f : Nat × Nat) (hf : ∀ i, i < cs.size → ¬ (f.1 ≤ i ∧ i < f.2)) :
    WR (μ.up s.next (tgt w cs.size es opn)) (s.new (.cells n c e es opn false)) { w with heap := w.heap.push (.cells cs e f), drawn := d } ∧ Fr μ s w (μ.up s.next (tgt w cs.size es opn)) (s.new (.cells n c e es opn false)) { w with heap := w.heap.push (.cells cs e f), drawn := d } :=
  h.alloc _ _ _ d rfl (row_or (h.fresh _ (Nat.le_refl _)) w c n cs e es opn hn hx hc f hf)
/-- a new block under a name, against the model's run. -/
def AlOK (P : Program) (μ : Mu) (n : Nat) (w : World) (v : Value) (ob : AObj) (run : Result Next) : Prop :=
  ∃ (t : Tgt) (x : Obj) (d : Nat) (v' : Value), run = .ok (.value v') { w with heap := w.heap.push x, drawn := d } ∧ t.b = w.heap.size ∧ VR (μ.up n t) v v' ∧ OR (μ.up n t) t ob (some x)
theorem AlOK.act {s : S} {w : World} {v : Value} {ob : AObj} {run : Result Next} (h : WR μ s w) (k : AlOK P μ s.next w v ob run) : ActOK P μ s w (.val v (s.new ob)) run := by
  obtain ⟨t, x, d, v', h1, h2, h3, h4⟩ := k
  obtain ⟨a, b⟩ := h.alloc ob x t d h2 h4
  exact ⟨_, _, _, v', h1, .inl rfl, h3, a, b⟩
theorem AlOK.value {n : Nat} {w : World} {v v' : Value} {ob : AObj} {x : Obj} {d : Nat} {t : Tgt} {y : Sem Value} (h : y.run P w = .ok v' { w with heap := w.heap.push x, drawn := d }) (hb : t.b = w.heap.size) (hv : VR (μ.up n t) v v') (ho : OR (μ.up n t) t ob (some x)) : AlOK P μ n w v ob ((do pure (.value (← y)) : Sem Next).run P w) :=
  ⟨t, x, d, v', value_of h, hb, hv, ho⟩
theorem nofr (i : Nat) : ¬ ((0 : Nat) ≤ i ∧ i < 0) := by omega
theorem row_cells {l : List Value} {cs : Array Value} (h : VRs μ l cs.toList) : ∀ i, i < l.length → ∃ v, (T.puts l 0 .e).get i = some v ∧ VR μ v (cs.getD i (.tuple #[])) := by
  intro i hi
  rw [puts_get, if_pos (by omega), Nat.sub_zero, List.getElem?_eq_getElem hi]
  refine ⟨_, rfl, ?_⟩
  have := h.2 i hi
  rw [List.getD_eq_getElem?_getD, List.getElem?_eq_getElem hi] at this
  rw [getD_toList]
  exact this
theorem newRow_run (e : TypeId) (cs : Array Value) (w : World) : (newRow e cs).run P w = .ok ⟨w.heap.size, 0, none⟩ { w with heap := w.heap.push (.cells cs e (0, 0)) } := rfl
theorem zeroValue_run {t : TypeId} {i : TypeInfo} {v : Value} (hi : P.info? t = some i) (hv : i.zero = some v) (w : World) : (zeroValue t).run P w = .ok v w := by
  unfold zeroValue
  rw [bind_ok (typeInfo_run hi w), hv]; rfl
theorem alloc_ok {n : Nat} (hm : μ n = none) (w : World) {e : TypeId} {z : List Value} (hz : tyZero P e = some z) :
    AlOK P μ n w (.pointer (some ⟨n, 0, none⟩)) (.cells z.length (T.puts z 0 .e) e 0 false false) ((do pure (.value (← Instr.alloc e true (.tuple #[]))) : Sem Next).run P w) := by
  obtain ⟨i, v, hi, hv, hc, hzz, hs, hl, hvr⟩ := tyZero_spec (μ := μ) hz
  have hcs : z = v.cells.toList := by rw [← hc, cellsL_eq]
  have ho := row_or hm w (T.puts z 0 .e) z.length v.cells e 0 false (by rw [hcs]; simp) (fun _ => by rw [hcs]; simp) (row_cells (by rw [← hcs]; exact hzz)) (0, 0) (fun i _ => nofr i)
  refine .value (v' := .pointer (some ⟨w.heap.size, 0, none⟩)) (d := w.drawn) ?_ rfl (.ptr n 0 _ (Mu.up_same _ _ _)) ho
  unfold Instr.alloc
  rw [bind_ok (zeroValue_run hi hv w)]
  rfl
theorem box_ok {n : Nat} (hm : μ n = none) (w : World) {e : TypeId} {x x' : Value} (hx : VR μ x x') :
    AlOK P μ n w (.pointer (some ⟨n, 0, none⟩)) (.cells (cellsL x).length (T.puts (cellsL x) 0 .e) e 0 false false) ((do pure (.value (← Instr.box e x')) : Sem Next).run P w) := by
  have hc := hx.cells
  rw [cellsL_eq x'] at hc
  have hl : (cellsL x).length = x'.cells.size := by have := hc.1; simpa using this
  have ho := row_or hm w (T.puts (cellsL x) 0 .e) (cellsL x).length x'.cells e 0 false (by omega) (fun _ => hl.symm) (row_cells hc) (0, 0) (fun i _ => nofr i)
  exact .value (v' := .pointer (some ⟨w.heap.size, 0, none⟩)) (d := w.drawn) rfl rfl (.ptr n 0 _ (Mu.up_same _ _ _)) ho
theorem flat_get (z : List Value) (hz : 0 < z.length) : ∀ (n i : Nat), i < n * z.length → (List.replicate n z).flatten[i]? = z[i % z.length]?
  | 0, i, h => by omega
  | n + 1, i, h => by
    rw [List.replicate_succ, List.flatten_cons]
    by_cases c : i < z.length
    · rw [List.getElem?_append_left c, Nat.mod_eq_of_lt c]
    · rw [List.getElem?_append_right (by omega), flat_get z hz n _ (by rw [Nat.succ_mul] at h; omega)]
      rw [Nat.mod_eq_sub_mod (by omega : i ≥ z.length)]
theorem flat_len (z : List Value) (n : Nat) : (List.replicate n z).flatten.length = n * z.length := by simp
theorem made_flat (v : Value) (n : Nat) (hz : 0 < v.cells.size) : (madeCells v.cells (n * v.cells.size)).toList = (List.replicate n v.cells.toList).flatten := by
  apply List.ext_getElem?
  intro i
  by_cases h : i < n * v.cells.size
  · rw [flat_get _ (by simpa using hz) n i (by simpa using h)]
    have hm : i % v.cells.size < v.cells.size := Nat.mod_lt _ hz
    simp [madeCells, h, hm]
  · rw [List.getElem?_eq_none (by simp [size_madeCells]; omega), List.getElem?_eq_none (by rw [flat_len]; simp; omega)]
theorem VRs.flat {z : List Value} (h : VRs μ z z) : ∀ n, VRs μ (List.replicate n z).flatten (List.replicate n z).flatten
  | 0 => .nil μ
  | n + 1 => by rw [List.replicate_succ, List.flatten_cons]; exact h.append (h.flat n)
theorem buildSlice_ok {n : Nat} (hm : μ n = none) (w : World) {t e : TypeId} (hu : P.underlying t = some (.slice e)) {z : List Value} (hz : tyZero P e = some z) {len : Nat} (h0 : 0 < len) (h1 : 0 < z.length) (h2 : len * z.length ≤ 16777216)
    {p q : List (Nat × Value)} (hp : p.map (·.1) = q.map (·.1)) (hq : VRs μ (p.map (·.2)) (q.map (·.2))) {cs : Array Value} (hf : Instr.fill (fun i => some (i * z.length, z.length)) (List.replicate len z).flatten.toArray p = some cs) :
    AlOK P μ n w (.slice (some ⟨n, 0, none⟩) len len) (.cells cs.size (T.puts cs.toList 0 .e) e 0 false false) ((do pure (.value (← Instr.buildSlice t len q.toArray)) : Sem Next).run P w) := by
  obtain ⟨i, v, hi, hv, hc, hzz, hs, hl, hvr⟩ := tyZero_spec (μ := μ) hz
  have hcs : z = v.cells.toList := by rw [← hc, cellsL_eq]
  have hsz : z.length = v.cells.size := by rw [hcs]; simp
  obtain ⟨r', x1, x2, x3⟩ := fill_rel (μ := μ) _ p q _ (madeCells v.cells (len * v.cells.size)) _ hp hq (by rw [made_flat v len (by omega), ← hcs]; exact hzz.flat len) hf
  have hr' : cs.size = r'.size := by have := x2.1; simpa using this
  have ho := row_or hm w (T.puts cs.toList 0 .e) cs.size r' e 0 false (by omega) (fun _ => hr'.symm) (by have := row_cells x2; simpa using this) (0, 0) (fun i _ => nofr i)
  refine .value (v' := .slice (some ⟨w.heap.size, 0, none⟩) len len) (d := w.drawn) ?_ rfl (.slc n 0 len len len _ (Mu.up_same _ _ _) (Nat.le_refl _) (fun _ => rfl) (fun hb => by cases hb)) ho
  refine run_buildSlice w t e len _ r' i v hu hi hv (by rw [← hl]; omega) (by rw [← hl]; exact Nat.ne_of_gt (Nat.mul_pos h0 h1)) ?_
  rw [← hl, hsz]
  rw [hsz] at x1
  exact x1
theorem buildSlice_none {n : Nat} (hm : μ n = none) (w : World) {t e : TypeId} (hu : P.underlying t = some (.slice e)) {i : TypeInfo} (hi : P.info? e = some i) :
    AlOK P μ n w (.slice (some ⟨n, 0, none⟩) 0 0) (.cells 0 .e e 0 false false) ((do pure (.value (← Instr.buildSlice t 0 #[])) : Sem Next).run P w) := by
  have ho := row_or hm w .e 0 #[] e 0 false (by simp) (fun _ => rfl) (fun i hi => by omega) (0, 0) (fun i _ => nofr i)
  refine .value (v' := .slice (some ⟨w.heap.size, 0, none⟩) 0 0) (d := w.drawn) ?_ rfl (.slc n 0 0 0 0 _ (Mu.up_same _ _ _) (Nat.le_refl _) (fun _ => rfl) (fun hb => by cases hb)) ho
  simp [Instr.buildSlice, underlying_run hu, sizeOf_run hi, Result.andThen, Instr.fill, newRow_run, Array.range_zero']
theorem rowOf_get (z : List Value) (hz : 0 < z.length) : ∀ (n : Nat) (t : T Value) (i : Nat), (rowOf z z.length n t).get i = if i < n * z.length then z[i % z.length]? else t.get i
  | 0, t, i => by rw [rowOf, if_neg (by omega)]
  | n + 1, t, i => by
    rw [rowOf, rowOf_get z hz n, puts_get]
    have hm : (n + 1) * z.length = n * z.length + z.length := Nat.succ_mul _ _
    by_cases c : i < n * z.length
    · rw [if_pos c, if_pos (by omega)]
    · rw [if_neg c]
      by_cases d : n * z.length ≤ i ∧ i < n * z.length + z.length
      · rw [if_pos d, if_pos (by omega)]
        obtain ⟨k, rfl⟩ : ∃ k, i = n * z.length + k := ⟨i - n * z.length, by omega⟩
        rw [Nat.add_sub_cancel_left, Nat.add_comm, Nat.add_mul_mod_self_right, Nat.mod_eq_of_lt (by omega)]
      · rw [if_neg d, if_neg (by omega)]
theorem makeSlice_ok {n : Nat} (hm : μ n = none) (w : World) {t e : TypeId} (hu : P.underlying t = some (.slice e)) {z : List Value} (hz : tyZero P e = some z) {kl kc : IntKind} {l c : Nat} (hlc : l ≤ c) (hb : P.bytesOf e * c ≤ 140737488355328) (hc : c ≤ 140737488355328) (h1 : 0 < z.length) :
    AlOK P μ n w (.slice (some ⟨n, 0, none⟩) l c) (.cells (c * z.length) (rowOf z z.length c .e) e 0 false false) ((do pure (.value (← Instr.makeSlice t (.int kl (.ofNat l)) (.int kc (.ofNat c)))) : Sem Next).run P w) := by
  obtain ⟨i, v, hi, hv, hcc, hzz, hs, hl, hvr⟩ := tyZero_spec (μ := μ) hz
  have hcs : z = v.cells.toList := by rw [← hcc, cellsL_eq]
  have hsz : z.length = v.cells.size := by rw [hcs]; simp
  have hbe : P.bytesOf e = i.bytes := by simp [Program.bytesOf, hi]
  have hbb : (i.bytes : Int) * (Int.ofNat c) ≤ 281474976710656 := by
    rw [hbe] at hb
    have : ((i.bytes * c : Nat) : Int) ≤ 281474976710656 := by omega
    rwa [Int.natCast_mul] at this
  have hrun := run_make (P := P) w t e i v hu hi hv kl kc (.ofNat l) (.ofNat c) (Int.natCast_nonneg l) (by simpa using hlc) hbb (by simp only [Int.ofNat_eq_natCast]; omega)
  have ho := row_or hm w (rowOf z z.length c .e) (c * z.length) (madeCells v.cells (c * v.cells.size)) e 0 false (by rw [size_madeCells, hsz]; exact Nat.le_refl _) (fun _ => by rw [size_madeCells, hsz]) (fun j hj => by
    rw [rowOf_get z h1, if_pos hj, List.getElem?_eq_getElem (Nat.mod_lt _ h1)]
    refine ⟨_, rfl, ?_⟩
    rw [getD_toList, made_flat v c (by omega), List.getD_eq_getElem?_getD, ← hcs, flat_get z h1 c j hj, List.getElem?_eq_getElem (Nat.mod_lt _ h1)]
    have := hzz.2 (j % z.length) (Nat.mod_lt _ h1)
    rw [List.getD_eq_getElem?_getD, List.getElem?_eq_getElem (Nat.mod_lt _ h1)] at this
    exact this) (0, 0) (fun i _ => nofr i)
  refine .value (v' := .slice (some ⟨w.heap.size, 0, none⟩) l c) (d := w.drawn) ?_ rfl (.slc n 0 l c c _ (Mu.up_same _ _ _) (Nat.le_refl _) (fun _ => rfl) (fun hb => by cases hb)) ho
  rw [hrun]
  show Result.ok _ _ = Result.ok _ _
  rw [show (Int.ofNat l).toNat = l from rfl, show (Int.ofNat c).toNat = c from rfl, ← hl, hsz]
  rfl
theorem store_ok {s s' : S} {w : World} (h : WR μ s w) {t : TypeId} {i : TypeInfo} (hi : P.info? t = some i) {a : Addr} {a' x x' : Value} (ha : VR μ (.pointer (some a)) a') (hx : VR μ x x') (hl : (cellsL x).length = szOf P t) (hs : s.storeAt a (cellsL x) = some s') :
    ActOK P μ s w (.val undef s') ((do Instr.storeAt t a' x'; pure .skip : Sem Next).run P w) := by
  obtain ⟨n, o, sp⟩ := a
  obtain ⟨rfl, t', ht, rfl⟩ := addr_inv ha
  have hc := hx.cells
  obtain ⟨u, w', hu, hrun, hw', hf'⟩ := storeAt_spec (P := P) h hs hc
  rw [ht] at hu; injection hu with hu; subst hu
  refine ⟨μ, w', .skip, undef, ?_, .inr ⟨rfl, rfl⟩, .undef μ, hw', hf'⟩
  have : (Instr.storeAt t (.pointer (some ⟨t'.b, t'.sh + o, none⟩)) x').run P w = .ok () w' := by
    unfold Instr.storeAt
    rw [bind_ok (show (Instr.sureAddr (.pointer (some ⟨t'.b, t'.sh + o, none⟩))).run P w = .ok _ w from rfl)]
    unfold storeVar
    rw [bind_ok (sizeOf_run hi w)]
    have hsz : x'.cells.size = i.size := by
      have := hc.1
      rw [cellsL_eq x'] at this
      rw [← szOf_eq hi, ← hl]; simpa using this.symm
    rw [if_neg (by simp [hsz])]
    rw [cellsL_eq x'] at hrun
    exact hrun
  rw [bind_ok this]; rfl
end
end Go.Ev
