/- extra.number (its panics too), the closures that recover, bytes of a string as a block: walked by hand. @f57@, @f35@, @f58@, @f92@: functions' and types' numbers. -/
import Derived.Test.YtfnicahlnpngkaaNumRead
set_option linter.unusedVariables false
set_option linter.unusedSimpArgs false
namespace Go.Proofs.Ytfnicahlnpngkaa.ExtraNum
open Go.RowKit Go.Proofs.YtfnicahlnpngkaaW.PrintWords Go.Proofs.YtfnicahlnpngkaaW.PrintLast Go.Proofs.YtfnicahlnpngkaaW.PrintMore Go.Proofs.Ytfnicahlnpngkaa.Base Go.Proofs.Ytfnicahlnpngkaa.NumRead

/-- what extra.number comes to: none: it panics. -/
def exNum (l : List Int) (at_ n : Int) : Option Int :=
  if (rdNum l at_ n (fun i => n - 1 - i)).2 = 0 ∧ (rdNum l at_ n (fun i => n - 1 - i)).1 ≤ 4611686018427387904 then some (rdNum l at_ n (fun i => n - 1 - i)).1 else none

theorem rdNum_range (l : List Int) (at_ n : Int) (pl : Int → Int) : 0 ≤ (rdNum l at_ n pl).1 ∧ (rdNum l at_ n pl).1 < 18446744073709551616 := by
  unfold rdNum
  split
  · simp
  · split
    · simp
    · exact acc_range _ _ _ _

theorem number_yes (A : Option Addr) (c n : Nat) (l : List Int) (at_ k v : Int) (w : World) (hr : Kd.C (Kd.int .u8) w A n l) (hn : n = l.length) (hc : n ≤ c) (hl : n ≤ 140737488355328) (h : exNum l at_ k = some v) :
    Calls Try.prog 57 #[.slice A n c, .int .i64 at_, .int .i64 k] w fun e w' => e = .returned (.int .i64 v) ∧ Below w.heap.size w w' := by
  subst hn
  unfold exNum at h
  split at h
  · rename_i hh
    injection h with h
    have hR := rdNum_range l at_ k (fun i => k - 1 - i)
    have hC := num_Little.calls A c l at_ k (rdNum l at_ k (fun i => k - 1 - i)).1 (rdNum l at_ k (fun i => k - 1 - i)).2 w hr hc (by unfold num_Little.f; rw [if_pos hl])
    rw [hh.1] at hC
    rw [h] at hC hh hR
    have HC := Aside0.mk hC
    have b1 : decide (4611686018427387904 < v) = false := decide_eq_false (by omega)
    have hv0 : 0 ≤ v := hR.1
    have hv1 : v ≤ 4611686018427387904 := hh.2
    have hw : wrap64 v = v := wrap64_id (by omega) (by omega)
    have HW := Aside0.mk hw
    clear hC hr hc hl hR hh h hw
    go_enter Try.func57, Try.ntmps57
    go_wp2_with (go_at_call 35; refine (HC.out).mono ?_; rintro e w' ⟨rfl, hb⟩)
    go_ret
    exact ⟨by first | rfl | (rw [HW.out]), hb⟩
  · cases h

theorem number_no (A : Option Addr) (c n : Nat) (l : List Int) (at_ k : Int) (w : World) (hr : Kd.C (Kd.int .u8) w A n l) (hn : n = l.length) (hc : n ≤ c) (hl : n ≤ 140737488355328) (h : exNum l at_ k = none) :
    Calls Try.prog 57 #[.slice A n c, .int .i64 at_, .int .i64 k] w fun e w' => e = .panicked [{ v := fault 2, recovered := false }] ∧ Below w.heap.size w w' := by
  subst hn
  unfold exNum at h
  split at h
  · cases h
  · rename_i hh
    have hC := num_Little.calls A c l at_ k (rdNum l at_ k (fun i => k - 1 - i)).1 (rdNum l at_ k (fun i => k - 1 - i)).2 w hr hc (by unfold num_Little.f; rw [if_pos hl])
    generalize (rdNum l at_ k (fun i => k - 1 - i)).1 = v at hh hC
    generalize (rdNum l at_ k (fun i => k - 1 - i)).2 = e at hh hC
    have HC := Aside0.mk hC
    clear hC hr hc hl h
    by_cases he : e = 0
    · have b0 : (e == 0) = true := beq_iff_eq.mpr he
      have b0' : (e != 0) = false := bne_eq_false_iff_eq.mpr he
      have b1 : decide (4611686018427387904 < v) = true := decide_eq_true (by rcases Int.lt_or_le 4611686018427387904 v with h | h; exact h; exact absurd ⟨he, h⟩ hh)
      clear he hh
      go_enter Try.func57, Try.ntmps57
      go_wp2_with (go_at_call 35; refine (HC.out).mono ?_; rintro e w' ⟨rfl, hb⟩)
      exact ⟨rfl, rfl, hb⟩
    · have b0 : (e == 0) = false := beq_eq_false_iff_ne.mpr he
      have b0' : (e != 0) = true := bne_iff_ne.mpr he
      clear he hh
      go_enter Try.func57, Try.ntmps57
      go_wp2_with (go_at_call 35; refine (HC.out).mono ?_; rintro e w' ⟨rfl, hb⟩)
      exact ⟨rfl, rfl, hb⟩

/-! ### the closures that recover -/
theorem catch_panicking_Read (p q : Addr) (c : Int) (older : List PanicEntry) (w : World) (x y : Value) (hp : w.cell? p = some x) (hq : w.cell? q = some y) (hpf : w.frozen? p = false) (hqf : w.frozen? q = false) (hne : p ≠ q) :
    CallsD Try.prog 58 #[.pointer (some p), .pointer (some q)] (.panicking ({ v := fault c, recovered := false } :: older)) w fun e u' w' =>
      e = .returned (.tuple #[]) ∧ u' = .panicking ({ v := fault c, recovered := true } :: older) ∧ w' = (((w.alloc (.cells #[.int .i64 c, .int .i64 0] 92)).setCell p (.slice none 0 0)).setCell q (.int .i64 c)).drew := by
  have hta : ∀ w : World, (Instr.typeAssert (.iface 92 (.agg #[.int .i64 c, .int .i64 0])) 20 92 true).run Try.prog w = .ok (.tuple #[.agg #[.int .i64 c, .int .i64 0], .bool true]) w := fun _ => by kernel_rfl
  refine callsD_of_wpS Try.func58 rfl fun c₀ cs hu => ?_
  apply wpS_seq
  apply wpS_region
  set_option maxRecDepth 100000 in
  simp [wpOpsS, go_sem, recoverD, hu, Try.ntmps58, Exit.thenS, fault, hta, Result.andThen, Oper.upon]
  refine wpS_of_wp ?_
  have e0 : (#[Value.pointer (some p), Value.pointer (some q)] ++ (((((((Array.replicate 10 undef).setIfInBounds 3 (Value.iface 92 (Value.agg #[Value.int IntKind.i64 c, Value.int IntKind.i64 0]))).setIfInBounds 4
      (Value.tuple #[Value.agg #[Value.int IntKind.i64 c, Value.int IntKind.i64 0], Value.bool true])).setIfInBounds 2 (Value.tuple #[Value.agg #[Value.int IntKind.i64 c, Value.int IntKind.i64 0], Value.bool true])).setIfInBounds
      5 (Value.agg #[Value.int IntKind.i64 c, Value.int IntKind.i64 0])).setIfInBounds 6 (Value.bool true)).setIfInBounds 0 (Value.pointer (some { block := w.heap.size, off := 0 }))).setIfInBounds 1 (Value.bool true)) =
      #[.pointer (some p), .pointer (some q), .pointer (some ⟨w.heap.size, 0, none⟩), .bool true, .tuple #[.agg #[.int .i64 c, .int .i64 0], .bool true], .iface 92 (.agg #[.int .i64 c, .int .i64 0]), .tuple #[.agg #[.int .i64 c, .int .i64 0], .bool true], .agg #[.int .i64 c, .int .i64 0], .bool true, undef, undef, undef] := by kernel_rfl
  rw [e0]
  clear e0 hu hta
  have hpl := World.block_lt_of_cell? w p hp
  have hql := World.block_lt_of_cell? w q hq
  have hp1 : ∀ o : Obj, (w.alloc o).cell? p = some x := fun o => (World.cell?_alloc_lt _ _ _ hpl).trans hp
  have hq1 : ∀ o : Obj, (w.alloc o).cell? q = some y := fun o => (World.cell?_alloc_lt _ _ _ hql).trans hq
  have hpf1 : ∀ o : Obj, (w.alloc o).frozen? p = false := fun o => (World.frozen?_alloc_old _ _ _ (by omega)).trans hpf
  have hqf1 : ∀ o : Obj, (w.alloc o).frozen? q = false := fun o => (World.frozen?_alloc_old _ _ _ (by omega)).trans hqf
  have hq2 : ∀ (o : Obj) (v : Value), ((w.alloc o).setCell p v).cell? q = some y := fun o v => (World.cell?_setCell_other _ _ _ _ hne).trans (hq1 o)
  have hnp : p ≠ ⟨w.heap.size, 0, none⟩ := by rintro rfl; simp at hpl
  have hf2 : ∀ (v : Value), ((w.alloc (.cells #[.int .i64 c, .int .i64 0] 92)).setCell p v).cell? ⟨w.heap.size, 0, none⟩ = some (.int .i64 c) := fun v => (World.cell?_setCell_other _ _ _ _ hnp).trans (by simp [World.cell?_alloc_new])
  go_wp2
  go_region
  all_goals exact ⟨rfl, _, rfl, _, by simp [results, Try.results58, go_sem], rfl, rfl, rfl⟩

theorem catch_idle_Read (p q : Addr) (w : World) :
    CallsD Try.prog 58 #[.pointer (some p), .pointer (some q)] .returning w fun e u' w' => e = .returned (.tuple #[]) ∧ u' = .returning ∧ w' = w.alloc (.cells #[.int .i64 0, .int .i64 0] 92) := by
  have hta : ∀ w : World, (Instr.typeAssert .nilIface 20 92 true).run Try.prog w = .ok (.tuple #[.agg #[.int .i64 0, .int .i64 0], .bool false]) w := fun _ => by kernel_rfl
  refine callsD_of_wpS Try.func58 rfl fun c₀ cs hu => ?_
  apply wpS_seq
  apply wpS_region
  set_option maxRecDepth 100000 in
  simp [wpOpsS, go_sem, recoverD, hu, Try.ntmps58, Exit.thenS, hta, Result.andThen, Oper.upon]
  refine wpS_of_wp ?_
  have e0 : (#[Value.pointer (some p), Value.pointer (some q)] ++ (((((((Array.replicate 10 undef).setIfInBounds 3 Value.nilIface).setIfInBounds 4
      (Value.tuple #[Value.agg #[Value.int IntKind.i64 0, Value.int IntKind.i64 0], Value.bool false])).setIfInBounds 2 (Value.tuple #[Value.agg #[Value.int IntKind.i64 0, Value.int IntKind.i64 0], Value.bool false])).setIfInBounds
      5 (Value.agg #[Value.int IntKind.i64 0, Value.int IntKind.i64 0])).setIfInBounds 6 (Value.bool false)).setIfInBounds 0 (Value.pointer (some { block := w.heap.size, off := 0 }))).setIfInBounds 1 (Value.bool false)) =
      #[.pointer (some p), .pointer (some q), .pointer (some ⟨w.heap.size, 0, none⟩), .bool false, .tuple #[.agg #[.int .i64 0, .int .i64 0], .bool false], .nilIface, .tuple #[.agg #[.int .i64 0, .int .i64 0], .bool false], .agg #[.int .i64 0, .int .i64 0], .bool false, undef, undef, undef] := by kernel_rfl
  rw [e0]
  clear e0 hta
  go_wp2
  refine ⟨rfl, .returning, ?_, .tuple #[], by simp [results, Try.results58, go_sem], rfl, rfl, rfl⟩
  cases c₀
  simp_all

theorem catch_panicking_Big (p q : Addr) (c : Int) (older : List PanicEntry) (w : World) (x y : Value) (hp : w.cell? p = some x) (hq : w.cell? q = some y) (hpf : w.frozen? p = false) (hqf : w.frozen? q = false) (hne : p ≠ q) :
    CallsD Try.prog 56 #[.pointer (some p), .pointer (some q)] (.panicking ({ v := fault c, recovered := false } :: older)) w fun e u' w' =>
      e = .returned (.tuple #[]) ∧ u' = .panicking ({ v := fault c, recovered := true } :: older) ∧ w' = (((w.alloc (.cells #[.int .i64 c, .int .i64 0] 92)).setCell p (.slice none 0 0)).setCell q (.int .i64 c)).drew := by
  have hta : ∀ w : World, (Instr.typeAssert (.iface 92 (.agg #[.int .i64 c, .int .i64 0])) 20 92 true).run Try.prog w = .ok (.tuple #[.agg #[.int .i64 c, .int .i64 0], .bool true]) w := fun _ => by kernel_rfl
  refine callsD_of_wpS Try.func56 rfl fun c₀ cs hu => ?_
  apply wpS_seq
  apply wpS_region
  set_option maxRecDepth 100000 in
  simp [wpOpsS, go_sem, recoverD, hu, Try.ntmps56, Exit.thenS, fault, hta, Result.andThen, Oper.upon]
  refine wpS_of_wp ?_
  have e0 : (#[Value.pointer (some p), Value.pointer (some q)] ++ (((((((Array.replicate 10 undef).setIfInBounds 3 (Value.iface 92 (Value.agg #[Value.int IntKind.i64 c, Value.int IntKind.i64 0]))).setIfInBounds 4
      (Value.tuple #[Value.agg #[Value.int IntKind.i64 c, Value.int IntKind.i64 0], Value.bool true])).setIfInBounds 2 (Value.tuple #[Value.agg #[Value.int IntKind.i64 c, Value.int IntKind.i64 0], Value.bool true])).setIfInBounds
      5 (Value.agg #[Value.int IntKind.i64 c, Value.int IntKind.i64 0])).setIfInBounds 6 (Value.bool true)).setIfInBounds 0 (Value.pointer (some { block := w.heap.size, off := 0 }))).setIfInBounds 1 (Value.bool true)) =
      #[.pointer (some p), .pointer (some q), .pointer (some ⟨w.heap.size, 0, none⟩), .bool true, .tuple #[.agg #[.int .i64 c, .int .i64 0], .bool true], .iface 92 (.agg #[.int .i64 c, .int .i64 0]), .tuple #[.agg #[.int .i64 c, .int .i64 0], .bool true], .agg #[.int .i64 c, .int .i64 0], .bool true, undef, undef, undef] := by kernel_rfl
  rw [e0]
  clear e0 hu hta
  have hpl := World.block_lt_of_cell? w p hp
  have hql := World.block_lt_of_cell? w q hq
  have hp1 : ∀ o : Obj, (w.alloc o).cell? p = some x := fun o => (World.cell?_alloc_lt _ _ _ hpl).trans hp
  have hq1 : ∀ o : Obj, (w.alloc o).cell? q = some y := fun o => (World.cell?_alloc_lt _ _ _ hql).trans hq
  have hpf1 : ∀ o : Obj, (w.alloc o).frozen? p = false := fun o => (World.frozen?_alloc_old _ _ _ (by omega)).trans hpf
  have hqf1 : ∀ o : Obj, (w.alloc o).frozen? q = false := fun o => (World.frozen?_alloc_old _ _ _ (by omega)).trans hqf
  have hq2 : ∀ (o : Obj) (v : Value), ((w.alloc o).setCell p v).cell? q = some y := fun o v => (World.cell?_setCell_other _ _ _ _ hne).trans (hq1 o)
  have hnp : p ≠ ⟨w.heap.size, 0, none⟩ := by rintro rfl; simp at hpl
  have hf2 : ∀ (v : Value), ((w.alloc (.cells #[.int .i64 c, .int .i64 0] 92)).setCell p v).cell? ⟨w.heap.size, 0, none⟩ = some (.int .i64 c) := fun v => (World.cell?_setCell_other _ _ _ _ hnp).trans (by simp [World.cell?_alloc_new])
  go_wp2
  go_region
  all_goals exact ⟨rfl, _, rfl, _, by simp [results, Try.results56, go_sem], rfl, rfl, rfl⟩

theorem catch_idle_Big (p q : Addr) (w : World) :
    CallsD Try.prog 56 #[.pointer (some p), .pointer (some q)] .returning w fun e u' w' => e = .returned (.tuple #[]) ∧ u' = .returning ∧ w' = w.alloc (.cells #[.int .i64 0, .int .i64 0] 92) := by
  have hta : ∀ w : World, (Instr.typeAssert .nilIface 20 92 true).run Try.prog w = .ok (.tuple #[.agg #[.int .i64 0, .int .i64 0], .bool false]) w := fun _ => by kernel_rfl
  refine callsD_of_wpS Try.func56 rfl fun c₀ cs hu => ?_
  apply wpS_seq
  apply wpS_region
  set_option maxRecDepth 100000 in
  simp [wpOpsS, go_sem, recoverD, hu, Try.ntmps56, Exit.thenS, hta, Result.andThen, Oper.upon]
  refine wpS_of_wp ?_
  have e0 : (#[Value.pointer (some p), Value.pointer (some q)] ++ (((((((Array.replicate 10 undef).setIfInBounds 3 Value.nilIface).setIfInBounds 4
      (Value.tuple #[Value.agg #[Value.int IntKind.i64 0, Value.int IntKind.i64 0], Value.bool false])).setIfInBounds 2 (Value.tuple #[Value.agg #[Value.int IntKind.i64 0, Value.int IntKind.i64 0], Value.bool false])).setIfInBounds
      5 (Value.agg #[Value.int IntKind.i64 0, Value.int IntKind.i64 0])).setIfInBounds 6 (Value.bool false)).setIfInBounds 0 (Value.pointer (some { block := w.heap.size, off := 0 }))).setIfInBounds 1 (Value.bool false)) =
      #[.pointer (some p), .pointer (some q), .pointer (some ⟨w.heap.size, 0, none⟩), .bool false, .tuple #[.agg #[.int .i64 0, .int .i64 0], .bool false], .nilIface, .tuple #[.agg #[.int .i64 0, .int .i64 0], .bool false], .agg #[.int .i64 0, .int .i64 0], .bool false, undef, undef, undef] := by kernel_rfl
  rw [e0]
  clear e0 hta
  go_wp2
  refine ⟨rfl, .returning, ?_, .tuple #[], by simp [results, Try.results56, go_sem], rfl, rfl, rfl⟩
  cases c₀
  simp_all

/-! ### a panic of a function that defers does not see a slot that holds no result -/
theorem leaves_congr {P : Program} {fn : Func} {t1 t2 : Array Value} {R : Ending → World → Prop} (h : results fn t1 = results fn t2) : ∀ (ds : List Deferred) (u : FrameMode) (w : World), Leaves P fn t1 R ds u w → Leaves P fn t2 R ds u w
  | [], .returning, w => fun hh => by rw [Leaves, ← h]; exact hh
  | [], .panicking c, w => fun hh => hh
  | [], .run, w => fun hh => hh
  | d :: ds, u, w => fun hh => by
    obtain ⟨h1, fv, cap, f, args, h2, h3, h4⟩ := hh
    refine ⟨h1, fv, cap, f, args, h2, h3, h4.mono fun e u' w' hq => ?_⟩
    cases e with
    | returned v => exact leaves_congr h ds _ _ hq
    | panicked chain => exact leaves_congr h ds _ _ hq
    | outgrown => exact hq
theorem results_cells_put {fn : Func} {p q : Tmp} {tp tq : TypeId} (hf : fn.results = #[.cell p tp, .cell q tq]) (tmps : Array Value) (i : Tmp) (v : Value) (hp : i ≠ p) (hq : i ≠ q) : results fn (tmps.setIfInBounds i v) = results fn tmps := by
  have e1 : (tmps.setIfInBounds i v)[p]? = tmps[p]? := Array.getElem?_setIfInBounds_ne hp
  have e2 : (tmps.setIfInBounds i v)[q]? = tmps[q]? := Array.getElem?_setIfInBounds_ne hq
  simp [results, hf, go_sem, e1, e2]
theorem leaves_put {P : Program} {fn : Func} {p q : Tmp} {tp tq : TypeId} (hf : fn.results = #[.cell p tp, .cell q tq]) {a : Act} {i : Tmp} {v : Value} (hp : i ≠ p) (hq : i ≠ q) {R : Ending → World → Prop} {c : List PanicEntry} {w : World}
    (h : bodyPostD P fn R (.panic c) (a.put (some i) v) w) : bodyPostD P fn R (.panic c) a w := leaves_congr (results_cells_put hf a.tmps i v hp hq) _ _ _ h
theorem leaves_put0 {P : Program} {fn : Func} {a : Act} {v : Value} {R : Ending → World → Prop} {c : List PanicEntry} {w : World} (h : bodyPostD P fn R (.panic c) (a.put none v) w) : bodyPostD P fn R (.panic c) a w := h

/-- a call that panics, in a region that draws. -/
theorem goesP_ {P : Program} {ops : Array Oper} {Q : Exit → Act → World → Prop} {oi : Oper} {N : Option Tmp} {a : Act} {w : World} {K : Act → World → Prop} {f : FuncId} {fn : Func} {asx : Array Operand} {ts : Array TypeId} (hf : P.funcs[f]? = some fn) (hname : (fn.name == "runtime.NumGoroutine") = false) (hb : fn.body.isSome = true) (args : Array Value)
    (hw : Region.wanted oi (yielded ops a.tmps) = true) (hop : oi.op = .call { callee := .value (.func f), args := asx, argTypes := ts }) (hargs : asx.map a.eval = args)
    (h : Calls P f args w fun e w' => ∃ c, e = .panicked c ∧ Q (.panic c) a w') : if Region.wanted oi (yielded ops a.tmps) = true then Oper.wp P oi a w K Q else K (a.put N undef) w := by
  rw [if_pos hw]
  have he := enters_ hf hname hb args w
  have hrun : (execOp a.eval oi).run P w = .ok (.enter f args) w := by
    unfold execOp
    simp [hop, resolve, Deferred.ofValue, invoke, Act.eval, hargs, he]
  unfold Oper.wp
  rw [hrun, Oper.upon_enter]
  refine h.mono fun e w'' hh => ?_
  obtain ⟨c, rfl, hk⟩ := hh
  exact hk

/-! ### a string's bytes: a block of its own -/
theorem cell_of_heap {w w' : World} {a a' : Addr} (hb : w.heap[a.block]? = w'.heap[a'.block]?) (ho : a.off = a'.off) (hs : a.spot = a'.spot) : w.cell? a = w'.cell? a' := by
  unfold World.cell?
  rw [hb, ho, hs]
/-- in whatever world block g holds ob, it reads as s. -/
def IsBytes (ob : Obj) (s : ByteArray) : Prop := ∀ (w : World) (g : Nat), w.heap[g]? = some ob → Kd.C (Kd.int .u8) w (some ⟨g, 0, none⟩) s.size (bytesOf s)
theorem bytes_block (W : World) (s : ByteArray) (hs : s.size ≤ 9223372036854775807) : ∃ ob, (Lib.bytesWorld W 5 s).heap[W.heap.size]? = some ob ∧ IsBytes ob s := by
  refine ⟨_, Lib.bytesWorld_at_new W 5 s, fun w g hg => ?_⟩
  refine Kd.C_of_reads (d := (0 : Int)) (h1 := fun _ => rfl) ?_
  refine readsInt_of.1 ⟨bytesOf_length s, hs, fun _ => ⟨_, rfl, fun j hj => ?_⟩⟩
  rw [add_plain]
  have h2 := Lib.bytesWorld_cell W 5 s j hj
  rw [cell_of_heap (a := ⟨g, j, none⟩) (w' := Lib.bytesWorld W 5 s) (a' := ⟨W.heap.size, j, none⟩) (by show w.heap[g]? = (Lib.bytesWorld W 5 s).heap[W.heap.size]?; rw [hg, Lib.bytesWorld_at_new W 5 s]) rfl rfl, h2]
  have h' : j < s.data.toList.length := by rw [data_length]; exact hj
  simp [bytesOf, List.getD_eq_getElem?_getD, List.getElem?_eq_getElem h']
theorem run_bytes (s : ByteArray) (W : World) : (convert 9 58 (.string s)).run Try.prog W = .ok (.slice (some ⟨W.heap.size, 0, none⟩) s.size (grownCap W s.size 0 5)) (Lib.bytesWorld W 5 s) :=
  print_bytes (P := Try.prog) 9 58 5 Try.underlying9 Try.underlying58 Try.underlying5 s W
theorem cap_bytes (W : World) (s : ByteArray) : s.size ≤ grownCap W s.size 0 5 := by
  show s.size ≤ s.size + _ % _
  omega
theorem two_new (w : World) (A B : Obj) : ((w.alloc A).alloc B).heap[w.heap.size]? = some A ∧ ((w.alloc A).alloc B).heap[w.heap.size + 1]? = some B ∧ ((w.alloc A).alloc B).heap.size = w.heap.size + 2 ∧ Below w.heap.size w ((w.alloc A).alloc B) := by
  have h1 : (w.alloc A).heap.size = w.heap.size + 1 := by simp
  refine ⟨?_, ?_, by simp, (below_alloc (Below.refl _ _) _).alloc (by simp) _⟩
  · rw [Below.heap_alloc _ _ _ (by omega)]; exact heap_alloc_new w A
  · have := heap_alloc_new (w.alloc A) B
    rw [h1] at this
    exact this
end Go.Proofs.Ytfnicahlnpngkaa.ExtraNum
