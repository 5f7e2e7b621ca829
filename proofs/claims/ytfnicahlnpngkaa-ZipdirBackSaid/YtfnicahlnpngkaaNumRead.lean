/- num.fail, num.at, num.read, num.Little, num.Big: their contracts, walked by hand (a panic that is recovered). -/
import Derived.Test.YtfnicahlnpngkaaBase
import Derived.Test.YtfnicahlnpngkaaEnv
set_option linter.unusedVariables false
set_option linter.unusedSimpArgs false
namespace Go.Proofs.Ytfnicahlnpngkaa.NumRead
open Go.RowKit Go.Proofs.YtfnicahlnpngkaaW.PrintWords Go.Proofs.YtfnicahlnpngkaaW.PrintLast Go.Proofs.YtfnicahlnpngkaaW.PrintMore Go.Proofs.Ytfnicahlnpngkaa.Base

/-- a region that draws: reads and quiet calls ahead of its last operations; the world behind the draw under a name of its own. -/
theorem region_tail {P : Program} {id : Nat} {Q : Exit → Act → World → Prop} {a : Act} {w : World} {l : List Oper} (n : Nat) (hm : P.follows .mixedOrders = true) (hB : Region.lexTailB .any l.toArray n = true) (W : World) (hW : w.drew = W)
    (h : wpStill P l.toArray W (fun a' => wpList P l.toArray Q (l.drop n) a' W) (l.take n) a) : (Code.region id l.toArray true).wp P Q a w := by
  subst hW
  exact wp_region_still_tail n hm hB h

def fault (c : Int) : Value := .iface 92 (.agg #[.int .i64 c, .int .i64 0])

theorem fail_calls (c : Int) (w : World) : Calls Try.prog 80 #[.int .i64 c] w fun e w' => e = .panicked [{ v := fault c, recovered := false }] ∧ w = w' := by
  go_enter Try.func80, Try.ntmps80
  go_wp2
  exact ⟨rfl, rfl, rfl⟩

theorem at_no (A : Option Addr) (n c : Nat) (i : Int) (w : World) (hn : n ≤ 9223372036854775807) (h : i < 0 ∨ (n : Int) ≤ i) :
    Calls Try.prog 81 #[.slice A n c, .int .i64 i] w fun e w' => e = .panicked [{ v := fault 5, recovered := false }] ∧ w = w' := by
  by_cases h0 : i < 0
  · have b0 : decide (i < 0) = true := decide_eq_true h0
    clear h
    go_enter Try.func81, Try.ntmps81
    go_wp2_with (go_at_call 80; refine (fail_calls _ _).mono ?_; rintro e w' ⟨rfl, rfl⟩)
    exact ⟨rfl, rfl, rfl⟩
  · have b0 : decide (i < 0) = false := decide_eq_false h0
    have b1 : decide ((n : Int) ≤ i) = true := decide_eq_true (by omega)
    clear h
    go_enter Try.func81, Try.ntmps81
    go_wp2_with (go_at_call 80; refine (fail_calls _ _).mono ?_; rintro e w' ⟨rfl, rfl⟩)
    exact ⟨rfl, rfl, rfl⟩

theorem at_yes (A : Option Addr) (c : Nat) (l : List Int) (i : Int) (w : World) (hr : Kd.C (Kd.int .u8) w A l.length l) (h0 : 0 ≤ i) (h1 : i < (l.length : Int)) :
    Calls Try.prog 81 #[.slice A l.length c, .int .i64 i] w fun e w' => e = .returned (.int .u8 (rd l i)) ∧ w = w' := by
  have b0 : decide (i < 0) = false := decide_eq_false (by omega)
  have b1 : decide ((l.length : Int) ≤ i) = false := decide_eq_false (by omega)
  obtain ⟨ad, hA, hc⟩ := Kd.at_int hr i h0 h1
  cases hA
  have p1 := eq_true h0
  have q1 := eq_true h1
  clear h0 h1
  go_enter Try.func81, Try.ntmps81
  go_wp2_with (go_at_call 80; refine (fail_calls _ _).mono ?_; rintro e w' ⟨rfl, rfl⟩)
  go_ret
  exact ⟨rfl, rfl⟩

theorem catch_panicking (p q : Addr) (c : Int) (older : List PanicEntry) (w : World) (x y : Value) (hp : w.cell? p = some x) (hq : w.cell? q = some y) (hpf : w.frozen? p = false) (hqf : w.frozen? q = false) (hne : p ≠ q) :
    CallsD Try.prog 79 #[.pointer (some p), .pointer (some q)] (.panicking ({ v := fault c, recovered := false } :: older)) w fun e u' w' =>
      e = .returned (.tuple #[]) ∧ u' = .panicking ({ v := fault c, recovered := true } :: older) ∧ w' = (((w.alloc (.cells #[.int .i64 c, .int .i64 0] 92)).setCell p (.int .u64 0)).setCell q (.int .i64 c)).drew := by
  have hta : ∀ w : World, (Instr.typeAssert (.iface 92 (.agg #[.int .i64 c, .int .i64 0])) 20 92 true).run Try.prog w = .ok (.tuple #[.agg #[.int .i64 c, .int .i64 0], .bool true]) w := fun _ => by kernel_rfl
  refine callsD_of_wpS Try.func79 rfl fun c₀ cs hu => ?_
  apply wpS_seq
  apply wpS_region
  set_option maxRecDepth 100000 in
  simp [wpOpsS, go_sem, recoverD, hu, Try.ntmps79, Exit.thenS, fault, hta, Result.andThen, Oper.upon]
  refine wpS_of_wp ?_
  have e0 : (#[Value.pointer (some p), Value.pointer (some q)] ++ (((((((Array.replicate 10 undef).setIfInBounds 3 (Value.iface 92 (Value.agg #[Value.int IntKind.i64 c, Value.int IntKind.i64 0]))).setIfInBounds 4
      (Value.tuple #[Value.agg #[Value.int IntKind.i64 c, Value.int IntKind.i64 0], Value.bool true])).setIfInBounds 2 (Value.tuple #[Value.agg #[Value.int IntKind.i64 c, Value.int IntKind.i64 0], Value.bool true])).setIfInBounds
      5 (Value.agg #[Value.int IntKind.i64 c, Value.int IntKind.i64 0])).setIfInBounds 6 (Value.bool true)).setIfInBounds 0 (Value.pointer (some { block := w.heap.size, off := 0 }))).setIfInBounds 1 (Value.bool true)) =
      #[.pointer (some p), .pointer (some q), .pointer (some ⟨w.heap.size, 0, none⟩), .bool true, .tuple #[.agg #[.int .i64 c, .int .i64 0], .bool true], .iface 92 (.agg #[.int .i64 c, .int .i64 0]), .tuple #[.agg #[.int .i64 c, .int .i64 0], .bool true], .agg #[.int .i64 c, .int .i64 0], .bool true, undef, undef, undef] := by kernel_rfl
  rw [e0]
  clear e0 hu hta
  have hpl := World.block_lt_of_cell? w p hp
  have hql := World.block_lt_of_cell? w q hq
  have hp1 : ∀ o : Obj, (w.alloc o).cell? p = some x := fun o => (World.cell?_alloc_lt _ _ _ hpl).trans hp
  have hq1 : ∀ o : Obj, (w.alloc o).cell? q = some y := fun o => (World.cell?_alloc_lt _ _ _ hql).trans hq
  have hpf1 : ∀ o : Obj, (w.alloc o).frozen? p = false := fun o => (World.frozen?_alloc_old _ _ _ (by omega)).trans hpf
  have hqf1 : ∀ o : Obj, (w.alloc o).frozen? q = false := fun o => (World.frozen?_alloc_old _ _ _ (by omega)).trans hqf
  have hq2 : ∀ (o : Obj) (v : Value), ((w.alloc o).setCell p v).cell? q = some y := fun o v => (World.cell?_setCell_other _ _ _ _ hne).trans (hq1 o)
  have hnp : p ≠ ⟨w.heap.size, 0, none⟩ := by rintro rfl; simp at hpl
  have hf2 : ∀ (v : Value), ((w.alloc (.cells #[.int .i64 c, .int .i64 0] 92)).setCell p v).cell? ⟨w.heap.size, 0, none⟩ = some (.int .i64 c) := fun v => (World.cell?_setCell_other _ _ _ _ hnp).trans (by simp [World.cell?_alloc_new])
  go_wp2
  go_region
  all_goals exact ⟨rfl, _, rfl, _, by simp [results, Try.results79, go_sem], rfl, rfl, rfl⟩

theorem catch_idle (p q : Addr) (w : World) :
    CallsD Try.prog 79 #[.pointer (some p), .pointer (some q)] .returning w fun e u' w' => e = .returned (.tuple #[]) ∧ u' = .returning ∧ w' = w.alloc (.cells #[.int .i64 0, .int .i64 0] 92) := by
  have hta : ∀ w : World, (Instr.typeAssert .nilIface 20 92 true).run Try.prog w = .ok (.tuple #[.agg #[.int .i64 0, .int .i64 0], .bool false]) w := fun _ => by kernel_rfl
  refine callsD_of_wpS Try.func79 rfl fun c₀ cs hu => ?_
  apply wpS_seq
  apply wpS_region
  set_option maxRecDepth 100000 in
  simp [wpOpsS, go_sem, recoverD, hu, Try.ntmps79, Exit.thenS, hta, Result.andThen, Oper.upon]
  refine wpS_of_wp ?_
  have e0 : (#[Value.pointer (some p), Value.pointer (some q)] ++ (((((((Array.replicate 10 undef).setIfInBounds 3 Value.nilIface).setIfInBounds 4
      (Value.tuple #[Value.agg #[Value.int IntKind.i64 0, Value.int IntKind.i64 0], Value.bool false])).setIfInBounds 2 (Value.tuple #[Value.agg #[Value.int IntKind.i64 0, Value.int IntKind.i64 0], Value.bool false])).setIfInBounds
      5 (Value.agg #[Value.int IntKind.i64 0, Value.int IntKind.i64 0])).setIfInBounds 6 (Value.bool false)).setIfInBounds 0 (Value.pointer (some { block := w.heap.size, off := 0 }))).setIfInBounds 1 (Value.bool false)) =
      #[.pointer (some p), .pointer (some q), .pointer (some ⟨w.heap.size, 0, none⟩), .bool false, .tuple #[.agg #[.int .i64 0, .int .i64 0], .bool false], .nilIface, .tuple #[.agg #[.int .i64 0, .int .i64 0], .bool false], .agg #[.int .i64 0, .int .i64 0], .bool false, undef, undef, undef] := by kernel_rfl
  rw [e0]
  clear e0 hta
  go_wp2
  refine ⟨rfl, .returning, ?_, .tuple #[], by simp [results, Try.results79, go_sem], rfl, rfl, rfl⟩
  cases c₀
  simp_all

/-- what 'read' comes to behind its checks: byte by byte, the i-th at from + pl i. -/
def acc (l : List Int) (from_ : Int) (pl : Int → Int) : Nat → Int
  | 0 => 0
  | k + 1 => Go.bits .or .u64 (IntKind.u64.wrap (acc l from_ pl k * 256)) (IntKind.u64.wrap (rd l (from_ + pl k)))

theorem read_arg (A : Option Addr) (len c : Nat) (from_ n : Int) (pf : Value) (w : World) (h : n < 1 ∨ 8 < n) :
    Calls Try.prog 60 #[.slice A len c, .int .i64 from_, .int .i64 n, pf] w fun e w' => e = .returned (.tuple #[.int .u64 0, .int .i64 1]) ∧ Below w.heap.size w w' := by
  have hmf : ∀ (fn : Fn) (first cap : Array Value) (w : World), (Instr.makeFunc fn first cap).run Try.prog w = .ok (.func fn first cap) w := fun _ _ _ _ => rfl
  have hb : (decide (n < 1) = true) ∨ (decide (n < 1) = false ∧ decide (8 < n) = true) := by
    by_cases h1 : n < 1
    · exact .inl (decide_eq_true h1)
    · exact .inr ⟨decide_eq_false h1, decide_eq_true (by omega)⟩
  clear h
  rcases hb with b0 | ⟨b0, b1⟩
  all_goals
    go_enter_defers Try.func60, Try.ntmps60
    go_wp2_with (go_at_call 80; refine (fail_calls _ _).mono ?_; rintro e w' ⟨rfl, rfl⟩)
    refine leaves_cons (f := 79) (args := #[.pointer (some ⟨w.heap.size, 0, none⟩), .pointer (some ⟨w.heap.size + 1, 0, none⟩)]) (by simp) (by simp [go_sem]) ?_
    refine (catch_panicking ⟨w.heap.size, 0, none⟩ ⟨w.heap.size + 1, 0, none⟩ 1 [] _ (x := .int .u64 0) (y := .int .i64 0) (by simp [go_sem]) (by simp [go_sem]) (by simp [go_sem]) (by simp [go_sem]) (by simp)).mono ?_
    rintro e u' w'' ⟨rfl, rfl, rfl⟩
    simp [Leaves, settle, results, Try.results60, go_sem]
    exact below_drew (((below_alloc (below_alloc (Below.refl _ _) _) _).alloc (by simp; omega) _))

theorem read_far (A : Option Addr) (len c : Nat) (from_ n : Int) (pf : Value) (w : World) (hl : len ≤ 9223372036854775807) (h1 : 1 ≤ n) (h8 : n ≤ 8) (h : from_ < 0 ∨ (len : Int) < from_) :
    Calls Try.prog 60 #[.slice A len c, .int .i64 from_, .int .i64 n, pf] w fun e w' => e = .returned (.tuple #[.int .u64 0, .int .i64 5]) ∧ Below w.heap.size w w' := by
  have hmf : ∀ (fn : Fn) (first cap : Array Value) (w : World), (Instr.makeFunc fn first cap).run Try.prog w = .ok (.func fn first cap) w := fun _ _ _ _ => rfl
  have n1 : decide (n < 1) = false := decide_eq_false (by omega)
  have n2 : decide (8 < n) = false := decide_eq_false (by omega)
  clear h1 h8
  have hb : (decide (from_ < 0) = true) ∨ (decide (from_ < 0) = false ∧ decide ((len : Int) < from_) = true) := by
    by_cases h1 : from_ < 0
    · exact .inl (decide_eq_true h1)
    · exact .inr ⟨decide_eq_false h1, decide_eq_true (by omega)⟩
  clear h
  rcases hb with b0 | ⟨b0, b1⟩
  all_goals
    go_enter_defers Try.func60, Try.ntmps60
    go_wp2_with (go_at_call 80; refine (fail_calls _ _).mono ?_; rintro e w' ⟨rfl, rfl⟩)
    refine leaves_cons (f := 79) (args := #[.pointer (some ⟨w.heap.size, 0, none⟩), .pointer (some ⟨w.heap.size + 1, 0, none⟩)]) (by simp) (by simp [go_sem]) ?_
    refine (catch_panicking ⟨w.heap.size, 0, none⟩ ⟨w.heap.size + 1, 0, none⟩ 5 [] _ (x := .int .u64 0) (y := .int .i64 0) (by simp [go_sem]) (by simp [go_sem]) (by simp [go_sem]) (by simp [go_sem]) (by simp)).mono ?_
    rintro e u' w'' ⟨rfl, rfl, rfl⟩
    simp [Leaves, settle, results, Try.results60, go_sem]
    exact below_drew (((below_alloc (below_alloc (Below.refl _ _) _) _).alloc (by simp; omega) _))

theorem read_short (A : Option Addr) (len c : Nat) (from_ n : Int) (pf : Value) (w : World) (hl : len ≤ 140737488355328) (h1 : 1 ≤ n) (h8 : n ≤ 8) (f0 : 0 ≤ from_) (f1 : from_ ≤ (len : Int)) (h : (len : Int) ≤ from_ + n - 1) :
    Calls Try.prog 60 #[.slice A len c, .int .i64 from_, .int .i64 n, pf] w fun e w' => e = .returned (.tuple #[.int .u64 0, .int .i64 5]) ∧ Below w.heap.size w w' := by
  have hmf : ∀ (fn : Fn) (first cap : Array Value) (w : World), (Instr.makeFunc fn first cap).run Try.prog w = .ok (.func fn first cap) w := fun _ _ _ _ => rfl
  have n1 : decide (n < 1) = false := decide_eq_false (by omega)
  have n2 : decide (8 < n) = false := decide_eq_false (by omega)
  have n3 : decide (from_ < 0) = false := decide_eq_false (by omega)
  have n4 : decide ((len : Int) < from_) = false := decide_eq_false (by omega)
  obtain ⟨j, hj⟩ : ∃ j : Int, from_ + n - 1 = j := ⟨_, rfl⟩
  have hj1 : (len : Int) ≤ j := by omega
  have hjw : IntKind.i64.wrap (IntKind.i64.wrap (from_ + n) - 1) = j := by rw [wi64, wi64, wrap64_id (n := from_ + n) (by omega) (by omega), wrap64_id (by omega) (by omega), hj]
  have hjv : wrap64 (wrap64 (from_ + n) - 1) = j := by rw [wrap64_id (n := from_ + n) (by omega) (by omega), wrap64_id (by omega) (by omega), hj]
  clear h1 h8 hj h f0 f1
  go_enter_defers Try.func60, Try.ntmps60
  go_wp2_with (first | (go_at_call 80; refine (fail_calls _ _).mono ?_; rintro e w' ⟨rfl, rfl⟩) | (go_at_call 81; refine (at_no _ _ _ _ _ (by omega) (.inr hj1)).mono ?_; rintro e w' ⟨rfl, rfl⟩))
  refine leaves_cons (f := 79) (args := #[.pointer (some ⟨w.heap.size, 0, none⟩), .pointer (some ⟨w.heap.size + 1, 0, none⟩)]) (by simp) (by simp [go_sem]) ?_
  refine (catch_panicking ⟨w.heap.size, 0, none⟩ ⟨w.heap.size + 1, 0, none⟩ 5 [] _ (x := .int .u64 0) (y := .int .i64 0) (by simp [go_sem]) (by simp [go_sem]) (by simp [go_sem]) (by simp [go_sem]) (by simp)).mono ?_
  rintro e u' w'' ⟨rfl, rfl, rfl⟩
  simp [Leaves, settle, results, Try.results60, go_sem]
  exact below_drew (((below_alloc (below_alloc (Below.refl _ _) _) _).alloc (by simp; omega) _))

theorem acc_range (l : List Int) (f : Int) (pl : Int → Int) (k : Nat) : 0 ≤ acc l f pl k ∧ acc l f pl k < 18446744073709551616 := by
  cases k with
  | zero => simp [acc]
  | succ k =>
    show 0 ≤ IntKind.u64.wrap _ ∧ IntKind.u64.wrap _ < _
    rw [wu64_eq]; omega

theorem place_little (n i : Int) (p : Addr) (w : World) (hp : w.cell? p = some (.int .i64 n)) (h0 : 0 ≤ i) (h1 : i < n) (h8 : n ≤ 8) :
    Calls Try.prog 61 #[.int .i64 i, .pointer (some p)] w fun e w' => e = .returned (.int .i64 (n - 1 - i)) ∧ w' = w := by
  go_enter Try.func61, Try.ntmps61
  go_wp2
  go_ret
  exact ⟨rfl, rfl⟩

theorem place_big (i : Int) (w : World) : Calls Try.prog 62 #[.int .i64 i] w fun e w' => e = .returned (.int .i64 i) ∧ w' = w := by
  go_enter Try.func62, Try.ntmps62
  go_wp2
  go_ret
  exact ⟨rfl, rfl⟩

theorem set_first (w : World) (v v' e : Value) (m : Nat) : ((((w.alloc (.cells #[v] 59)).alloc (.cells #[e] 23)).drewN m).setCell ⟨w.heap.size, 0, none⟩ v') = ((w.alloc (.cells #[v'] 59)).alloc (.cells #[e] 23)).drewN m := by
  show (((w.alloc (.cells #[v] 59)).alloc (.cells #[e] 23)).setCell ⟨w.heap.size, 0, none⟩ v').drewN m = _
  congr 1
  simp [go_sem]

set_option maxRecDepth 100000 in
theorem read_okL (A : Option Addr) (c : Nat) (l : List Int) (from_ n : Int) (p : Addr) (w : World) (hr : Kd.C (Kd.int .u8) w A l.length l) (hl : l.length ≤ 140737488355328) (h1 : 1 ≤ n) (h8 : n ≤ 8) (f0 : 0 ≤ from_) (h : from_ + n - 1 < (l.length : Int))
    (hpc : w.cell? p = some (.int .i64 n)) :
    Calls Try.prog 60 #[.slice A l.length c, .int .i64 from_, .int .i64 n, .func (.func 61) #[] #[.pointer (some p)]] w fun e w' => e = .returned (.tuple #[.int .u64 (acc l from_ (fun i => n - 1 - i) n.toNat), .int .i64 0]) ∧ Below w.heap.size w w' := by
  have hmf : ∀ (fn : Fn) (first cap : Array Value) (w : World), (Instr.makeFunc fn first cap).run Try.prog w = .ok (.func fn first cap) w := fun _ _ _ _ => rfl
  have n1 : decide (n < 1) = false := decide_eq_false (by omega)
  have n2 : decide (8 < n) = false := decide_eq_false (by omega)
  have n3 : decide (from_ < 0) = false := decide_eq_false (by omega)
  have n4 : decide ((l.length : Int) < from_) = false := decide_eq_false (by omega)
  obtain ⟨j, hj⟩ : ∃ j : Int, from_ + n - 1 = j := ⟨_, rfl⟩
  have hj0 : 0 ≤ j := by omega
  have hj1 : j < (l.length : Int) := by omega
  have hjw : IntKind.i64.wrap (IntKind.i64.wrap (from_ + n) - 1) = j := by rw [wi64, wi64, wrap64_id (n := from_ + n) (by omega) (by omega), wrap64_id (by omega) (by omega), hj]
  have hjv : wrap64 (wrap64 (from_ + n) - 1) = j := by rw [wrap64_id (n := from_ + n) (by omega) (by omega), wrap64_id (by omega) (by omega), hj]
  have HJ := Aside0.mk hj
  have H1 := Aside0.mk h1
  have H8 := Aside0.mk h8
  have HF := Aside0.mk f0
  have HR := Aside0.mk hr
  have HPC := Aside0.mk hpc
  clear h1 h8 hj h f0 hr hpc
  go_enter_defers Try.func60, Try.ntmps60
  go_wp2_with (first | (go_at_call 80; refine (fail_calls _ _).mono ?_; rintro e w' ⟨rfl, rfl⟩) | (go_at_call 81; refine (at_yes _ _ l _ _ (Kd.C_alloc (Kd.C_alloc HR.out _) _) hj0 hj1).mono ?_; rintro e w' ⟨rfl, rfl⟩))
  go_loopw [35] (fun i wr => ∃ k m : Nat, (k : Int) ≤ n ∧ i = .int .i64 k ∧ wr = ((w.alloc (.cells #[.int .u64 (acc l from_ (fun i => n - 1 - i) k)] 59)).alloc (.cells #[.int .i64 0] 23)).drewN m) (fun i _ => (n - intOf i).toNat)
  case atStart => exact ⟨0, 0, by have := H1.out; omega, rfl, rfl⟩
  case round =>
    obtain ⟨k, m, hk, rfl, rfl⟩ := hrel
    have hacc := acc_range l from_ (fun i => n - 1 - i) k
    obtain ⟨x, hx⟩ : ∃ x, acc l from_ (fun i => n - 1 - i) k = x := ⟨_, rfl⟩
    rw [hx] at hacc ⊢
    by_cases hlt : (k : Int) < n
    · obtain ⟨y, hy⟩ : ∃ y, n - 1 - (k : Int) = y := ⟨_, rfl⟩
      have HX := Aside0.mk hx
      have HY := Aside0.mk hy
      have hB : ∀ (v : Int) (m : Nat), Below w.heap.size w (((w.alloc (.cells #[.int .u64 v] 59)).alloc (.cells #[.int .i64 0] 23)).drewN m) := fun v m => pw_below_drewN ((below_alloc (Below.refl _ _) _).alloc (by simp) _) m
      have hz0 : 0 ≤ from_ + y := by have := HF.out; omega
      have hz1 : from_ + y < (l.length : Int) := by have := HJ.out; omega
      have hzw : IntKind.i64.wrap (from_ + y) = from_ + y := by rw [wi64]; exact wrap64_id (by have := HF.out; omega) (by omega)
      have hzv : wrap64 (from_ + y) = from_ + y := wrap64_id (by have := HF.out; omega) (by omega)
      have HCAL : Aside0 (∀ (W : World), Below w.heap.size w W → Calls Try.prog 61 #[.int .i64 (k : Int), .pointer (some p)] W fun e w2 => e = .returned (.int .i64 y) ∧ w2 = W) := ⟨fun W hW => by
        rw [← HY.out]
        exact place_little n k p W (pw_cell_below hW HPC.out) (by omega) hlt H8.out⟩
      have HAT : Aside0 (∀ (W : World), Below w.heap.size w W → Calls Try.prog 81 #[.slice A l.length c, .int .i64 (from_ + y)] W fun e w2 => e = .returned (.int .u8 (rd l (from_ + y))) ∧ w2 = W) := ⟨fun W hW => (at_yes A c l _ W (Kd.C_below HR.out hW) hz0 hz1).mono fun e w2 ⟨h1, h2⟩ => ⟨h1, h2.symm⟩⟩
      clear hx hy
      go_wp2_with fail
      refine region_tail 11 (by kernel_rfl) (by kernel_rfl) (((w.alloc (.cells #[.int .u64 x] 59)).alloc (.cells #[.int .i64 0] 23)).drewN (m + 1)) (World.drew_drewN ..) ?_
      simp only [List.take_succ_cons, List.take_zero, List.drop_succ_cons, List.drop_zero]
      iterate 6 still_step
      refine wpStill_step (fun K hK => ?_)
      go_simp
      refine ⟨_, HCAL.out _ (hB _ _), hK _ ?_⟩
      clear hK K
      still_step
      refine wpStill_step (fun K hK => ?_)
      go_simp
      refine ⟨_, HAT.out _ (hB _ _), hK _ ?_⟩
      clear hK K
      iterate 2 still_step
      refine wpStill_nil ?_
      go_wp2
      go_roundw
      case measure => have h8 := H8.out; rw [wrap64_id (n := (k : Int) + 1) (by omega) (by omega)]; simp [intOf]; omega
      case rel =>
        have h8 := H8.out
        refine ⟨k + 1, m + 1, by omega, by rw [wrap64_id (n := (k : Int) + 1) (by omega) (by omega)]; rfl, ?_⟩
        have he : acc l from_ (fun i => n - 1 - i) (k + 1) = Go.bits .or .u64 (IntKind.u64.wrap (x * 256)) (IntKind.u64.wrap (rd l (from_ + y))) := by
          show Go.bits .or .u64 (IntKind.u64.wrap (acc l from_ (fun i => n - 1 - i) k * 256)) (IntKind.u64.wrap (rd l (from_ + (n - 1 - (k : Int))))) = _
          rw [HX.out, HY.out]
        rw [he]
        exact set_first w _ _ _ _
    · obtain rfl : (k : Int) = n := by omega
      go_wp2
      refine leaves_cons (f := 79) (args := #[.pointer (some ⟨w.heap.size, 0, none⟩), .pointer (some ⟨w.heap.size + 1, 0, none⟩)]) (by simp) (by simp [go_sem]) ?_
      refine (catch_idle ⟨w.heap.size, 0, none⟩ ⟨w.heap.size + 1, 0, none⟩ _).mono ?_
      rintro e u' w'' ⟨rfl, rfl, rfl⟩
      simp [Leaves, settle, results, Try.results60, go_sem]
      exact (((pw_below_drewN (below_alloc (below_alloc (Below.refl _ _) _) _) m).setCell (by simp) _).setCell (by simp) _).alloc (by simp; omega) _
set_option maxRecDepth 100000 in
theorem read_okB (A : Option Addr) (c : Nat) (l : List Int) (from_ n : Int) (w : World) (hr : Kd.C (Kd.int .u8) w A l.length l) (hl : l.length ≤ 140737488355328) (h1 : 1 ≤ n) (h8 : n ≤ 8) (f0 : 0 ≤ from_) (h : from_ + n - 1 < (l.length : Int)) :
    Calls Try.prog 60 #[.slice A l.length c, .int .i64 from_, .int .i64 n, .func (.func 62) #[] #[]] w fun e w' => e = .returned (.tuple #[.int .u64 (acc l from_ (fun i => i) n.toNat), .int .i64 0]) ∧ Below w.heap.size w w' := by
  have hmf : ∀ (fn : Fn) (first cap : Array Value) (w : World), (Instr.makeFunc fn first cap).run Try.prog w = .ok (.func fn first cap) w := fun _ _ _ _ => rfl
  have n1 : decide (n < 1) = false := decide_eq_false (by omega)
  have n2 : decide (8 < n) = false := decide_eq_false (by omega)
  have n3 : decide (from_ < 0) = false := decide_eq_false (by omega)
  have n4 : decide ((l.length : Int) < from_) = false := decide_eq_false (by omega)
  obtain ⟨j, hj⟩ : ∃ j : Int, from_ + n - 1 = j := ⟨_, rfl⟩
  have hj0 : 0 ≤ j := by omega
  have hj1 : j < (l.length : Int) := by omega
  have hjw : IntKind.i64.wrap (IntKind.i64.wrap (from_ + n) - 1) = j := by rw [wi64, wi64, wrap64_id (n := from_ + n) (by omega) (by omega), wrap64_id (by omega) (by omega), hj]
  have hjv : wrap64 (wrap64 (from_ + n) - 1) = j := by rw [wrap64_id (n := from_ + n) (by omega) (by omega), wrap64_id (by omega) (by omega), hj]
  have HJ := Aside0.mk hj
  have H1 := Aside0.mk h1
  have H8 := Aside0.mk h8
  have HF := Aside0.mk f0
  have HR := Aside0.mk hr
  clear h1 h8 hj h f0 hr
  go_enter_defers Try.func60, Try.ntmps60
  go_wp2_with (first | (go_at_call 80; refine (fail_calls _ _).mono ?_; rintro e w' ⟨rfl, rfl⟩) | (go_at_call 81; refine (at_yes _ _ l _ _ (Kd.C_alloc (Kd.C_alloc HR.out _) _) hj0 hj1).mono ?_; rintro e w' ⟨rfl, rfl⟩))
  go_loopw [35] (fun i wr => ∃ k m : Nat, (k : Int) ≤ n ∧ i = .int .i64 k ∧ wr = ((w.alloc (.cells #[.int .u64 (acc l from_ (fun i => i) k)] 59)).alloc (.cells #[.int .i64 0] 23)).drewN m) (fun i _ => (n - intOf i).toNat)
  case atStart => exact ⟨0, 0, by have := H1.out; omega, rfl, rfl⟩
  case round =>
    obtain ⟨k, m, hk, rfl, rfl⟩ := hrel
    have hacc := acc_range l from_ (fun i => i) k
    obtain ⟨x, hx⟩ : ∃ x, acc l from_ (fun i => i) k = x := ⟨_, rfl⟩
    rw [hx] at hacc ⊢
    by_cases hlt : (k : Int) < n
    · obtain ⟨y, hy⟩ : ∃ y, (k : Int) = y := ⟨_, rfl⟩
      have HX := Aside0.mk hx
      have HY := Aside0.mk hy
      have hB : ∀ (v : Int) (m : Nat), Below w.heap.size w (((w.alloc (.cells #[.int .u64 v] 59)).alloc (.cells #[.int .i64 0] 23)).drewN m) := fun v m => pw_below_drewN ((below_alloc (Below.refl _ _) _).alloc (by simp) _) m
      have hz0 : 0 ≤ from_ + y := by have := HF.out; omega
      have hz1 : from_ + y < (l.length : Int) := by have := HJ.out; omega
      have hzw : IntKind.i64.wrap (from_ + y) = from_ + y := by rw [wi64]; exact wrap64_id (by have := HF.out; omega) (by omega)
      have hzv : wrap64 (from_ + y) = from_ + y := wrap64_id (by have := HF.out; omega) (by omega)
      have HCAL : Aside0 (∀ (W : World), Below w.heap.size w W → Calls Try.prog 62 #[.int .i64 (k : Int)] W fun e w2 => e = .returned (.int .i64 y) ∧ w2 = W) := ⟨fun W hW => by
        rw [← HY.out]
        exact place_big k W⟩
      have HAT : Aside0 (∀ (W : World), Below w.heap.size w W → Calls Try.prog 81 #[.slice A l.length c, .int .i64 (from_ + y)] W fun e w2 => e = .returned (.int .u8 (rd l (from_ + y))) ∧ w2 = W) := ⟨fun W hW => (at_yes A c l _ W (Kd.C_below HR.out hW) hz0 hz1).mono fun e w2 ⟨h1, h2⟩ => ⟨h1, h2.symm⟩⟩
      clear hx hy
      go_wp2_with fail
      refine region_tail 11 (by kernel_rfl) (by kernel_rfl) (((w.alloc (.cells #[.int .u64 x] 59)).alloc (.cells #[.int .i64 0] 23)).drewN (m + 1)) (World.drew_drewN ..) ?_
      simp only [List.take_succ_cons, List.take_zero, List.drop_succ_cons, List.drop_zero]
      iterate 6 still_step
      refine wpStill_step (fun K hK => ?_)
      go_simp
      refine ⟨_, HCAL.out _ (hB _ _), hK _ ?_⟩
      clear hK K
      still_step
      refine wpStill_step (fun K hK => ?_)
      go_simp
      refine ⟨_, HAT.out _ (hB _ _), hK _ ?_⟩
      clear hK K
      iterate 2 still_step
      refine wpStill_nil ?_
      go_wp2
      go_roundw
      case measure => have h8 := H8.out; rw [wrap64_id (n := (k : Int) + 1) (by omega) (by omega)]; simp [intOf]; omega
      case rel =>
        have h8 := H8.out
        refine ⟨k + 1, m + 1, by omega, by rw [wrap64_id (n := (k : Int) + 1) (by omega) (by omega)]; rfl, ?_⟩
        have he : acc l from_ (fun i => i) (k + 1) = Go.bits .or .u64 (IntKind.u64.wrap (x * 256)) (IntKind.u64.wrap (rd l (from_ + y))) := by
          show Go.bits .or .u64 (IntKind.u64.wrap (acc l from_ (fun i => i) k * 256)) (IntKind.u64.wrap (rd l (from_ + ((k : Int))))) = _
          rw [HX.out, HY.out]
        rw [he]
        exact set_first w _ _ _ _
    · obtain rfl : (k : Int) = n := by omega
      go_wp2
      refine leaves_cons (f := 79) (args := #[.pointer (some ⟨w.heap.size, 0, none⟩), .pointer (some ⟨w.heap.size + 1, 0, none⟩)]) (by simp) (by simp [go_sem]) ?_
      refine (catch_idle ⟨w.heap.size, 0, none⟩ ⟨w.heap.size + 1, 0, none⟩ _).mono ?_
      rintro e u' w'' ⟨rfl, rfl, rfl⟩
      simp [Leaves, settle, results, Try.results60, go_sem]
      exact (((pw_below_drewN (below_alloc (below_alloc (Below.refl _ _) _) _) m).setCell (by simp) _).setCell (by simp) _).alloc (by simp; omega) _

/-- what num.Little and num.Big come to. -/
def rdNum (l : List Int) (from_ n : Int) (pl : Int → Int) : Int × Int :=
  if n < 1 ∨ 8 < n then (0, 1) else if from_ < 0 ∨ (l.length : Int) < from_ ∨ (l.length : Int) ≤ from_ + n - 1 then (0, 5) else (acc l from_ pl n.toNat, 0)
def num_Little.f (l0 : List Int) (a1 : Int) (a2 : Int) : Option (Int × Int) := if l0.length ≤ 140737488355328 then some (rdNum l0 a1 a2 (fun i => a2 - 1 - i)) else none
def num_Big.f (l0 : List Int) (a1 : Int) (a2 : Int) : Option (Int × Int) := if l0.length ≤ 140737488355328 then some (rdNum l0 a1 a2 (fun i => i)) else none

theorem read_little (A : Option Addr) (c : Nat) (l : List Int) (from_ n : Int) (p : Addr) (w : World) (hr : Kd.C (Kd.int .u8) w A l.length l) (hl : l.length ≤ 140737488355328) (hpc : w.cell? p = some (.int .i64 n)) :
    Calls Try.prog 60 #[.slice A l.length c, .int .i64 from_, .int .i64 n, .func (.func 61) #[] #[.pointer (some p)]] w fun e w' => e = .returned (.tuple #[.int .u64 (rdNum l from_ n (fun i => n - 1 - i)).1, .int .i64 (rdNum l from_ n (fun i => n - 1 - i)).2]) ∧ Below w.heap.size w w' := by
  unfold rdNum
  by_cases h1 : n < 1 ∨ 8 < n
  · rw [if_pos h1]; exact read_arg A _ c from_ n _ w h1
  · rw [if_neg h1]
    by_cases h2 : from_ < 0 ∨ (l.length : Int) < from_ ∨ (l.length : Int) ≤ from_ + n - 1
    · rw [if_pos h2]
      by_cases h3 : from_ < 0 ∨ (l.length : Int) < from_
      · exact read_far A _ c from_ n _ w (by omega) (by omega) (by omega) h3
      · exact read_short A _ c from_ n _ w hl (by omega) (by omega) (by omega) (by omega) (by omega)
    · rw [if_neg h2]
      exact read_okL A c l from_ n p w hr hl (by omega) (by omega) (by omega) (by omega) hpc
theorem read_big (A : Option Addr) (c : Nat) (l : List Int) (from_ n : Int) (w : World) (hr : Kd.C (Kd.int .u8) w A l.length l) (hl : l.length ≤ 140737488355328) :
    Calls Try.prog 60 #[.slice A l.length c, .int .i64 from_, .int .i64 n, .func (.func 62) #[] #[]] w fun e w' => e = .returned (.tuple #[.int .u64 (rdNum l from_ n (fun i => i)).1, .int .i64 (rdNum l from_ n (fun i => i)).2]) ∧ Below w.heap.size w w' := by
  unfold rdNum
  by_cases h1 : n < 1 ∨ 8 < n
  · rw [if_pos h1]; exact read_arg A _ c from_ n _ w h1
  · rw [if_neg h1]
    by_cases h2 : from_ < 0 ∨ (l.length : Int) < from_ ∨ (l.length : Int) ≤ from_ + n - 1
    · rw [if_pos h2]
      by_cases h3 : from_ < 0 ∨ (l.length : Int) < from_
      · exact read_far A _ c from_ n _ w (by omega) (by omega) (by omega) h3
      · exact read_short A _ c from_ n _ w hl (by omega) (by omega) (by omega) (by omega) (by omega)
    · rw [if_neg h2]
      exact read_okB A c l from_ n w hr hl (by omega) (by omega) (by omega) (by omega)

theorem num_Little.calls (A0 : Option Addr) (c0 : Nat) (l0 : List Int) (a1 : Int) (a2 : Int) (r1 : Int) (r2 : Int) (w : World) (hr0 : Kd.C (Kd.int .u8) w A0 l0.length l0) (hc0 : l0.length ≤ c0) (h : num_Little.f l0 a1 a2 = some (r1, r2)) :
    Calls Try.prog 35 #[.slice A0 l0.length c0, .int .i64 a1, .int .i64 a2] w fun e w' => e = .returned (.tuple #[.int .u64 r1, .int .i64 r2]) ∧ Below w.heap.size w w' := by
  have hmf : ∀ (fn : Fn) (first cap : Array Value) (w : World), (Instr.makeFunc fn first cap).run Try.prog w = .ok (.func fn first cap) w := fun _ _ _ _ => rfl
  unfold num_Little.f at h
  by_cases hl : l0.length ≤ 140737488355328
  · rw [if_pos hl, Option.some.injEq] at h
    have H1 : (rdNum l0 a1 a2 (fun i => a2 - 1 - i)).1 = r1 := by rw [h]
    have H2 : (rdNum l0 a1 a2 (fun i => a2 - 1 - i)).2 = r2 := by rw [h]
    have hC := read_little A0 c0 l0 a1 a2 ⟨w.heap.size, 0, none⟩ (w.alloc (.cells #[.int .i64 a2] 3)) (Kd.C_alloc hr0 _) hl (by simp)
    rw [H1, H2] at hC
    have HC := Aside0.mk hC
    clear hC H1 H2 h hr0 hc0
    go_enter Try.func35, Try.ntmps35
    go_wp2_with (go_at_call 60; refine (HC.out).mono ?_; rintro e w' ⟨rfl, hb⟩)
    go_ret2
    exact ⟨rfl, below_then (below_alloc (Below.refl _ _) _) (by simp) hb⟩
  · rw [if_neg hl] at h; cases h
theorem num_Big.calls (A0 : Option Addr) (c0 : Nat) (l0 : List Int) (a1 : Int) (a2 : Int) (r1 : Int) (r2 : Int) (w : World) (hr0 : Kd.C (Kd.int .u8) w A0 l0.length l0) (hc0 : l0.length ≤ c0) (h : num_Big.f l0 a1 a2 = some (r1, r2)) :
    Calls Try.prog 37 #[.slice A0 l0.length c0, .int .i64 a1, .int .i64 a2] w fun e w' => e = .returned (.tuple #[.int .u64 r1, .int .i64 r2]) ∧ Below w.heap.size w w' := by
  unfold num_Big.f at h
  by_cases hl : l0.length ≤ 140737488355328
  · rw [if_pos hl, Option.some.injEq] at h
    have H1 : (rdNum l0 a1 a2 (fun i => i)).1 = r1 := by rw [h]
    have H2 : (rdNum l0 a1 a2 (fun i => i)).2 = r2 := by rw [h]
    have hC := read_big A0 c0 l0 a1 a2 w hr0 hl
    rw [H1, H2] at hC
    have HC := Aside0.mk hC
    clear hC H1 H2 h hr0 hc0
    go_enter Try.func37, Try.ntmps37
    go_wp2_with (go_at_call 60; refine (HC.out).mono ?_; rintro e w' ⟨rfl, hb⟩)
    go_ret2
    exact ⟨rfl, hb⟩
  · rw [if_neg hl] at h; cases h
end Go.Proofs.Ytfnicahlnpngkaa.NumRead
