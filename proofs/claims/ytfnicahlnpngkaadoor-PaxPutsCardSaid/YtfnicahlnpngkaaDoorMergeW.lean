/- pax.Merge, walked by hand: its closure, slices.IndexFunc, DeleteFunc, Insert over records. -/
import Derived.Test.YtfnicahlnpngkaaDoorProg
import Derived.Test.YtfnicahlnpngkaaDoorMergeP
import Derived.Test.YtfnicahlnpngkaaDoorBase
import Derived.Test.YtfnicahlnpngkaaDoorWShare
import Derived.Test.YtfnicahlnpngkaaDoorWN
import Derived.Test.YtfnicahlnpngkaaDoorWRepsOne
import Derived.Lib.Overlaps
import Derived.Shelf.Spec.SlicesInsert
import Derived.Deep.RegionLaw
import Derived.Laws.Externs
import Derived.Laws.IdiomCopy
import Derived.Deep.DeepCutAuto
import Derived.Lib.SliceRun
import Derived.Laws.OwnMore
import Derived.Laws.MakeOwn
import Derived.WalkKit
import Derived.BigQuiet
set_option linter.unusedVariables false
set_option linter.unusedSimpArgs false
namespace Go.Proofs.YtfnicahlnpngkaaDoor.MergeW
open Go.RowKit Go.Proofs Go.Proofs.YtfnicahlnpngkaaDoorW.PrintWords Go.Proofs.YtfnicahlnpngkaaDoorW.PrintMore Go.Proofs.YtfnicahlnpngkaaDoor.Base Go.Proofs.YtfnicahlnpngkaaDoor.MergeP
abbrev S := ByteArray × ByteArray
def kS : Kd S := Kd.pair Kd.string Kd.string
def encS (x : S) : List Value := [.string x.1, .string x.2]
theorem kS_open {w : World} {x : S} {cs : List Value} (h : kS.K w x cs) : cs = encS x := by
  obtain ⟨_, _, rfl, rfl, rfl⟩ := h
  rfl
theorem kS_mkM (w : World) (base : Nat) (ok : Nat → Prop) (x : S) : kS.M w base ok x (encS x) := ⟨[.string x.1], [.string x.2], rfl, rfl, rfl⟩
theorem kS_openM {w : World} {base : Nat} {ok : Nat → Prop} {x : S} {cs : List Value} (h : kS.M w base ok x cs) : cs = encS x := by
  obtain ⟨_, _, rfl, rfl, rfl⟩ := h
  rfl
def isKey (k : ByteArray) (x : S) : Bool := x.1.toList == k.toList
set_option maxRecDepth 100000 in
theorem closure_ (B : Nat) (rk rv : ByteArray) (x : S) (w : World) (hk : w.cell? ⟨B, 0, none⟩ = some (.string rk)) :
    Calls Tryd.prog 29 #[.agg #[.string x.1, .string x.2], .pointer (some ⟨B, 0, none⟩)] w fun e w' => e = .returned (.bool (isKey rk x)) ∧ Below w.heap.size w w' := by
  have hB : B < w.heap.size := World.block_lt_of_cell? w _ hk
  have hu := Tryd.underlying39
  go_enter Tryd.func29, Tryd.ntmps29
  go_wp2
  go_ret
  exact ⟨rfl, (Below.refl _ _).alloc (Nat.le_refl _) _⟩
/-! ### slices.IndexFunc -/
def idxI (k : ByteArray) (l : List S) : Int := match l.findIdx? (isKey k) with | none => -1 | some i => (i : Int)
theorem at_S {w : World} {A : Option Addr} {n : Nat} {xs : List S} (h : Kd.C kS w A n xs) (i : Nat) (h1 : i < n) : ∃ ad, A = some ad ∧ w.cell? (ad.add (i * 2)) = some (.string (xs.getD i default).1) ∧ w.cell? ⟨(ad.add (i * 2)).block, (ad.add (i * 2)).off + 1, none⟩ = some (.string (xs.getD i default).2) := by
  obtain ⟨ad, c, e, _, hK, hc0⟩ := Kd.C_get h default (i : Int) (by omega) (by omega)
  rw [Int.toNat_natCast] at hK hc0
  have hc : ∀ j u, c[j]? = some u → w.cell? (ad.add (i * 2 + j)) = some u := hc0
  obtain rfl := kS_open hK
  exact ⟨ad, e, hc 0 _ rfl, by rw [← add_field _ _ 1 (by omega)]; exact hc 1 _ rfl⟩
theorem idx_step {k : ByteArray} {l : List S} {i : Nat} (h : i < l.length) : (l.drop i).findIdx? (isKey k) = if isKey k (l.getD i default) = true then some 0 else ((l.drop (i + 1)).findIdx? (isKey k)).map (· + 1) := by
  rw [List.drop_eq_getElem_cons h, List.findIdx?_cons, List.getD_eq_getElem?_getD, List.getElem?_eq_getElem h]
  rfl
set_option maxHeartbeats 4000000 in
set_option maxRecDepth 100000 in
theorem indexFunc (A0 : Option Addr) (c0 : Nat) (l : List S) (B : Nat) (rk rv : ByteArray) (w : World) (hr : Kd.C kS w A0 l.length l) (hk : w.cell? ⟨B, 0, none⟩ = some (.string rk)) (hl : l.length ≤ 1099511627776) :
    Calls Tryd.prog 30 #[.slice A0 l.length c0, .func (.func 29) #[] #[.pointer (some ⟨B, 0, none⟩)]] w fun e w' => e = .returned (.int .i64 (idxI rk l)) ∧ Below w.heap.size w w' := by
  have HR := Aside0.mk hr
  have HK := Aside0.mk hk
  have HB := Aside0.mk (Below.refl w.heap.size w)
  have hB : B < w.heap.size := World.block_lt_of_cell? w _ hk
  have hu := Tryd.underlying39
  clear hr hk
  go_enter Tryd.func30, Tryd.ntmps30
  go_wp2
  go_loopg [8] (l.length + 1) (fun kq v8 wr => ∃ i : Nat, v8 = .int .i64 (i : Int) ∧ Aside0 (i ≤ l.length ∧ l.length + 1 ≤ kq + i ∧ l.findIdx? (isKey rk) = ((l.drop i).findIdx? (isKey rk)).map (· + i)) ∧ Aside0 (Below w.heap.size w wr))
  case atStart => exact ⟨0, rfl, ⟨by omega, by omega, by rw [List.drop_zero]; cases l.findIdx? (isKey rk) <;> simp⟩, HB⟩
  case round =>
    clear HB
    obtain ⟨i, rfl, HX, HB⟩ := hrel
    by_cases hlt : i < l.length
    · have hz : (i : Int) < (l.length : Int) := by omega
      have n0 : 0 ≤ (i : Int) := by omega
      obtain ⟨ad, rfl, h0, h1⟩ := at_S (Kd.C_below HR.out HB.out) i hlt
      have HS := Aside0.mk (idx_step (k := rk) hlt)
      have HCL := Aside0.mk (closure_ B rk rv (l.getD i default) wr ((HB.out.cell (by exact hB)).trans HK.out))
      obtain ⟨x, hx⟩ : ∃ x, l.getD i default = x := ⟨_, rfl⟩
      rw [hx] at h0 h1 HS HCL
      obtain ⟨b, hb⟩ : ∃ b, isKey rk x = b := ⟨_, rfl⟩
      rw [hb] at HS HCL
      clear hx hb
      cases b with
      | true =>
        go_wp2_with (go_at_call 29; (with_reducible refine (HCL.out).mono ?_); rintro e w1 ⟨rfl, hb⟩)
        go_ret
        refine ⟨?_, below_then HB.out HB.out.size hb⟩
        unfold idxI
        rw [HX.out.2.2, HS.out]
        simp
      | false =>
        go_wp2_with (go_at_call 29; (with_reducible refine (HCL.out).mono ?_); rintro e w1 ⟨rfl, hb⟩)
        go_roundg (gk - 1)
        case measure => have := HX.out; omega
        case rel => exact ⟨i + 1, by go_num, ⟨by omega, by have := HX.out; omega, by rw [HX.out.2.2, HS.out, if_neg (by decide)]; cases (l.drop (i + 1)).findIdx? (isKey rk) <;> simp; omega⟩, ⟨below_then HB.out HB.out.size hb⟩⟩
    · have hz : ¬ (i : Int) < (l.length : Int) := by omega
      have hi : i = l.length := by have := HX.out; omega
      subst hi
      go_wp2
      go_ret
      refine ⟨?_, HB.out⟩
      unfold idxI
      rw [HX.out.2.2]
      simp
/-! ### rows of pairs in a block of this call's own -/
def flat (f : List (Value × Value)) : List Value := f.flatMap fun p => [p.1, p.2]
theorem flat_nil : flat [] = [] := rfl
theorem flat_cons (p : Value × Value) (f : List (Value × Value)) : flat (p :: f) = p.1 :: p.2 :: flat f := rfl
theorem flat_app (f g : List (Value × Value)) : flat (f ++ g) = flat f ++ flat g := by unfold flat; rw [List.flatMap_append]
theorem flat_len : ∀ f : List (Value × Value), (flat f).length = f.length * 2
  | [] => rfl
  | p :: f => by rw [flat_cons, List.length_cons, List.length_cons, flat_len f, List.length_cons]; omega
theorem flat_get : ∀ (f : List (Value × Value)) (i : Nat) (p : Value × Value), f[i]? = some p → (flat f)[i * 2]? = some p.1 ∧ (flat f)[i * 2 + 1]? = some p.2
  | [], i, p, h => by simp at h
  | q :: f, 0, p, h => by obtain rfl : q = p := by simpa using h
                          exact ⟨rfl, rfl⟩
  | q :: f, i + 1, p, h => by
    have := flat_get f i p (by simpa using h)
    rw [flat_cons, show (i + 1) * 2 = i * 2 + 2 by omega, show i * 2 + 2 + 1 = i * 2 + 1 + 2 by omega]
    simpa using this
theorem flat_set : ∀ (f : List (Value × Value)) (i : Nat) (p : Value × Value), flat (f.set i p) = ((flat f).set (i * 2) p.1).set (i * 2 + 1) p.2
  | [], i, p => by simp [flat_nil]
  | q :: f, 0, p => by rw [List.set_cons_zero, flat_cons, flat_cons]; simp
  | q :: f, i + 1, p => by
    rw [List.set_cons_succ, flat_cons, flat_cons, flat_set f i p, show (i + 1) * 2 = i * 2 + 2 by omega, show i * 2 + 2 + 1 = i * 2 + 1 + 2 by omega]
    simp
theorem flat_take : ∀ (f : List (Value × Value)) (n : Nat), (flat f).take (n * 2) = flat (f.take n)
  | [], n => by simp [flat_nil]
  | p :: f, 0 => by simp [flat_nil]
  | p :: f, n + 1 => by rw [flat_cons, show (n + 1) * 2 = n * 2 + 2 by omega, List.take_succ_cons, List.take_succ_cons, flat_take f n, List.take_succ_cons, flat_cons]
theorem flat_drop : ∀ (f : List (Value × Value)) (n : Nat), (flat f).drop (n * 2) = flat (f.drop n)
  | [], n => by simp [flat_nil]
  | p :: f, 0 => by simp
  | p :: f, n + 1 => by rw [flat_cons, show (n + 1) * 2 = n * 2 + 2 by omega, List.drop_succ_cons, List.drop_succ_cons, flat_drop f n, List.drop_succ_cons]
theorem unflat : ∀ (n : Nat) (l : List Value), l.length = n * 2 → ∃ f, l = flat f ∧ f.length = n
  | 0, l, h => ⟨[], List.eq_nil_of_length_eq_zero (by omega), rfl⟩
  | n + 1, a :: b :: l, h => by
    obtain ⟨f, h1, h2⟩ := unflat n l (by simp at h; omega)
    exact ⟨(a, b) :: f, by rw [flat_cons, h1], by rw [List.length_cons, h2]⟩
  | n + 1, [], h => by simp at h
  | n + 1, [_], h => by simp at h; omega
def pr (x : S) : Value × Value := (.string x.1, .string x.2)
theorem flat_pr (l : List S) : flat (l.map pr) = l.flatMap encS := by unfold flat; rw [List.flatMap_map]; rfl
/-- a block's own cells, over written from a place on. -/
theorem blk_setCells {g : Nat} {t : TypeId} : ∀ (vs cs : List Value) (o : Nat) (w : World), w.heap[g]? = some (.cells cs.toArray t (0, 0)) → o + vs.length ≤ cs.length → (w.setCells g o vs).heap[g]? = some (.cells (cs.take o ++ vs ++ cs.drop (o + vs.length)).toArray t (0, 0))
  | [], cs, o, w, h, _ => by rw [World.setCells, h]; simp
  | v :: r, cs, o, w, h, hl => by
    rw [List.length_cons] at hl
    rw [World.setCells]
    have h1 : (w.setCell ⟨g, o, none⟩ v).heap[g]? = some (.cells (cs.set o v).toArray t (0, 0)) := by rw [blk_set h o v]; simp
    rw [blk_setCells r (cs.set o v) (o + 1) _ h1 (by rw [List.length_set]; omega)]
    congr 2
    rw [List.take_succ_eq_append_getElem (by rw [List.length_set]; omega), List.getElem_set_self, List.take_set_of_le (Nat.le_refl _), List.drop_set_of_lt (by omega), List.length_cons, show o + 1 + r.length = o + (r.length + 1) by omega]
    simp
theorem grown_setCell {a w : World} {g : Nat} (h : a.grownBy w (some g)) (o : Nat) (u : Value) : a.grownBy (w.setCell ⟨g, o, none⟩ u) (some g) :=
  ⟨h.os, h.tape, h.output, by simpa [World.setCell] using h.size, fun i hi hne => (Below.heap_setCell w ⟨g, o, none⟩ u i (by rintro rfl; exact hne rfl)).trans (h.block i hi hne)⟩
theorem grown_setCells {a : World} {g : Nat} : ∀ (vs : List Value) (o : Nat) (w : World), a.grownBy w (some g) → a.grownBy (w.setCells g o vs) (some g)
  | [], o, w, h => h
  | v :: r, o, w, h => by rw [World.setCells]; exact grown_setCells r (o + 1) _ (grown_setCell h o v)
theorem grown_below {a w w1 : World} {row : Option Nat} (h : a.grownBy w row) (hb : Below w.heap.size w w1) : a.grownBy w1 row :=
  ⟨hb.os.trans h.os, hb.tape.trans h.tape, hb.output.trans h.output, Nat.le_trans h.size hb.size, fun i hi hne => (hb.block i (Nat.lt_of_lt_of_le hi h.size)).trans (h.block i hi hne)⟩
/-- copy over elements of two cells. -/
theorem run_copy2 {P : Program} (w : World) (dT sT ty elem : TypeId) (b o dLen dCap : Nat) (a : Addr) (sLen sCap : Nat) (cs : List Value)
    (hu : P.underlying dT = some (.slice elem)) (hs : (P.info? elem).map (·.size) = some 2) (hn : cs.length = Nat.min sLen dLen * 2)
    (hsrc : ∀ j v, cs[j]? = some v → w.cell? (a.add j) = some v) (hc : ∀ j, j < cs.length → (w.cell? ⟨b, o + j, none⟩).isSome = true) (hf : ∀ j, j < cs.length → w.frozen? ⟨b, o + j, none⟩ = false) (h1 : ∀ v ∈ cs, v.oneCell' = true) :
    (Builtin.copy_ #[dT, sT] ty #[.slice (some ⟨b, o, none⟩) dLen dCap, .slice (some a) sLen sCap]).run P w = .ok (goInt (Nat.min sLen dLen)) (w.setCells b o cs) := by
  have hl := run_loadCells_list (P := P) w a cs hsrc
  have hst := run_storeCells_cells (P := P) b o cs 0 w (by simpa using hc) (by simpa using hf) h1
  cases hq : P.info? elem with
  | none => simp [hq] at hs
  | some i =>
    have hi : i.size = 2 := by simpa [hq] using hs
    simp [Builtin.copy_, run_underlying hu, Builtin.lenOf, Builtin.firstCells, sizeOf, typeInfo, hq, hi, ← hn, hl, hst]
theorem zeroCells2 (a b : Value) (n : Nat) : (Builtin.zeroCells #[a, b] n).toList = flat (List.replicate n (a, b)) := by
  have e : (Builtin.zeroCells #[a, b] n).toList = (List.range (n * 2)).map fun i => (#[a, b] : Array Value)[i % 2]! := by simp [Builtin.zeroCells]
  rw [e]
  induction n with
  | zero => rfl
  | succ n ih =>
    rw [List.replicate_succ', flat_app, ← ih (by simp [Builtin.zeroCells]), show (n + 1) * 2 = n * 2 + 1 + 1 by omega, List.range_succ, List.range_succ, List.map_append, List.map_append]
    have e1 : (n * 2) % 2 = 0 := by omega
    have e2 : (n * 2 + 1) % 2 = 1 := by omega
    simp [e1, e2, flat]
theorem run_clear2 {P : Program} (w : World) (t e ty : TypeId) (z1 z2 : Value) (ht : P.underlying t = some (.slice e)) (hv : ∀ w, (zeroValue e).run P w = .ok (.agg #[z1, z2]) w) (h1 : z1.oneCell' = true) (h2 : z2.oneCell' = true) (b o n c : Nat) (hn : 0 < n)
    (hc : ∀ j, j < n * 2 → (w.cell? ⟨b, o + j, none⟩).isSome = true) (hf : ∀ j, j < n * 2 → w.frozen? ⟨b, o + j, none⟩ = false) :
    (Builtin.clear_ #[t] ty #[.slice (some ⟨b, o, none⟩) n c]).run P w = .ok (.tuple #[]) (w.setCells b o (flat (List.replicate n (z1, z2)))) := by
  have hl : (flat (List.replicate n (z1, z2))).length = n * 2 := by rw [flat_len, List.length_replicate]
  have hst := run_storeCells_cells (P := P) b o (flat (List.replicate n (z1, z2))) 0 w (by rw [hl]; simpa using hc) (by rw [hl]; simpa using hf) (by
    intro v hv'
    unfold flat at hv'
    obtain ⟨p, hp, hm⟩ := List.mem_flatMap.1 hv'
    rw [List.eq_of_mem_replicate hp] at hm
    rcases List.mem_cons.1 hm with rfl | hm
    · exact h1
    · rw [List.mem_singleton.1 hm]; exact h2)
  simp only [Nat.add_zero] at hst
  have hzc := zeroCells2 z1 z2 n
  obtain ⟨m, rfl⟩ : ∃ m, n = m + 1 := ⟨n - 1, by omega⟩
  simp [Builtin.clear_, run_underlying ht, hv, Value.cells, hzc, hst]
/-! ### slices.DeleteFunc -/
theorem zero39 : ∀ w, (zeroValue 39).run Tryd.prog w = .ok (.agg #[.string ⟨#[]⟩, .string ⟨#[]⟩]) w := fun w => by kernel_rfl
def keep (k : ByteArray) (l : List S) : List S := l.filter fun x => !isKey k x
structure Del (w wr : World) (g : Nat) (full : List (Value × Value)) (xs : List S) (rk : ByteArray) (i j : Nat) (dk : List (Value × Value)) : Prop where
  blk : wr.heap[g]? = some (.cells (flat dk).toArray 39 (0, 0))
  gr : w.grownBy wr (some g)
  len : dk.length = full.length
  front : dk.take i = (keep rk (xs.take j)).map pr
  ii : i = (keep rk (xs.take j)).length
  back : dk.drop j = full.drop j
  ij : i < j
  jn : j ≤ xs.length
theorem Del.below {w wr w1 : World} {g : Nat} {full : List (Value × Value)} {xs : List S} {rk : ByteArray} {i j : Nat} {dk : List (Value × Value)} (h : Del w wr g full xs rk i j dk) (hb : Below wr.heap.size wr w1) : Del w w1 g full xs rk i j dk :=
  ⟨blk_below h.blk hb, grown_below h.gr hb, h.len, h.front, h.ii, h.back, h.ij, h.jn⟩
theorem keep_step {k : ByteArray} {l : List S} {j : Nat} (h : j < l.length) : keep k (l.take (j + 1)) = keep k (l.take j) ++ if isKey k (l.getD j default) = true then [] else [l.getD j default] := by
  unfold keep
  rw [List.take_succ_eq_append_getElem h, List.filter_append, List.getD_eq_getElem?_getD, List.getElem?_eq_getElem h]
  simp only [Option.getD_some]
  congr 1
  cases e : isKey k l[j] <;> simp [e]
theorem Del.skip {w wr w1 : World} {g : Nat} {full : List (Value × Value)} {xs : List S} {rk : ByteArray} {i j : Nat} {dk : List (Value × Value)} (h : Del w wr g full xs rk i j dk) (hb : Below wr.heap.size wr w1) (hj : j < xs.length) (hk : isKey rk (xs.getD j default) = true) : Del w w1 g full xs rk i (j + 1) dk := by
  have hs := keep_step (k := rk) hj
  rw [if_pos hk, List.append_nil] at hs
  refine ⟨blk_below h.blk hb, grown_below h.gr hb, h.len, by rw [hs]; exact h.front, by rw [hs]; exact h.ii, ?_, Nat.lt_succ_of_lt h.ij, hj⟩
  rw [← List.tail_drop, h.back, List.tail_drop]
theorem Del.put {w wr w1 : World} {g : Nat} {full : List (Value × Value)} {xs : List S} {rk : ByteArray} {i j : Nat} {dk : List (Value × Value)} (h : Del w wr g full xs rk i j dk) (hb : Below wr.heap.size wr w1) (hj : j < xs.length) (hn : xs.length ≤ full.length) (hk : isKey rk (xs.getD j default) = false) :
    Del w ((w1.setCell ⟨g, i * 2, none⟩ (.string (xs.getD j default).1)).setCell ⟨g, i * 2 + 1, none⟩ (.string (xs.getD j default).2)) g full xs rk (i + 1) (j + 1) (dk.set i (pr (xs.getD j default))) := by
  have hs := keep_step (k := rk) hj
  rw [if_neg (by rw [hk]; decide)] at hs
  have hil : i < dk.length := by have := h.ij; have := h.len; omega
  refine ⟨?_, grown_setCell (grown_setCell (grown_below h.gr hb) _ _) _ _, by rw [List.length_set]; exact h.len, ?_, ?_, ?_, by have := h.ij; omega, hj⟩
  · rw [flat_set, blk_set (blk_set (blk_below h.blk hb) _ _) _ _]
    simp [pr]

  · rw [hs, List.take_succ_eq_append_getElem (by rw [List.length_set]; exact hil), List.getElem_set_self, List.take_set_of_le (Nat.le_refl _), h.front]
    simp
  · rw [hs, List.length_append]; have := h.ii; simp; exact this
  · rw [List.drop_set_of_lt (by have := h.ij; omega), ← List.tail_drop, h.back, List.tail_drop]
theorem take_of {full : List (Value × Value)} {xs : List S} (h : full.take xs.length = xs.map pr) {j : Nat} (hj : j < xs.length) : full[j]? = some (pr (xs.getD j default)) := by
  have : (full.take xs.length)[j]? = (xs.map pr)[j]? := by rw [h]
  rw [List.getElem?_take_of_lt hj] at this
  rw [this, List.getElem?_map, List.getElem?_eq_getElem hj, List.getD_eq_getElem?_getD, List.getElem?_eq_getElem hj]
  rfl
theorem row_C {w : World} {g : Nat} {full : List (Value × Value)} {xs : List S} (hg : w.heap[g]? = some (.cells (flat full).toArray 39 (0, 0))) (ht : full.take xs.length = xs.map pr) (hm : xs.length ≤ 9223372036854775807) : Kd.C kS w (some ⟨g, 0, none⟩) xs.length xs := by
  refine ⟨rfl, hm, fun h0 => ⟨_, rfl, fun j p hj => ⟨encS p, rfl, ⟨[.string p.1], [.string p.2], rfl, rfl, rfl⟩, fun i u hu => ?_⟩⟩⟩
  obtain ⟨hl, hp⟩ := List.getElem?_eq_some_iff.1 hj
  have hf := take_of ht hl
  rw [List.getD_eq_getElem?_getD, List.getElem?_eq_getElem hl, Option.getD_some, hp] at hf
  obtain ⟨g1, g2⟩ := flat_get _ _ _ hf
  have e : (⟨g, 0, none⟩ : Addr).add (j * kS.sz + i) = ⟨g, j * 2 + i, none⟩ := by unfold Addr.add; split <;> simp_all [kS, Kd.pair, Kd.string, Kd.scalar]
  rw [e, blk_cell hg]
  match i, hu with
  | 0, hu => rw [← hu]; simpa [encS, pr] using g1
  | 1, hu => rw [← hu]; simpa [encS, pr] using g2
theorem keep_none {k : ByteArray} {l : List S} (h : l.findIdx? (isKey k) = none) : keep k l = l :=
  List.filter_eq_self.2 (fun x hx => by rw [List.findIdx?_eq_none_iff.1 h x hx]; rfl)
set_option maxHeartbeats 4000000 in
set_option maxRecDepth 100000 in
theorem delete_none (A0 : Option Addr) (c0 : Nat) (l : List S) (B : Nat) (rk rv : ByteArray) (w : World) (hr : Kd.C kS w A0 l.length l) (hk : w.cell? ⟨B, 0, none⟩ = some (.string rk)) (hl : l.length ≤ 1099511627776) (hf : l.findIdx? (isKey rk) = none) :
    Calls Tryd.prog 31 #[.slice A0 l.length c0, .func (.func 29) #[] #[.pointer (some ⟨B, 0, none⟩)]] w fun e w' => e = .returned (.slice A0 l.length c0) ∧ Below w.heap.size w w' := by
  have HI := Aside0.mk (indexFunc A0 c0 l B rk rv w hr hk hl)
  have ei : idxI rk l = -1 := by unfold idxI; rw [hf]
  rw [ei] at HI
  clear hf ei hr hk
  go_enter Tryd.func31, Tryd.ntmps31
  go_wp2_with (go_at_call 30; (with_reducible refine (HI.out).mono ?_); rintro e w1 ⟨rfl, hb⟩)
  go_ret
  exact ⟨rfl, hb⟩
set_option maxHeartbeats 4000000 in
set_option maxRecDepth 100000 in
theorem deleteFunc (g cap : Nat) (full : List (Value × Value)) (xs : List S) (B : Nat) (rk rv : ByteArray) (w : World) (hg : w.heap[g]? = some (.cells (flat full).toArray 39 (0, 0))) (hcl : full.length = cap) (ht : full.take xs.length = xs.map pr) (hn : xs.length ≤ cap) (hcap : xs.length ≤ 1099511627776)
    (hk : w.cell? ⟨B, 0, none⟩ = some (.string rk)) (hne : B ≠ g) :
    Calls Tryd.prog 31 #[.slice (some ⟨g, 0, none⟩) xs.length cap, .func (.func 29) #[] #[.pointer (some ⟨B, 0, none⟩)]] w fun e w' => ∃ full', e = .returned (.slice (some ⟨g, 0, none⟩) (keep rk xs).length cap) ∧ w'.heap[g]? = some (.cells (flat full').toArray 39 (0, 0)) ∧ full'.length = cap ∧ full'.take (keep rk xs).length = (keep rk xs).map pr ∧ w.grownBy w' (some g) := by
  have HI := Aside0.mk (indexFunc (some ⟨g, 0, none⟩) cap xs B rk rv w (row_C hg ht (by omega)) hk (by omega))
  have hB : B < w.heap.size := World.block_lt_of_cell? w _ hk
  cases hf : xs.findIdx? (isKey rk) with
  | none =>
    have e : keep rk xs = xs := by
      unfold keep
      exact List.filter_eq_self.2 (fun x hx => by rw [List.findIdx?_eq_none_iff.1 hf x hx]; rfl)
    have ei : idxI rk xs = -1 := by unfold idxI; rw [hf]
    rw [ei] at HI
    have HE := Aside0.mk e
    have HG := Aside0.mk hg
    have HT := Aside0.mk ht
    clear hf e ei hg ht hk
    go_enter Tryd.func31, Tryd.ntmps31
    go_wp2_with (go_at_call 30; (with_reducible refine (HI.out).mono ?_); rintro e w1 ⟨rfl, hb⟩)
    go_ret
    rw [HE.out]
    exact ⟨full, rfl, blk_below HG.out hb, hcl, HT.out, grown_below (World.grownBy.refl w _) hb⟩
  | some i0 =>
    have ei : idxI rk xs = (i0 : Int) := by unfold idxI; rw [hf]
    rw [ei] at HI
    obtain ⟨hi0, hki, hbef⟩ := List.findIdx?_eq_some_iff_getElem.1 hf
    have hkeep : keep rk (xs.take (i0 + 1)) = xs.take i0 := by
      rw [keep_step hi0, List.getD_eq_getElem?_getD, List.getElem?_eq_getElem hi0, Option.getD_some, if_pos hki, List.append_nil]
      unfold keep
      refine List.filter_eq_self.2 (fun x hx => ?_)
      obtain ⟨j, hj, rfl⟩ := List.mem_iff_getElem.1 hx
      rw [List.length_take] at hj
      rw [List.getElem_take]
      have := hbef j (by omega)
      simpa using this
    have hD : ∀ w1, Below w.heap.size w w1 → Del w w1 g full xs rk i0 (i0 + 1) full := fun w1 hb =>
      ⟨blk_below hg hb, grown_below (World.grownBy.refl w _) hb, rfl, by rw [hkeep, List.map_take, ← ht, List.take_take, Nat.min_eq_left (by omega)], by rw [hkeep, List.length_take]; omega, rfl, by omega, by omega⟩
    have HD := Aside0.mk hD
    have hne1 : ((i0 : Int) == -1) = false := beq_eq_false_iff_ne.2 (by omega)
    have hxl : i0 < xs.length := hi0
    have HT := Aside0.mk ht
    have HK := Aside0.mk hk
    have hu := Tryd.underlying39
    clear hD hkeep hbef hki hi0 ei hf hk hg ht
    go_enter Tryd.func31, Tryd.ntmps31
    go_wp2_with (go_at_call 30; (with_reducible refine (HI.out).mono ?_); rintro e w1 ⟨rfl, hb⟩)
    have HD1 := Aside0.mk (HD.out w1 hb)
    clear HD hb HI
    go_loopg [5, 6] (xs.length + 1) (fun kq v5 v6 wr => ∃ (i j : Nat) (dk : List (Value × Value)), v5 = .int .i64 (i : Int) ∧ v6 = .int .i64 (j : Int) ∧ Aside0 (j ≤ xs.length ∧ xs.length + 1 ≤ kq + j) ∧ Aside0 (Del w wr g full xs rk i j dk))
    case atStart => exact ⟨i0, i0 + 1, full, rfl, by go_num, ⟨by omega, by omega⟩, HD1⟩
    case round =>
      clear HD1
      obtain ⟨i, j, dk, rfl, rfl, HX, HD⟩ := hrel
      by_cases hlt : j < xs.length
      · have hz : (j : Int) < (xs.length : Int) := by omega
        have hj0 : 0 ≤ (j : Int) := by omega
        have hi0 : 0 ≤ (i : Int) := by omega
        have hiz : (i : Int) < (xs.length : Int) := by have := HD.out.ij; omega
        have hdj : dk[j]? = some (pr (xs.getD j default)) := by
          have : (dk.drop j)[0]? = (full.drop j)[0]? := by rw [HD.out.back]
          simp only [List.getElem?_drop, Nat.add_zero] at this
          rw [this]; exact take_of HT.out hlt
        have hc1 : wr.cell? ⟨g, j * 2, none⟩ = some (.string (xs.getD j default).1) := (blk_cell HD.out.blk _).trans (by simpa [pr] using (flat_get _ _ _ hdj).1)
        have hc2 : wr.cell? ⟨g, j * 2 + 1, none⟩ = some (.string (xs.getD j default).2) := (blk_cell HD.out.blk _).trans (by simpa [pr] using (flat_get _ _ _ hdj).2)
        have hgl := blk_lt HD.out.blk
        have HC := Aside0.mk (fun W (hb : Below wr.heap.size wr W) => closure_ B rk rv (xs.getD j default) W ((hb.cell (by show B < wr.heap.size; have := HD.out.gr.size; omega)).trans ((World.cell?_of_block (HD.out.gr.block B hB (by intro e; injection e with e; exact hne e))).trans HK.out)))
        obtain ⟨⟨p1, p2⟩, hdi⟩ : ∃ p, dk[i]? = some p := ⟨_, List.getElem?_eq_getElem (by have := HD.out.ij; have := HD.out.len; omega)⟩
        have hi1 : ∀ W, Below wr.heap.size wr W → W.cell? ⟨g, i * 2, none⟩ = some p1 ∧ W.cell? ⟨g, i * 2 + 1, none⟩ = some p2 ∧ W.frozen? ⟨g, i * 2, none⟩ = false ∧ W.frozen? ⟨g, i * 2 + 1, none⟩ = false := fun W hb => by
          have hbk := blk_below HD.out.blk hb
          exact ⟨(blk_cell hbk _).trans (by simpa using (flat_get _ _ _ hdi).1), (blk_cell hbk _).trans (by simpa using (flat_get _ _ _ hdi).2), blk_frozen hbk _, blk_frozen hbk _⟩
        have HI1 := Aside0.mk hi1
        obtain ⟨b, hb⟩ : ∃ b, isKey rk (xs.getD j default) = b := ⟨_, rfl⟩
        have HS := Aside0.mk hb
        rw [hb] at HC
        obtain ⟨x, hx⟩ : ∃ x, xs.getD j default = x := ⟨_, rfl⟩
        rw [hx] at hc1 hc2 HC
        have HXX := Aside0.mk hx
        clear hdj hdi hb hx hi1
        cases b with
        | true =>
          go_wp2_with (go_at_call 29; (with_reducible refine (HC.out _ ((Below.refl _ _).alloc (Nat.le_refl _) _)).mono ?_); rintro e w1 ⟨rfl, hb1⟩)
          have hbw : Below wr.heap.size wr w1 := below_then ((Below.refl _ _).alloc (Nat.le_refl _) _) (by simp) hb1
          go_roundg (gk - 1)
          case measure => have := HX.out; omega
          case rel => exact ⟨i, j + 1, dk, rfl, by go_num, ⟨by omega, by have := HX.out; omega⟩, ⟨HD.out.skip hbw hlt HS.out⟩⟩
        | false =>
          go_wp2_with (go_at_call 29; (with_reducible refine (HC.out _ ((Below.refl _ _).alloc (Nat.le_refl _) _)).mono ?_); rintro e w1 ⟨rfl, hb1⟩; have hbw : Below wr.heap.size wr w1 := below_then ((Below.refl _ _).alloc (Nat.le_refl _) _) (by simp) hb1; have k1 : w1.cell? ⟨wr.heap.size, 0, none⟩ = some (.string x.1) := (hb1.cell (by simp)).trans (by simp); have k2 : w1.cell? ⟨wr.heap.size, 1, none⟩ = some (.string x.2) := (hb1.cell (by simp)).trans (by simp); obtain ⟨k3, k4, k5, k6⟩ := HI1.out _ hbw)
          go_roundg (gk - 1)
          case measure => have := HX.out; omega
          case rel => exact ⟨i + 1, j + 1, _, by go_num, by go_num, ⟨by omega, by have := HX.out; omega⟩, ⟨by have h := HD.out.put hbw hlt (by omega) HS.out; rw [HXX.out] at h; exact h⟩⟩
      · have hjn : j = xs.length := by have := HX.out; omega
        subst hjn
        have hz : ¬ (xs.length : Int) < (xs.length : Int) := by omega
        have hi0 : 0 ≤ (i : Int) := by omega
        have hiz : (i : Int) < (xs.length : Int) := by have := HD.out.ij; omega
        have hin : i < xs.length := HD.out.ij
        have hic : ¬ cap = i := by omega
        have hfull : (flat dk).length = cap * 2 := by rw [flat_len, HD.out.len, hcl]
        have hcl2 : ∀ ty c, (Builtin.clear_ #[22] ty #[.slice (some ⟨g, i * 2, none⟩) (xs.length - i) c]).run Tryd.prog wr = .ok (.tuple #[]) (wr.setCells g (i * 2) (flat (List.replicate (xs.length - i) (.string ⟨#[]⟩, .string ⟨#[]⟩)))) := fun ty c =>
          run_clear2 wr 22 39 ty (.string ⟨#[]⟩) (.string ⟨#[]⟩) Tryd.underlying22 zero39 rfl rfl g (i * 2) (xs.length - i) c (by omega) (fun q hq => by rw [blk_cell HD.out.blk, List.getElem?_toArray, List.getElem?_eq_getElem (by omega)]; rfl) (fun q hq => blk_frozen HD.out.blk _)
        go_wp2
        go_ret
        have hii := HD.out.ii
        have hfr := HD.out.front
        rw [List.take_length] at hii hfr
        have hdl := HD.out.len
        refine ⟨by rw [← hii]; rfl, dk.take i ++ List.replicate (xs.length - i) (.string ⟨#[]⟩, .string ⟨#[]⟩) ++ dk.drop xs.length, ?_, ?_, ?_, grown_setCells _ _ _ HD.out.gr⟩
        · rw [blk_setCells _ _ _ _ HD.out.blk (by rw [flat_len, List.length_replicate, flat_len]; omega)]
          rw [flat_len, List.length_replicate, show i * 2 + (xs.length - i) * 2 = xs.length * 2 by omega, flat_take, flat_drop, ← flat_app, ← flat_app]
        · rw [List.length_append, List.length_append, List.length_take, List.length_replicate, List.length_drop]; omega
        · rw [← hii, List.append_assoc, List.take_append_of_le_length (by rw [List.length_take]; omega), List.take_take, Nat.min_self, hfr]
/-! ### slices.Insert -/
theorem size39 : (Tryd.prog.info? 39).map (·.size) = some 2 := by kernel_rfl
theorem sizeOf39 : ∀ w, (Go.sizeOf 39).run Tryd.prog w = .ok 2 w := fun w => by kernel_rfl
theorem mid_take {α : Type} (a b c : List α) {i : Nat} (h : i ≤ a.length) : (a ++ b ++ c).take i = a.take i := by rw [List.append_assoc, List.take_append_of_le_length h]
theorem mid_drop {α : Type} (a b c : List α) {k : Nat} (h : a.length = k) : (a ++ b ++ c).drop k = b ++ c := by rw [List.append_assoc, ← h, List.drop_left]
theorem encS_one (x : S) : ∀ v ∈ encS x, v.oneCell' = true := fun v hv => by
  rcases List.mem_cons.1 hv with rfl | hm
  · rfl
  · rw [List.mem_singleton.1 hm]; rfl
set_option maxHeartbeats 4000000 in
set_option maxRecDepth 100000 in
/-- there is room, ahead of the end: in place. -/
theorem insert_shift (g cap i vb vc : Nat) (full : List (Value × Value)) (xs : List S) (x : S) (w : World) (hg : w.heap[g]? = some (.cells (flat full).toArray 39 (0, 0))) (hcl : full.length = cap) (ht : full.take xs.length = xs.map pr) (hn : xs.length + 1 ≤ cap) (hcap : xs.length ≤ 1099511627776)
    (hi : i < xs.length) (hne : vb ≠ g) (hv : w.heap[vb]? = some (.cells (encS x).toArray 39 (0, 0))) :
    Calls Tryd.prog 32 #[.slice (some ⟨g, 0, none⟩) xs.length cap, .int .i64 (i : Int), .slice (some ⟨vb, 0, none⟩) 1 vc] w fun e w' => ∃ full', e = .returned (.slice (some ⟨g, 0, none⟩) (xs.length + 1) cap) ∧ w'.heap[g]? = some (.cells (flat full').toArray 39 (0, 0)) ∧ full'.length = cap ∧ full'.take (xs.length + 1) = (xs.take i ++ x :: xs.drop i).map pr ∧ w.grownBy w' (some g) := by
  have hz1 : ¬ ((i : Int) = (xs.length : Int)) := by omega
  have hsa : w.shape? vb = some (39, 2) := by simp [World.shape?, hv, encS]
  have hsb : w.shape? g = some (39, cap * 2) := by simp [World.shape?, hg, flat_len, hcl]
  have hov : ∀ lb cb, (callFunc 38 #[.slice (some ⟨vb, 0, none⟩) 1 vc, .slice (some ⟨g, (i + 1) * 2, none⟩) lb cb]).run Tryd.prog w = .ok (.value (.bool false)) w := fun lb cb => by
    rw [run_callFunc_extern Tryd.func38 (by kernel_rfl) (by kernel_rfl) (by kernel_rfl) (e := Extern.SlicesOverlaps.overlaps #[22, 22] #[4]) (by kernel_rfl),
      Lib.run_overlaps_apart w 22 4 39 Tryd.underlying22 2 sizeOf39 ⟨vb, 0, none⟩ ⟨g, (i + 1) * 2, none⟩ 1 vc lb cb hne 39 39 2 (cap * 2) hsa hsb (by omega) (blk_frozen hv _) (blk_frozen hv _)]
    rfl
  have hw1 : IntKind.i64.wrap ((i : Int) + 1) = (i : Int) + 1 := by rw [IntKind.wrap_i64]; omega
  have hw2 : IntKind.i64.wrap ((xs.length : Int) + 1) = (xs.length : Int) + 1 := by rw [IntKind.wrap_i64]; omega
  have hb1 : (0 : Int) ≤ (i : Int) + 1 := by omega
  have hb5 : (0 : Int) ≤ (xs.length : Int) + 1 := by omega
  have hin : i ≤ xs.length := by omega
  have htn : ((i : Int) + 1).toNat = i + 1 := by omega
  have htn2 : ((xs.length : Int) + 1).toNat = xs.length + 1 := by omega
  have hb2 : ¬ (cap = i + 1) := by omega
  have hb3 : (i : Int) ≤ (xs.length : Int) + 1 := by omega
  have hb4 : ¬ (cap = i) := by omega
  have hb0 : ¬ (cap = 0) := by omega
  have hb6 : (xs.length : Int) + 1 ≤ (cap : Int) := by omega
  have hb7 : ¬ ((cap : Int) < (xs.length : Int) + 1) := by omega
  have hb8 : (i : Int) + 1 ≤ (xs.length : Int) + 1 := by omega
  obtain ⟨src, hsrc⟩ : ∃ src, (xs.drop i).map pr = src := ⟨_, rfl⟩
  have hsl : src.length = xs.length - i := by rw [← hsrc]; simp
  have hfl : (flat full).length = cap * 2 := by rw [flat_len, hcl]
  have hmid : (full.drop i).take (xs.length - i) = src := by
    have : (full.take xs.length).drop i = (xs.map pr).drop i := by rw [ht]
    rw [List.drop_take] at this
    rw [this, ← hsrc, List.map_drop]
  have hsc : ∀ j v, (flat src)[j]? = some v → w.drew.cell? ((⟨g, i * 2, none⟩ : Addr).add j) = some v := fun j v hj => by
    rw [Addr.add_lit]
    show w.cell? ⟨g, i * 2 + j, none⟩ = _
    have hjl : j < (flat src).length := (List.getElem?_eq_some_iff.1 hj).1
    rw [flat_len, hsl] at hjl
    rw [blk_cell hg, List.getElem?_toArray]
    rw [← hmid, ← flat_take, ← flat_drop, List.getElem?_take_of_lt (by omega), List.getElem?_drop] at hj
    exact hj
  have hone : ∀ v ∈ flat src, v.oneCell' = true := fun v hv' => by
    rw [← hsrc, flat_pr] at hv'
    obtain ⟨p, _, hm⟩ := List.mem_flatMap.1 hv'
    rcases List.mem_cons.1 hm with rfl | hm
    · rfl
    · rw [List.mem_singleton.1 hm]; rfl
  have hcp1 : ∀ ty dc sc, (Builtin.copy_ #[22, 22] ty #[.slice (some ⟨g, (i + 1) * 2, none⟩) (xs.length - i) dc, .slice (some ⟨g, i * 2, none⟩) (xs.length + 1 - i) sc]).run Tryd.prog w.drew = .ok (goInt (Nat.min (xs.length + 1 - i) (xs.length - i))) (w.drew.setCells g ((i + 1) * 2) (flat src)) := fun ty dc sc =>
    run_copy2 w.drew _ _ ty 39 g ((i + 1) * 2) (xs.length - i) dc ⟨g, i * 2, none⟩ (xs.length + 1 - i) sc (flat src) Tryd.underlying22 size39 (by rw [flat_len, hsl]; simp only [Nat.min_def]; split <;> omega) hsc
      (fun j hj => by rw [flat_len, hsl] at hj; show (w.cell? _).isSome = true; rw [blk_cell hg, List.getElem?_toArray, List.getElem?_eq_getElem (by omega)]; rfl) (fun j hj => blk_frozen (w := w.drew) hg _) hone
  obtain ⟨W1, hW1⟩ : ∃ W1, W1 = w.drew.setCells g ((i + 1) * 2) (flat src) := ⟨_, rfl⟩
  have hg1 : W1.heap[g]? = some (.cells (flat (full.take (i + 1) ++ src ++ full.drop (xs.length + 1))).toArray 39 (0, 0)) := by
    rw [hW1, blk_setCells _ _ _ _ (show w.drew.heap[g]? = _ from hg) (by rw [flat_len, hsl]; omega)]
    rw [flat_len, hsl, show (i + 1) * 2 + (xs.length - i) * 2 = (xs.length + 1) * 2 by omega, flat_take, flat_drop, ← flat_app, ← flat_app]
  have hgr1 : w.grownBy W1 (some g) := by rw [hW1]; exact grown_setCells _ _ _ ⟨rfl, rfl, rfl, Nat.le_refl _, fun _ _ _ => rfl⟩
  have hv1 : W1.heap[vb]? = some (.cells (encS x).toArray 39 (0, 0)) := (hgr1.block vb (blk_lt hv) (by intro e; injection e with e; exact hne e)).trans hv
  have hl1 : (flat (full.take (i + 1) ++ src ++ full.drop (xs.length + 1))).length = cap * 2 := by
    rw [flat_len, List.length_append, List.length_append, List.length_take, List.length_drop, hsl]; omega
  have hcp2 : ∀ ty dc, (Builtin.copy_ #[22, 22] ty #[.slice (some ⟨g, i * 2, none⟩) (xs.length + 1 - i) dc, .slice (some ⟨vb, 0, none⟩) 1 vc]).run Tryd.prog W1 = .ok (goInt (Nat.min 1 (xs.length + 1 - i))) (W1.setCells g (i * 2) (encS x)) := fun ty dc =>
    run_copy2 W1 _ _ ty 39 g (i * 2) (xs.length + 1 - i) dc ⟨vb, 0, none⟩ 1 vc (encS x) Tryd.underlying22 size39 (by simp only [encS, Nat.min_def]; split <;> simp; omega)
      (fun j v hj => by rw [Addr.add_lit, Nat.zero_add, blk_cell hv1]; simpa using hj)
      (fun j hj => by rw [blk_cell hg1, List.getElem?_toArray, List.getElem?_eq_getElem (by simp [encS] at hj; omega)]; rfl) (fun j hj => blk_frozen hg1 _) (encS_one x)
  rw [← hW1] at hcp1
  have HW := Aside0.mk hW1
  have HMID := Aside0.mk hmid
  have HSRC := Aside0.mk hsrc
  have HG1 := Aside0.mk hg1
  have HGR := Aside0.mk hgr1
  have HT := Aside0.mk ht
  clear hW1 hmid hsrc hg1 hgr1 hv1 hsc hone hsa hsb hg hv ht hsl hl1
  go_enter Tryd.func32, Tryd.ntmps32
  go_wp2_with (simp only [hov])
  go_region_law (refine step_copy_runI rfl _ _ 22 22 rfl _ _ (by simp [Act.eval, Act.put]) (by simp [Act.eval, Act.put]) (hcp1 _ _ _) ?_)
  go_wp2_with (at_builtin; refine wpList_copy_runI _ rfl _ _ 22 22 rfl _ _ rfl rfl (hcp2 _ _) ?_)
  go_ret
  have hsl : src.length = xs.length - i := by rw [← HSRC.out]; simp
  refine ⟨full.take i ++ pr x :: (src ++ full.drop (xs.length + 1)), rfl, ?_, ?_, ?_, grown_setCells _ _ _ HGR.out⟩
  · rw [blk_setCells _ _ _ _ HG1.out (by rw [flat_len, List.length_append, List.length_append, List.length_take, List.length_drop, hsl]; simp [encS]; omega)]
    have e : (encS x) = flat [pr x] := rfl
    rw [e, flat_len, List.length_singleton, show i * 2 + 1 * 2 = (i + 1) * 2 by omega, flat_take, flat_drop, ← flat_app, ← flat_app]
    rw [mid_take _ _ _ (by rw [List.length_take]; omega), List.take_take, Nat.min_eq_left (by omega), mid_drop _ _ _ (by rw [List.length_take]; omega)]
    simp
  · rw [List.length_append, List.length_cons, List.length_append, List.length_take, List.length_drop, hsl]; omega
  · have e4 : (full.take i ++ pr x :: src).length = xs.length + 1 := by rw [List.length_append, List.length_cons, List.length_take, hsl]; omega
    have e5 : full.take i = (xs.take i).map pr := by rw [List.map_take, ← HT.out, List.take_take, Nat.min_eq_left (by omega)]
    rw [show full.take i ++ pr x :: (src ++ full.drop (xs.length + 1)) = (full.take i ++ pr x :: src) ++ full.drop (xs.length + 1) by simp, List.take_left' e4, List.map_append, List.map_cons, HSRC.out, e5]
set_option maxHeartbeats 4000000 in
set_option maxRecDepth 100000 in
/-- there is room, at the end: in place. -/
theorem insert_end (g cap vb vc : Nat) (full : List (Value × Value)) (xs : List S) (x : S) (w : World) (hg : w.heap[g]? = some (.cells (flat full).toArray 39 (0, 0))) (hcl : full.length = cap) (ht : full.take xs.length = xs.map pr) (hn : xs.length + 1 ≤ cap) (hcap : xs.length ≤ 1099511627776)
    (hv : w.heap[vb]? = some (.cells (encS x).toArray 39 (0, 0))) :
    Calls Tryd.prog 32 #[.slice (some ⟨g, 0, none⟩) xs.length cap, .int .i64 (xs.length : Int), .slice (some ⟨vb, 0, none⟩) 1 vc] w fun e w' => ∃ full', e = .returned (.slice (some ⟨g, 0, none⟩) (xs.length + 1) cap) ∧ w'.heap[g]? = some (.cells (flat full').toArray 39 (0, 0)) ∧ full'.length = cap ∧ full'.take (xs.length + 1) = (xs ++ [x]).map pr ∧ w.grownBy w' (some g) := by
  have hfl : (flat full).length = cap * 2 := by rw [flat_len, hcl]
  obtain ⟨i0, hi0, hz0⟩ := Option.map_eq_some_iff.1 size39
  have hrun : ∀ ty, (Builtin.append_ #[22, 22] ty #[.slice (some ⟨g, 0, none⟩) xs.length cap, .slice (some ⟨vb, 0, none⟩) 1 vc]).run Tryd.prog w = _ := fun ty =>
    run_append_room (P := Tryd.prog) w 22 ty 39 i0 Tryd.underlying22 hi0 g xs.length cap (flat full).toArray hg ⟨vb, 0, none⟩ 1 vc (encS x) (by rw [hz0]; simp [encS]) (fun j u hj => by rw [Addr.add_lit, Nat.zero_add, blk_cell hv]; simpa using hj) (encS_one x) hn (by rw [hz0]; simp [encS, flat_len]; omega)
  rw [hz0] at hrun
  go_enter Tryd.func32, Tryd.ntmps32
  go_wp2_with (at_builtin; refine Lib.wpList_append_run _ rfl _ _ _ _ rfl _ _ rfl rfl _ _ (hrun _) ?_)
  go_ret
  refine ⟨rfl, full.take xs.length ++ pr x :: full.drop (xs.length + 1), ?_, ?_, ?_, ⟨rfl, rfl, rfl, by simp, fun k _ hk => setRow_other w g k _ (fun e => hk (by rw [e]))⟩⟩
  · rw [setRow_heap w g _ _ 39 _ hg]
    congr 2
    rw [show (encS x).length = 2 from rfl, show xs.length * 2 + 2 = (xs.length + 1) * 2 by omega, flat_take, flat_drop, show encS x = flat [pr x] from rfl, ← flat_app, ← flat_app]
    simp
  · rw [List.length_append, List.length_cons, List.length_take, List.length_drop]; omega
  · rw [show full.take xs.length ++ pr x :: full.drop (xs.length + 1) = (full.take xs.length ++ [pr x]) ++ full.drop (xs.length + 1) by simp, List.take_left' (by rw [List.length_append, List.length_take, List.length_singleton]; omega), ht]

/-! ### pax.Merge -/
def live (x : S) : Bool := !(x.2.toList == [])
def mergeS (out : List S) (r : S) : List S := if live r = true then match out.findIdx? (isKey r.1) with | none => keep r.1 out ++ [r] | some i => (keep r.1 out).take i ++ r :: (keep r.1 out).drop i else keep r.1 out
theorem flat_inj : ∀ {f g : List (Value × Value)}, flat f = flat g → f = g
  | [], [], _ => rfl
  | [], q :: g, h => by rw [flat_cons] at h; cases h
  | p :: f, [], h => by rw [flat_cons] at h; cases h
  | p :: f, q :: g, h => by
    rw [flat_cons, flat_cons] at h
    injection h with h1 h
    injection h with h2 h
    rw [flat_inj h, Prod.ext h1 h2]
theorem reps_flat {R : S → List Value → Prop} (hR : ∀ p c, R p c → c = encS p) : ∀ (xs : List S) (inner : List Value), Reps R 2 xs inner → inner = flat (xs.map pr)
  | [], inner, h => List.eq_nil_of_length_eq_zero (by simpa using h.1)
  | x :: t, inner, h => by
    have h0 := hR _ _ (h.2 0 x rfl)
    rw [Nat.zero_mul, List.drop_zero] at h0
    have h1 := reps_flat hR t (inner.drop 2) ⟨by rw [List.length_drop, h.1, List.length_cons]; omega, fun j p hj => by
      have := h.2 (j + 1) p (by simpa using hj)
      rwa [show (j + 1) * 2 = 2 + j * 2 by omega, ← List.drop_drop] at this⟩
    rw [List.map_cons, flat_cons, ← h1, ← List.take_append_drop 2 inner, h0]
    simp [encS, pr]
theorem flat_reps {R : S → List Value → Prop} (hR : ∀ p, R p (encS p)) : ∀ xs : List S, Reps R 2 xs (flat (xs.map pr))
  | [] => Reps.none _ _
  | x :: t => by rw [List.map_cons, flat_cons]; exact Reps.c2 (hR x) (flat_reps hR t)
/-- a row of this call's own, as R tells it, and as a block. -/
theorem R_open {w : World} {base : Nat} {v : Value} {xs : List S} (h : Kd.R kS 39 w base (fun _ => True) v xs) : (v = .slice none 0 0 ∧ xs = []) ∨ ∃ g cap full, v = .slice (some ⟨g, 0, none⟩) xs.length cap ∧ base ≤ g ∧ w.heap[g]? = some (.cells (flat full).toArray 39 (0, 0)) ∧ full.length = cap ∧ full.take xs.length = xs.map pr ∧ xs.length ≤ cap ∧ cap ≤ maxLen := by
  obtain ⟨_, inner, hown, hr⟩ := h
  rcases hown.2 with ⟨rfl, hn⟩ | ⟨g, cap, cur, rfl, hb, hg, h1, h2, h3, h4⟩
  · exact .inl ⟨rfl, List.eq_nil_of_length_eq_zero hn⟩
  · right
    obtain ⟨full, hf, hfl⟩ := unflat cap cur.toList (by rw [Array.length_toList]; exact h3)
    refine ⟨g, cap, full, rfl, hb, by rw [hg, ← hf], hfl, ?_, h1, h2⟩
    have hi := reps_flat (fun p c hp => kS_openM hp) xs inner hr
    refine flat_inj ?_
    rw [← flat_take, ← hf, ← hi]
    exact h4
theorem R_shut {w : World} {base g cap : Nat} {full : List (Value × Value)} {xs : List S} (hb : base ≤ g) (hg : w.heap[g]? = some (.cells (flat full).toArray 39 (0, 0))) (hl : full.length = cap) (ht : full.take xs.length = xs.map pr) (h1 : xs.length ≤ cap) (h2 : cap ≤ maxLen) : Kd.R kS 39 w base (fun _ => True) (.slice (some ⟨g, 0, none⟩) xs.length cap) xs :=
  ⟨fun _ _ => trivial, flat (xs.map pr), ⟨by rw [flat_len, List.length_map]; rfl, .inr ⟨g, cap, (flat full).toArray, rfl, hb, hg, h1, h2, by simp [flat_len, hl]; rfl, by
    show (flat full).take (xs.length * 2) = _
    rw [flat_take, ht]⟩⟩, flat_reps (fun p => kS_mkM _ _ _ p) xs⟩
end Go.Proofs.YtfnicahlnpngkaaDoor.MergeW
