/- zipdir.great, walked by hand: what it comes to. ZipdirBack: the printed namespace. -/
import Derived.Test.YtfnicahlnpngkaaExtraOfZipdirBack
import Derived.Test.YtfnicahlnpngkaaExtraBigOfZipdirBack
import Derived.Test.YtfnicahlnpngkaaZipRdr
set_option linter.unusedVariables false
set_option linter.unusedSimpArgs false
namespace Go.Proofs.Ytfnicahlnpngkaa.ZipGreatOfZipdirBack
open Go.RowKit Go.Proofs.YtfnicahlnpngkaaW.PrintWords Go.Proofs.YtfnicahlnpngkaaW.PrintLast Go.Proofs.YtfnicahlnpngkaaW.PrintMore Go.Proofs.Ytfnicahlnpngkaa.Base Go.Proofs.Ytfnicahlnpngkaa.NumRead Go.Proofs.Ytfnicahlnpngkaa.ExtraNum Go.Proofs.Ytfnicahlnpngkaa.ZipRd Go.Proofs.Ytfnicahlnpngkaa.ZipNums Go.Proofs.Ytfnicahlnpngkaa.ZipCom Go.Proofs.Ytfnicahlnpngkaa.PZipdirBack Go.Proofs.Ytfnicahlnpngkaa.ExtraOfZipdirBack Go.Proofs.Ytfnicahlnpngkaa.ExtraBigOfZipdirBack
theorem info4 : (Try.prog.info? 4).map (fun i => (i.zero, i.size, i.bytes)) = some (some (.bool false), 1, 1) := by kernel_rfl
def wants (vs : List Int) : List Bool := vs.map fun v => v == 4294967295
def pick (vs xs : List Int) : List Int := List.zipWith (fun v x => if v = 4294967295 then x else v) vs xs
def keepX (l : List S38) : List S38 := l.filter fun f => f.f0 != 1
theorem big_set : ∀ (d : ByteArray) (ws : List Bool) (at_ : Int) (j : Nat) (xs r : List Int), bigGo d ws at_ j xs = some r → r.length = xs.length
  | d, [], _, _, xs, r, h => by rw [bigGo] at h; injection h with h; rw [h]
  | d, false :: ws, at_, j, xs, r, h => by rw [bigGo] at h; exact big_set d ws at_ (j + 1) xs r h
  | d, true :: ws, at_, j, xs, r, h => by
    rw [bigGo] at h
    split at h
    · cases h
    · have := big_set d ws _ _ _ r h
      rwa [List.length_set] at this
theorem bigRes_len {ws : List Bool} {v : List Int} : ∀ l : List S38, bigRes ws l = (v, 0) → v.length = ws.length
  | [], h => by rw [bigRes] at h; cases h
  | x :: l, h => by
    rw [bigRes] at h
    split at h
    · split at h
      · split at h
        · cases h
        · rename_i v' hv
          injection h with h _
          subst h
          rw [big_set _ _ _ _ _ _ hv, List.length_replicate]
      · cases h
    · exact bigRes_len l h
theorem big_len {l : List S38} {ws : List Bool} {v : List Int} (h : extra_Big.f l ws = some (v, 0)) : v.length = ws.length := by
  unfold extra_Big.f at h
  split at h
  · injection h with h
    split at h
    · injection h with h _; rw [← h, List.length_replicate]
    · exact bigRes_len l h
  · cases h
/-- the places of a member's block that hold the numbers. -/
structure Offs (ms : Array Value) (offs : List Nat) (vs : List Int) : Prop where
  len : vs.length = offs.length
  at_ : ∀ i, i < offs.length → ms[offs.getD i 0]? = some (.int .i64 (vs.getD i 0))
  nd : ∀ i j, i < offs.length → j < offs.length → offs.getD i 0 = offs.getD j 0 → i = j
  n9 : ∀ i, i < offs.length → offs.getD i 0 ≠ 9
theorem wants_step {vs : List Int} {i : Nat} {x : Int} (h : i < vs.length) (hx : vs.getD i 0 = x) : wants (vs.take i) ++ [decide (x = 4294967295)] = wants (vs.take (i + 1)) := by
  rw [List.take_succ_eq_append_getElem h, wants, wants, List.map_append]
  have : vs[i] = x := by rw [← hx]; simp [h]
  simp [this]
  exact rfl
theorem wants_at {vs : List Int} {i : Nat} (h : i < vs.length) : rdOf false (wants vs) (i : Int) = decide (vs.getD i 0 = 4294967295) := by
  simp [rdOf, wants, h]
  exact rfl
theorem pick_at {vs xs : List Int} {i : Nat} (h : i < vs.length) (h2 : xs.length = vs.length) : (pick vs xs).getD i 0 = if vs.getD i 0 = 4294967295 then xs.getD i 0 else vs.getD i 0 := by
  have h3 : i < xs.length := by omega
  simp [pick, List.getElem?_zipWith, h, h3]
/-- the member's block while the numbers are put in: i of them stand. -/
structure Mid (w2 wr : World) (M : Nat) (ms : Array Value) (offs : List Nat) (vs ps : List Int) (i : Nat) (mi : Array Value) : Prop where
  blk : wr.heap[M]? = some (.cells mi 78 (0, 0))
  other : ∀ g, g ≠ M → wr.heap[g]? = w2.heap[g]?
  sz : wr.heap.size = w2.heap.size
  low : ∀ n, n ≤ M → Below n w2 wr
  size : mi.size = ms.size
  put : ∀ k, k < offs.length → mi[offs.getD k 0]? = some (.int .i64 (if k < i then ps.getD k 0 else vs.getD k 0))
  rest : ∀ j, (∀ k, k < offs.length → offs.getD k 0 ≠ j) → mi[j]? = ms[j]?
theorem Mid.start {w2 : World} {M : Nat} {ms : Array Value} {offs : List Nat} {vs ps : List Int} (h : w2.heap[M]? = some (.cells ms 78 (0, 0))) (hO : Offs ms offs vs) : Mid w2 w2 M ms offs vs ps 0 ms :=
  ⟨h, fun _ _ => rfl, rfl, fun _ _ => Below.refl _ _, rfl, fun k hk => by rw [if_neg (by omega)]; exact hO.at_ k hk, fun _ _ => rfl⟩
theorem Mid.skip {w2 wr : World} {M : Nat} {ms mi : Array Value} {offs : List Nat} {vs ps : List Int} {i : Nat} (h : Mid w2 wr M ms offs vs ps i mi) (he : ps.getD i 0 = vs.getD i 0) : Mid w2 wr M ms offs vs ps (i + 1) mi := by
  refine ⟨h.blk, h.other, h.sz, h.low, h.size, fun k hk => ?_, h.rest⟩
  rw [h.put k hk]
  by_cases hki : k = i
  · subst hki; rw [if_neg (by omega), if_pos (by omega), he]
  · by_cases h1 : k < i
    · rw [if_pos h1, if_pos (by omega)]
    · rw [if_neg h1, if_neg (by omega)]
theorem Mid.step {w2 wr : World} {M : Nat} {ms mi : Array Value} {offs : List Nat} {vs ps : List Int} {i : Nat} (h : Mid w2 wr M ms offs vs ps i mi) (hO : Offs ms offs vs) (hi : i < offs.length) {q : Nat} (hq : offs.getD i 0 = q) {x : Int} (hx : ps.getD i 0 = x) :
    Mid w2 (wr.setCell ⟨M, q, none⟩ (.int .i64 x)) M ms offs vs ps (i + 1) (mi.setIfInBounds q (.int .i64 x)) := by
  subst hq hx
  refine ⟨blk_set h.blk _ _, fun g hg => ?_, ?_, fun n hn => ?_, by simpa using h.size, fun k hk => ?_, fun j hj => ?_⟩
  · rw [Below.heap_setCell _ _ _ _ (by exact hg)]; exact h.other g hg
  · rw [← h.sz]; simp [World.setCell]
  · exact Below.setCell (h.low n hn) (by exact hn) _
  · rw [Array.getElem?_setIfInBounds]
    by_cases hki : i = k
    · subst hki
      have := h.put i hi
      have hlt : offs.getD i 0 < mi.size := by
        obtain ⟨h1, _⟩ := Array.getElem?_eq_some_iff.1 this
        exact h1
      rw [if_pos rfl, if_pos hlt, if_pos (by omega)]
    · rw [if_neg (fun e => hki (hO.nd _ _ hi hk e)), h.put k hk]
      by_cases h1 : k < i
      · rw [if_pos h1, if_pos (by omega)]
      · rw [if_neg h1, if_neg (by omega)]
  · rw [Array.getElem?_setIfInBounds, if_neg (hj i hi)]; exact h.rest j hj
theorem Mid.keep {w2 wr : World} {M : Nat} {ms mi : Array Value} {offs : List Nat} {vs ps : List Int} {i : Nat} (h : Mid w2 wr M ms offs vs ps i mi) : KeepBut w2 wr M none := ⟨by rw [h.sz]; exact Nat.le_refl _, fun k _ hk _ => h.other k hk⟩
theorem keepX_step {l : List S38} {k : Nat} (h : k < l.length) : keepX (l.take (k + 1)) = keepX (l.take k) ++ (if (rd_T38 l (k : Int)).f0 = 1 then [] else [rd_T38 l (k : Int)]) := by
  have e : rd_T38 l (k : Int) = l[k] := by simp [rd_T38, h]
  rw [List.take_succ_eq_append_getElem h, keepX, keepX, List.filter_append, e]
  congr 1
  by_cases hh : l[k].f0 = 1
  · rw [if_pos hh]; simp [hh]
  · rw [if_neg hh]; simp [hh]
theorem keepX_len (l : List S38) (k : Nat) : (keepX (l.take k)).length ≤ l.length := by
  rw [keepX]
  have h1 := List.length_filter_le (fun f : S38 => f.f0 != 1) (l.take k)
  have h2 : (l.take k).length ≤ l.length := by rw [List.length_take]; omega
  omega
/-- the member's block while the fields are kept. -/
structure Fin3 (wz wr : World) (M : Nat) (mi mk : Array Value) (v9 : Value) (l : List S38) : Prop where
  blk : wr.heap[M]? = some (.cells mk 78 (0, 0))
  nine : mk[9]? = some v9
  rest : ∀ j, j ≠ 9 → mk[j]? = mi[j]?
  own : Kd.R k38 38 wr wz.heap.size (fun _ => True) v9 l
  sz : wz.heap.size ≤ wr.heap.size
  other : ∀ g, g < wz.heap.size → g ≠ M → wr.heap[g]? = wz.heap[g]?
  low : ∀ n, n ≤ M → Below n wz wr
theorem Fin3.keep {wz wr : World} {M : Nat} {mi mk : Array Value} {v9 : Value} {l : List S38} (h : Fin3 wz wr M mi mk v9 l) : KeepBut wz wr M none := ⟨h.sz, fun k hk hne _ => h.other k hk hne⟩
theorem Fin3.below {wz wr w1 : World} {M : Nat} {mi mk : Array Value} {v9 : Value} {l : List S38} (h : Fin3 wz wr M mi mk v9 l) (hM : M < wz.heap.size) (hb : Below wr.heap.size wr w1) : Fin3 wz w1 M mi mk v9 l :=
  ⟨blk_below h.blk hb, h.nine, h.rest, Kd.R_below h.own hb, Nat.le_trans h.sz hb.size, fun g hg hne => (hb.block g (Nat.lt_of_lt_of_le hg h.sz)).trans (h.other g hg hne), fun n hn => below_then (h.low n hn) (by have := h.sz; omega) hb⟩
theorem Fin3.push {wz wr w1 : World} {M : Nat} {mi mk : Array Value} {v9 v1 : Value} {l l1 : List S38} (h : Fin3 wz wr M mi mk v9 l) (hM : M < wz.heap.size) (hR : Kd.R k38 38 w1 wz.heap.size (fun _ => True) v1 l1) (hb : Below wz.heap.size wr w1) : Fin3 wz (w1.setCell ⟨M, 9, none⟩ v1) M mi (mk.setIfInBounds 9 v1) v1 l1 := by
  have h9 : 9 < mk.size := (Array.getElem?_eq_some_iff.1 h.nine).1
  refine ⟨blk_set ((hb.block M hM).trans h.blk) 9 v1, ?_, fun j hj => ?_, ?_, ?_, fun g hg hne => ?_, fun n hn => ?_⟩
  · rw [Array.getElem?_setIfInBounds, if_pos rfl, if_pos h9]
  · rw [Array.getElem?_setIfInBounds, if_neg (fun e => hj e.symm)]; exact h.rest j hj
  · exact Kd.R_mono (Kd.R_far (Kd.R_bound hR) (p := ⟨M, 9, none⟩) (fun k hk => by show k ≠ M; have := hk.2.1; omega) v1) (fun _ _ => trivial)
  · have := hb.size; have := h.sz; simp [World.setCell]; omega
  · rw [Below.heap_setCell _ _ _ _ (by exact hne)]; exact (hb.block g hg).trans (h.other g hg hne)
  · exact Below.setCell ((h.low n hn).trans ⟨hb.os, hb.tape, hb.output, hb.size, fun k hk => hb.block k (by omega)⟩) (by exact hn) _
theorem Fin3.start {wz : World} {M : Nat} {mi : Array Value} (h : wz.heap[M]? = some (.cells mi 78 (0, 0))) (h9 : mi[9]? = some (.slice none 0 0)) : Fin3 wz wz M mi mi (.slice none 0 0) [] :=
  ⟨h, h9, fun _ _ => rfl, Kd.R_nil _ _ _ _ _, Nat.le_refl _, fun _ _ _ => rfl, fun _ _ => Below.refl _ _⟩
/-- what is behind where all went well. -/
def GreatPost (M : Nat) (ms : Array Value) (offs : List Nat) (ps : List Int) (r1 : List S38) (w : World) (e : Ending) (w' : World) : Prop :=
  ∃ mk v9, e = .returned (.bool true) ∧ w'.heap[M]? = some (.cells mk 78 (0, 0)) ∧ (∀ k, k < offs.length → mk[offs.getD k 0]? = some (.int .i64 (ps.getD k 0))) ∧ (∀ j, j ≠ 9 → (∀ k, k < offs.length → offs.getD k 0 ≠ j) → mk[j]? = ms[j]?) ∧ mk[9]? = some v9 ∧
    Kd.R k38 38 w' w.heap.size (fun _ => True) v9 (keepX r1) ∧ w.heap.size ≤ w'.heap.size ∧ (∀ g, g < w.heap.size → g ≠ M → w'.heap[g]? = w.heap[g]?) ∧ ∀ n, n ≤ M → Below n w w'
theorem great_done {w w2 wz wr : World} {M : Nat} {ms mi mk : Array Value} {v9 : Value} {offs : List Nat} {vs ps : List Int} {r1 : List S38} (hM : M < w.heap.size) (hO : Offs ms offs vs) (hb : Below w.heap.size w w2) (hI : Mid w2 wz M ms offs vs ps offs.length mi) (hF : Fin3 wz wr M mi mk v9 (keepX r1)) : GreatPost M ms offs ps r1 w (.returned (.bool true)) wr := by
  have h1 := hb.size
  have h2 := hI.sz
  have h3 := hF.sz
  refine ⟨mk, v9, rfl, hF.blk, fun k hk => ?_, fun j hj hk => ?_, hF.nine, Kd.R_lower hF.own (by omega), by omega, fun g hg hne => ?_, fun n hn => ?_⟩
  · rw [hF.rest _ (hO.n9 k hk), hI.put k hk, if_pos hk]
  · rw [hF.rest _ hj, hI.rest j hk]
  · rw [hF.other g (by omega) hne, hI.other g hne]; exact hb.block g hg
  · have a := hb
    have b := hI.low n hn
    have c := hF.low n hn
    exact ((⟨a.os, a.tape, a.output, a.size, fun k hk => a.block k (by omega)⟩ : Below n w w2).trans b).trans c
set_option maxHeartbeats 8000000 in
set_option maxRecDepth 100000 in
theorem great_ (M tb tc : Nat) (ms : Array Value) (more : ByteArray) (offs : List Nat) (vs : List Int) (r1 : List S38) (w : World) (hM : w.heap[M]? = some (.cells ms 78 (0, 0))) (ht : w.heap[tb]? = some (.cells (offs.map fun o => Value.pointer (some ⟨M, o, none⟩)).toArray 110 (0, 0))) (htM : tb ≠ M)
    (hO : Offs ms offs vs) (hn : offs.length ≤ 1000) (hr : extra_Read.f more = some (r1, 0)) (r2 : List Int) (e2 : Int) (hb : extra_Big.f r1 (wants vs) = some (r2, e2)) (h9 : ms[9]? = some (.slice none 0 0)) (hl : r1.length ≤ 1048576) :
    Calls Try.prog 76 #[.pointer (some ⟨M, 0, none⟩), .string more, .slice (some ⟨tb, 0, none⟩) offs.length tc] w fun e w' => (e2 = 0 → GreatPost M ms offs (pick vs r2) r1 w e w') ∧ (e2 ≠ 0 → e = .returned (.bool false) ∧ Below w.heap.size w w') := by
  have HR := Aside0.mk (extra_Read.calls more r1 0 w hr)
  have HM := Aside0.mk hM
  have HT := Aside0.mk ht
  have HO := Aside0.mk hO
  have H9 := Aside0.mk h9
  have HBC := Aside0.mk hb
  have HN : Aside0 (∀ w : World, Kd.R Kd.bool 4 w w.heap.size (fun _ => True) (.slice none 0 0) []) := ⟨fun w => Kd.R_nil _ _ _ _ _⟩
  clear hM ht hO h9 hr hb
  go_enter Try.func76, Try.ntmps76
  go_wp2_with (go_at_call 24; (with_reducible refine (HR.out).mono ?_); rintro e w1 ⟨v7, rfl, ho, hb1⟩; obtain ⟨A7, c7, e7⟩ := Kd.R_slice ho; subst e7; have HO7 := Aside0.mk ho; have HB1 := Aside0.mk hb1; clear ho hb1)
  obtain ⟨htM1, hMl⟩ : tb < w.heap.size ∧ M < w.heap.size := ⟨blk_lt HT.out, blk_lt HM.out⟩
  go_loopg [9, 26] (offs.length + 1) (fun kq v9 v26 wr => ∃ i : Nat, v26 = .int .i64 (i : Int) ∧ Aside0 (i ≤ offs.length ∧ offs.length + 1 ≤ kq + i) ∧ Aside0 (Kd.R Kd.bool 4 wr w1.heap.size (fun _ => True) v9 (wants (vs.take i))) ∧ Aside0 (Below w1.heap.size w1 wr))
  case atStart => exact ⟨0, rfl, ⟨by omega, by omega⟩, ⟨by rw [List.take_zero]; exact HN.out w1⟩, ⟨Below.refl _ _⟩⟩
  case round =>
    obtain ⟨i, rfl, HX, HO1, HB2⟩ := hrel
    by_cases hlt : i < offs.length
    · have hz : (i : Int) < (offs.length : Int) := by omega
      have n0 : 0 ≤ (i : Int) := by omega
      have hBw : Below w.heap.size w wr := below_then HB1.out HB1.out.size HB2.out
      obtain ⟨q, hq⟩ : ∃ q, offs.getD i 0 = q := ⟨_, rfl⟩
      obtain ⟨x, hx⟩ : ∃ x, vs.getD i 0 = x := ⟨_, rfl⟩
      have hc1 : wr.cell? ⟨tb, i, none⟩ = some (.pointer (some ⟨M, q, none⟩)) := by rw [blk_cell (blk_below HT.out hBw), ← hq]; simp [hlt]
      have hc2 : wr.cell? ⟨M, q, none⟩ = some (.int .i64 x) := by rw [blk_cell (blk_below HM.out hBw), ← hq, ← hx]; exact HO.out.at_ i hlt
      have HQ := Aside0.mk hq
      have HXX := Aside0.mk hx
      clear hq hx
      obtain ⟨kq, rfl⟩ : ∃ kq, gk = kq + 1 := ⟨gk - 1, by have := HX.out; omega⟩
      have hvl := HO.out.len
      clear hBw
      go_wp2_with (first | (go_at_call 22; (with_reducible refine (HBC.out _ _).mono ?_)) | ((with_reducible refine gate_builtin (b := .append) (xs := #[.tmp 30, .tmp 35]) rfl ?_); at_builtin; refine Kd.R_append Kd.bool (w0 := w1) w1.heap.size rfl (.tmp 30) (.tmp 35) 34 4 (.bool false) 1 rfl Try.underlying34 info4 rfl (by decide) (by omega) _ (wants (vs.take i)) (decide (x = 4294967295)) [.bool (decide (x = 4294967295))] (fun _ => True) (fun _ => False) rfl rfl rfl (fun _ hk => hk.elim) (fun _ _ => trivial) HO1.out HB2.out HB2.out.size (by rw [wants, List.length_map, List.length_take]; omega) ?_; intro v105 w12 ho hb hg hat; have HO3 := Aside0.mk ho; have HB3 := Aside0.mk hb; clear ho hb hg hat))
      go_roundg kq
      case measure => omega
      case rel => exact ⟨i + 1, by go_num, ⟨by omega, by have := HX.out; omega⟩, ⟨by rw [← wants_step (by omega) HXX.out]; exact HO3.out⟩, HB3⟩
    · have hz : ¬ (i : Int) < (offs.length : Int) := by omega
      have hi : i = offs.length := by have := HX.out; omega
      obtain ⟨A9, c9, e9⟩ := Kd.R_slice HO1.out
      subst e9
      have hvl := HO.out.len
      rw [List.take_of_length_le (by omega)] at HO1
      have hwl : (wants (vs.take i)).length = (wants vs).length := by rw [List.take_of_length_le (by omega)]
      rw [hwl]
      have hwn : (wants vs).length = offs.length := by rw [wants, List.length_map]; exact hvl
      have hbw : Below w.heap.size w wr := below_then HB1.out HB1.out.size HB2.out
      have HC := Aside0.mk (extra_Big.calls A7 c7 r1 A9 c9 (wants vs) r2 e2 wr (Kd.C_below (Kd.R_reads' HO7.out).2.2 HB2.out) (Kd.R_reads' HO7.out).2.1 (Kd.R_reads' HO1.out).2.2 (Kd.R_reads' HO1.out).2.1 HBC.out)
      have HBW := Aside0.mk hbw
      have HWN := Aside0.mk hwn
      have HVL := Aside0.mk hvl
      clear hbw hwn hwl hvl hi hz
      by_cases he2 : ¬ e2 = 0
      · have b0 : (e2 != 0) = true := by simp [he2]
        have HE2 := Aside0.mk he2
        clear he2
        go_wp2_with (go_at_call 22; (with_reducible refine (HC.out).mono ?_); rintro e w2 ⟨v12, rfl, ho, hb2⟩; have HB2' := Aside0.mk hb2; clear ho hb2)
        go_ret
        exact ⟨fun h => absurd h HE2.out, fun _ => ⟨rfl, below_then HBW.out HBW.out.size HB2'.out⟩⟩
      have he2' : e2 = 0 := Classical.not_not.mp he2
      subst he2'
      have HBL := Aside0.mk (big_len HBC.out)
      clear he2
      go_wp2_with (go_at_call 22; (with_reducible refine (HC.out).mono ?_); rintro e w2 ⟨v12, rfl, ho, hb2⟩; obtain ⟨A12, c12, e12⟩ := Kd.R_slice ho; subst e12; have HO12 := Aside0.mk ho; have HB2' := Aside0.mk hb2; clear ho hb2)
      rw [HWN.out, HBL.out, HWN.out]
      have HO9 := Aside0.mk (Kd.R_below HO1.out HB2'.out)
      have hbw2 : Below w.heap.size w w2 := below_then HBW.out HBW.out.size HB2'.out
      have HM2 := Aside0.mk (Mid.start (ps := pick vs r2) (blk_below HM.out hbw2) HO.out)
      have HT2 := Aside0.mk (blk_below HT.out hbw2)
      have HBW2 := Aside0.mk hbw2
      have hMw1 : M < w1.heap.size := Nat.lt_of_lt_of_le hMl HB1.out.size
      have hMwr : M < wr.heap.size := Nat.lt_of_lt_of_le hMl HBW.out.size
      clear hbw2 HX
      go_loopg [48] (offs.length + 1) (fun kq v48 wr => ∃ (i : Nat) (mi : Array Value), v48 = .int .i64 (i : Int) ∧ Aside0 (i ≤ offs.length ∧ offs.length + 1 ≤ kq + i) ∧ Aside0 (Mid w2 wr M ms offs vs (pick vs r2) i mi))
      case atStart => exact ⟨0, ms, rfl, ⟨by omega, by omega⟩, HM2⟩
      case round =>
        obtain ⟨i, mi, rfl, HX, HMI⟩ := hrel
        by_cases hlt : i < offs.length
        · have hz : (i : Int) < (offs.length : Int) := by omega
          have n0 : 0 ≤ (i : Int) := by omega
          obtain ⟨q, hq⟩ : ∃ q, offs.getD i 0 = q := ⟨_, rfl⟩
          obtain ⟨x, hx⟩ : ∃ x, vs.getD i 0 = x := ⟨_, rfl⟩
          obtain ⟨y, hy⟩ : ∃ y, r2.getD i 0 = y := ⟨_, rfl⟩
          have hc1 : wr.cell? ⟨tb, i, none⟩ = some (.pointer (some ⟨M, q, none⟩)) := by rw [blk_cell ((HMI.out.other tb htM).trans HT2.out), ← hq]; simp [hlt]
          have hc2 : wr.cell? ⟨M, q, none⟩ = some (.int .i64 x) := by rw [blk_cell HMI.out.blk, ← hq, ← hx]; have := HMI.out.put i hlt; rwa [if_neg (by omega)] at this
          have hf2 : wr.frozen? ⟨M, q, none⟩ = false := blk_frozen HMI.out.blk _
          have hvn : vs.length = offs.length := HVL.out
          have hrn : r2.length = offs.length := by rw [HBL.out, HWN.out]
          have hcb := (Kd.R_reads' (Kd.R_keep (Kd.R_bound HO9.out) HMI.out.keep (fun k hk => by have := hk.2.1; omega))).2.2
          obtain ⟨ad, hA, hw0⟩ := Kd.at_bool hcb (i : Int) n0 (by rw [HWN.out]; exact hz)
          cases hA
          rw [wants_at (by omega), Int.toNat_natCast] at hw0
          have hci := (Kd.R_reads' (Kd.R_keep (Kd.R_bound HO12.out) HMI.out.keep (fun k hk => by have := hk.2.1; omega))).2.2
          obtain ⟨ad2, hA2, hy0⟩ := Kd.at_int hci (i : Int) n0 (by rw [hrn]; exact hz)
          cases hA2
          rw [rd, Int.toNat_natCast, hy] at hy0
          obtain ⟨kq, rfl⟩ : ∃ kq, gk = kq + 1 := ⟨gk - 1, by have := HX.out; omega⟩
          have hp := pick_at (xs := r2) (by omega : i < vs.length) (by omega)
          rw [hx, hy] at hp
          rw [hx] at hw0
          have HQ := Aside0.mk hq
          by_cases hxx : x = 4294967295
          · rw [decide_eq_true hxx] at hw0
            rw [if_pos hxx] at hp
            have HP := Aside0.mk hp
            clear hq hx hy hcb hci hvn hrn hp hxx
            go_wp2
            go_roundg kq
            case measure => omega
            case rel => exact ⟨i + 1, _, by go_num, ⟨by omega, by have := HX.out; omega⟩, ⟨HMI.out.step HO.out hlt HQ.out HP.out⟩⟩
          · rw [decide_eq_false hxx] at hw0
            rw [if_neg hxx, ← hx] at hp
            have HP := Aside0.mk hp
            clear hq hx hy hcb hci hvn hrn hp hxx
            go_wp2
            go_roundg kq
            case measure => omega
            case rel => exact ⟨i + 1, _, by go_num, ⟨by omega, by have := HX.out; omega⟩, ⟨HMI.out.skip HP.out⟩⟩
        · have hz : ¬ (i : Int) < (offs.length : Int) := by omega
          have hi : i = offs.length := by have := HX.out; omega
          subst hi
          clear HM2
          have h9i : mi[9]? = some (.slice none 0 0) := (HMI.out.rest 9 (fun k hk => HO.out.n9 k hk)).trans H9.out
          have HF0 := Aside0.mk (Fin3.start HMI.out.blk h9i)
          have HO7z := Aside0.mk (Kd.R_keep (Kd.R_bound (Kd.R_below (Kd.R_below HO7.out HB2.out) HB2'.out)) HMI.out.keep (fun k hk => by have := hk.2.1; omega))
          have hMz : M < wr.heap.size := by rw [HMI.out.sz]; exact Nat.lt_of_lt_of_le hMwr HB2'.out.size
          obtain ⟨wz, hwz⟩ : ∃ wz, wz = wr := ⟨_, rfl⟩
          have HWZ := Aside0.mk hwz
          rw [← hwz] at HF0 HO7z hMz HMI
          clear h9i hwz HX
          go_wp2
          go_loopg [66] (r1.length + 1) (fun kq v66 wr => ∃ (k : Nat) (v9 : Value) (mk : Array Value), v66 = .int .i64 (k : Int) ∧ Aside0 (k ≤ r1.length ∧ r1.length + 1 ≤ kq + k) ∧ Aside0 (Fin3 wz wr M mi mk v9 (keepX (r1.take k))))
          case atStart => exact ⟨0, .slice none 0 0, mi, rfl, ⟨by omega, by omega⟩, by rw [← HWZ.out, List.take_zero]; exact HF0⟩
          case round =>
            clear HF0
            obtain ⟨k, v9, mk, rfl, HX, HFI⟩ := hrel
            by_cases hlt : k < r1.length
            · have hz : (k : Int) < (r1.length : Int) := by omega
              have n0 : 0 ≤ (k : Int) := by omega
              have hR := Kd.R_keep HO7z.out HFI.out.keep (fun g hg => by have := hg.2.1; omega)
              obtain ⟨ad, hA, hx0, hx1⟩ := at_T38 (Kd.R_reads' hR).2.2 (k : Int) n0 hz
              cases hA
              have hst := keepX_step hlt
              obtain ⟨⟨id, tx⟩, hf⟩ : ∃ f, rd_T38 r1 (k : Int) = f := ⟨_, rfl⟩
              rw [hf] at hx0 hx1 hst
              rw [Int.toNat_natCast] at hx0 hx1
              simp only at hx0 hx1 hst
              obtain ⟨kq, rfl⟩ : ∃ kq, gk = kq + 1 := ⟨gk - 1, by have := HX.out; omega⟩
              by_cases hid : id = 1
              · subst hid
                rw [if_pos rfl, List.append_nil] at hst
                have HST := Aside0.mk hst
                clear hst hf hR
                go_wp2
                go_roundg kq
                case measure => omega
                case rel => exact ⟨k + 1, v9, mk, by go_num, ⟨by omega, by have := HX.out; omega⟩, ⟨by rw [HST.out]; exact HFI.out.below hMz (below_alloc (Below.refl _ _) _)⟩⟩
              · rw [if_neg hid] at hst
                have HST := Aside0.mk hst
                have b0 : (id != 1) = true := by simp [hid]
                clear hst hf hR
                go_wp2
                have hbb : Below wr.heap.size wr (wr.alloc (.cells #[.int .i64 id, .string tx] 38)) := below_alloc (Below.refl _ _) _
                have hbx : (wr.alloc (.cells #[.int .i64 id, .string tx] 38)).heap[wr.heap.size]? = some (.cells #[.int .i64 id, .string tx] 38 (0, 0)) := blk_new wr _
                obtain ⟨wb, hwb⟩ : ∃ wb, wr.alloc (.cells #[.int .i64 id, .string tx] 38) = wb := ⟨_, rfl⟩
                rw [hwb] at hbb hbx
                have hown : ∀ g, v9.ownBlock = some g → g < wr.heap.size := fun g hg => ((Kd.R_bound HFI.out.own).1 g hg).2.2.1
                have HFB := Aside0.mk ((HFI.out.below hMz hbb).below hMz (below_drew (Below.refl _ _)))
                have HWB := Aside0.mk hwb
                have HOWN := Aside0.mk hown
                have HBX := Aside0.mk hbx
                have hcl := keepX_len r1 k
                have hcS : (fun W : World => W.cell? ⟨M, 9, none⟩ = some v9 ∧ W.cell? ⟨wr.heap.size, 0, none⟩ = some (.int .i64 id) ∧ W.cell? ⟨wr.heap.size, 1, none⟩ = some (.string tx)) wb.drew := ⟨by rw [blk_cell HFB.out.blk]; exact HFB.out.nine, (blk_cell (blk_drew hbx) 0).trans rfl, (blk_cell (blk_drew hbx) 1).trans rfl⟩
                clear hwb hown hbx hbb hx0 hx1
                rw [HWB.out]
                refine start_ (n := 11) (S := (fun W : World => W.cell? ⟨M, 9, none⟩ = some v9 ∧ W.cell? ⟨wr.heap.size, 0, none⟩ = some (.int .i64 id) ∧ W.cell? ⟨wr.heap.size, 1, none⟩ = some (.string tx))) (ds := [10]) #[false, false, false, false, false, false, false, false, false, false, false] (by kernel_rfl) rfl rfl hcS (fun hHeld => ?_)
                refine pure_ (i := 0) (N := (some 73)) (v := ?_) (a' := ?_) #[true, false, false, false, false, false, false, false, false, false, false] rfl rfl (by kernel_rfl) (fun _ _ _ h => h) (Or.inl ⟨by rfl, ?_⟩) ?_ ?_
                rotate_left
                · intro w'
                  go_simp
                  with_reducible rfl
                rotate_left
                · simp only [Act.put, List.setIfInBounds_toArray, List.set_cons_zero, List.set_cons_succ, i64_w, i32_w]
                  rfl
                refine pure_ (i := 1) (N := (some 74)) (v := ?_) (a' := ?_) #[true, true, false, false, false, false, false, false, false, false, false] rfl rfl (by kernel_rfl) (fun _ _ _ h => h) (Or.inl ⟨by rfl, ?_⟩) ?_ ?_
                rotate_left
                · intro w'
                  go_simp
                  with_reducible rfl
                rotate_left
                · simp only [Act.put, List.setIfInBounds_toArray, List.set_cons_zero, List.set_cons_succ, i64_w, i32_w]
                  rfl
                refine pure_ (i := 2) (N := (some 75)) (v := ?_) (a' := ?_) #[true, true, true, false, false, false, false, false, false, false, false] rfl rfl (by kernel_rfl) (fun _ _ _ h => h) (Or.inl ⟨by rfl, ?_⟩) ?_ ?_
                rotate_left
                · intro w'
                  go_simp
                  with_reducible rfl
                rotate_left
                · simp only [Act.put, List.setIfInBounds_toArray, List.set_cons_zero, List.set_cons_succ, i64_w, i32_w]
                  rfl
                refine pure_ (i := 3) (N := (some 76)) (v := ?_) (a' := ?_) #[true, true, true, true, false, false, false, false, false, false, false] rfl rfl (by kernel_rfl) (fun _ _ _ h => h) (Or.inl ⟨by rfl, ?_⟩) ?_ ?_
                rotate_left
                · intro w'
                  go_simp
                  with_reducible rfl
                rotate_left
                · simp only [Act.put, List.setIfInBounds_toArray, List.set_cons_zero, List.set_cons_succ, i64_w, i32_w]
                  rfl
                refine take_ (i := 4) (N := (some 77)) (v := ?_) (a' := ?_) #[true, true, true, true, true, false, false, false, false, false, false] rfl rfl (by kernel_rfl) (fun _ _ _ h => h) (Or.inl ⟨by rfl, ?_⟩) hHeld ?_ ?_
                rotate_left
                · intro w' hS'
                  obtain ⟨q1, q2, q3⟩ := hS'
                  go_simp
                  with_reducible rfl
                rotate_left
                · simp only [Act.put, List.setIfInBounds_toArray, List.set_cons_zero, List.set_cons_succ, i64_w, i32_w]
                  rfl
                refine take_ (i := 5) (N := (some 78)) (v := ?_) (a' := ?_) #[true, true, true, true, true, true, false, false, false, false, false] rfl rfl (by kernel_rfl) (fun _ _ _ h => h) (Or.inl ⟨by rfl, ?_⟩) hHeld ?_ ?_
                rotate_left
                · intro w' hS'
                  obtain ⟨q1, q2, q3⟩ := hS'
                  go_simp
                  with_reducible rfl
                rotate_left
                · simp only [Act.put, List.setIfInBounds_toArray, List.set_cons_zero, List.set_cons_succ, i64_w, i32_w]
                  rfl
                refine one_ (i := 6) (N := (some 79)) #[true, true, true, true, true, true, true, false, false, false, false] rfl rfl (by kernel_rfl) (by decide) (fun K hK => ?_)
                go_simp
                refine hK.out _ _ (by exact ⟨(blk_cell (blk_alloc HFB.out.blk _) 9).trans HFB.out.nine, (blk_cell (blk_alloc (blk_drew HBX.out) _) 0).trans rfl, (blk_cell (blk_alloc (blk_drew HBX.out) _) 1).trans rfl⟩) (fun hHeld => ?_)
                clear hK K
                rw [show (wb.alloc (.cells #[.int .i64 id, .string tx] 38)).drew = wb.drew.alloc (.cells #[.int .i64 id, .string tx] 38) from rfl]
                refine one_ (i := 7) (N := (some 80)) #[true, true, true, true, true, true, true, true, false, false, false] rfl rfl (by kernel_rfl) (by decide) (fun K hK => ?_)
                refine Kd.R_append_step k38 (w0 := wb.drew) wz.heap.size (by rfl) (.tmp 77) (.tmp 79) 33 38 (.agg #[.int .i64 0, .string ⟨#[]⟩]) 24 rfl Try.underlying33 inf38 rfl (by decide) (by omega) v9 (keepX (r1.take k)) (⟨id, tx⟩ : S38) [.int .i64 id, .string tx] (fun _ => True) (fun _ => False) rfl rfl (k38_mkM _ _ _ (⟨id, tx⟩ : S38)) (fun _ hk => hk.elim) (fun _ _ => trivial) HFB.out.own (Below.refl _ _) HFB.out.sz (by omega) ?_
                intro v1 w3 ho hb3 hg _
                obtain ⟨A1, c1, e1⟩ := Kd.R_slice ho
                subst e1
                have HF3 := Aside0.mk (HFB.out.push hMz ho hb3)
                have hm3 := (hb3.block M hMz).trans HFB.out.blk
                have hx3 := (hg.block wr.heap.size (blk_lt (blk_drew HBX.out)) (fun e => absurd (HOWN.out _ e.symm) (Nat.lt_irrefl _))).trans (blk_drew HBX.out)
                have hc3 : w3.cell? ⟨M, 9, none⟩ = some v9 := (blk_cell hm3 9).trans HFB.out.nine
                have hf3 : w3.frozen? ⟨M, 9, none⟩ = false := blk_frozen hm3 9
                refine hK.out _ _ ⟨hc3, (blk_cell hx3 0).trans rfl, (blk_cell hx3 1).trans rfl⟩ (fun hHeld => ?_)
                clear hK K ho hb3 hg hm3 hx3
                refine norm_ (a' := ?_) ?_ ?_
                rotate_left
                · show Act.put _ (some 80) _ = _
                  simp only [Act.put, List.setIfInBounds_toArray, List.set_cons_zero, List.set_cons_succ]
                  rfl
                refine pure_ (i := 8) (N := (some 81)) (v := ?_) (a' := ?_) #[true, true, true, true, true, true, true, true, true, false, false] rfl rfl (by kernel_rfl) (fun _ _ _ h => h) (Or.inl ⟨by rfl, ?_⟩) ?_ ?_
                rotate_left
                · intro w'
                  go_simp
                  with_reducible rfl
                rotate_left
                · simp only [Act.put, List.setIfInBounds_toArray, List.set_cons_zero, List.set_cons_succ, i64_w, i32_w]
                  rfl
                refine pure_ (i := 9) (N := (some 82)) (v := ?_) (a' := ?_) #[true, true, true, true, true, true, true, true, true, true, false] rfl rfl (by kernel_rfl) (fun _ _ _ h => h) (Or.inl ⟨by rfl, ?_⟩) ?_ ?_
                rotate_left
                · intro w'
                  go_simp
                  with_reducible rfl
                rotate_left
                · simp only [Act.put, List.setIfInBounds_toArray, List.set_cons_zero, List.set_cons_succ, i64_w, i32_w]
                  rfl
                refine last_ (i := 10) (N := none) #[true, true, true, true, true, true, true, true, true, true, true] rfl rfl (by kernel_rfl) (by decide) (fun K hK => ?_)
                go_simp
                refine hK.out _ _ ?_
                clear hK K
                refine done_ (by kernel_rfl) ?_
                have HW := Aside0.mk HF3.out
                clear HF3
                go_wp2
                go_roundg kq
                case measure => omega
                case rel => exact ⟨k + 1, _, _, by go_num, ⟨by omega, by have := HX.out; omega⟩, ⟨by rw [HST.out]; have h := HW.out; simp only [List.length_append, List.length_cons, List.length_nil, Nat.zero_add] at h; exact h⟩⟩
            · have hz : ¬ (k : Int) < (r1.length : Int) := by omega
              have hi : k = r1.length := by have := HX.out; omega
              subst hi
              rw [List.take_length] at HFI
              go_wp2
              go_ret
              first | exact great_done hMl HO.out HBW2.out HMI.out HFI.out | exact ⟨fun _ => great_done hMl HO.out HBW2.out HMI.out HFI.out, fun h => absurd rfl h⟩
set_option maxHeartbeats 8000000 in
set_option maxRecDepth 100000 in
/-- the field is broken. -/
theorem great_bad (m : Value) (t : Value) (more : ByteArray) (r1 : List S38) (e1 : Int) (w : World) (hr : extra_Read.f more = some (r1, e1)) (he : e1 ≠ 0) : Calls Try.prog 76 #[m, .string more, t] w fun e w' => e = .returned (.bool false) ∧ Below w.heap.size w w' := by
  have HR := Aside0.mk (extra_Read.calls more r1 e1 w hr)
  have b0 : (e1 != 0) = true := by simp [he]
  clear hr he
  go_enter Try.func76, Try.ntmps76
  go_wp2_with (go_at_call 24; (with_reducible refine (HR.out).mono ?_); rintro e w1 ⟨v7, rfl, ho, hb1⟩; have HB1 := Aside0.mk hb1; clear ho hb1)
  go_ret
  exact ⟨rfl, HB1.out⟩
end Go.Proofs.Ytfnicahlnpngkaa.ZipGreatOfZipdirBack
