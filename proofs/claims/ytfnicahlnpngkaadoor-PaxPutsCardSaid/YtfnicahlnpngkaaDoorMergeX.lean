/- pax.Merge, walked by hand: the function itself. -/
import Derived.Test.YtfnicahlnpngkaaDoorMergeW
set_option linter.unusedVariables false
set_option linter.unusedSimpArgs false
namespace Go.Proofs.YtfnicahlnpngkaaDoor.MergeX
open Go.RowKit Go.Proofs Go.Proofs.YtfnicahlnpngkaaDoorW.PrintWords Go.Proofs.YtfnicahlnpngkaaDoorW.PrintMore Go.Proofs.YtfnicahlnpngkaaDoor.Base Go.Proofs.YtfnicahlnpngkaaDoor.MergeP Go.Proofs.YtfnicahlnpngkaaDoor.MergeW
theorem info39 : (Tryd.prog.info? 39).map (fun i => (i.zero, i.size, i.bytes)) = some (some (.agg #[(.string ⟨#[]⟩), (.string ⟨#[]⟩)]), 2, 32) := by kernel_rfl
theorem grown_base {w wr w' : World} {g : Nat} (hb : Below w.heap.size w wr) (hg : wr.grownBy w' (some g)) (h : w.heap.size ≤ g) : Below w.heap.size w w' :=
  ⟨hg.os.trans hb.os, hg.tape.trans hb.tape, hg.output.trans hb.output, Nat.le_trans hb.size hg.size, fun k hk => (hg.block k (Nat.lt_of_lt_of_le hk hb.size) (by intro e; injection e with e; omega)).trans (hb.block k hk)⟩
theorem keep_len (k : ByteArray) (l : List S) : (keep k l).length ≤ l.length := List.length_filter_le _ _
theorem merge_len (out : List S) (r : S) : (mergeS out r).length ≤ out.length + 1 := by
  have := keep_len r.1 out
  unfold mergeS
  split
  · split
    · rw [List.length_append, List.length_singleton]; omega
    · rw [List.length_append, List.length_cons, List.length_take, List.length_drop]; omega
  · omega
theorem keep_lt {k : ByteArray} {l : List S} {i : Nat} (h : l.findIdx? (isKey k) = some i) : (keep k l).length < l.length := by
  obtain ⟨h1, h2, _⟩ := List.findIdx?_eq_some_iff_getElem.1 h
  exact List.length_filter_lt_length_iff_exists.2 ⟨l[i], List.getElem_mem _, by rw [h2]; decide⟩
theorem keep_ge {k : ByteArray} {l : List S} {i : Nat} (h : l.findIdx? (isKey k) = some i) : i ≤ (keep k l).length := by
  obtain ⟨h1, h2, h3⟩ := List.findIdx?_eq_some_iff_getElem.1 h
  have e : keep k (l.take i) = l.take i := List.filter_eq_self.2 (fun x hx => by
    obtain ⟨j, hj, rfl⟩ := List.mem_iff_getElem.1 hx
    rw [List.length_take] at hj
    rw [List.getElem_take]
    have := h3 j (by omega)
    simpa using this)
  have e2 : keep k l = keep k (l.take i) ++ keep k (l.drop i) := by unfold keep; rw [← List.filter_append, List.take_append_drop]
  rw [e2, e, List.length_append, List.length_take]
  omega
set_option maxHeartbeats 4000000 in
set_option maxRecDepth 100000 in
theorem merge_calls (A0 : Option Addr) (c0 : Nat) (l0 : List S) (A1 : Option Addr) (c1 : Nat) (l1 : List S) (w : World) (hr0 : Kd.C kS w A0 l0.length l0) (hr1 : Kd.C kS w A1 l1.length l1) (h0 : l0.length ≤ 1000000) (h1 : l1.length ≤ 1000000) :
    Calls Tryd.prog 20 #[.slice A0 l0.length c0, .slice A1 l1.length c1] w fun e w' => ∃ v, e = .returned v ∧ Kd.R kS 39 w' w.heap.size (fun _ => True) v (l1.foldl mergeS l0) ∧ Below w.heap.size w w' := by
  have HR0 := Aside0.mk hr0
  have HR1 := Aside0.mk hr1
  have HN : Aside0 (Kd.R kS 39 w w.heap.size (fun _ => True) (.slice none 0 0) []) := ⟨Kd.R_nil _ _ _ _ _⟩
  have hu := Tryd.underlying39
  clear hr0 hr1
  go_enter Tryd.func20, Tryd.ntmps20
  go_wp2_with ((with_reducible refine gate_builtin (b := .append) (xs := #[.const (.slice none 0 0), .tmp 10]) rfl ?_); at_builtin; refine Kd.R_append_rows kS (w0 := w) w.heap.size rfl (.const (.slice none 0 0)) (.tmp 10) 22 39 (.agg #[(.string ⟨#[]⟩), (.string ⟨#[]⟩)]) 32 rfl Tryd.underlying22 info39 rfl (by decide) (by omega) (.slice none 0 0) ([] : List S) l0 _ _ _ (fun _ => True) (fun _ => False) rfl rfl HN.out HR0.out (fun x cs hx => by rw [kS_open hx]; exact kS_mkM _ _ _ x) (fun _ h => h.elim) (fun _ _ => trivial) (Below.refl _ _) (Nat.le_refl _) (by simp; omega) ?_; intro v5 w5 ho5 hb5 hg_ hnew_; have HO5 := Aside0.mk ho5; have HB5 := Aside0.mk hb5; clear hg_ hnew_ ho5 hb5)
  rw [List.nil_append] at HO5
  go_loopg [5, 14] (l1.length + 1) (fun kq v5 v14 wr => ∃ (i : Nat), v14 = .int .i64 (i : Int) ∧ Aside0 (i ≤ l1.length ∧ l1.length + 1 ≤ kq + i) ∧ Aside0 (Kd.R kS 39 wr w.heap.size (fun _ => True) v5 ((l1.take i).foldl mergeS l0)) ∧ Aside0 (Below w.heap.size w wr))
  case atStart => exact ⟨0, rfl, ⟨by omega, by omega⟩, HO5, HB5⟩
  case round =>
    clear HO5 HB5 HN
    obtain ⟨i, rfl, HX, HO, HB⟩ := hrel
    by_cases hlt : i < l1.length
    · have hz : (i : Int) < (l1.length : Int) := by omega
      have n0 : 0 ≤ (i : Int) := by omega
      have hstep : (l1.take (i + 1)).foldl mergeS l0 = mergeS ((l1.take i).foldl mergeS l0) (l1.getD i default) := by
        rw [List.take_succ_eq_append_getElem hlt, List.foldl_append, List.getD_eq_getElem?_getD, List.getElem?_eq_getElem hlt]; rfl
      have HST := Aside0.mk hstep
      obtain ⟨ad, rfl, hx1, hx2⟩ := at_S (Kd.C_below HR1.out HB.out) i hlt
      have hlen : ∀ j ≤ l1.length, ((l1.take j).foldl mergeS l0).length ≤ l0.length + j := by
        intro j
        induction j with
        | zero => intro _; simp
        | succ j ih =>
          intro hj
          rw [List.take_succ_eq_append_getElem (by omega), List.foldl_append]
          have := ih (by omega)
          have h2 := merge_len ((l1.take j).foldl mergeS l0) (l1[j]'(by omega))
          simp only [List.foldl_cons, List.foldl_nil]
          omega
      have hll := hlen i (by omega)
      obtain ⟨out, hout⟩ : ∃ out, (l1.take i).foldl mergeS l0 = out := ⟨_, rfl⟩
      obtain ⟨x, hx⟩ : ∃ x, l1.getD i default = x := ⟨_, rfl⟩
      rw [hout] at HO hll HST
      rw [hx] at hx1 hx2 HST
      clear hout hx hlen hstep
      obtain ⟨A5, c5, rfl⟩ := Kd.R_slice HO.out
      have hWB : Below wr.heap.size wr (wr.alloc (.cells #[.string x.1, .string x.2] 39)) := (Below.refl _ _).alloc (Nat.le_refl _) _
      have hk1 : (wr.alloc (.cells #[.string x.1, .string x.2] 39)).cell? ⟨wr.heap.size, 0, none⟩ = some (.string x.1) := by simp
      have hk2 : (wr.alloc (.cells #[.string x.1, .string x.2] 39)).cell? ⟨wr.heap.size, 1, none⟩ = some (.string x.2) := by simp
      have hks : wr.heap.size < (wr.alloc (.cells #[.string x.1, .string x.2] 39)).heap.size := by simp
      have CI : Aside0 (∀ W, Below (wr.alloc (.cells #[.string x.1, .string x.2] 39)).heap.size (wr.alloc (.cells #[.string x.1, .string x.2] 39)) W → Calls Tryd.prog 30 #[.slice A5 out.length c5, .func (.func 29) #[] #[.pointer (some ⟨wr.heap.size, 0, none⟩)]] W fun e w' => e = .returned (.int .i64 (idxI x.1 out)) ∧ Below W.heap.size W w') := ⟨fun W hb => indexFunc A5 c5 out wr.heap.size x.1 x.2 W (Kd.C_below (Kd.C_below (Kd.R_reads' HO.out).2.2 hWB) hb) ((hb.cell (by exact hks)).trans hk1) (by omega)⟩
      cases hf : out.findIdx? (isKey x.1) with
      | none =>
        have CD : Aside0 (∀ W, Below (wr.alloc (.cells #[.string x.1, .string x.2] 39)).heap.size (wr.alloc (.cells #[.string x.1, .string x.2] 39)) W → Calls Tryd.prog 31 #[.slice A5 out.length c5, .func (.func 29) #[] #[.pointer (some ⟨wr.heap.size, 0, none⟩)]] W fun e w' => e = .returned (.slice A5 out.length c5) ∧ Below W.heap.size W w') := ⟨fun W hb => delete_none A5 c5 out wr.heap.size x.1 x.2 W (Kd.C_below (Kd.C_below (Kd.R_reads' HO.out).2.2 hWB) hb) ((hb.cell (by exact hks)).trans hk1) (by omega) hf⟩
        have CK : Aside0 (∀ W, Below (wr.alloc (.cells #[.string x.1, .string x.2] 39)).heap.size (wr.alloc (.cells #[.string x.1, .string x.2] 39)) W → W.cell? ⟨wr.heap.size, 0, none⟩ = some (.string x.1) ∧ W.cell? ⟨wr.heap.size, 1, none⟩ = some (.string x.2) ∧ Kd.R kS 39 W w.heap.size (fun _ => True) (.slice A5 out.length c5) out ∧ Below w.heap.size w W) := ⟨fun W hb => ⟨(hb.cell (by exact hks)).trans hk1, (hb.cell (by exact hks)).trans hk2, Kd.R_below (Kd.R_below HO.out hWB) hb, below_then (below_then HB.out HB.out.size hWB) (Nat.le_trans HB.out.size (Nat.le_of_lt (by simp))) hb⟩⟩
        have ei : idxI x.1 out = -1 := by unfold idxI; rw [hf]
        rw [ei] at CI
        cases hlv : (x.2.toList == []) with
        | true =>
          have hm : mergeS out x = out := by unfold mergeS live; rw [hlv, if_neg (by decide), keep_none hf]
          rw [hm] at HST
          clear hm ei hf hk1 hk2 hks hWB
          go_wp2_with (first
            | (go_at_call 30; (with_reducible refine (CI.out _ (Below.refl _ _)).mono ?_); rintro e w2 ⟨rfl, hb2⟩; have H2 := Aside0.mk hb2; clear hb2)
            | (go_at_call 31; (with_reducible refine (CD.out _ H2.out).mono ?_); rintro e w3 ⟨rfl, hb3⟩; have H3 := Aside0.mk (below_then H2.out H2.out.size hb3); obtain ⟨k1, k2, k3, k4⟩ := CK.out _ H3.out; have K3 := Aside0.mk k3; have K4 := Aside0.mk k4; clear hb3 k3 k4))
          go_roundg (gk - 1)
          case measure => have := HX.out; omega
          case rel => exact ⟨i + 1, by go_num, ⟨by omega, by have := HX.out; omega⟩, ⟨by rw [HST.out]; exact K3.out⟩, K4⟩
        | false =>
          have hm : mergeS out x = out ++ [x] := by unfold mergeS live; rw [hlv, if_pos (by decide), hf, keep_none hf]
          rw [hm] at HST
          clear hm ei hf hk1 hk2 hks hWB
          go_wp2_with (first
            | (go_at_call 30; (with_reducible refine (CI.out _ (Below.refl _ _)).mono ?_); rintro e w2 ⟨rfl, hb2⟩; have H2 := Aside0.mk hb2; clear hb2)
            | (go_at_call 31; (with_reducible refine (CD.out _ H2.out).mono ?_); rintro e w3 ⟨rfl, hb3⟩; have H3 := Aside0.mk (below_then H2.out H2.out.size hb3); obtain ⟨k1, k2, k3, k4⟩ := CK.out _ H3.out; have K3 := Aside0.mk k3; have K4 := Aside0.mk k4; clear hb3 k3 k4)
            | ((with_reducible refine gate_builtin (b := .append) (xs := #[.tmp 37, .tmp 39]) rfl ?_); at_builtin; refine Kd.R_append kS (w0 := w) w.heap.size rfl (.tmp 37) (.tmp 39) 22 39 (.agg #[(.string ⟨#[]⟩), (.string ⟨#[]⟩)]) 32 rfl Tryd.underlying22 info39 rfl (by decide) (by omega) (.slice A5 out.length c5) out x (encS x) (fun _ => True) (fun _ => False) rfl rfl (kS_mkM _ _ _ x) (fun _ h => h.elim) (fun _ _ => trivial) K3.out K4.out K4.out.size (by omega) ?_; intro v6 w6 ho6 hb6 hg_ hnew_; have K6 := Aside0.mk ho6; have K7 := Aside0.mk hb6; clear hg_ hnew_ ho6 hb6))
          go_roundg (gk - 1)
          case measure => have := HX.out; omega
          case rel => exact ⟨i + 1, by go_num, ⟨by omega, by have := HX.out; omega⟩, ⟨by rw [HST.out]; exact K6.out⟩, K7⟩
      | some i0 =>
        have ei : idxI x.1 out = (i0 : Int) := by unfold idxI; rw [hf]
        rw [ei] at CI
        rcases R_open HO.out with ⟨_, hnil⟩ | ⟨g, cap, full, hv, hbg, hg, hfl, hft, hcap, hmax⟩
        · rw [hnil] at hf; cases hf
        injection hv with hv1 _ hv3
        subst hv1
        subst hv3
        have hgl := blk_lt hg
        have kl := keep_lt hf
        have kg := keep_ge hf
        have hmax2 : c5 ≤ 9223372036854775807 := by simpa [maxLen] using hmax
        have CD : Aside0 (∀ W, Below (wr.alloc (.cells #[.string x.1, .string x.2] 39)).heap.size (wr.alloc (.cells #[.string x.1, .string x.2] 39)) W → Calls Tryd.prog 31 #[.slice (some ⟨g, 0, none⟩) out.length c5, .func (.func 29) #[] #[.pointer (some ⟨wr.heap.size, 0, none⟩)]] W fun e w' => ∃ full', e = .returned (.slice (some ⟨g, 0, none⟩) (keep x.1 out).length c5) ∧ w'.heap[g]? = some (.cells (flat full').toArray 39 (0, 0)) ∧ full'.length = c5 ∧ full'.take (keep x.1 out).length = (keep x.1 out).map pr ∧ W.grownBy w' (some g)) := ⟨fun W hb => deleteFunc g c5 full out wr.heap.size x.1 x.2 W (blk_below (blk_below hg hWB) hb) hfl hft hcap (by omega) ((hb.cell (by exact hks)).trans hk1) (by omega)⟩
        have CK : Aside0 (∀ W W', Below (wr.alloc (.cells #[.string x.1, .string x.2] 39)).heap.size (wr.alloc (.cells #[.string x.1, .string x.2] 39)) W → W.grownBy W' (some g) → W'.cell? ⟨wr.heap.size, 0, none⟩ = some (.string x.1) ∧ W'.cell? ⟨wr.heap.size, 1, none⟩ = some (.string x.2) ∧ Below w.heap.size w W') := ⟨fun W W' hb hg' => by
          have h1 : W'.heap[wr.heap.size]? = W.heap[wr.heap.size]? := hg'.block _ (Nat.lt_of_lt_of_le hks hb.size) (by intro e; injection e with e; omega)
          refine ⟨(World.cell?_of_block h1).trans ((hb.cell (by exact hks)).trans hk1), (World.cell?_of_block h1).trans ((hb.cell (by exact hks)).trans hk2), ?_⟩
          exact grown_base (below_then (below_then HB.out HB.out.size hWB) (Nat.le_trans HB.out.size (Nat.le_of_lt (by simp))) hb) hg' hbg⟩
        cases hlv : (x.2.toList == []) with
        | true =>
          have hm : mergeS out x = keep x.1 out := by unfold mergeS live; rw [hlv, if_neg (by decide)]
          rw [hm] at HST
          clear hm ei hf hk1 hk2 hks hWB hg hft
          go_wp2_with (first
            | (go_at_call 30; (with_reducible refine (CI.out _ (Below.refl _ _)).mono ?_); rintro e w2 ⟨rfl, hb2⟩; have H2 := Aside0.mk hb2; clear hb2)
            | (go_at_call 31; (with_reducible refine (CD.out _ H2.out).mono ?_); rintro e w3 ⟨full', rfl, d1, d2, d3, d4⟩; obtain ⟨k1, k2, k4⟩ := CK.out _ _ H2.out d4; have K4 := Aside0.mk k4; have K3 := Aside0.mk (R_shut hbg d1 d2 d3 (by omega) hmax); clear d1 d2 d3 d4 k4))
          go_roundg (gk - 1)
          case measure => have := HX.out; omega
          case rel => exact ⟨i + 1, by go_num, ⟨by omega, by have := HX.out; omega⟩, ⟨by rw [HST.out]; exact K3.out⟩, K4⟩
        | false =>
          have hm : mergeS out x = (keep x.1 out).take i0 ++ x :: (keep x.1 out).drop i0 := by unfold mergeS live; rw [hlv, if_pos (by decide), hf]
          rw [hm] at HST
          have hi0 : ¬ ((i0 : Int) < 0) := by omega
          have hml : ((keep x.1 out).take i0 ++ x :: (keep x.1 out).drop i0).length = (keep x.1 out).length + 1 := by rw [List.length_append, List.length_cons, List.length_take, List.length_drop]; omega
          have HML := Aside0.mk hml
          obtain ⟨ys, hys⟩ : ∃ ys, keep x.1 out = ys := ⟨_, rfl⟩
          rw [hys] at CD kl kg HST HML
          clear hm ei hf hk1 hk2 hks hWB hg hft hys hml
          by_cases hend : i0 < ys.length
          · have CN : Aside0 (∀ (W : World) full', W.heap[g]? = some (.cells (flat full').toArray 39 (0, 0)) → full'.length = c5 → full'.take ys.length = ys.map pr → Calls Tryd.prog 32 #[.slice (some ⟨g, 0, none⟩) ys.length c5, .int .i64 (i0 : Int), .slice (some ⟨W.heap.size, 0, none⟩) 1 1] (W.alloc (.cells #[.string x.1, .string x.2] 39)) fun e w' => ∃ full', e = .returned (.slice (some ⟨g, 0, none⟩) (ys.length + 1) c5) ∧ w'.heap[g]? = some (.cells (flat full').toArray 39 (0, 0)) ∧ full'.length = c5 ∧ full'.take (ys.length + 1) = (ys.take i0 ++ x :: ys.drop i0).map pr ∧ (W.alloc (.cells #[.string x.1, .string x.2] 39)).grownBy w' (some g)) := ⟨fun W full' q1 q2 q3 => insert_shift g c5 i0 W.heap.size 1 full' ys x _ (blk_alloc q1 _) q2 q3 (by omega) (by omega) hend (by have := blk_lt q1; omega) (blk_new _ _)⟩
            go_wp2_with (first
              | (go_at_call 30; (with_reducible refine (CI.out _ (Below.refl _ _)).mono ?_); rintro e w2 ⟨rfl, hb2⟩; have H2 := Aside0.mk hb2; clear hb2)
              | (go_at_call 31; (with_reducible refine (CD.out _ H2.out).mono ?_); rintro e w3 ⟨full', rfl, d1, d2, d3, d4⟩; obtain ⟨k1, k2, k4⟩ := CK.out _ _ H2.out d4; have K4 := Aside0.mk k4; have D1 := Aside0.mk d1; have D2 := Aside0.mk d2; have D3 := Aside0.mk d3; clear d1 d2 d3 d4 k4)
              | (go_at_call 32; (with_reducible refine (CN.out _ _ D1.out D2.out D3.out).mono ?_); rintro e w5 ⟨full2, rfl, d1, d2, d3, d4⟩; have K5 := Aside0.mk (grown_base (below_alloc K4.out _) d4 hbg); have K3 := Aside0.mk (R_shut (xs := ys.take i0 ++ x :: ys.drop i0) hbg d1 d2 (by rw [HML.out]; exact d3) (by rw [HML.out]; omega) hmax); clear d1 d2 d3 d4))
            go_roundg (gk - 1)
            case measure => have := HX.out; omega
            case rel => exact ⟨i + 1, by go_num, ⟨by omega, by have := HX.out; omega⟩, ⟨by rw [HST.out]; have h := K3.out; rw [HML.out] at h; exact h⟩, K5⟩
          · obtain rfl : i0 = ys.length := by omega
            have CN : Aside0 (∀ (W : World) full', W.heap[g]? = some (.cells (flat full').toArray 39 (0, 0)) → full'.length = c5 → full'.take ys.length = ys.map pr → Calls Tryd.prog 32 #[.slice (some ⟨g, 0, none⟩) ys.length c5, .int .i64 (ys.length : Int), .slice (some ⟨W.heap.size, 0, none⟩) 1 1] (W.alloc (.cells #[.string x.1, .string x.2] 39)) fun e w' => ∃ full', e = .returned (.slice (some ⟨g, 0, none⟩) (ys.length + 1) c5) ∧ w'.heap[g]? = some (.cells (flat full').toArray 39 (0, 0)) ∧ full'.length = c5 ∧ full'.take (ys.length + 1) = (ys ++ [x]).map pr ∧ (W.alloc (.cells #[.string x.1, .string x.2] 39)).grownBy w' (some g)) := ⟨fun W full' q1 q2 q3 => insert_end g c5 W.heap.size 1 full' ys x _ (blk_alloc q1 _) q2 q3 (by omega) (by omega) (blk_new _ _)⟩
            rw [List.take_length, List.drop_length] at HST HML
            go_wp2_with (first
              | (go_at_call 30; (with_reducible refine (CI.out _ (Below.refl _ _)).mono ?_); rintro e w2 ⟨rfl, hb2⟩; have H2 := Aside0.mk hb2; clear hb2)
              | (go_at_call 31; (with_reducible refine (CD.out _ H2.out).mono ?_); rintro e w3 ⟨full', rfl, d1, d2, d3, d4⟩; obtain ⟨k1, k2, k4⟩ := CK.out _ _ H2.out d4; have K4 := Aside0.mk k4; have D1 := Aside0.mk d1; have D2 := Aside0.mk d2; have D3 := Aside0.mk d3; clear d1 d2 d3 d4 k4)
              | (go_at_call 32; (with_reducible refine (CN.out _ _ D1.out D2.out D3.out).mono ?_); rintro e w5 ⟨full2, rfl, d1, d2, d3, d4⟩; have K5 := Aside0.mk (grown_base (below_alloc K4.out _) d4 hbg); have K3 := Aside0.mk (R_shut (xs := ys ++ [x]) hbg d1 d2 (by rw [HML.out]; exact d3) (by rw [HML.out]; omega) hmax); clear d1 d2 d3 d4))
            go_roundg (gk - 1)
            case measure => have := HX.out; omega
            case rel => exact ⟨i + 1, by go_num, ⟨by omega, by have := HX.out; omega⟩, ⟨by rw [HST.out]; have h := K3.out; rw [HML.out] at h; exact h⟩, K5⟩
    · have hz : ¬ (i : Int) < (l1.length : Int) := by omega
      have hi : i = l1.length := by have := HX.out; omega
      subst hi
      rw [List.take_length] at HO
      go_wp2
      go_ret
      exact ⟨_, rfl, HO.out, HB.out⟩
end Go.Proofs.YtfnicahlnpngkaaDoor.MergeX
