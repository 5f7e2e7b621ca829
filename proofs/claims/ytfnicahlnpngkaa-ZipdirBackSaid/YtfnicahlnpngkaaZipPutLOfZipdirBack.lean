/- zipdir.PutLocal, walked by hand. ZipdirBack: the printed namespace. -/
import Derived.Test.YtfnicahlnpngkaaZipFieldsOfZipdirBack
set_option linter.unusedVariables false
set_option linter.unusedSimpArgs false
namespace Go.Proofs.Ytfnicahlnpngkaa.ZipPutLOfZipdirBack
open Go.RowKit Go.Proofs.YtfnicahlnpngkaaW.PrintWords Go.Proofs.YtfnicahlnpngkaaW.PrintLast Go.Proofs.YtfnicahlnpngkaaW.PrintMore Go.Proofs.Ytfnicahlnpngkaa.Base Go.Proofs.Ytfnicahlnpngkaa.NumRead Go.Proofs.Ytfnicahlnpngkaa.ExtraNum Go.Proofs.Ytfnicahlnpngkaa.ZipRd Go.Proofs.Ytfnicahlnpngkaa.ZipNums Go.Proofs.Ytfnicahlnpngkaa.ZipPut Go.Proofs.Ytfnicahlnpngkaa.ZipEnd Go.Proofs.Ytfnicahlnpngkaa.ZipRow Go.Proofs.Ytfnicahlnpngkaa.ZipCm Go.Proofs.Ytfnicahlnpngkaa.ZipMay Go.Proofs.Ytfnicahlnpngkaa.PZipdirBack Go.Proofs.Ytfnicahlnpngkaa.ZipFieldsOfZipdirBack
def bytesPut (m0 m1 m2 m3 m4 m5 m6 m7 : Int) (nm cm : ByteArray) (m11 m12 : Int) (q : ByteArray) : List Int := comOf (putAll [] 4 [67324752]) m1 m2 m3 m4 m5 m6 m7 (nm.size : Int) (q.size : Int) ++ bytesOf (nm ++ q)
def zipdir_PutLocal.f (m0 m1 m2 m3 m4 m5 m6 m7 : Int) (nm : ByteArray) (xs : List S38) (cm : ByteArray) (m11 m12 : Int) : Option (List Int × Int) :=
  if mayB m0 m1 m2 m3 m4 m6 m7 (nm.size : Int) (cm.size : Int) m12 = true then (fieldsF xs [m7, m6]).bind fun q => if q.2 = true then (if nm.size + q.1.size + cm.size ≤ 1000000000 then some (bytesPut m0 m1 m2 m3 m4 m5 m6 m7 nm cm m11 m12 q.1, 0) else none) else some ([], 1) else some ([], 1)
theorem comOf_len (l : List Int) (a b c d e f g h i : Int) : (comOf l a b c d e f g h i).length ≤ l.length + 80 := by
  unfold comOf
  have h1 := putAll_len 2 [IntKind.u64.wrap h, IntKind.u64.wrap i] (putAll (putAll l 2 [IntKind.u64.wrap a, IntKind.u64.wrap b, IntKind.u64.wrap c, IntKind.u64.wrap (bits .and .i64 d 65535), IntKind.u64.wrap (d / 65536)]) 4 [IntKind.u64.wrap e, small_ f, small_ g])
  have h2 := putAll_len 4 [IntKind.u64.wrap e, small_ f, small_ g] (putAll l 2 [IntKind.u64.wrap a, IntKind.u64.wrap b, IntKind.u64.wrap c, IntKind.u64.wrap (bits .and .i64 d 65535), IntKind.u64.wrap (d / 65536)])
  have h3 := putAll_len 2 [IntKind.u64.wrap a, IntKind.u64.wrap b, IntKind.u64.wrap c, IntKind.u64.wrap (bits .and .i64 d 65535), IntKind.u64.wrap (d / 65536)] l
  simp only [List.length_cons, List.length_nil] at *
  omega
set_option maxHeartbeats 16000000 in
set_option maxRecDepth 100000 in
theorem zipdir_PutLocal.calls (m0 m1 m2 m3 m4 m5 m6 m7 : Int) (nm : ByteArray) (A9 : Option Addr) (c9 : Nat) (xs : List S38) (cm : ByteArray) (m11 m12 : Int) (r1 : List Int) (r2 : Int) (w : World) (hx : Kd.C k38 w A9 xs.length xs) (hc9 : xs.length ≤ c9) (h : zipdir_PutLocal.f m0 m1 m2 m3 m4 m5 m6 m7 nm xs cm m11 m12 = some (r1, r2)) :
    Calls Try.prog 47 #[.agg #[.int .i64 m0, .int .i64 m1, .int .i64 m2, .int .i64 m3, .int .i64 m4, .int .u32 m5, .int .i64 m6, .int .i64 m7, .string nm, .slice A9 xs.length c9, .string cm, .int .u32 m11, .int .i64 m12]] w fun e w' => ∃ v0_ : Value, e = .returned (.tuple #[v0_, .int .i64 r2]) ∧ Kd.R (Kd.int .u8) 5 w' w.heap.size (fun _ => True) v0_ r1 ∧ Below w.heap.size w w' := by
  have HU := Aside0.mk Try.underlying78
  have HX := Aside0.mk hx
  obtain ⟨wm, hwm⟩ : ∃ wm, w.alloc (.cells #[.int .i64 m0, .int .i64 m1, .int .i64 m2, .int .i64 m3, .int .i64 m4, .int .u32 m5, .int .i64 m6, .int .i64 m7, .string nm, .slice A9 xs.length c9, .string cm, .int .u32 m11, .int .i64 m12] 78) = wm := ⟨_, rfl⟩
  have K0 : Aside0 (wm.heap[w.heap.size]? = some (.cells #[.int .i64 m0, .int .i64 m1, .int .i64 m2, .int .i64 m3, .int .i64 m4, .int .u32 m5, .int .i64 m6, .int .i64 m7, .string nm, .slice A9 xs.length c9, .string cm, .int .u32 m11, .int .i64 m12] 78 (0, 0))) := ⟨by rw [← hwm]; exact blk_new w _⟩
  have B0 : Aside0 (Below w.heap.size w wm) := ⟨by rw [← hwm]; exact below_alloc (Below.refl _ _) _⟩
  have S0 : wm.heap.size = w.heap.size + 1 := by rw [← hwm]; simp
  unfold zipdir_PutLocal.f at h
  have FAIL : Aside0 (∀ W, Below w.heap.size w W → Kd.R (Kd.int .u8) 5 W w.heap.size (fun _ => True) (.slice none 0 0) []) := ⟨fun W _ => Kd.R_nil _ _ _ _ _⟩
  cases hm : mayB m0 m1 m2 m3 m4 m6 m7 (nm.size : Int) (cm.size : Int) m12 with
  | false =>
    rw [hm, if_neg (by simp)] at h
    injection h with h
    obtain ⟨rfl, rfl⟩ := Prod.mk.inj h
    have MA := Aside0.mk (may_ wm m0 m1 m2 m3 m4 m5 m6 m7 m11 m12 nm cm (.slice A9 xs.length c9))
    rw [hm] at MA
    obtain ⟨c0, c1, c2, c3, c4, c5, c6, c7, c8, cc9, c10, cc11, c12⟩ := ms_cells K0.out
    rw [← hwm] at MA c0 c1 c2 c3 c4 c5 c6 c7 c8 cc9 c10 cc11 c12
    have B0' := Aside0.mk (below_alloc (Below.refl w.heap.size w) (.cells #[.int .i64 m0, .int .i64 m1, .int .i64 m2, .int .i64 m3, .int .i64 m4, .int .u32 m5, .int .i64 m6, .int .i64 m7, .string nm, .slice A9 xs.length c9, .string cm, .int .u32 m11, .int .i64 m12] 78))
    have W0 := Aside0.mk hwm
    clear h hm hx hwm
    go_enter Try.func47, Try.ntmps47
    go_wp2_with (go_at_call 70; (refine (MA.out).mono ?_); rintro e w1 ⟨rfl, hb⟩; have B1 := Aside0.mk (below_then B0'.out (by simp) hb); clear hb)
    go_ret2
    exact ⟨_, rfl, FAIL.out _ B1.out, B1.out⟩
  | true =>
    rw [hm, if_pos rfl] at h
    obtain ⟨⟨q, okq⟩, hq, h⟩ := Option.bind_eq_some_iff.1 h
    have MA := Aside0.mk (may_ wm m0 m1 m2 m3 m4 m5 m6 m7 m11 m12 nm cm (.slice A9 xs.length c9))
    rw [hm] at MA
    obtain ⟨c0, c1, c2, c3, c4, c5, c6, c7, c8, cc9, c10, cc11, c12⟩ := ms_cells K0.out
    rw [← hwm] at MA c0 c1 c2 c3 c4 c5 c6 c7 c8 cc9 c10 cc11 c12
    have HQ := Aside0.mk hq
    have HH := Aside0.mk h
    have W0 := Aside0.mk hwm
    clear h hm hx hwm hq
    go_enter Try.func47, Try.ntmps47
    go_wp2_with (fail)
    refine (MA.out).mono ?_
    rintro e w1 ⟨rfl, hb⟩
    rw [W0.out] at hb
    have K1 := Aside0.mk (blk_below K0.out hb)
    have B1 := Aside0.mk (below_then B0.out B0.out.size hb)
    have X1 := Aside0.mk (Kd.C_below HX.out (below_then B0.out B0.out.size hb))
    clear c0 c1 c2 c3 c4 c5 c6 c7 c8 cc9 c10 cc11 c12 hb MA
    obtain ⟨c0, c1, c2, c3, c4, c5, c6, c7, c8, cc9, c10, cc11, c12⟩ := ms_cells K1.out
    go_wp2_with (fail)
    have FC := Aside0.mk (fields_ (w1.alloc (.cells #[.int .i64 m7, .int .i64 m6] 3)) m0 m1 m2 m3 m4 m5 m6 m7 m11 m12 nm cm A9 c9 xs (some ⟨w1.heap.size, 0, none⟩) 2 [m7, m6] (q, okq) (Kd.C_alloc X1.out _) hc9 (lit_C w1 [m7, m6] (by simp)) (by simp) HQ.out)
    refine (FC.out).mono ?_
    rintro e w2 ⟨rfl, hb⟩
    have hb1 : Below w1.heap.size w1 w2 := below_then (below_alloc (Below.refl _ _) _) (by simp) hb
    have K2 := Aside0.mk (blk_below K1.out hb1)
    have B2 := Aside0.mk (below_then B1.out B1.out.size hb1)
    clear c0 c1 c2 c3 c4 c5 c6 c7 c8 cc9 c10 cc11 c12 hb FC hb1 K1 K0 B0 B1 X1
    obtain ⟨c0, c1, c2, c3, c4, c5, c6, c7, c8, cc9, c10, cc11, c12⟩ := ms_cells K2.out
    have h := HH.out
    cases okq with
    | false =>
      rw [if_neg (by simp)] at h
      injection h with h
      obtain ⟨rfl, rfl⟩ := Prod.mk.inj h
      clear h
      go_wp2_with (fail)
      go_ret2
      exact ⟨_, rfl, FAIL.out _ B2.out, B2.out⟩
    | true =>
      rw [if_pos rfl] at h
      by_cases hsz : nm.size + q.size + cm.size ≤ 1000000000
      · rw [if_pos hsz] at h
        injection h with h
        obtain ⟨rfl, rfl⟩ := Prod.mk.inj h
        have C2 := Aside0.mk (Cm.mk (wr_start B2.out) (blk_alloc K2.out _) (by have := blk_lt K2.out; omega : w.heap.size ≠ w2.heap.size))
        have G2 := Aside0.mk (blk_lt K2.out)
        have HSZ := Aside0.mk hsz
        clear h hsz
        go_wp2_with (fail)
        refine (C2.out.put 4 [67324752] _ 1 _ ?hz rfl rfl (by simp) (by (try simp only [List.length_nil]); omega)).mono ?_
        case hz => simp
        rintro e w3 ⟨rfl, v3, hC, ho, hs⟩
        have C3 := Aside0.mk hC
        have l3 := putAll_len 4 [67324752] ([])
        simp only [List.length_cons, List.length_nil] at l3
        have E3 := Aside0.mk l3
        clear c0 c1 c2 c3 c4 c5 c6 c7 c8 cc9 c10 cc11 c12 hC ho hs l3
        obtain ⟨c0, c1, c2, c3, c4, c5, c6, c7, c8, cc9, c10, cc11, c12⟩ := ms_cells C3.out.m
        go_wp2_with (fail)
        refine (wcommon_ w w3 w2.heap.size v3 (putAll ([]) 4 [67324752]) m0 m1 m2 m3 m4 m5 m6 m7 m11 m12 nm cm q (.slice A9 xs.length c9) C3.out.wr (by have := E3.out; (try simp only [List.length_nil] at *); omega)).mono ?_
        rintro e w4 ⟨rfl, v4, hW, ho, hs⟩
        have C4 := Aside0.mk (Cm.mk hW ((ho w.heap.size (blk_lt C3.out.m) C3.out.ne).trans C3.out.m) C3.out.ne)
        have l4 := comOf_len (putAll ([]) 4 [67324752]) m1 m2 m3 m4 m5 m6 m7 (nm.size : Int) (q.size : Int)
        have E4 := Aside0.mk l4
        clear c0 c1 c2 c3 c4 c5 c6 c7 c8 cc9 c10 cc11 c12 hW ho hs l4
        obtain ⟨c0, c1, c2, c3, c4, c5, c6, c7, c8, cc9, c10, cc11, c12⟩ := ms_cells C4.out.m
        have hS : (fun W : World => W.heap[w2.heap.size]? = some (.cells #[v4] 101 (0, 0)) ∧ W.heap[w.heap.size]? = some (.cells #[.int .i64 m0, .int .i64 m1, .int .i64 m2, .int .i64 m3, .int .i64 m4, .int .u32 m5, .int .i64 m6, .int .i64 m7, .string nm, .slice A9 xs.length c9, .string cm, .int .u32 m11, .int .i64 m12] 78 (0, 0))) w4.drew := ⟨C4.out.wr.blk, C4.out.m⟩
        clear c0 c1 c2 c3 c4 c5 c6 c7 c8 cc9 c10 cc11 c12
        have hsz := HSZ.out
        have hcat : ¬ 9223372036854775807 < nm.size + q.size := by omega
        have hcat2 : ¬ 9223372036854775807 < nm.size + q.size + cm.size := by omega
        have hcat3 : ¬ 9223372036854775807 < (nm ++ q).size + cm.size := by rw [ByteArray.size_append]; omega
        go_wp2
        refine start_ (n := 11) (S := (fun W : World => W.heap[w2.heap.size]? = some (.cells #[v4] 101 (0, 0)) ∧ W.heap[w.heap.size]? = some (.cells #[.int .i64 m0, .int .i64 m1, .int .i64 m2, .int .i64 m3, .int .i64 m4, .int .u32 m5, .int .i64 m6, .int .i64 m7, .string nm, .slice A9 xs.length c9, .string cm, .int .u32 m11, .int .i64 m12] 78 (0, 0)))) (ds := [8]) #[false, false, false, false, false, false, false, false, false, false, false] (by kernel_rfl) rfl rfl hS (fun hHeld => ?_)
        refine pure_ (i := 0) (N := (some 31)) (v := ?_) (a' := ?_) #[true, false, false, false, false, false, false, false, false, false, false] rfl rfl (by kernel_rfl) (fun _ _ _ h => h) (Or.inl ⟨by rfl, ?_⟩) ?_ ?_
        rotate_left
        · intro w'
          go_simp
          with_reducible rfl
        rotate_left
        · simp only [Act.put, List.setIfInBounds_toArray, List.set_cons_zero, List.set_cons_succ, i64_w, i32_w]
          rfl
        refine pure_ (i := 1) (N := (some 32)) (v := ?_) (a' := ?_) #[true, true, false, false, false, false, false, false, false, false, false] rfl rfl (by kernel_rfl) (fun _ _ _ h => h) (Or.inl ⟨by rfl, ?_⟩) ?_ ?_
        rotate_left
        · intro w'
          go_simp
          with_reducible rfl
        rotate_left
        · simp only [Act.put, List.setIfInBounds_toArray, List.set_cons_zero, List.set_cons_succ, i64_w, i32_w]
          rfl
        refine pure_ (i := 2) (N := (some 33)) (v := ?_) (a' := ?_) #[true, true, true, false, false, false, false, false, false, false, false] rfl rfl (by kernel_rfl) (fun _ _ _ h => h) (Or.inl ⟨by rfl, ?_⟩) ?_ ?_
        rotate_left
        · intro w'
          go_simp
          with_reducible rfl
        rotate_left
        · simp only [Act.put, List.setIfInBounds_toArray, List.set_cons_zero, List.set_cons_succ, i64_w, i32_w]
          rfl
        refine pure_ (i := 4) (N := (some 35)) (v := ?_) (a' := ?_) #[true, true, true, false, true, false, false, false, false, false, false] rfl rfl (by kernel_rfl) (fun _ _ _ h => h) (Or.inl ⟨by rfl, ?_⟩) ?_ ?_
        rotate_left
        · intro w'
          go_simp
          with_reducible rfl
        rotate_left
        · simp only [Act.put, List.setIfInBounds_toArray, List.set_cons_zero, List.set_cons_succ, i64_w, i32_w]
          rfl
        refine pure_ (i := 6) (N := (some 37)) (v := ?_) (a' := ?_) #[true, true, true, false, true, false, true, false, false, false, false] rfl rfl (by kernel_rfl) (fun _ _ _ h => h) (Or.inl ⟨by rfl, ?_⟩) ?_ ?_
        rotate_left
        · intro w'
          go_simp
          with_reducible rfl
        rotate_left
        · simp only [Act.put, List.setIfInBounds_toArray, List.set_cons_zero, List.set_cons_succ, i64_w, i32_w]
          rfl
        refine take_ (i := 3) (N := (some 34)) (v := ?_) (a' := ?_) #[true, true, true, true, true, false, true, false, false, false, false] rfl rfl (by kernel_rfl) (fun _ _ _ h => h) (Or.inl ⟨by rfl, ?_⟩) hHeld ?_ ?_
        rotate_left
        · intro w' hS'
          obtain ⟨q1, q2⟩ := hS'
          have q3 := (blk_cell q1 0).trans (rfl : _ = some v4)
          obtain ⟨_, _, _, _, _, _, _, _, d8, _, d10, _, _⟩ := ms_cells q2
          go_simp
          with_reducible rfl
        rotate_left
        · simp only [Act.put, List.setIfInBounds_toArray, List.set_cons_zero, List.set_cons_succ, i64_w, i32_w]
          rfl
        refine take_ (i := 5) (N := (some 36)) (v := ?_) (a' := ?_) #[true, true, true, true, true, true, true, false, false, false, false] rfl rfl (by kernel_rfl) (fun _ _ _ h => h) (Or.inl ⟨by rfl, ?_⟩) hHeld ?_ ?_
        rotate_left
        · intro w' hS'
          obtain ⟨q1, q2⟩ := hS'
          have q3 := (blk_cell q1 0).trans (rfl : _ = some v4)
          obtain ⟨_, _, _, _, _, _, _, _, d8, _, d10, _, _⟩ := ms_cells q2
          go_simp
          with_reducible rfl
        rotate_left
        · simp only [Act.put, List.setIfInBounds_toArray, List.set_cons_zero, List.set_cons_succ, i64_w, i32_w]
          rfl
        refine pure_ (i := 7) (N := (some 38)) (v := ?_) (a' := ?_) #[true, true, true, true, true, true, true, true, false, false, false] rfl rfl (by kernel_rfl) (fun _ _ _ h => h) (Or.inl ⟨by rfl, ?_⟩) ?_ ?_
        rotate_left
        · intro w'
          go_simp
          with_reducible rfl
        rotate_left
        · simp only [Act.put, List.setIfInBounds_toArray, List.set_cons_zero, List.set_cons_succ, i64_w, i32_w]
          rfl
        refine last_ (i := 8) (N := (some 39)) #[true, true, true, true, true, true, true, true, true, false, false] rfl rfl (by kernel_rfl) (by decide) (fun K hK => ?_)
        refine append_str_step (w0 := w) w.heap.size (by rfl) (.tmp 34) (.tmp 38) 58 9 5 rfl Try.underlying58 Try.underlying9 inf5 v4 (comOf (putAll ([]) 4 [67324752]) m1 m2 m3 m4 m5 m6 m7 (nm.size : Int) (q.size : Int)) (nm ++ q) rfl rfl (Kd.R_lower (Kd.R_drew C4.out.wr.row) (by have := G2.out; omega)) (below_drew C4.out.wr.low) (by have := blk_lt C4.out.m; simp; omega) (by simp only [ByteArray.size_append]; have := E3.out; have := E4.out; (try simp only [List.length_nil] at *); omega) ?_
        intro v9 w9 ho9 hb9 hg9
        refine hK.out _ _ ?_
        clear hK K
        have HO9 := Aside0.mk ho9
        have HB9 := Aside0.mk hb9
        clear ho9 hb9 hg9
        refine norm_ (a' := ?_) ?_ ?_
        rotate_left
        · show Act.put _ (some 39) _ = _
          simp only [Act.put, List.setIfInBounds_toArray, List.set_cons_zero, List.set_cons_succ]
          rfl
        refine pure_ (i := 9) (N := (some 2)) (v := ?_) (a' := ?_) #[true, true, true, true, true, true, true, true, true, true, false] rfl rfl (by kernel_rfl) (fun _ _ _ h => h) (Or.inl ⟨by rfl, ?_⟩) ?_ ?_
        rotate_left
        · intro w'
          go_simp
          with_reducible rfl
        rotate_left
        · simp only [Act.put, List.setIfInBounds_toArray, List.set_cons_zero, List.set_cons_succ, i64_w, i32_w]
          rfl
        refine pure_ (i := 10) (N := (some 3)) (v := ?_) (a' := ?_) #[true, true, true, true, true, true, true, true, true, true, true] rfl rfl (by kernel_rfl) (fun _ _ _ h => h) (Or.inl ⟨by rfl, ?_⟩) ?_ ?_
        rotate_left
        · intro w'
          go_simp
          with_reducible rfl
        rotate_left
        · simp only [Act.put, List.setIfInBounds_toArray, List.set_cons_zero, List.set_cons_succ, i64_w, i32_w]
          rfl
        refine done_ (by kernel_rfl) ?_
        go_wp2
        go_ret2
        exact ⟨_, rfl, HO9.out, HB9.out⟩
      · rw [if_neg hsz] at h; cases h
end Go.Proofs.Ytfnicahlnpngkaa.ZipPutLOfZipdirBack
