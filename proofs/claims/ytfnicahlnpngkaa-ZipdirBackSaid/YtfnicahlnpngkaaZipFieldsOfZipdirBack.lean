/- zipdir.fields, walked by hand. ZipdirBack: the printed namespace. -/
import Derived.Test.YtfnicahlnpngkaaExtraPutOfZipdirBack
import Derived.Test.YtfnicahlnpngkaaExtraBigOfZipdirBack
import Derived.Test.YtfnicahlnpngkaaPZip2x1
import Derived.Test.YtfnicahlnpngkaaZipWrt
set_option linter.unusedVariables false
set_option linter.unusedSimpArgs false
namespace Go.Proofs.Ytfnicahlnpngkaa.ZipFieldsOfZipdirBack
open Go.RowKit Go.Proofs.YtfnicahlnpngkaaW.PrintWords Go.Proofs.YtfnicahlnpngkaaW.PrintLast Go.Proofs.YtfnicahlnpngkaaW.PrintMore Go.Proofs.Ytfnicahlnpngkaa.Base Go.Proofs.Ytfnicahlnpngkaa.NumRead Go.Proofs.Ytfnicahlnpngkaa.ExtraNum Go.Proofs.Ytfnicahlnpngkaa.ZipRd Go.Proofs.Ytfnicahlnpngkaa.ZipNums Go.Proofs.Ytfnicahlnpngkaa.ZipPut Go.Proofs.Ytfnicahlnpngkaa.ZipEnd Go.Proofs.Ytfnicahlnpngkaa.ZipRow Go.Proofs.Ytfnicahlnpngkaa.ZipCm Go.Proofs.Ytfnicahlnpngkaa.ZipMay Go.Proofs.Ytfnicahlnpngkaa.PZipdirBack Go.Proofs.Ytfnicahlnpngkaa.ExtraPutOfZipdirBack
theorem inf38 : (Try.prog.info? 38).map (fun i => (i.zero, i.size, i.bytes)) = some (some (.agg #[.int .i64 0, .string ⟨#[]⟩]), 2, 24) := by kernel_rfl
theorem inf3 : (Try.prog.info? 3).map (fun i => (i.zero, i.size, i.bytes)) = some (some (.int .i64 0), 1, 8) := by kernel_rfl
/-- the numbers that are too great for a header. -/
def bigs (vs : List Int) : List Int := vs.filter fun v => decide (v ≥ 4294967295)
def hasOne (xs : List S38) : Bool := xs.any fun f => f.f0 == 1
def putR (r : ByteArray × Int) : ByteArray × Bool := (r.1, r.2 == 0)
def fieldsF (xs : List S38) (vs : List Int) : Option (ByteArray × Bool) :=
  if xs.length ≤ 1000000 ∧ vs.length ≤ 1000 then (if hasOne xs = true then some (⟨#[]⟩, false) else if (bigs vs).length = 0 then (extra_Put.f xs).map putR else (PZip2.extra_PutBig.f (vs.length + 1) (bigs vs)).bind fun b => (extra_Put.f (⟨b.1, b.2⟩ :: xs)).map putR) else none
theorem bigs_step {vs : List Int} {i : Nat} {x : Int} (h : i < vs.length) (hx : rd vs (i : Int) = x) : bigs (vs.take (i + 1)) = bigs (vs.take i) ++ (if x ≥ 4294967295 then [x] else []) := by
  have e : vs[i] = x := by rw [← hx]; simp [rd, h]
  rw [List.take_succ_eq_append_getElem h, bigs, List.filter_append, e, bigs]
  congr 1
  by_cases hh : x ≥ 4294967295
  · rw [if_pos hh]; simp [hh]
  · rw [if_neg hh]; simp [hh]
theorem bigs_len (vs : List Int) (k : Nat) : (bigs (vs.take k)).length ≤ vs.length := by
  have h1 := List.length_filter_le (fun v : Int => decide (v ≥ 4294967295)) (vs.take k)
  have h2 : (vs.take k).length ≤ vs.length := by rw [List.length_take]; omega
  unfold bigs; omega
theorem one_step {xs : List S38} {k : Nat} (h : k < xs.length) : hasOne (xs.take (k + 1)) = (hasOne (xs.take k) || ((rd_T38 xs (k : Int)).f0 == 1)) := by
  have e : rd_T38 xs (k : Int) = xs[k] := by simp [rd_T38, h]
  rw [List.take_succ_eq_append_getElem h, hasOne, List.any_append, e, hasOne]
  simp
theorem one_at {xs : List S38} {k : Nat} (h : k < xs.length) (hh : (rd_T38 xs (k : Int)).f0 = 1) : hasOne xs = true := by
  have e : rd_T38 xs (k : Int) = xs[k] := by simp [rd_T38, h]
  rw [hasOne, List.any_eq_true]
  exact ⟨xs[k], List.getElem_mem h, by rw [← e, hh]; rfl⟩
set_option maxHeartbeats 16000000 in
set_option maxRecDepth 100000 in
theorem fields_ (W : World) (m0 m1 m2 m3 m4 m5 m6 m7 m11 m12 : Int) (nm cm : ByteArray) (A9 : Option Addr) (c9 : Nat) (xs : List S38) (A : Option Addr) (c : Nat) (vs : List Int) (r : ByteArray × Bool) (hx : Kd.C k38 W A9 xs.length xs) (hc9 : xs.length ≤ c9) (hv : Kd.C (Kd.int .i64) W A vs.length vs) (hc : vs.length ≤ c) (h : fieldsF xs vs = some r) :
    Calls Try.prog 71 #[.agg #[.int .i64 m0, .int .i64 m1, .int .i64 m2, .int .i64 m3, .int .i64 m4, .int .u32 m5, .int .i64 m6, .int .i64 m7, .string nm, .slice A9 xs.length c9, .string cm, .int .u32 m11, .int .i64 m12], .slice A vs.length c] W fun e w' => e = .returned (.tuple #[.string r.1, .bool r.2]) ∧ Below W.heap.size W w' := by
  have HU := Aside0.mk Try.underlying78
  unfold fieldsF at h
  by_cases hl : xs.length ≤ 1000000 ∧ vs.length ≤ 1000
  · rw [if_pos hl] at h
    obtain ⟨hl1, hl2⟩ := hl
    have HF := Aside0.mk h
    have HX := Aside0.mk hx
    have HV := Aside0.mk hv
    obtain ⟨o78, ho78⟩ : ∃ o : Obj, (.cells #[.int .i64 m0, .int .i64 m1, .int .i64 m2, .int .i64 m3, .int .i64 m4, .int .u32 m5, .int .i64 m6, .int .i64 m7, .string nm, .slice A9 xs.length c9, .string cm, .int .u32 m11, .int .i64 m12] 78) = o := ⟨_, rfl⟩
    have B0 := Aside0.mk (below_alloc (Below.refl W.heap.size W) o78)
    have K0 := Aside0.mk (blk_new W o78)
    rw [← ho78] at K0 B0
    clear h hx hv ho78
    go_enter Try.func71, Try.ntmps71
    go_wp2
    obtain ⟨W0, hW0⟩ : ∃ W0, (W.alloc (.cells #[.int .i64 m0, .int .i64 m1, .int .i64 m2, .int .i64 m3, .int .i64 m4, .int .u32 m5, .int .i64 m6, .int .i64 m7, .string nm, .slice A9 xs.length c9, .string cm, .int .u32 m11, .int .i64 m12] 78)) = W0 := ⟨_, rfl⟩
    rw [hW0] at K0 B0 ⊢
    have S0 : W0.heap.size = W.heap.size + 1 := by rw [← hW0]; simp
    have HN : Aside0 (∀ w : World, Kd.R (Kd.int .i64) 3 w w.heap.size (fun _ => True) (.slice none 0 0) []) := ⟨fun w => Kd.R_nil _ _ _ _ _⟩
    have HV0 := Aside0.mk (Kd.C_below HV.out B0.out)
    have HX0 := Aside0.mk (Kd.C_below HX.out B0.out)
    clear hW0 HV HX
    go_loopg [6, 18] (vs.length + 1) (fun kq v6 v18 wr => ∃ i : Nat, v18 = .int .i64 (i : Int) ∧ Aside0 (i ≤ vs.length ∧ vs.length + 1 ≤ kq + i) ∧ Aside0 (Kd.R (Kd.int .i64) 3 wr W0.heap.size (fun _ => True) v6 (bigs (vs.take i))) ∧ Aside0 (Below W0.heap.size W0 wr))
    case atStart => exact ⟨0, rfl, ⟨by omega, by omega⟩, ⟨by rw [List.take_zero]; exact HN.out W0⟩, ⟨Below.refl _ _⟩⟩
    case round =>
      obtain ⟨i, rfl, HI, HO, HB⟩ := hrel
      by_cases hlt : i < vs.length
      · have hz : (i : Int) < (vs.length : Int) := by omega
        have n0 : 0 ≤ (i : Int) := by omega
        obtain ⟨kq, rfl⟩ : ∃ kq, gk = kq + 1 := ⟨gk - 1, by have := HI.out; omega⟩
        obtain ⟨ad, hA, hx0⟩ := Kd.at_int (Kd.C_below HV0.out HB.out) (i : Int) n0 hz
        cases hA
        rw [Int.toNat_natCast] at hx0
        obtain ⟨x, hxx⟩ : ∃ x, rd vs (i : Int) = x := ⟨_, rfl⟩
        rw [hxx] at hx0
        have hst := bigs_step hlt hxx
        have HL := Aside0.mk (bigs_len vs i)
        clear hxx
        by_cases hbig : x ≥ 4294967295
        · rw [if_pos hbig] at hst
          have HST := Aside0.mk hst
          have b0 : decide (x ≥ 4294967295) = true := decide_eq_true hbig
          clear hst hbig
          go_wp2_with (first | (go_at_call 64; (refine (sm_ x wr).mono ?_); rintro e w1 ⟨rfl, hb⟩; have HO1 := Aside0.mk (Kd.R_below HO.out hb); have HB1 := Aside0.mk (below_then HB.out HB.out.size hb); clear hb) | ((with_reducible refine gate_builtin (b := .append) (xs := #[.tmp 28, .tmp 30]) rfl ?_); at_builtin; refine Kd.R_append (Kd.int .i64) (w0 := W0) W0.heap.size rfl (.tmp 28) (.tmp 30) 35 3 (.int .i64 0) 8 rfl Try.underlying35 inf3 rfl (by decide) (by omega) _ (bigs (vs.take i)) x [.int .i64 x] (fun _ => True) (fun _ => False) rfl rfl rfl (fun _ hk => hk.elim) (fun _ _ => trivial) HO1.out HB1.out HB1.out.size (by have := HL.out; omega) ?_; intro v105 w12 ho hb hg hat; have HO3 := Aside0.mk ho; have HB3 := Aside0.mk hb; clear ho hb hg hat))
          go_roundg kq
          case measure => omega
          case rel => exact ⟨i + 1, by go_num, ⟨by omega, by have := HI.out; omega⟩, ⟨by rw [HST.out]; exact HO3.out⟩, HB3⟩
        · rw [if_neg hbig, List.append_nil] at hst
          have HST := Aside0.mk hst
          have b0 : decide (x ≥ 4294967295) = false := decide_eq_false hbig
          clear hst hbig
          go_wp2_with (go_at_call 64; (refine (sm_ x wr).mono ?_); rintro e w1 ⟨rfl, hb⟩; have HO1 := Aside0.mk (Kd.R_below HO.out hb); have HB1 := Aside0.mk (below_then HB.out HB.out.size hb); clear hb)
          go_roundg kq
          case measure => omega
          case rel => exact ⟨i + 1, by go_num, ⟨by omega, by have := HI.out; omega⟩, ⟨by rw [HST.out]; exact HO1.out⟩, HB1⟩
      · have hz : ¬ (i : Int) < (vs.length : Int) := by omega
        have hi : i = vs.length := by have := HI.out; omega
        subst hi
        rw [List.take_length] at HO
        have K1 := blk_below K0.out HB.out
        have k9 := (blk_cell K1 9).trans (rfl : _ = some (Value.slice A9 xs.length c9))
        have HX1 := Aside0.mk (Kd.C_below HX0.out HB.out)
        obtain ⟨wz, hwz⟩ : ∃ wz, wz = wr := ⟨_, rfl⟩
        obtain ⟨A6, c6, e6⟩ := Kd.R_slice HO.out
        subst e6
        rw [← hwz] at HO HB HX1
        have HWZ := Aside0.mk hwz
        clear K1 HI hwz
        go_wp2
        go_loopg [37] (xs.length + 1) (fun kq v37 wr => ∃ k : Nat, v37 = .int .i64 (k : Int) ∧ Aside0 (k ≤ xs.length ∧ xs.length + 1 ≤ kq + k) ∧ Aside0 (hasOne (xs.take k) = false) ∧ Aside0 (Below wz.heap.size wz wr))
        case atStart => exact ⟨0, rfl, ⟨by omega, by omega⟩, ⟨by rw [List.take_zero]; rfl⟩, ⟨by rw [← HWZ.out]; exact Below.refl _ _⟩⟩
        case round =>
          obtain ⟨k, rfl, HI, HN1, HB2⟩ := hrel
          by_cases hlt : k < xs.length
          · have hz : (k : Int) < (xs.length : Int) := by omega
            have n0 : 0 ≤ (k : Int) := by omega
            obtain ⟨kq, rfl⟩ : ∃ kq, gk = kq + 1 := ⟨gk - 1, by have := HI.out; omega⟩
            obtain ⟨ad, hA, hx0, hx1⟩ := at_T38 (Kd.C_below HX1.out HB2.out) (k : Int) n0 hz
            cases hA
            have hst := one_step hlt
            obtain ⟨⟨id, tx⟩, hf⟩ : ∃ f, rd_T38 xs (k : Int) = f := ⟨_, rfl⟩
            have h1 : id = 1 → hasOne xs = true := fun e => one_at hlt (by rw [hf]; exact e)
            rw [hf] at hx0 hx1 hst
            rw [Int.toNat_natCast] at hx0 hx1
            simp only at hx0 hx1 hst
            by_cases hid : id = 1
            · have hh := HF.out
              rw [if_pos (h1 hid)] at hh
              injection hh with hh
              have b0 : (id == 1) = true := by simp [hid]
              have HR := Aside0.mk hh
              clear h1 hst hf hid hh
              go_wp2
              go_ret2
              rw [← HR.out]
              exact ⟨rfl, below_step B0.out (below_then (HB.out) HB.out.size (below_then HB2.out HB2.out.size (below_alloc (Below.refl _ _) _)))⟩
            · have b0 : (id == 1) = false := by simp [hid]
              rw [HN1.out, b0] at hst
              have HST := Aside0.mk hst
              clear h1 hst hf hid
              go_wp2
              go_roundg kq
              case measure => omega
              case rel => exact ⟨k + 1, by go_num, ⟨by omega, by have := HI.out; omega⟩, ⟨HST.out⟩, ⟨below_alloc HB2.out _⟩⟩
          · have hz : ¬ (k : Int) < (xs.length : Int) := by omega
            have hi : k = xs.length := by have := HI.out; omega
            subst hi
            rw [List.take_length] at HN1
            have hh := HF.out
            rw [if_neg (by rw [HN1.out]; simp)] at hh
            have HO2 := Aside0.mk (Kd.R_below HO.out HB2.out)
            have HBW := Aside0.mk (below_step B0.out (below_then HB.out HB.out.size HB2.out))
            have HX2 := Aside0.mk (Kd.C_below HX1.out HB2.out)
            clear HI HF
            by_cases h0 : (bigs vs).length = 0
            · rw [if_pos h0] at hh
              obtain ⟨⟨p1, p2⟩, hp, hpr⟩ := Option.map_eq_some_iff.1 hh
              have b0 : ¬ 0 < (bigs vs).length := by omega
              have b1 : ¬ (0 : Int) < ((bigs vs).length : Int) := by omega
              have HPC := Aside0.mk (extra_Put.calls A9 c9 xs p1 p2 wr HX2.out hc9 hp)
              have HPR := Aside0.mk hpr
              clear hh hp hpr h0
              go_wp2_with (go_at_call 26; (refine (HPC.out).mono ?_); rintro e w1 ⟨rfl, hb⟩; have HB3 := Aside0.mk hb; clear hb)
              go_ret2
              rw [← HPR.out]
              exact ⟨rfl, below_step HBW.out HB3.out⟩
            · rw [if_neg h0] at hh
              obtain ⟨⟨g1, g2⟩, hg, hh⟩ := Option.bind_eq_some_iff.1 hh
              obtain ⟨⟨p1, p2⟩, hp, hpr⟩ := Option.map_eq_some_iff.1 hh
              have b0 : 0 < (bigs vs).length := by omega
              have b1 : (0 : Int) < ((bigs vs).length : Int) := by omega
              have HGC := Aside0.mk (PZip2.extra_PutBig.calls (vs.length + 1) A6 c6 (bigs vs) g1 g2 wr (Kd.R_reads' HO2.out).2.2 (Kd.R_reads' HO2.out).2.1 hg)
              have HP := Aside0.mk hp
              have HPR := Aside0.mk hpr
              clear hh hp hpr hg h0
              go_wp2_with (first | (go_at_call 20; (refine (HGC.out).mono ?_); rintro e w1 ⟨rfl, hb⟩; have HX3 := Aside0.mk (Kd.C_below HX2.out hb); have HB3 := Aside0.mk (below_step HBW.out hb); clear hb) | ((with_reducible refine gate_dst (N := 50) rfl ?_); refine Kd.R_lit k38 (w0 := w1) w1.heap.size 38 ?hg (N := 50) ?hd (xs := [(⟨g1, g2⟩ : S38)]) (inner := [.int .i64 g1, .string g2]) (ok := fun _ => True) (okp := fun _ => True) ?hr ?hp (fun _ hk => hk) trivial (Below.refl _ _) (Nat.le_refl _) (by simp) ?_; (case hd => rfl); (case hg => rfl); (case hr => first | (go_simp; done) | (go_simp; rfl)); (case hp => exact (Reps.c2 (show Kd.M k38 _ _ _ (⟨g1, g2⟩ : S38) [.int .i64 g1, .string g2] from (k38_mkM _ _ _ (⟨g1, g2⟩ : S38) )) (Reps.none _ _))); intro v34 w5 ho5 hb5 hg_ hnew_; obtain ⟨A34, c34, e34⟩ := Kd.R_slice ho5; subst e34; have HO5 := Aside0.mk ho5; have HX5 := Aside0.mk (Kd.C_below HX3.out hb5); have HB5 := Aside0.mk hb5; clear hg_ hnew_ ho5 hb5) | ((with_reducible refine gate_builtin (b := .append) (xs := #[.tmp 50, .tmp 51]) rfl ?_); at_builtin; refine Kd.R_append_rows k38 (w0 := w1) w1.heap.size rfl (.tmp 50) (.tmp 51) 33 38 (.agg #[.int .i64 0, .string ⟨#[]⟩]) 24 rfl Try.underlying33 inf38 rfl (by decide) (by omega) (.slice A34 1 c34) [(⟨g1, g2⟩ : S38)] xs _ _ _ (fun _ => True) (fun _ => False) rfl rfl HO5.out HX5.out (fun x cs hx => by rw [k38_open hx]; exact k38_mkM _ _ _ x) (fun _ h => h.elim) (fun _ _ => trivial) HB5.out HB5.out.size (by simp; omega) ?_; intro v35 w6 ho6 hb6 hg_ hnew_; obtain ⟨A35, c35, e35⟩ := Kd.R_slice ho6; subst e35; have HO6 := Aside0.mk ho6; have HB6 := Aside0.mk (below_step HB3.out hb6); clear hg_ hnew_ ho6 hb6) | (go_at_call 26; (refine (extra_Put.calls A35 c35 (⟨g1, g2⟩ :: xs) p1 p2 w6 (Kd.R_reads' HO6.out).2.2 (Kd.R_reads' HO6.out).2.1 HP.out).mono ?_); rintro e w7 ⟨rfl, hb⟩; have HB7 := Aside0.mk (below_step HB6.out hb); clear hb))
              go_ret2
              rw [← HPR.out]
              exact ⟨rfl, HB7.out⟩
  · rw [if_neg hl] at h; cases h
end Go.Proofs.Ytfnicahlnpngkaa.ZipFieldsOfZipdirBack
