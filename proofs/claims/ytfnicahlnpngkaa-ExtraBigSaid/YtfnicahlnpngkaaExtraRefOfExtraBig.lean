/- stevedoreref27.Read, walked by hand: it comes to what extra.Read comes to. ExtraBig: the printed namespace. -/
import Derived.Test.YtfnicahlnpngkaaExtraOfExtraBig
import Derived.Test.YtfnicahlnpngkaaNum1
set_option linter.unusedVariables false
set_option linter.unusedSimpArgs false
namespace Go.Proofs.Ytfnicahlnpngkaa.ExtraRefOfExtraBig
open Go.RowKit Go.Proofs.YtfnicahlnpngkaaW.PrintWords Go.Proofs.YtfnicahlnpngkaaW.PrintLast Go.Proofs.YtfnicahlnpngkaaW.PrintMore Go.Proofs.Ytfnicahlnpngkaa.Base Go.Proofs.Ytfnicahlnpngkaa.NumRead Go.Proofs.Ytfnicahlnpngkaa.ExtraNum Go.Proofs.Ytfnicahlnpngkaa.PExtraBig Go.Proofs.Ytfnicahlnpngkaa.ExtraOfExtraBig

theorem two_small (s : ByteArray) (at_ : Int) (pl : Int → Int) : (rdNum (bytesOf s) at_ 2 pl).1 ≤ 65535 := by
  unfold rdNum
  rw [if_neg (by omega)]
  split
  · show (0 : Int) ≤ 65535; omega
  · show acc (bytesOf s) at_ pl 2 ≤ 65535
    have b0 := bt_range s (at_ + pl 0)
    have b1 := bt_range s (at_ + pl 1)
    have e1 : acc (bytesOf s) at_ pl 1 = bt s (at_ + pl 0) := by
      show Go.bits .or .u64 (IntKind.u64.wrap (0 * 256)) (IntKind.u64.wrap (rd (bytesOf s) (at_ + pl 0))) = _
      rw [rd_bytesOf, wu64 (n := bt s (at_ + pl 0)) (by omega) (by omega), or8_u64 (by omega) (by omega) b0.1 (by omega)]
      omega
    show Go.bits .or .u64 (IntKind.u64.wrap (acc (bytesOf s) at_ pl 1 * 256)) (IntKind.u64.wrap (rd (bytesOf s) (at_ + pl 1))) ≤ _
    rw [e1, rd_bytesOf, wu64 (n := bt s (at_ + pl 1)) (by omega) (by omega), or8_u64 b0.1 (by omega) b1.1 (by omega)]
    omega
theorem ex_none {s : ByteArray} {at_ : Int} (h : exNum (bytesOf s) at_ 2 = none) : (rdNum (bytesOf s) at_ 2 (fun i => 2 - 1 - i)).2 ≠ 0 := by
  unfold exNum at h
  intro h2
  have := two_small s at_ (fun i => 2 - 1 - i)
  rw [if_pos ⟨h2, by omega⟩] at h
  cases h
theorem ex_some {s : ByteArray} {at_ v : Int} (h : exNum (bytesOf s) at_ 2 = some v) : (rdNum (bytesOf s) at_ 2 (fun i => 2 - 1 - i)) = (v, 0) ∧ v ≤ 65535 := by
  unfold exNum at h
  split at h
  · rename_i hh
    injection h with h
    have := two_small s at_ (fun i => 2 - 1 - i)
    exact ⟨Prod.ext h hh.1, by omega⟩
  · cases h
theorem num_calls (A : Option Addr) (c n : Nat) (l : List Int) (at_ : Int) (w : World) (hr : Kd.C (Kd.int .u8) w A n l) (hn : n = l.length) (hc : n ≤ c) (hl : n ≤ 1048576) (ha : 0 ≤ at_ ∧ at_ ≤ 2000000) :
    Calls Try.prog 36 #[.slice A n c, .int .i64 at_, .int .i64 2, .bool false] w fun e w' => e = .returned (.tuple #[.int .u64 (rdNum l at_ 2 (fun i => 2 - 1 - i)).1, .int .i64 (rdNum l at_ 2 (fun i => 2 - 1 - i)).2]) ∧ Below w.heap.size w w' := by
  subst hn
  refine (Num1.stevedoreref1_Number.calls A c l at_ 2 false _ _ w hr hc (by unfold Num1.stevedoreref1_Number.f; rw [if_pos ⟨by omega, by omega, by omega⟩])).mono ?_
  rintro e w' ⟨rfl, hd⟩
  exact ⟨rfl, hd.below⟩

def stevedoreref27_Read.f (a0 : ByteArray) : Option (List S38 × Int) := extra_Read.f a0

def InvR (w : World) (ob : Obj) (wr : World) (v : Value) (out : List S38) : Prop :=
  wr.heap[w.heap.size]? = some ob ∧ Kd.R k38 38 wr (w.heap.size + 1) (fun _ => True) v out ∧ Below w.heap.size w wr ∧ w.heap.size + 1 ≤ wr.heap.size
theorem InvR.below {w : World} {ob : Obj} {wr w1 : World} {v : Value} {out : List S38} (h : InvR w ob wr v out) (hb : Below wr.heap.size wr w1) : InvR w ob w1 v out := by
  obtain ⟨h3, h4, h5, h6⟩ := h
  exact ⟨blk_below h3 hb, Kd.R_below h4 hb, below_then h5 h5.size hb, Nat.le_trans h6 hb.size⟩
theorem InvR.push {w : World} {ob : Obj} {wr w1 : World} {v v1 : Value} {out out1 : List S38} (h : InvR w ob wr v out) (hR : Kd.R k38 38 w1 (w.heap.size + 1) (fun _ => True) v1 out1) (hb : Below (w.heap.size + 1) wr w1) : InvR w ob w1 v1 out1 := by
  obtain ⟨h3, h4, h5, h6⟩ := h
  exact ⟨(hb.block _ (by omega)).trans h3, hR, h5.trans ⟨hb.os, hb.tape, hb.output, hb.size, fun k hk => hb.block k (by omega)⟩, Nat.le_trans h6 hb.size⟩

set_option maxHeartbeats 8000000 in
set_option maxRecDepth 100000 in
theorem stevedoreref27_Read.calls (a0 : ByteArray) (r1 : List S38) (r2 : Int) (w : World) (h : stevedoreref27_Read.f a0 = some (r1, r2)) :
    Calls Try.prog 25 #[.string a0] w fun e w' => ∃ v0_ : Value, e = .returned (.tuple #[v0_, .int .i64 r2]) ∧ Kd.R k38 38 w' w.heap.size (fun _ => True) v0_ r1 ∧ Below w.heap.size w w' := by
  have kb := run_bytes a0
  unfold stevedoreref27_Read.f extra_Read.f at h
  by_cases hs : a0.size ≤ 1048576
  · rw [if_pos hs] at h
    have HF := Aside0.mk h
    clear h
    go_enter Try.func25, Try.ntmps25
    go_wp2
    obtain ⟨ob, hob, hIB⟩ := bytes_block w a0 (by omega)
    have hcap := cap_bytes w a0
    have hI0 : InvR w ob (Lib.bytesWorld w 5 a0) (.slice none 0 0) [] :=
      ⟨hob, Kd.R_nil _ _ _ _ _, bytes_below (Below.refl _ _) (by omega) _ _, by rw [Lib.bytesWorld_size]; omega⟩
    generalize grownCap w a0.size 0 5 = cp at hcap ⊢
    generalize Lib.bytesWorld w 5 a0 = W1 at hI0 ⊢
    clear hob kb
    have HI0 := Aside0.mk hI0
    have HIB := Aside0.mk hIB
    clear hI0 hIB
    go_loopg [4, 6] (a0.size + 1) (fun kq v4 v6 wr => ∃ (at_ : Int) (out : List S38), v6 = .int .i64 at_ ∧ Aside0 (rdLoop a0 kq at_ out = some (r1, r2)) ∧ Aside0 (0 ≤ at_ ∧ at_ ≤ (a0.size : Int)) ∧ Aside0 (out.length ≤ 1048576 ∧ 4 * (out.length : Int) ≤ at_) ∧ Aside0 (InvR w ob wr v4 out))
    case atStart => exact ⟨0, [], rfl, HF, ⟨by omega, by omega⟩, ⟨by simp, by simp⟩, HI0⟩
    case round =>
      clear HF HI0
      obtain ⟨at_, out, rfl, HA, HR, HN, HI⟩ := hrel
      cases gk with
      | zero => exact absurd HA.out (by simp [rdLoop])
      | succ k1 =>
        have hr := HR.out
        have HC := Aside0.mk (HIB.out wr _ HI.out.1)
        have hl : a0.size = (bytesOf a0).length := (bytesOf_length a0).symm
        have HL := Aside0.mk hl
        clear hl
        by_cases hlt : at_ < (a0.size : Int)
        · have hw2 : wrap64 (at_ + 2) = at_ + 2 := wrap64_id (by omega) (by omega)
          cases hx : exNum (bytesOf a0) at_ 2 with
          | none =>
            have hH : rdLoop a0 (k1 + 1) at_ out = some ([], 2) := by rw [rdLoop, if_pos hlt, hx]
            rw [hH] at HA
            obtain ⟨rfl, rfl⟩ := Prod.mk.inj (Option.some.inj HA.out)
            have hne := ex_none hx
            have HN1 := Aside0.mk (num_calls (some ⟨w.heap.size, 0, none⟩) cp a0.size (bytesOf a0) at_ wr HC.out HL.out hcap hs ⟨hr.1, by omega⟩)
            generalize (rdNum (bytesOf a0) at_ 2 (fun i => 2 - 1 - i)).1 = x1 at HN1
            generalize (rdNum (bytesOf a0) at_ 2 (fun i => 2 - 1 - i)).2 = x2 at HN1 hne
            have b1 : (x2 == 0) = false := beq_eq_false_iff_ne.mpr hne
            have b2 : (x2 != 0) = true := bne_iff_ne.mpr hne
            have HN2 : Aside0 (∀ W, InvR w ob W u4 out → Calls Try.prog 36 #[.slice (some ⟨w.heap.size, 0, none⟩) a0.size cp, .int .i64 (at_ + 2), .int .i64 2, .bool false] W fun e w' => (∃ y1 y2, e = .returned (.tuple #[.int .u64 y1, .int .i64 y2])) ∧ Below W.heap.size W w') := ⟨fun W hW => (num_calls (some ⟨w.heap.size, 0, none⟩) cp a0.size (bytesOf a0) (at_ + 2) W (HIB.out W _ hW.1) HL.out hcap hs ⟨by omega, by omega⟩).mono fun e w' ⟨h1, h2⟩ => ⟨⟨_, _, h1⟩, h2⟩⟩
            clear hx hH HA hne
            go_wp2_with (first | (go_at_call 36; (with_reducible refine (HN1.out).mono ?_); rintro e w1 ⟨rfl, hb⟩; have HI1 := Aside0.mk (HI.out.below hb)) | (go_at_call 36; (with_reducible refine (HN2.out _ HI1.out).mono ?_); rintro e w2 ⟨⟨y1, y2, rfl⟩, hb2⟩))
            refine bodyPost_ret (v := .tuple #[.slice none 0 0, .int .i64 2]) (by simp [results, Try.results25, go_sem]) rfl ⟨_, rfl, Kd.R_nil _ _ _ _ _, (HI1.out.below hb2).2.2.1⟩
          | some id =>
            have hx' := ex_some hx
            have hid := exNum_range hx
            have HN1 := Aside0.mk (num_calls (some ⟨w.heap.size, 0, none⟩) cp a0.size (bytesOf a0) at_ wr HC.out HL.out hcap hs ⟨hr.1, by omega⟩)
            rw [hx'.1] at HN1
            have HN2 : Aside0 (∀ W, InvR w ob W u4 out → Calls Try.prog 36 #[.slice (some ⟨w.heap.size, 0, none⟩) a0.size cp, .int .i64 (at_ + 2), .int .i64 2, .bool false] W fun e w' => e = .returned (.tuple #[.int .u64 (rdNum (bytesOf a0) (at_ + 2) 2 (fun i => 2 - 1 - i)).1, .int .i64 (rdNum (bytesOf a0) (at_ + 2) 2 (fun i => 2 - 1 - i)).2]) ∧ Below W.heap.size W w') := ⟨fun W hW => num_calls (some ⟨w.heap.size, 0, none⟩) cp a0.size (bytesOf a0) (at_ + 2) W (HIB.out W _ hW.1) HL.out hcap hs ⟨by omega, by omega⟩⟩
            cases hy : exNum (bytesOf a0) (at_ + 2) 2 with
            | none =>
              have hH : rdLoop a0 (k1 + 1) at_ out = some ([], 2) := by rw [rdLoop, if_pos hlt, hx]; simp only [hy]
              rw [hH] at HA
              obtain ⟨rfl, rfl⟩ := Prod.mk.inj (Option.some.inj HA.out)
              have hne := ex_none hy
              generalize (rdNum (bytesOf a0) (at_ + 2) 2 (fun i => 2 - 1 - i)).1 = x1 at HN2
              generalize (rdNum (bytesOf a0) (at_ + 2) 2 (fun i => 2 - 1 - i)).2 = x2 at HN2 hne
              have b1 : (x2 == 0) = false := beq_eq_false_iff_ne.mpr hne
              have b2 : (x2 != 0) = true := bne_iff_ne.mpr hne
              clear hx hy hH HA hne hx'
              go_wp2_with (first | (go_at_call 36; (with_reducible refine (HN1.out).mono ?_); rintro e w1 ⟨rfl, hb⟩; have HI1 := Aside0.mk (HI.out.below hb)) | (go_at_call 36; (with_reducible refine (HN2.out _ HI1.out).mono ?_); rintro e w2 ⟨rfl, hb2⟩))
              refine bodyPost_ret (v := .tuple #[.slice none 0 0, .int .i64 2]) (by simp [results, Try.results25, go_sem]) rfl ⟨_, rfl, Kd.R_nil _ _ _ _ _, (HI1.out.below hb2).2.2.1⟩
            | some n =>
              have hy' := ex_some hy
              have hn := exNum_range hy
              have h0 : 0 ≤ at_ := hr.1
              rw [hy'.1] at HN2
              have hwi : wrap64 id = id := wrap64_id (by omega) (by omega)
              have hwn : wrap64 n = n := wrap64_id (by omega) (by omega)
              by_cases hgt : n > (a0.size : Int) - (at_ + 4)
              · have hH : rdLoop a0 (k1 + 1) at_ out = some ([], 2) := by rw [rdLoop, if_pos hlt, hx]; simp only [hy]; rw [if_pos hgt]
                rw [hH] at HA
                obtain ⟨rfl, rfl⟩ := Prod.mk.inj (Option.some.inj HA.out)
                have hg1 : decide ((a0.size : Int) - at_ - 4 < n) = true := decide_eq_true (by omega)
                have hn0 : 0 ≤ n := hn.1
                have hn1 : n ≤ 65535 := hy'.2
                clear hx hy hH HA hw2 hgt hx' hy' hwi
                go_wp2_with (first | (go_at_call 36; (with_reducible refine (HN1.out).mono ?_); rintro e w1 ⟨rfl, hb⟩; have HI1 := Aside0.mk (HI.out.below hb)) | (go_at_call 36; (with_reducible refine (HN2.out _ HI1.out).mono ?_); rintro e w2 ⟨rfl, hb2⟩))
                refine bodyPost_ret (v := .tuple #[.slice none 0 0, .int .i64 2]) (by simp [results, Try.results25, go_sem]) rfl ⟨_, rfl, Kd.R_nil _ _ _ _ _, (HI1.out.below hb2).2.2.1⟩
              · have hH : rdLoop a0 (k1 + 1) at_ out = rdLoop a0 k1 (at_ + 4 + n) (out ++ [⟨id, a0.extract (at_ + 4).toNat (at_ + 4 + n).toNat⟩]) := by rw [rdLoop, if_pos hlt, hx]; simp only [hy]; rw [if_neg hgt]
                rw [hH] at HA
                have hg1 : decide ((a0.size : Int) - at_ - 4 < n) = false := decide_eq_false (by omega)
                have hn0 : 0 ≤ n := hn.1
                have hn1 : n ≤ 65535 := hy'.2
                have hi0 : 0 ≤ id := hid.1
                have hi1 : id ≤ 65535 := hx'.2
                have hs2 : at_ + 4 + n ≤ (a0.size : Int) := by omega
                have hsl : ∀ W, (Instr.slice 9 (.string a0) (some (.int .i64 (at_ + 4))) (some (.int .i64 (at_ + 4 + n))) none).run Try.prog W = .ok (.string (a0.extract (at_ + 4).toNat (at_ + 4 + n).toNat)) W := fun W => run_slice_string W 9 a0 .i64 .i64 (at_ + 4) (at_ + 4 + n) Try.underlying9 (by omega) (by omega) (by omega)
                clear hx hy hH hw2 hgt hx' hy' hwi hwn
                go_wp2_with (first | (go_at_call 36; (with_reducible refine (HN1.out).mono ?_); rintro e w1 ⟨rfl, hb⟩; have HI1 := Aside0.mk (HI.out.below hb)) | (go_at_call 36; (with_reducible refine (HN2.out _ HI1.out).mono ?_); rintro e w2 ⟨rfl, hb2⟩; have HI2 := Aside0.mk (HI1.out.below hb2)) | ((with_reducible refine gate_builtin (b := .append) (xs := #[.tmp 46, .tmp 59]) rfl ?_); at_builtin; refine Kd.R_append k38 (w0 := w2) (w.heap.size + 1) rfl (.tmp 46) (.tmp 59) 33 38 (.agg #[.int .i64 0, .string ⟨#[]⟩]) 24 rfl Try.underlying33 inf38 rfl (by decide) (by omega) u4 out (⟨id, a0.extract (at_ + 4).toNat (at_ + 4 + n).toNat⟩ : S38) [.int .i64 id, .string (a0.extract (at_ + 4).toNat (at_ + 4 + n).toNat)] (fun _ => True) (fun _ => False) rfl rfl (k38_mkM _ _ _ (⟨id, a0.extract (at_ + 4).toNat (at_ + 4 + n).toNat⟩ : S38)) (fun _ hk => hk.elim) (fun _ _ => trivial) HI2.out.2.1 (Below.refl _ _) HI2.out.2.2.2 (by have := HN.out; omega) ?_; intro v1 w3 ho hb3 _ _; have HI3 := Aside0.mk (InvR.push HI2.out ho hb3); clear ho hb3))
                go_roundg k1
                case measure => omega
                case rel => exact ⟨at_ + 4 + n, _, rfl, HA, ⟨by omega, hs2⟩, ⟨by have := HN.out; simp; omega, by have := HN.out; simp; omega⟩, HI3⟩
        · have hH : rdLoop a0 (k1 + 1) at_ out = some (out, 0) := by rw [rdLoop, if_neg hlt]
          rw [hH] at HA
          obtain ⟨rfl, rfl⟩ := Prod.mk.inj (Option.some.inj HA.out)
          have hg1 : decide (at_ < (a0.size : Int)) = false := decide_eq_false hlt
          obtain ⟨A1, c1, e1⟩ := Kd.R_slice HI.out.2.1
          subst e1
          clear hlt hr hH HA
          go_wp2
          refine bodyPost_ret (v := .tuple #[.slice A1 out.length c1, .int .i64 0]) (by simp [results, Try.results25, go_sem]) rfl ⟨_, rfl, Kd.R_lower HI.out.2.1 (by omega), HI.out.2.2.1⟩
  · rw [if_neg hs] at h; cases h
end Go.Proofs.Ytfnicahlnpngkaa.ExtraRefOfExtraBig
