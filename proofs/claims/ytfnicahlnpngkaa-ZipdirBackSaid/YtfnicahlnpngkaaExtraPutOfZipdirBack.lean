/- extra.Put, walked by hand: what it comes to, and the walk. ZipdirBack: the printed namespace. -/
import Derived.Test.YtfnicahlnpngkaaPZipdirBackx0
import Derived.Test.YtfnicahlnpngkaaNum1
set_option linter.unusedVariables false
set_option linter.unusedSimpArgs false
namespace Go.Proofs.Ytfnicahlnpngkaa.ExtraPutOfZipdirBack
open Go.RowKit Go.Proofs.YtfnicahlnpngkaaW.PrintWords Go.Proofs.YtfnicahlnpngkaaW.PrintLast Go.Proofs.YtfnicahlnpngkaaW.PrintMore Go.Proofs.Ytfnicahlnpngkaa.Base Go.Proofs.Ytfnicahlnpngkaa.NumRead Go.Proofs.Ytfnicahlnpngkaa.PZipdirBack

theorem inf5 : (Try.prog.info? 5).map (fun i => (i.zero, i.size, i.bytes)) = some (some (.int .u8 0), 1, 1) := by kernel_rfl
/-- a field's bytes. -/
def fieldB (x : S38) : List Int := Num1.leB (IntKind.u64.wrap x.f0) 2 ++ Num1.leB (IntKind.u64.wrap (x.f1.size : Int)) 2 ++ bytesOf x.f1
theorem fieldB_length (x : S38) : (fieldB x).length = 4 + x.f1.size := by
  unfold fieldB
  rw [List.length_append, List.length_append, Num1.leB_length, Num1.leB_length, if_neg (by omega), bytesOf_length]
  rfl
def putLoop : List S38 → List Int → ByteArray × Int
  | [], b => (strOfNums b, 0)
  | x :: l, b => if x.f0 < 0 ∨ 65535 < x.f0 ∨ 65535 < (x.f1.size : Int) ∨ 65531 - (b.length : Int) < (x.f1.size : Int) then (⟨#[]⟩, 1) else putLoop l (b ++ fieldB x)
def extra_Put.f (l0 : List S38) : Option (ByteArray × Int) := if l0.length ≤ 100000000 then some (putLoop l0 []) else none

theorem drop_rd (l : List S38) (i : Nat) (h : i < l.length) : l.drop i = rd_T38 l i :: l.drop (i + 1) := by
  rw [List.drop_eq_getElem_cons h]
  congr 1
  unfold rd_T38
  rw [Int.toNat_natCast, List.getD_eq_getElem?_getD, List.getElem?_eq_getElem h]
  rfl

set_option maxHeartbeats 8000000 in
set_option maxRecDepth 100000 in
theorem extra_Put.calls (A0 : Option Addr) (c0 : Nat) (l0 : List S38) (r1 : ByteArray) (r2 : Int) (w : World) (hr0 : Kd.C k38 w A0 l0.length l0) (hc0 : l0.length ≤ c0) (h : extra_Put.f l0 = some (r1, r2)) :
    Calls Try.prog 26 #[.slice A0 l0.length c0] w fun e w' => e = .returned (.tuple #[.string r1, .int .i64 r2]) ∧ Below w.heap.size w w' := by
  have hu38 := Try.underlying38
  unfold extra_Put.f at h
  by_cases hl : l0.length ≤ 100000000
  · rw [if_pos hl, Option.some.injEq] at h
    have HF := Aside0.mk h
    have HR0 := Aside0.mk hr0
    clear h hr0 hc0
    go_enter Try.func26, Try.ntmps26
    go_wp2
    go_loopw [4, 9] (fun v4 v9 wr => ∃ (i : Int) (b : List Int), v9 = .int .i64 i ∧ Aside0 (0 ≤ i ∧ i ≤ (l0.length : Int)) ∧ Aside0 (putLoop (l0.drop i.toNat) b = (r1, r2)) ∧ Aside0 (b.length ≤ 65535) ∧ Aside0 (Kd.R (Kd.int .u8) 5 wr w.heap.size (fun _ => True) v4 b) ∧ Aside0 (Below w.heap.size w wr)) (fun _ v9 _ => (l0.length - (intOf v9).toNat))
    case atStart => exact ⟨0, [], rfl, ⟨by omega, by omega⟩, HF, ⟨by simp⟩, ⟨Kd.R_nil _ _ _ _ _⟩, ⟨Below.refl _ _⟩⟩
    case round =>
      obtain ⟨i, b, rfl, HI, HP, HL, HO, HB⟩ := hrel
      have hi0 := HI.out.1
      have hbl := HL.out
      obtain ⟨A, cp, e0⟩ := Kd.R_slice HO.out
      subst e0
      by_cases hlt : i < (l0.length : Int)
      · have hp := HP.out
        rw [drop_rd l0 i.toNat (by omega), putLoop, show ((i.toNat : Nat) : Int) = i by omega] at hp
        obtain ⟨ad, hA, hx0, hx1⟩ := at_T38 HR0.out i hi0 hlt
        cases hA
        replace hx0 := (HB.out.cell (World.block_lt_of_cell? w _ hx0)).trans hx0
        replace hx1 := (HB.out.cell (World.block_lt_of_cell? w _ hx1)).trans hx1
        have p1 := eq_true hi0
        have q1 := eq_true hlt
        have LT := Aside0.mk hlt
        have I0 := Aside0.mk hi0
        clear hlt hi0
        by_cases hbad : (rd_T38 l0 i).f0 < 0 ∨ 65535 < (rd_T38 l0 i).f0 ∨ 65535 < ((rd_T38 l0 i).f1.size : Int) ∨ 65531 - (b.length : Int) < ((rd_T38 l0 i).f1.size : Int)
        · rw [if_pos hbad] at hp
          obtain ⟨rfl, rfl⟩ := Prod.mk.inj hp
          have hcs : (decide ((rd_T38 l0 i).f0 < 0) = true) ∨ (decide ((rd_T38 l0 i).f0 < 0) = false ∧ decide (65535 < (rd_T38 l0 i).f0) = true) ∨ (decide ((rd_T38 l0 i).f0 < 0) = false ∧ decide (65535 < (rd_T38 l0 i).f0) = false ∧ decide (65535 < ((rd_T38 l0 i).f1.size : Int)) = true) ∨ (decide ((rd_T38 l0 i).f0 < 0) = false ∧ decide (65535 < (rd_T38 l0 i).f0) = false ∧ decide (65535 < ((rd_T38 l0 i).f1.size : Int)) = false ∧ decide (65531 - (b.length : Int) < ((rd_T38 l0 i).f1.size : Int)) = true) := by
            by_cases a1 : (rd_T38 l0 i).f0 < 0
            · exact .inl (decide_eq_true a1)
            · by_cases a2 : 65535 < (rd_T38 l0 i).f0
              · exact .inr (.inl ⟨decide_eq_false a1, decide_eq_true a2⟩)
              · by_cases a3 : 65535 < ((rd_T38 l0 i).f1.size : Int)
                · exact .inr (.inr (.inl ⟨decide_eq_false a1, decide_eq_false a2, decide_eq_true a3⟩))
                · exact .inr (.inr (.inr ⟨decide_eq_false a1, decide_eq_false a2, decide_eq_false a3, decide_eq_true (by omega)⟩))
          clear hbad hp HP HF
          rcases hcs with b0 | ⟨b0, b1⟩ | ⟨b0, b1, b2⟩ | ⟨b0, b1, b2, b3⟩
          all_goals
            go_wp2
            go_ret2
            exact ⟨rfl, HB.out.alloc HB.out.size _⟩
        · rw [if_neg hbad] at hp
          have b0 : decide ((rd_T38 l0 i).f0 < 0) = false := decide_eq_false (by omega)
          have b1 : decide (65535 < (rd_T38 l0 i).f0) = false := decide_eq_false (by omega)
          have b2 : decide (65535 < ((rd_T38 l0 i).f1.size : Int)) = false := decide_eq_false (by omega)
          have b3 : decide (65531 - (b.length : Int) < ((rd_T38 l0 i).f1.size : Int)) = false := decide_eq_false (by omega)
          have hsz : ((rd_T38 l0 i).f1.size : Int) ≤ 65531 - (b.length : Int) := by omega
          have HPP := Aside0.mk hp
          have HSZ := Aside0.mk hsz
          clear hp HP hbad hsz
          go_wp2
          have hc0 : (wr.alloc (.cells #[.int .i64 (rd_T38 l0 i).f0, .string (rd_T38 l0 i).f1] 38)).drew.cell? ⟨wr.heap.size, 0, none⟩ = some (.int .i64 (rd_T38 l0 i).f0) ∧ (wr.alloc (.cells #[.int .i64 (rd_T38 l0 i).f0, .string (rd_T38 l0 i).f1] 38)).drew.cell? ⟨wr.heap.size, 1, none⟩ = some (.string (rd_T38 l0 i).f1) := ⟨by simp [go_sem], by simp [go_sem]⟩
          refine start_ (n := 11) (S := (fun W => W.cell? ⟨wr.heap.size, 0, none⟩ = some (.int .i64 (rd_T38 l0 i).f0) ∧ W.cell? ⟨wr.heap.size, 1, none⟩ = some (.string (rd_T38 l0 i).f1))) (ds := []) #[false, false, false, false, false, false, false, false, false, false, false] (by kernel_rfl) rfl rfl hc0 (fun hHeld => ?_)
          refine pure_ (i := 0) (N := (some 36)) (v := ?_) (a' := ?_) #[true, false, false, false, false, false, false, false, false, false, false] rfl rfl (by kernel_rfl) (fun _ _ _ h => h) (Or.inl ⟨by rfl, ?_⟩) ?_ ?_
          rotate_left
          · intro w'
            go_simp
            with_reducible rfl
          rotate_left
          · simp only [Act.put, List.setIfInBounds_toArray, List.set_cons_zero, List.set_cons_succ, i64_w, i32_w]
            rfl
          refine pure_ (i := 1) (N := (some 37)) (v := ?_) (a' := ?_) #[true, true, false, false, false, false, false, false, false, false, false] rfl rfl (by kernel_rfl) (fun _ _ _ h => h) (Or.inl ⟨by rfl, ?_⟩) ?_ ?_
          rotate_left
          · intro w'
            go_simp
            with_reducible rfl
          rotate_left
          · simp only [Act.put, List.setIfInBounds_toArray, List.set_cons_zero, List.set_cons_succ, i64_w, i32_w]
            rfl
          refine take_ (i := 2) (N := (some 38)) (v := ?_) (a' := ?_) #[true, true, true, false, false, false, false, false, false, false, false] rfl rfl (by kernel_rfl) (fun _ _ _ h => h) (Or.inl ⟨by rfl, ?_⟩) hHeld ?_ ?_
          rotate_left
          · intro w' hS'
            obtain ⟨q1, q2⟩ := hS'
            go_simp
            with_reducible rfl
          rotate_left
          · simp only [Act.put, List.setIfInBounds_toArray, List.set_cons_zero, List.set_cons_succ, i64_w, i32_w]
            rfl
          refine pure_ (i := 3) (N := (some 39)) (v := ?_) (a' := ?_) #[true, true, true, true, false, false, false, false, false, false, false] rfl rfl (by kernel_rfl) (fun _ _ _ h => h) (Or.inl ⟨by rfl, ?_⟩) ?_ ?_
          rotate_left
          · intro w'
            go_simp
            with_reducible rfl
          rotate_left
          · simp only [Act.put, List.setIfInBounds_toArray, List.set_cons_zero, List.set_cons_succ, i64_w, i32_w]
            rfl
          refine pure_ (i := 5) (N := (some 41)) (v := ?_) (a' := ?_) #[true, true, true, true, false, true, false, false, false, false, false] rfl rfl (by kernel_rfl) (fun _ _ _ h => h) (Or.inl ⟨by rfl, ?_⟩) ?_ ?_
          rotate_left
          · intro w'
            go_simp
            with_reducible rfl
          rotate_left
          · simp only [Act.put, List.setIfInBounds_toArray, List.set_cons_zero, List.set_cons_succ, i64_w, i32_w]
            rfl
          refine take_ (i := 6) (N := (some 42)) (v := ?_) (a' := ?_) #[true, true, true, true, false, true, true, false, false, false, false] rfl rfl (by kernel_rfl) (fun _ _ _ h => h) (Or.inl ⟨by rfl, ?_⟩) hHeld ?_ ?_
          rotate_left
          · intro w' hS'
            obtain ⟨q1, q2⟩ := hS'
            go_simp
            with_reducible rfl
          rotate_left
          · simp only [Act.put, List.setIfInBounds_toArray, List.set_cons_zero, List.set_cons_succ, i64_w, i32_w]
            rfl
          refine pure_ (i := 7) (N := (some 43)) (v := ?_) (a' := ?_) #[true, true, true, true, false, true, true, true, false, false, false] rfl rfl (by kernel_rfl) (fun _ _ _ h => h) (Or.inl ⟨by rfl, ?_⟩) ?_ ?_
          rotate_left
          · intro w'
            go_simp
            with_reducible rfl
          rotate_left
          · simp only [Act.put, List.setIfInBounds_toArray, List.set_cons_zero, List.set_cons_succ, i64_w, i32_w]
            rfl
          refine pure_ (i := 8) (N := (some 44)) (v := ?_) (a' := ?_) #[true, true, true, true, false, true, true, true, true, false, false] rfl rfl (by kernel_rfl) (fun _ _ _ h => h) (Or.inl ⟨by rfl, ?_⟩) ?_ ?_
          rotate_left
          · intro w'
            go_simp
            with_reducible rfl
          rotate_left
          · simp only [Act.put, List.setIfInBounds_toArray, List.set_cons_zero, List.set_cons_succ, i64_w, i32_w]
            rfl
          refine one_ (i := 4) (N := (some 40)) #[true, true, true, true, true, true, true, true, true, false, false] rfl rfl (by kernel_rfl) (by decide) (fun K hK => ?_)
          refine goes_ Try.func38 (by kernel_rfl) rfl #[.slice A b.length cp, .int .u64 (IntKind.u64.wrap (rd_T38 l0 i).f0), .int .i64 2] (by rfl) rfl rfl (by (try simp only [List.map_toArray, List.map_cons, List.map_nil]); first | done | rfl) ?_
          refine (Num1.num_PutLittle.calls A cp b (IntKind.u64.wrap (rd_T38 l0 i).f0) 2 _ _ (Kd.C_drew (Kd.C_alloc (Kd.R_reads' HO.out).2.2 _)) (Kd.R_reads' HO.out).2.1 (by unfold Num1.num_PutLittle.f; rw [if_pos (by omega)])).mono ?_
          rintro e w1 ⟨v1, rfl, ho1, hb1⟩
          obtain ⟨A1, c1, e1⟩ := Kd.R_slice ho1
          subst e1
          refine ⟨_, rfl, ?_⟩
          have hs1 : w1.cell? ⟨wr.heap.size, 0, none⟩ = some (.int .i64 (rd_T38 l0 i).f0) ∧ w1.cell? ⟨wr.heap.size, 1, none⟩ = some (.string (rd_T38 l0 i).f1) := ⟨pw_cell_below hb1 hc0.1, pw_cell_below hb1 hc0.2⟩
          refine hK.out _ _ hs1 (fun hHeld => ?_)
          clear hK K
          refine norm_ (a' := ?_) ?_ ?_
          rotate_left
          · simp only [Act.put, List.setIfInBounds_toArray, List.set_cons_zero, List.set_cons_succ]
            rfl
          refine one_ (i := 9) (N := (some 45)) #[true, true, true, true, true, true, true, true, true, true, false] rfl rfl (by kernel_rfl) (by decide) (fun K hK => ?_)
          refine goes_ Try.func38 (by kernel_rfl) rfl #[.slice A1 (b ++ Num1.leB (IntKind.u64.wrap (rd_T38 l0 i).f0) 2).length c1, .int .u64 (IntKind.u64.wrap ((rd_T38 l0 i).f1.size : Int)), .int .i64 2] (by rfl) rfl rfl (by (try simp only [List.map_toArray, List.map_cons, List.map_nil]); first | done | rfl) ?_
          refine (Num1.num_PutLittle.calls A1 c1 (b ++ Num1.leB (IntKind.u64.wrap (rd_T38 l0 i).f0) 2) (IntKind.u64.wrap ((rd_T38 l0 i).f1.size : Int)) 2 _ _ (Kd.R_reads' ho1).2.2 (Kd.R_reads' ho1).2.1 (by unfold Num1.num_PutLittle.f; rw [if_pos (by rw [List.length_append, Num1.leB_length, if_neg (by omega)]; omega)])).mono ?_
          rintro e w2 ⟨v2, rfl, ho2, hb2⟩
          obtain ⟨A2, c2, e2⟩ := Kd.R_slice ho2
          subst e2
          refine ⟨_, rfl, ?_⟩
          refine hK.out _ _ ⟨pw_cell_below hb2 hs1.1, pw_cell_below hb2 hs1.2⟩ (fun hHeld => ?_)
          clear hK K
          refine norm_ (a' := ?_) ?_ ?_
          rotate_left
          · simp only [Act.put, List.setIfInBounds_toArray, List.set_cons_zero, List.set_cons_succ]
            rfl
          refine pure_ (i := 10) (N := (some 4)) (v := ?_) (a' := ?_) #[true, true, true, true, true, true, true, true, true, true, true] rfl rfl (by kernel_rfl) (fun _ _ _ h => h) (Or.inl ⟨by rfl, ?_⟩) ?_ ?_
          rotate_left
          · intro w'
            go_simp
            with_reducible rfl
          rotate_left
          · simp only [Act.put, List.setIfInBounds_toArray, List.set_cons_zero, List.set_cons_succ, i64_w, i32_w]
            rfl
          refine done_ (by kernel_rfl) ?_
          have hlen : (b ++ Num1.leB (IntKind.u64.wrap (rd_T38 l0 i).f0) 2 ++ Num1.leB (IntKind.u64.wrap ((rd_T38 l0 i).f1.size : Int)) 2).length = b.length + ((Num1.leB (IntKind.u64.wrap (rd_T38 l0 i).f0) 2).length + (Num1.leB (IntKind.u64.wrap ((rd_T38 l0 i).f1.size : Int)) 2).length) := by simp [Nat.add_assoc]
          have hl4 : (b ++ Num1.leB (IntKind.u64.wrap (rd_T38 l0 i).f0) 2 ++ Num1.leB (IntKind.u64.wrap ((rd_T38 l0 i).f1.size : Int)) 2).length = b.length + 4 := by rw [hlen, Num1.leB_length, Num1.leB_length, if_neg (by omega)]; rfl
          have hbw1 : Below w.heap.size w w1 := below_then (below_drew (HB.out.alloc HB.out.size _)) (below_drew (HB.out.alloc HB.out.size _)).size hb1
          have hbw2 : Below w.heap.size w w2 := below_then hbw1 hbw1.size hb2
          have ho3 := Kd.own_of_R (Kd.R_lower ho2 hbw1.size)
          have hsz3 := hbw2.size
          rw [hlen] at ho3
          have HO3 := Aside0.mk ho3
          have HB2 := Aside0.mk hbw2
          have HL4 := Aside0.mk hl4
          have HLEN := Aside0.mk hlen
          rw [hlen] at hl4
          generalize hm : b.length + ((Num1.leB (IntKind.u64.wrap (rd_T38 l0 i).f0) 2).length + (Num1.leB (IntKind.u64.wrap ((rd_T38 l0 i).f1.size : Int)) 2).length) = m4 at HO3 hl4 HLEN ⊢
          obtain ⟨q1', q2'⟩ := hHeld
          clear hc0 hs1 hb1 hb2 ho1 ho2 hlen hbw1 hbw2 ho3 hm
          go_wp2_with ((with_reducible refine gate_builtin (b := .append) (xs := #[.tmp 46, .tmp 48]) rfl ?_); at_builtin; refine print_append_str (w0 := w2) w.heap.size rfl (.tmp 46) (.tmp 48) 58 9 5 rfl Try.underlying58 Try.underlying9 inf5 (.slice A2 m4 c2) (b ++ Num1.leB (IntKind.u64.wrap (rd_T38 l0 i).f0) 2 ++ Num1.leB (IntKind.u64.wrap ((rd_T38 l0 i).f1.size : Int)) 2) (rd_T38 l0 i).f1 rfl rfl (by rw [HLEN.out]; exact HO3.out) (Below.refl _ _) hsz3 (by rw [HL4.out]; have := HSZ.out; omega) ?_; intro v3 w3 ho4 hb4 _; have HO4 := Aside0.mk ho4; have HB4 := Aside0.mk (HB2.out.trans hb4); clear ho4 hb4)
          have hI := HI.out
          have hLT := LT.out
          have hw1 : wrap64 (i + 1) = i + 1 := wrap64_id (by omega) (by omega)
          go_roundw
          case measure => rw [hw1]; simp only [intOf]; omega
          case rel =>
            refine ⟨i + 1, b ++ fieldB (rd_T38 l0 i), by rw [hw1], ⟨by omega, by omega⟩, ⟨by rw [show (i + 1).toNat = i.toNat + 1 by omega]; exact HPP.out⟩, ⟨by rw [List.length_append, fieldB_length]; have := HSZ.out; omega⟩, ⟨?_⟩, HB4⟩
            have h4 := HO4.out
            rw [List.append_assoc, List.append_assoc, ← List.append_assoc (Num1.leB (IntKind.u64.wrap (rd_T38 l0 i).f0) 2)] at h4
            exact Kd.R_of_own h4 (fun _ _ => trivial)
      · have hp := HP.out
        rw [List.drop_of_length_le (by have := HI.out; omega), putLoop] at hp
        obtain ⟨rfl, rfl⟩ := Prod.mk.inj hp
        have b0 : decide (i < (l0.length : Int)) = false := decide_eq_false hlt
        have hcv := own_string (P := Try.prog) Try.underlying58 Try.underlying5 Try.underlying9 (Kd.own_of_R HO.out)
        clear hlt hp HP HF
        go_wp2
        go_ret2
        exact ⟨rfl, HB.out⟩
  · rw [if_neg hl] at h; cases h
end Go.Proofs.Ytfnicahlnpngkaa.ExtraPutOfZipdirBack
