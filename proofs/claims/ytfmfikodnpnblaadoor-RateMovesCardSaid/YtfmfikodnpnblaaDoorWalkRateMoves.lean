/- The document's Rank: its comparison. -/
import Derived.Test.YtfmfikodnpnblaaDoorRankF
import Derived.Test.YtfmfikodnpnblaaDoorPRate1x0
import Derived.Test.YtfmfikodnpnblaaDoorRateNanS
import Derived.Test.YtfmfikodnpnblaaDoorFltWhole
import Derived.Test.YtfmfikodnpnblaaDoorRateTold
import Derived.Test.YtfmfikodnpnblaaDoorPRate1x
set_option linter.unusedVariables false
set_option linter.unusedSimpArgs false
namespace Go.Proofs.YtfmfikodnpnblaaDoor.RankRef
open Go.RowKit Go.Proofs Go.Sort Go.Proofs.YtfmfikodnpnblaaDoorW.PrintWords Go.Proofs.YtfmfikodnpnblaaDoor.Base Go.Proofs.YtfmfikodnpnblaaDoorW.PrintLast Go.Proofs.YtfmfikodnpnblaaDoorW.PrintMore Go.Proofs.YtfmfikodnpnblaaDoor.Flt Go.Proofs.YtfmfikodnpnblaaDoor.PRate1 Go.Proofs.YtfmfikodnpnblaaDoor.RankCmp
theorem by_keys (a b : Nat) : FloatKind.f64.format.order a b = match key a, key b with | some x, some y => some (compare x y) | _, _ => none := by
  cases ha : key a with
  | none => exact order_nan (.inl ha)
  | some x =>
    cases hb : key b with
    | none => exact order_nan (.inr hb)
    | some y => exact order_key ha hb
theorem ahead_is (a b : Nat) : (((FloatKind.f64.format.order a a != some .eq) && (FloatKind.f64.format.order b b == some .eq)) || (FloatKind.f64.format.order a b == some .lt)) = kz (key a) (key b) := by
  rw [by_keys a a, by_keys b b, by_keys a b]
  cases ha : key a with
  | none =>
    cases hb : key b with
    | none => rfl
    | some y => simp [cmp_eq, kz]
  | some x =>
    cases hb : key b with
    | none => simp [kz, cmp_eq]
    | some y =>
      simp only [cmp_eq, kz]
      rcases Int.lt_trichotomy x y with g | g | g
      · simp [cmp_lt g, g, cmp_eq]
      · simp [cmp_eq g, g, cmp_eq]
      · have : ¬ x < y := by omega
        simp [cmp_gt g, cmp_eq, this]
set_option maxRecDepth 100000 in
theorem ahead_calls (a b : Nat) (w : World) : Calls Tryd.prog 53 #[.float .f64 a, .float .f64 b] w fun e w' => e = .returned (.bool (kz (key a) (key b))) ∧ w' = w := by
  rw [← ahead_is]
  obtain ⟨x, hx⟩ : ∃ x, (FloatKind.f64.format.order a a != some .eq) = x := ⟨_, rfl⟩
  obtain ⟨y, hy⟩ : ∃ y, (FloatKind.f64.format.order b b == some .eq) = y := ⟨_, rfl⟩
  obtain ⟨z, hz⟩ : ∃ z, (FloatKind.f64.format.order a b == some .lt) = z := ⟨_, rfl⟩
  rw [hx, hy, hz]
  cases x <;> cases y <;> cases z
  all_goals go_enter Tryd.func53, Tryd.ntmps53
  all_goals go_wp2
  all_goals go_ret
  all_goals exact ⟨rfl, rfl⟩
/-! ### slices of a row; rows that are apart -/
theorem add_zero_ (a : Addr) : a.add 0 = a := by unfold Addr.add; simp
set_option maxRecDepth 100000 in
theorem sl_take {A : Option Addr} {n cp k : Nat} (hk : k ≤ cp) : ∀ W, (Instr.slice 24 (.slice A n cp) none (some (.int .i64 (k : Int))) none).run Tryd.prog W = .ok (.slice A k cp) W := fun W => by
  have h := run_slice_h (P := Tryd.prog) W 24 A n cp Tryd.underlying24 .i64 (k : Int) (by omega) (by omega)
  rw [h]
  have e : (if cp = 0 then A else A.map fun x => x.add 0) = A := by
    split
    · rfl
    · cases A with
      | none => rfl
      | some a => rw [Option.map_some, add_zero_]
  obtain ⟨i, hi, hz⟩ := Option.map_eq_some_iff.1 info3
  simp only [Prod.mk.injEq] at hz
  simp [sliced, sizeOf, typeInfo, hi, hz.2.1, show Tryd.prog.elem 24 = 3 from by kernel_rfl, e, go_sem]
def dropAt (A : Option Addr) (cp k : Nat) : Option Addr := if cp = k then A else A.map fun x => x.add k
set_option maxRecDepth 100000 in
theorem sl_drop {A : Option Addr} {n cp k : Nat} (hk : k ≤ n) (hn : n ≤ cp) : ∀ W, (Instr.slice 24 (.slice A n cp) (some (.int .i64 (k : Int))) none none).run Tryd.prog W = .ok (.slice (dropAt A cp k) (n - k) (cp - k)) W := fun W => by
  have h := run_slice_l (P := Tryd.prog) W 24 A n cp Tryd.underlying24 .i64 (k : Int) (by omega) (by omega)
  rw [h]
  obtain ⟨i, hi, hz⟩ := Option.map_eq_some_iff.1 info3
  simp only [Prod.mk.injEq] at hz
  simp [sliced, sizeOf, typeInfo, hi, hz.2.1, show Tryd.prog.elem 24 = 3 from by kernel_rfl, dropAt, go_sem]
theorem take_C {w : World} {A : Option Addr} {out : List Int} {k : Nat} (h : Kd.C (Kd.int .i64) w A out.length out) (hk : k ≤ out.length) : Kd.C (Kd.int .i64) w A k (out.take k) := by
  have hr : ReadsOf (Value.int .i64) (0 : Int) w A out.length out := Kd.reads_of_C (h1 := fun _ => rfl) h
  refine Kd.C_of_reads (d := (0 : Int)) (h1 := fun _ => rfl) ⟨by rw [List.length_take]; omega, by have := hr.2.1; omega, fun h0 => ?_⟩
  obtain ⟨ad, e, hc⟩ := hr.2.2 (by omega)
  refine ⟨ad, e, fun j hj => ?_⟩
  rw [hc j (by omega)]
  congr 2
  rw [List.getD_eq_getElem?_getD, List.getD_eq_getElem?_getD, List.getElem?_take_of_lt hj]
theorem drop_C {w : World} {A : Option Addr} {out : List Int} {k n cp : Nat} (h : Kd.C (Kd.int .i64) w A out.length out) (hn : out.length = n) (hk : k ≤ n) (hc : n ≤ cp) : Kd.C (Kd.int .i64) w (dropAt A cp k) (n - k) (out.drop k) := by
  have hr : ReadsOf (Value.int .i64) (0 : Int) w A out.length out := Kd.reads_of_C (h1 := fun _ => rfl) h
  refine Kd.C_of_reads (d := (0 : Int)) (h1 := fun _ => rfl) ⟨by rw [List.length_drop]; omega, by have := hr.2.1; omega, fun h0 => ?_⟩
  obtain ⟨ad, e, hcc⟩ := hr.2.2 (by omega)
  refine ⟨ad.add k, ?_, fun j hj => ?_⟩
  · unfold dropAt; rw [if_neg (by omega), e]; rfl
  · rw [Go.Deep.add_add, hcc (k + j) (by omega)]
    congr 2
    rw [List.getD_eq_getElem?_getD, List.getD_eq_getElem?_getD, List.getElem?_drop]
def Ap (u v : Value) : Prop := ∀ k, u.ownBlock = some k → some k ≠ v.ownBlock
theorem Ap.sym {u v : Value} (h : Ap u v) : Ap v u := fun k hk e => h k e.symm (by rw [hk])
theorem ap_new {w W : World} {u v : Value} {xs : List Int} (hu : ∃ b, u.ownBlock = some b ∧ W.heap.size ≤ b) (hv : Kd.R (Kd.int .i64) 3 W w.heap.size (fun _ => True) v xs) : Ap u v := fun k hk e => by
  obtain ⟨b, h1, h2⟩ := hu
  have := Kd.R_lt hv k e.symm
  rw [hk] at h1; injection h1 with h1; omega
theorem ap_app {w W : World} {v1 v u : Value} {ys : List Int} (hat : v1.ownBlock = v.ownBlock ∨ ∃ b, v1.ownBlock = some b ∧ W.heap.size ≤ b) (h : Ap v u) (hu : Kd.R (Kd.int .i64) 3 W w.heap.size (fun _ => True) u ys) : Ap v1 u := by
  rcases hat with e | hb
  · intro k hk; exact h k (e ▸ hk)
  · exact ap_new hb hu
/-- two new rows, apart from one another and from the old one. -/
structure St (w w' : World) (vo : Value) (out : List Int) (v37 : Value) (xs : List Int) (v39 : Value) (ys : List Int) : Prop where
  q37 : Kd.R (Kd.int .i64) 3 w' w.heap.size (fun _ => True) v37 xs
  q39 : Kd.R (Kd.int .i64) 3 w' w.heap.size (fun _ => True) v39 ys
  qo : Kd.R (Kd.int .i64) 3 w' w.heap.size (fun _ => True) vo out
  qa : Ap v37 v39
  qb : Ap v37 vo
  qc : Ap v39 vo
  qB : Below w.heap.size w w'
/-! ### the document's Rank -/
def pos (G : Nat → Nat) (x : Nat) (out : List Int) : Nat → Nat
  | 0 => 0
  | k + 1 => if kz (key x) (key (G (out.getD k 0).toNat)) = true then pos G x out k else k + 1
theorem pos_le (G : Nat → Nat) (x : Nat) (out : List Int) : ∀ k, pos G x out k ≤ k
  | 0 => Nat.le_refl _
  | k + 1 => by
    rw [pos]
    split
    · exact Nat.le_trans (pos_le G x out k) (by omega)
    · exact Nat.le_refl _
def ins (G : Nat → Nat) (i : Nat) (out : List Int) : List Int := out.take (pos G (G i) out out.length) ++ (i : Int) :: out.drop (pos G (G i) out out.length)
theorem ins_len (G : Nat → Nat) (i : Nat) (out : List Int) : (ins G i out).length = out.length + 1 := by
  have := pos_le G (G i) out out.length
  unfold ins
  rw [List.length_append, List.length_take, List.length_cons, List.length_drop]
  omega
def refRank (G : Nat → Nat) : Nat → List Int
  | 0 => []
  | n + 1 => ins G n (refRank G n)
theorem ref_len (G : Nat → Nat) : ∀ n, (refRank G n).length = n
  | 0 => rfl
  | n + 1 => by rw [refRank, ins_len, ref_len G n]
theorem mem_ins {G : Nat → Nat} {i : Nat} {out : List Int} {x : Int} (h : x ∈ ins G i out) : x = (i : Int) ∨ x ∈ out := by
  unfold ins at h
  rcases List.mem_append.1 h with h | h
  · exact .inr (List.mem_of_mem_take h)
  · rcases List.mem_cons.1 h with h | h
    · exact .inl h
    · exact .inr (List.mem_of_mem_drop h)
theorem ref_bound (G : Nat → Nat) : ∀ n, ∀ x ∈ refRank G n, 0 ≤ x ∧ x < (n : Int)
  | 0 => fun x hx => by cases hx
  | n + 1 => fun x hx => by
    rcases mem_ins hx with h | h
    · omega
    · have := ref_bound G n x h; omega
set_option maxHeartbeats 4000000 in
set_option maxRecDepth 100000 in
theorem stevedoreref35_Rank.calls0 (A0 : Option Addr) (c0 : Nat) (l0 : List Nat) (w : World) (hr0 : Kd.C Kd.float w A0 l0.length l0) (hc0 : l0.length ≤ c0) (h40 : l0.length ≤ 40) :
    Calls Tryd.prog 18 #[.slice A0 l0.length c0] w fun e w' => ∃ v0_ : Value, e = .returned (v0_) ∧ Kd.R (Kd.int .i64) 3 w' w.heap.size (fun _ => True) v0_ (refRank (fun t => l0.getD t 0) l0.length) ∧ Below w.heap.size w w' := by
  have HR := Aside0.mk hr0
  have HB := Aside0.mk (Below.refl w.heap.size w)
  clear hr0
  obtain ⟨G, hG⟩ : ∃ G : Nat → Nat, (fun t => l0.getD t 0) = G := ⟨_, rfl⟩
  rw [hG]
  have HG := Aside0.mk hG
  clear hG
  go_enter Tryd.func18, Tryd.ntmps18
  go_wp2
  go_loopg [3, 4] (l0.length + 1) (fun kq v3 v4 wr => ∃ n : Nat, v4 = .int .i64 (n : Int) ∧ Aside0 (n ≤ l0.length ∧ l0.length + 1 ≤ kq + n) ∧ Aside0 (Kd.R (Kd.int .i64) 3 wr w.heap.size (fun _ => True) v3 (refRank G n)) ∧ Aside0 (Below w.heap.size w wr))
  case atStart => exact ⟨0, rfl, ⟨by omega, by omega⟩, ⟨Kd.R_nil _ _ _ _ _⟩, HB⟩
  case round =>
    clear HB
    obtain ⟨n, rfl, HX, HO, HB⟩ := hrel
    obtain ⟨A, cp, hs⟩ := Kd.R_slice HO.out
    have hln := ref_len G n
    have hbd := ref_bound G n
    rw [hln] at hs
    subst hs
    by_cases hlt : n < l0.length
    · have hz : (n : Int) < (l0.length : Int) := by omega
      obtain ⟨kq0, rfl⟩ : ∃ q, gk = q + 1 := ⟨gk - 1, by have := HX.out; omega⟩
      have HRr := Aside0.mk (Kd.C_below HR.out HB.out)
      have HOr := Aside0.mk (Kd.R_reads' HO.out).2.2
      have hGn : rdOf 0 l0 (n : Int) = G n := by unfold rdOf; rw [← HG.out]; simp
      obtain ⟨out, hout⟩ : ∃ out, refRank G n = out := ⟨_, rfl⟩
      rw [hout] at HO HOr hln hbd
      rw [hln] at HOr
      have HOUT := Aside0.mk hout
      have HLN := Aside0.mk hln
      clear hout hln
      obtain ⟨adl, rfl, hxl⟩ := Kd.at_float HRr.out (n : Int) (by omega) hz
      rw [hGn, Int.toNat_natCast] at hxl
      have n0 : 0 ≤ (n : Int) := by omega
      go_wp2
      go_loopg [5] (n + 1) (fun kq v5 w' => ∃ k : Nat, v5 = .int .i64 (k : Int) ∧ Aside0 (k ≤ n ∧ k < kq ∧ pos G (G n) out n = pos G (G n) out k) ∧ Drawn0 wr w')
      case atStart => exact ⟨n, rfl, ⟨by omega, by omega, rfl⟩, Drawn0.refl _⟩
      case round =>
        obtain ⟨k, rfl, HK, ⟨m1, rfl⟩⟩ := hrel
        have HRd := Aside0.mk (Kd.C_drewN HRr.out m1)
        have HOd := Aside0.mk (Kd.C_drewN HOr.out m1)
        have HO2 := Aside0.mk (Kd.R_drewN HO.out m1)
        have HB2 := Aside0.mk (pw_below_drewN HB.out m1)
        have hxl : (wr.drewN m1).cell? (adl.add n) = some (Value.float FloatKind.f64 (G n)) := hxl
        obtain ⟨w2, hw2⟩ : ∃ w2, wr.drewN m1 = w2 := ⟨_, rfl⟩
        rw [hw2] at HRd HOd HO2 HB2 hxl ⊢
        have HD : Aside0 (∀ q, Drawn0 wr (w2.drewN q)) := ⟨fun q => by rw [← hw2]; repeat (first | exact Drawn0.refl _ | apply Drawn0.step)⟩
        clear hw2
        by_cases hk0 : 0 < k
        · have kz1 : 0 ≤ (k : Int) - 1 := by omega
          have kz2 : (k : Int) - 1 < (n : Int) := by have := HK.out; omega
          have kz0 : (0 : Int) < (k : Int) := by omega
          have rk : IntKind.i64.wrap ((k : Int) - 1) = (k : Int) - 1 := by rw [IntKind.wrap_i64]; have := HK.out; omega
          obtain ⟨ado, rfl, hxo⟩ := Kd.at_int HOd.out ((k : Int) - 1) kz1 kz2
          obtain ⟨j, hj⟩ : ∃ j, rd out ((k : Int) - 1) = j := ⟨_, rfl⟩
          have hjb : 0 ≤ j ∧ j < (n : Int) := by
            have : j ∈ out := by
              rw [← hj]; unfold rd
              rw [List.getD_eq_getElem?_getD, List.getElem?_eq_getElem (by have := HLN.out; omega)]
              exact List.getElem_mem _
            exact hbd j this
          rw [hj] at hxo
          rw [show ((k : Int) - 1).toNat = k - 1 by omega] at hxo
          have kz3 : (1 : Int) ≤ (k : Int) := by omega
          have kz4 := eq_true kz1
          have kz5 := eq_true kz2
          have hj0 := hjb.1
          have hj1 : j < (l0.length : Int) := by omega
          obtain ⟨adj, ej, hxj⟩ := Kd.at_float HRd.out j hj0 hj1
          cases ej
          have hGj : rdOf 0 l0 j = G j.toNat := by unfold rdOf; rw [← HG.out]
          rw [hGj] at hxj
          have hpos : pos G (G n) out k = if kz (key (G n)) (key (G j.toNat)) = true then pos G (G n) out (k - 1) else k := by
            obtain ⟨q, rfl⟩ : ∃ q, k = q + 1 := ⟨k - 1, by omega⟩
            rw [pos, Nat.add_sub_cancel]
            rw [← hj]; unfold rd
            rw [show (((q + 1 : Nat) : Int) - 1).toNat = q by omega]
          have CA := fun w => ahead_calls (G n) (G j.toNat) w
          have HPOS := Aside0.mk hpos
          have HJ := Aside0.mk hj
          clear hpos hj hGj hjb
          obtain ⟨b, hb⟩ : ∃ b, kz (key (G n)) (key (G j.toNat)) = b := ⟨_, rfl⟩
          rw [hb] at HPOS CA
          have HBb := Aside0.mk hb
          clear hb
          cases b
          · rw [if_neg (by decide)] at HPOS
            go_wp2
            go_quiet ((go_at_call 53; refine Calls.quiet_of_same (CA _)))
            go_wp2
            have HPK : Aside0 (pos G (G n) out k = k) := HPOS
            have hkn : k ≤ n := by have := HK.out; omega
            have hcp := (Kd.R_reads' HO.out).2.1
            have hln := HLN.out
            obtain ⟨w3, hw3⟩ : ∃ w3, w2.drewN nq = w3 := ⟨_, rfl⟩
            have HO3 := Aside0.mk (Kd.R_drew (Kd.R_drewN HO2.out nq))
            have HB3 := Aside0.mk (below_drew (pw_below_drewN HB2.out nq))
            rw [hw3] at HO3 HB3 ⊢
            have hsl1 := sl_take (A := some ado) (n := n) (cp := cp) (k := k) (by omega)
            have hsl2 := sl_drop (A := some ado) (n := n) (cp := cp) (k := k) hkn hcp
            clear hw3 HD
            refine start_ (n := 13) (S := fun _ => True) (ds := []) #[false, false, false, false, false, false, false, false, false, false, false, false, false] (by kernel_rfl) rfl rfl trivial (fun hHeld => ?_)
            refine pure_ (i := 1) (N := (some 34)) (v := ?_) (a' := ?_) #[false, true, false, false, false, false, false, false, false, false, false, false, false] rfl rfl (by kernel_rfl) (fun _ _ _ h => h) (Or.inl ⟨by rfl, ?_⟩) ?_ ?_
            rotate_left
            · intro w'
              go_simp
              with_reducible rfl
            rotate_left
            · simp only [Act.put, List.setIfInBounds_toArray, List.set_cons_zero, List.set_cons_succ, i64_w, i32_w]
              rfl
            refine pure_ (i := 2) (N := (some 35)) (v := ?_) (a' := ?_) #[false, true, true, false, false, false, false, false, false, false, false, false, false] rfl rfl (by kernel_rfl) (fun _ _ _ h => h) (Or.inl ⟨by rfl, ?_⟩) ?_ ?_
            rotate_left
            · intro w'
              go_simp
              with_reducible rfl
            rotate_left
            · simp only [Act.put, List.setIfInBounds_toArray, List.set_cons_zero, List.set_cons_succ, i64_w, i32_w]
              rfl
            refine pure_ (i := 3) (N := (some 36)) (v := ?_) (a' := ?_) #[false, true, true, true, false, false, false, false, false, false, false, false, false] rfl rfl (by kernel_rfl) (fun _ _ _ h => h) (Or.inl ⟨by rfl, ?_⟩) ?_ ?_
            rotate_left
            · intro w'
              go_simp
              with_reducible rfl
            rotate_left
            · simp only [Act.put, List.setIfInBounds_toArray, List.set_cons_zero, List.set_cons_succ, i64_w, i32_w]
              rfl
            refine pure_ (i := 5) (N := (some 38)) (v := ?_) (a' := ?_) #[false, true, true, true, false, true, false, false, false, false, false, false, false] rfl rfl (by kernel_rfl) (fun _ _ _ h => h) (Or.inl ⟨by rfl, ?_⟩) ?_ ?_
            rotate_left
            · intro w'
              go_simp
              with_reducible rfl
            rotate_left
            · simp only [Act.put, List.setIfInBounds_toArray, List.set_cons_zero, List.set_cons_succ, i64_w, i32_w]
              rfl
            refine pure_ (i := 8) (N := (some 41)) (v := ?_) (a' := ?_) #[false, true, true, true, false, true, false, false, true, false, false, false, false] rfl rfl (by kernel_rfl) (fun _ _ _ h => h) (Or.inl ⟨by rfl, ?_⟩) ?_ ?_
            rotate_left
            · intro w'
              go_simp
              with_reducible rfl
            rotate_left
            · simp only [Act.put, List.setIfInBounds_toArray, List.set_cons_zero, List.set_cons_succ, i64_w, i32_w]
              rfl
            refine pure_ (i := 9) (N := (some 42)) (v := ?_) (a' := ?_) #[false, true, true, true, false, true, false, false, true, true, false, false, false] rfl rfl (by kernel_rfl) (fun _ _ _ h => h) (Or.inl ⟨by rfl, ?_⟩) ?_ ?_
            rotate_left
            · intro w'
              go_simp
              with_reducible rfl
            rotate_left
            · simp only [Act.put, List.setIfInBounds_toArray, List.set_cons_zero, List.set_cons_succ, i64_w, i32_w]
              rfl
            refine pure_ (i := 10) (N := (some 43)) (v := ?_) (a' := ?_) #[false, true, true, true, false, true, false, false, true, true, true, false, false] rfl rfl (by kernel_rfl) (fun _ _ _ h => h) (Or.inl ⟨by rfl, ?_⟩) ?_ ?_
            rotate_left
            · intro w'
              go_simp
              with_reducible rfl
            rotate_left
            · simp only [Act.put, List.setIfInBounds_toArray, List.set_cons_zero, List.set_cons_succ, i64_w, i32_w]
              rfl
            refine join_ (σ := Value × Value × Value) 3 #[true, true, true, true, true, true, true, false, true, true, true, false, false] (fun s => [(33, s.1), (37, s.2.1), (39, s.2.2)]) (fun s w' => St w w' (.slice (some ado) n cp) out s.2.1 (out.take k) s.2.2 [(n : Int)]) ?_ ?_
            · rintro ⟨v33, v37, v39⟩ w3 ⟨q37, q39, qo, qa, qb, qc, qB⟩
              refine norm_ (a' := ?_) ?_ ?_
              rotate_left
              · show putAll _ [(33, v33), (37, v37), (39, v39)] = _
                simp only [putAll, Act.put, List.setIfInBounds_toArray, List.set_cons_zero, List.set_cons_succ]
                rfl
              obtain ⟨A39, c39, rfl⟩ := Kd.R_slice q39
              refine one_ (i := 7) (N := (some 40)) #[true, true, true, true, true, true, true, true, true, true, true, false, false] rfl rfl (by kernel_rfl) (by decide) (fun K hK => ?_)
              refine Kd.R_append_rows_step (Kd.int .i64) (w0 := w) w.heap.size (by rfl) (.tmp 37) (.tmp 39) 24 3 (.int .i64 0) 8 rfl Tryd.underlying24 info3 rfl (by decide) (by omega) v37 (out.take k) [(n : Int)] _ _ _ (fun _ => True) (fun _ => False) rfl rfl q37 (Kd.R_reads' q39).2.2 (fun _ _ h => h) (fun _ h => h.elim) (fun _ _ => trivial) qB qB.size (by simp only [List.length_take, List.length_cons, List.length_nil]; omega) ?_
              intro v40 w4 h1 h2 h3 h4
              have q4o := Kd.R_grown2 qo rfl h3 (fun k e => qb k e)
              have q4a := ap_app h4 qb qo
              refine hK.out _ _ trivial (fun hHeld => ?_)
              clear hK K
              refine norm_ (a' := ?_) ?_ ?_
              rotate_left
              · show Act.put _ (some 40) _ = _
                simp only [Act.put, List.setIfInBounds_toArray, List.set_cons_zero, List.set_cons_succ]
                rfl
              refine one_ (i := 11) (N := (some 44)) #[true, true, true, true, true, true, true, true, true, true, true, true, false] rfl rfl (by kernel_rfl) (by decide) (fun K hK => ?_)
              refine Kd.R_append_rows_step (Kd.int .i64) (w0 := w) w.heap.size (by rfl) (.tmp 40) (.tmp 43) 24 3 (.int .i64 0) 8 rfl Tryd.underlying24 info3 rfl (by decide) (by omega) v40 (out.take k ++ [(n : Int)]) (out.drop k) _ _ _ (fun _ => True) (fun _ => False) rfl rfl h1 (drop_C (Kd.R_reads' q4o).2.2 hln hkn hcp) (fun _ _ h => h) (fun _ h => h.elim) (fun _ _ => trivial) h2 h2.size (by simp only [List.length_append, List.length_take, List.length_cons, List.length_nil]; omega) ?_
              intro v44 w5 g1 g2 g3 g4
              refine hK.out _ _ trivial (fun hHeld => ?_)
              clear hK K
              refine norm_ (a' := ?_) ?_ ?_
              rotate_left
              · show Act.put _ (some 44) _ = _
                simp only [Act.put, List.setIfInBounds_toArray, List.set_cons_zero, List.set_cons_succ]
                rfl
              refine pure_ (i := 12) (N := (some 3)) (v := ?_) (a' := ?_) #[true, true, true, true, true, true, true, true, true, true, true, true, true] rfl rfl (by kernel_rfl) (fun _ _ _ h => h) (Or.inl ⟨by rfl, ?_⟩) ?_ ?_
              rotate_left
              · intro w'
                go_simp
                with_reducible rfl
              rotate_left
              · simp only [Act.put, List.setIfInBounds_toArray, List.set_cons_zero, List.set_cons_succ, i64_w, i32_w]
                rfl
              refine done_ (by kernel_rfl) ?_
              have GO := Aside0.mk g1
              have GB := Aside0.mk g2
              clear g1 g2 g3 g4 h1 h2 h3 h4 q37 q39 qo qa qb qc qB q4o q4a hsl1 hsl2
              go_wp2
              go_roundg kq0
              case measure => omega
              case rel => exact ⟨n + 1, by go_num, ⟨by have := HX.out; omega, by have := HX.out; omega⟩, ⟨by have h := GO.out; rw [List.append_assoc] at h; rw [refRank, HOUT.out, ins, hln, HK.out.2.2, HPK.out]; exact h⟩, GB⟩
            · intro hcont
              have po := HO3.out
              have pB := HB3.out
              refine two_ (i := 0) (j := 6) (Ni := (some 33)) (Nj := (some 39)) #[true, true, true, true, false, true, false, false, true, true, true, false, false] #[false, true, true, true, false, true, true, false, true, true, true, false, false] rfl rfl rfl rfl (by kernel_rfl) (by decide) (by decide) (fun K hK => ?_) (fun K hK => ?_)
              · refine Kd.R_lit_step (Kd.int .i64) (w0 := w) w.heap.size 3 (by rfl) (N := 33) rfl (xs := ([] : List Int)) (inner := ([] : List Value)) (ok := fun _ => True) (okp := fun _ => True) ?hr (Reps.none _ _) (fun _ hk => hk) trivial pB pB.size (by simp) ?_
                (case hr => first | (go_simp; done) | (go_simp; rfl))
                intro v33 wn a1 a2 a3 a4
                have qo := Kd.R_grown2 po rfl a3 (fun k e => by cases e)
                have qx33 := ap_new a4 po
                have q33 := a1
                refine hK.out _ _ trivial (fun hHeld => ?_)
                clear hK K
                refine norm_ (a' := ?_) ?_ ?_
                rotate_left
                · show Act.put _ (some 33) _ = _
                  simp only [Act.put, List.setIfInBounds_toArray, List.set_cons_zero, List.set_cons_succ]
                  rfl
                have pB := a2
                have po := qo
                have p33 := q33
                have px33 := qx33
                refine two_ (i := 4) (j := 6) (Ni := (some 37)) (Nj := (some 39)) #[true, true, true, true, true, true, false, false, true, true, true, false, false] #[true, true, true, true, false, true, true, false, true, true, true, false, false] rfl rfl rfl rfl (by kernel_rfl) (by decide) (by decide) (fun K hK => ?_) (fun K hK => ?_)
                · refine Kd.R_append_rows_step (Kd.int .i64) (w0 := w) w.heap.size (by rfl) (.tmp 33) (.tmp 36) 24 3 (.int .i64 0) 8 rfl Tryd.underlying24 info3 rfl (by decide) (by omega) v33 ([] : List Int) (out.take k) _ _ _ (fun _ => True) (fun _ => False) rfl rfl p33 (take_C (Kd.R_reads' po).2.2 (by omega)) (fun _ _ h => h) (fun _ h => h.elim) (fun _ _ => trivial) pB pB.size (by simp only [List.length_nil]; omega) ?_
                  intro v37 wn a1 a2 a3 a4
                  have qo := Kd.R_grown2 po rfl a3 (fun k e => px33 k e)
                  have qx37 := ap_app a4 px33 po
                  have q37 := a1
                  refine hK.out _ _ trivial (fun hHeld => ?_)
                  clear hK K
                  refine norm_ (a' := ?_) ?_ ?_
                  rotate_left
                  · show Act.put _ (some 37) _ = _
                    simp only [Act.put, List.setIfInBounds_toArray, List.set_cons_zero, List.set_cons_succ]
                    rfl
                  have pB := a2
                  have po := qo
                  have p37 := q37
                  have px37 := qx37
                  refine one_ (i := 6) (N := (some 39)) #[true, true, true, true, true, true, true, false, true, true, true, false, false] rfl rfl (by kernel_rfl) (by decide) (fun K hK => ?_)
                  refine Kd.R_lit_step (Kd.int .i64) (w0 := w) w.heap.size 3 (by rfl) (N := 39) rfl (xs := [(n : Int)]) (inner := [Value.int .i64 (n : Int)]) (ok := fun _ => True) (okp := fun _ => True) ?hr (Reps.one rfl (Reps.none _ _)) (fun _ hk => hk) trivial pB pB.size (by simp) ?_
                  (case hr => first | (go_simp; done) | (go_simp; rfl))
                  intro v39 wn a1 a2 a3 a4
                  have qo := Kd.R_grown2 po rfl a3 (fun k e => by cases e)
                  have qx39 := ap_new a4 po
                  have q37 := Kd.R_grown2 p37 rfl a3 (fun k e => by cases e)
                  have q379 := (ap_new a4 p37).sym
                  have q39 := a1
                  refine hK.out _ _ trivial (fun hHeld => ?_)
                  clear hK K
                  refine norm_ (a' := ?_) ?_ ?_
                  rotate_left
                  · show Act.put _ (some 39) _ = _
                    simp only [Act.put, List.setIfInBounds_toArray, List.set_cons_zero, List.set_cons_succ]
                    rfl
                  have pB := a2
                  have po := qo
                  have p37 := q37
                  have p39 := q39
                  have px39 := qx39
                  have p379 := q379
                  have pa := p379
                  have pb := px37
                  have pc := px39
                  exact norm_ (by first | (simp only [putAll, Act.put, List.setIfInBounds_toArray, List.set_cons_zero, List.set_cons_succ]; done) | (simp only [putAll, Act.put, List.setIfInBounds_toArray, List.set_cons_zero, List.set_cons_succ]; rfl)) (hcont (v33, v37, v39) _ ⟨p37, p39, po, pa, pb, pc, pB⟩)
                · refine Kd.R_lit_step (Kd.int .i64) (w0 := w) w.heap.size 3 (by rfl) (N := 39) rfl (xs := [(n : Int)]) (inner := [Value.int .i64 (n : Int)]) (ok := fun _ => True) (okp := fun _ => True) ?hr (Reps.one rfl (Reps.none _ _)) (fun _ hk => hk) trivial pB pB.size (by simp) ?_
                  (case hr => first | (go_simp; done) | (go_simp; rfl))
                  intro v39 wn a1 a2 a3 a4
                  have qo := Kd.R_grown2 po rfl a3 (fun k e => by cases e)
                  have qx39 := ap_new a4 po
                  have q33 := Kd.R_grown2 p33 rfl a3 (fun k e => by cases e)
                  have q339 := (ap_new a4 p33).sym
                  have q39 := a1
                  refine hK.out _ _ trivial (fun hHeld => ?_)
                  clear hK K
                  refine norm_ (a' := ?_) ?_ ?_
                  rotate_left
                  · show Act.put _ (some 39) _ = _
                    simp only [Act.put, List.setIfInBounds_toArray, List.set_cons_zero, List.set_cons_succ]
                    rfl
                  have pB := a2
                  have po := qo
                  have p33 := q33
                  have p39 := q39
                  have px39 := qx39
                  have p339 := q339
                  refine one_ (i := 4) (N := (some 37)) #[true, true, true, true, true, true, true, false, true, true, true, false, false] rfl rfl (by kernel_rfl) (by decide) (fun K hK => ?_)
                  refine Kd.R_append_rows_step (Kd.int .i64) (w0 := w) w.heap.size (by rfl) (.tmp 33) (.tmp 36) 24 3 (.int .i64 0) 8 rfl Tryd.underlying24 info3 rfl (by decide) (by omega) v33 ([] : List Int) (out.take k) _ _ _ (fun _ => True) (fun _ => False) rfl rfl p33 (take_C (Kd.R_reads' po).2.2 (by omega)) (fun _ _ h => h) (fun _ h => h.elim) (fun _ _ => trivial) pB pB.size (by simp only [List.length_nil]; omega) ?_
                  intro v37 wn a1 a2 a3 a4
                  have qo := Kd.R_grown2 po rfl a3 (fun k e => px33 k e)
                  have qx37 := ap_app a4 px33 po
                  have q39 := Kd.R_grown2 p39 rfl a3 (fun k e => p339 k e)
                  have q379 := ap_app a4 p339 p39
                  have q37 := a1
                  refine hK.out _ _ trivial (fun hHeld => ?_)
                  clear hK K
                  refine norm_ (a' := ?_) ?_ ?_
                  rotate_left
                  · show Act.put _ (some 37) _ = _
                    simp only [Act.put, List.setIfInBounds_toArray, List.set_cons_zero, List.set_cons_succ]
                    rfl
                  have pB := a2
                  have po := qo
                  have p37 := q37
                  have p39 := q39
                  have px37 := qx37
                  have p379 := q379
                  have pa := p379
                  have pb := px37
                  have pc := px39
                  exact norm_ (by first | (simp only [putAll, Act.put, List.setIfInBounds_toArray, List.set_cons_zero, List.set_cons_succ]; done) | (simp only [putAll, Act.put, List.setIfInBounds_toArray, List.set_cons_zero, List.set_cons_succ]; rfl)) (hcont (v33, v37, v39) _ ⟨p37, p39, po, pa, pb, pc, pB⟩)
              · refine Kd.R_lit_step (Kd.int .i64) (w0 := w) w.heap.size 3 (by rfl) (N := 39) rfl (xs := [(n : Int)]) (inner := [Value.int .i64 (n : Int)]) (ok := fun _ => True) (okp := fun _ => True) ?hr (Reps.one rfl (Reps.none _ _)) (fun _ hk => hk) trivial pB pB.size (by simp) ?_
                (case hr => first | (go_simp; done) | (go_simp; rfl))
                intro v39 wn a1 a2 a3 a4
                have qo := Kd.R_grown2 po rfl a3 (fun k e => by cases e)
                have qx39 := ap_new a4 po
                have q39 := a1
                refine hK.out _ _ trivial (fun hHeld => ?_)
                clear hK K
                refine norm_ (a' := ?_) ?_ ?_
                rotate_left
                · show Act.put _ (some 39) _ = _
                  simp only [Act.put, List.setIfInBounds_toArray, List.set_cons_zero, List.set_cons_succ]
                  rfl
                have pB := a2
                have po := qo
                have p39 := q39
                have px39 := qx39
                refine one_ (i := 0) (N := (some 33)) #[true, true, true, true, false, true, true, false, true, true, true, false, false] rfl rfl (by kernel_rfl) (by decide) (fun K hK => ?_)
                refine Kd.R_lit_step (Kd.int .i64) (w0 := w) w.heap.size 3 (by rfl) (N := 33) rfl (xs := ([] : List Int)) (inner := ([] : List Value)) (ok := fun _ => True) (okp := fun _ => True) ?hr (Reps.none _ _) (fun _ hk => hk) trivial pB pB.size (by simp) ?_
                (case hr => first | (go_simp; done) | (go_simp; rfl))
                intro v33 wn a1 a2 a3 a4
                have qo := Kd.R_grown2 po rfl a3 (fun k e => by cases e)
                have qx33 := ap_new a4 po
                have q39 := Kd.R_grown2 p39 rfl a3 (fun k e => by cases e)
                have q339 := ap_new a4 p39
                have q33 := a1
                refine hK.out _ _ trivial (fun hHeld => ?_)
                clear hK K
                refine norm_ (a' := ?_) ?_ ?_
                rotate_left
                · show Act.put _ (some 33) _ = _
                  simp only [Act.put, List.setIfInBounds_toArray, List.set_cons_zero, List.set_cons_succ]
                  rfl
                have pB := a2
                have po := qo
                have p33 := q33
                have p39 := q39
                have px33 := qx33
                have p339 := q339
                refine one_ (i := 4) (N := (some 37)) #[true, true, true, true, true, true, true, false, true, true, true, false, false] rfl rfl (by kernel_rfl) (by decide) (fun K hK => ?_)
                refine Kd.R_append_rows_step (Kd.int .i64) (w0 := w) w.heap.size (by rfl) (.tmp 33) (.tmp 36) 24 3 (.int .i64 0) 8 rfl Tryd.underlying24 info3 rfl (by decide) (by omega) v33 ([] : List Int) (out.take k) _ _ _ (fun _ => True) (fun _ => False) rfl rfl p33 (take_C (Kd.R_reads' po).2.2 (by omega)) (fun _ _ h => h) (fun _ h => h.elim) (fun _ _ => trivial) pB pB.size (by simp only [List.length_nil]; omega) ?_
                intro v37 wn a1 a2 a3 a4
                have qo := Kd.R_grown2 po rfl a3 (fun k e => px33 k e)
                have qx37 := ap_app a4 px33 po
                have q39 := Kd.R_grown2 p39 rfl a3 (fun k e => p339 k e)
                have q379 := ap_app a4 p339 p39
                have q37 := a1
                refine hK.out _ _ trivial (fun hHeld => ?_)
                clear hK K
                refine norm_ (a' := ?_) ?_ ?_
                rotate_left
                · show Act.put _ (some 37) _ = _
                  simp only [Act.put, List.setIfInBounds_toArray, List.set_cons_zero, List.set_cons_succ]
                  rfl
                have pB := a2
                have po := qo
                have p37 := q37
                have p39 := q39
                have px37 := qx37
                have p379 := q379
                have pa := p379
                have pb := px37
                have pc := px39
                exact norm_ (by first | (simp only [putAll, Act.put, List.setIfInBounds_toArray, List.set_cons_zero, List.set_cons_succ]; done) | (simp only [putAll, Act.put, List.setIfInBounds_toArray, List.set_cons_zero, List.set_cons_succ]; rfl)) (hcont (v33, v37, v39) _ ⟨p37, p39, po, pa, pb, pc, pB⟩)
          · rw [if_pos rfl] at HPOS
            go_wp2
            go_quiet ((go_at_call 53; refine Calls.quiet_of_same (CA _)))
            go_wp2
            go_roundg k
            case measure => have := HK.out; omega
            case rel => exact ⟨k - 1, by rw [show ((k - 1 : Nat) : Int) = (k : Int) - 1 by omega], ⟨by have := HK.out; omega, by have := HK.out; omega, by have := HK.out; have := HPOS.out; omega⟩, HD.out _⟩
        · have kz0 : decide ((0 : Int) < (k : Int)) = false := decide_eq_false (by omega)
          go_wp2
          go_quiet (fail)
          go_wp2
          have HPK : Aside0 (pos G (G n) out k = k) := ⟨by rw [show k = 0 by omega]; rfl⟩
          have hkn : k ≤ n := by have := HK.out; omega
          have hcp := (Kd.R_reads' HO.out).2.1
          have hln := HLN.out
          obtain ⟨w3, hw3⟩ : ∃ w3, w2.drewN nq = w3 := ⟨_, rfl⟩
          have HO3 := Aside0.mk (Kd.R_drew (Kd.R_drewN HO2.out nq))
          have HB3 := Aside0.mk (below_drew (pw_below_drewN HB2.out nq))
          rw [hw3] at HO3 HB3 ⊢
          have hsl1 := sl_take (A := A) (n := n) (cp := cp) (k := k) (by omega)
          have hsl2 := sl_drop (A := A) (n := n) (cp := cp) (k := k) hkn hcp
          clear hw3 HD
          refine start_ (n := 13) (S := fun _ => True) (ds := []) #[false, false, false, false, false, false, false, false, false, false, false, false, false] (by kernel_rfl) rfl rfl trivial (fun hHeld => ?_)
          refine pure_ (i := 1) (N := (some 34)) (v := ?_) (a' := ?_) #[false, true, false, false, false, false, false, false, false, false, false, false, false] rfl rfl (by kernel_rfl) (fun _ _ _ h => h) (Or.inl ⟨by rfl, ?_⟩) ?_ ?_
          rotate_left
          · intro w'
            go_simp
            with_reducible rfl
          rotate_left
          · simp only [Act.put, List.setIfInBounds_toArray, List.set_cons_zero, List.set_cons_succ, i64_w, i32_w]
            rfl
          refine pure_ (i := 2) (N := (some 35)) (v := ?_) (a' := ?_) #[false, true, true, false, false, false, false, false, false, false, false, false, false] rfl rfl (by kernel_rfl) (fun _ _ _ h => h) (Or.inl ⟨by rfl, ?_⟩) ?_ ?_
          rotate_left
          · intro w'
            go_simp
            with_reducible rfl
          rotate_left
          · simp only [Act.put, List.setIfInBounds_toArray, List.set_cons_zero, List.set_cons_succ, i64_w, i32_w]
            rfl
          refine pure_ (i := 3) (N := (some 36)) (v := ?_) (a' := ?_) #[false, true, true, true, false, false, false, false, false, false, false, false, false] rfl rfl (by kernel_rfl) (fun _ _ _ h => h) (Or.inl ⟨by rfl, ?_⟩) ?_ ?_
          rotate_left
          · intro w'
            go_simp
            with_reducible rfl
          rotate_left
          · simp only [Act.put, List.setIfInBounds_toArray, List.set_cons_zero, List.set_cons_succ, i64_w, i32_w]
            rfl
          refine pure_ (i := 5) (N := (some 38)) (v := ?_) (a' := ?_) #[false, true, true, true, false, true, false, false, false, false, false, false, false] rfl rfl (by kernel_rfl) (fun _ _ _ h => h) (Or.inl ⟨by rfl, ?_⟩) ?_ ?_
          rotate_left
          · intro w'
            go_simp
            with_reducible rfl
          rotate_left
          · simp only [Act.put, List.setIfInBounds_toArray, List.set_cons_zero, List.set_cons_succ, i64_w, i32_w]
            rfl
          refine pure_ (i := 8) (N := (some 41)) (v := ?_) (a' := ?_) #[false, true, true, true, false, true, false, false, true, false, false, false, false] rfl rfl (by kernel_rfl) (fun _ _ _ h => h) (Or.inl ⟨by rfl, ?_⟩) ?_ ?_
          rotate_left
          · intro w'
            go_simp
            with_reducible rfl
          rotate_left
          · simp only [Act.put, List.setIfInBounds_toArray, List.set_cons_zero, List.set_cons_succ, i64_w, i32_w]
            rfl
          refine pure_ (i := 9) (N := (some 42)) (v := ?_) (a' := ?_) #[false, true, true, true, false, true, false, false, true, true, false, false, false] rfl rfl (by kernel_rfl) (fun _ _ _ h => h) (Or.inl ⟨by rfl, ?_⟩) ?_ ?_
          rotate_left
          · intro w'
            go_simp
            with_reducible rfl
          rotate_left
          · simp only [Act.put, List.setIfInBounds_toArray, List.set_cons_zero, List.set_cons_succ, i64_w, i32_w]
            rfl
          refine pure_ (i := 10) (N := (some 43)) (v := ?_) (a' := ?_) #[false, true, true, true, false, true, false, false, true, true, true, false, false] rfl rfl (by kernel_rfl) (fun _ _ _ h => h) (Or.inl ⟨by rfl, ?_⟩) ?_ ?_
          rotate_left
          · intro w'
            go_simp
            with_reducible rfl
          rotate_left
          · simp only [Act.put, List.setIfInBounds_toArray, List.set_cons_zero, List.set_cons_succ, i64_w, i32_w]
            rfl
          refine join_ (σ := Value × Value × Value) 3 #[true, true, true, true, true, true, true, false, true, true, true, false, false] (fun s => [(33, s.1), (37, s.2.1), (39, s.2.2)]) (fun s w' => St w w' (.slice A n cp) out s.2.1 (out.take k) s.2.2 [(n : Int)]) ?_ ?_
          · rintro ⟨v33, v37, v39⟩ w3 ⟨q37, q39, qo, qa, qb, qc, qB⟩
            refine norm_ (a' := ?_) ?_ ?_
            rotate_left
            · show putAll _ [(33, v33), (37, v37), (39, v39)] = _
              simp only [putAll, Act.put, List.setIfInBounds_toArray, List.set_cons_zero, List.set_cons_succ]
              rfl
            obtain ⟨A39, c39, rfl⟩ := Kd.R_slice q39
            refine one_ (i := 7) (N := (some 40)) #[true, true, true, true, true, true, true, true, true, true, true, false, false] rfl rfl (by kernel_rfl) (by decide) (fun K hK => ?_)
            refine Kd.R_append_rows_step (Kd.int .i64) (w0 := w) w.heap.size (by rfl) (.tmp 37) (.tmp 39) 24 3 (.int .i64 0) 8 rfl Tryd.underlying24 info3 rfl (by decide) (by omega) v37 (out.take k) [(n : Int)] _ _ _ (fun _ => True) (fun _ => False) rfl rfl q37 (Kd.R_reads' q39).2.2 (fun _ _ h => h) (fun _ h => h.elim) (fun _ _ => trivial) qB qB.size (by simp only [List.length_take, List.length_cons, List.length_nil]; omega) ?_
            intro v40 w4 h1 h2 h3 h4
            have q4o := Kd.R_grown2 qo rfl h3 (fun k e => qb k e)
            have q4a := ap_app h4 qb qo
            refine hK.out _ _ trivial (fun hHeld => ?_)
            clear hK K
            refine norm_ (a' := ?_) ?_ ?_
            rotate_left
            · show Act.put _ (some 40) _ = _
              simp only [Act.put, List.setIfInBounds_toArray, List.set_cons_zero, List.set_cons_succ]
              rfl
            refine one_ (i := 11) (N := (some 44)) #[true, true, true, true, true, true, true, true, true, true, true, true, false] rfl rfl (by kernel_rfl) (by decide) (fun K hK => ?_)
            refine Kd.R_append_rows_step (Kd.int .i64) (w0 := w) w.heap.size (by rfl) (.tmp 40) (.tmp 43) 24 3 (.int .i64 0) 8 rfl Tryd.underlying24 info3 rfl (by decide) (by omega) v40 (out.take k ++ [(n : Int)]) (out.drop k) _ _ _ (fun _ => True) (fun _ => False) rfl rfl h1 (drop_C (Kd.R_reads' q4o).2.2 hln hkn hcp) (fun _ _ h => h) (fun _ h => h.elim) (fun _ _ => trivial) h2 h2.size (by simp only [List.length_append, List.length_take, List.length_cons, List.length_nil]; omega) ?_
            intro v44 w5 g1 g2 g3 g4
            refine hK.out _ _ trivial (fun hHeld => ?_)
            clear hK K
            refine norm_ (a' := ?_) ?_ ?_
            rotate_left
            · show Act.put _ (some 44) _ = _
              simp only [Act.put, List.setIfInBounds_toArray, List.set_cons_zero, List.set_cons_succ]
              rfl
            refine pure_ (i := 12) (N := (some 3)) (v := ?_) (a' := ?_) #[true, true, true, true, true, true, true, true, true, true, true, true, true] rfl rfl (by kernel_rfl) (fun _ _ _ h => h) (Or.inl ⟨by rfl, ?_⟩) ?_ ?_
            rotate_left
            · intro w'
              go_simp
              with_reducible rfl
            rotate_left
            · simp only [Act.put, List.setIfInBounds_toArray, List.set_cons_zero, List.set_cons_succ, i64_w, i32_w]
              rfl
            refine done_ (by kernel_rfl) ?_
            have GO := Aside0.mk g1
            have GB := Aside0.mk g2
            clear g1 g2 g3 g4 h1 h2 h3 h4 q37 q39 qo qa qb qc qB q4o q4a hsl1 hsl2
            go_wp2
            go_roundg kq0
            case measure => omega
            case rel => exact ⟨n + 1, by go_num, ⟨by have := HX.out; omega, by have := HX.out; omega⟩, ⟨by have h := GO.out; rw [List.append_assoc] at h; rw [refRank, HOUT.out, ins, hln, HK.out.2.2, HPK.out]; exact h⟩, GB⟩
          · intro hcont
            have po := HO3.out
            have pB := HB3.out
            refine two_ (i := 0) (j := 6) (Ni := (some 33)) (Nj := (some 39)) #[true, true, true, true, false, true, false, false, true, true, true, false, false] #[false, true, true, true, false, true, true, false, true, true, true, false, false] rfl rfl rfl rfl (by kernel_rfl) (by decide) (by decide) (fun K hK => ?_) (fun K hK => ?_)
            · refine Kd.R_lit_step (Kd.int .i64) (w0 := w) w.heap.size 3 (by rfl) (N := 33) rfl (xs := ([] : List Int)) (inner := ([] : List Value)) (ok := fun _ => True) (okp := fun _ => True) ?hr (Reps.none _ _) (fun _ hk => hk) trivial pB pB.size (by simp) ?_
              (case hr => first | (go_simp; done) | (go_simp; rfl))
              intro v33 wn a1 a2 a3 a4
              have qo := Kd.R_grown2 po rfl a3 (fun k e => by cases e)
              have qx33 := ap_new a4 po
              have q33 := a1
              refine hK.out _ _ trivial (fun hHeld => ?_)
              clear hK K
              refine norm_ (a' := ?_) ?_ ?_
              rotate_left
              · show Act.put _ (some 33) _ = _
                simp only [Act.put, List.setIfInBounds_toArray, List.set_cons_zero, List.set_cons_succ]
                rfl
              have pB := a2
              have po := qo
              have p33 := q33
              have px33 := qx33
              refine two_ (i := 4) (j := 6) (Ni := (some 37)) (Nj := (some 39)) #[true, true, true, true, true, true, false, false, true, true, true, false, false] #[true, true, true, true, false, true, true, false, true, true, true, false, false] rfl rfl rfl rfl (by kernel_rfl) (by decide) (by decide) (fun K hK => ?_) (fun K hK => ?_)
              · refine Kd.R_append_rows_step (Kd.int .i64) (w0 := w) w.heap.size (by rfl) (.tmp 33) (.tmp 36) 24 3 (.int .i64 0) 8 rfl Tryd.underlying24 info3 rfl (by decide) (by omega) v33 ([] : List Int) (out.take k) _ _ _ (fun _ => True) (fun _ => False) rfl rfl p33 (take_C (Kd.R_reads' po).2.2 (by omega)) (fun _ _ h => h) (fun _ h => h.elim) (fun _ _ => trivial) pB pB.size (by simp only [List.length_nil]; omega) ?_
                intro v37 wn a1 a2 a3 a4
                have qo := Kd.R_grown2 po rfl a3 (fun k e => px33 k e)
                have qx37 := ap_app a4 px33 po
                have q37 := a1
                refine hK.out _ _ trivial (fun hHeld => ?_)
                clear hK K
                refine norm_ (a' := ?_) ?_ ?_
                rotate_left
                · show Act.put _ (some 37) _ = _
                  simp only [Act.put, List.setIfInBounds_toArray, List.set_cons_zero, List.set_cons_succ]
                  rfl
                have pB := a2
                have po := qo
                have p37 := q37
                have px37 := qx37
                refine one_ (i := 6) (N := (some 39)) #[true, true, true, true, true, true, true, false, true, true, true, false, false] rfl rfl (by kernel_rfl) (by decide) (fun K hK => ?_)
                refine Kd.R_lit_step (Kd.int .i64) (w0 := w) w.heap.size 3 (by rfl) (N := 39) rfl (xs := [(n : Int)]) (inner := [Value.int .i64 (n : Int)]) (ok := fun _ => True) (okp := fun _ => True) ?hr (Reps.one rfl (Reps.none _ _)) (fun _ hk => hk) trivial pB pB.size (by simp) ?_
                (case hr => first | (go_simp; done) | (go_simp; rfl))
                intro v39 wn a1 a2 a3 a4
                have qo := Kd.R_grown2 po rfl a3 (fun k e => by cases e)
                have qx39 := ap_new a4 po
                have q37 := Kd.R_grown2 p37 rfl a3 (fun k e => by cases e)
                have q379 := (ap_new a4 p37).sym
                have q39 := a1
                refine hK.out _ _ trivial (fun hHeld => ?_)
                clear hK K
                refine norm_ (a' := ?_) ?_ ?_
                rotate_left
                · show Act.put _ (some 39) _ = _
                  simp only [Act.put, List.setIfInBounds_toArray, List.set_cons_zero, List.set_cons_succ]
                  rfl
                have pB := a2
                have po := qo
                have p37 := q37
                have p39 := q39
                have px39 := qx39
                have p379 := q379
                have pa := p379
                have pb := px37
                have pc := px39
                exact norm_ (by first | (simp only [putAll, Act.put, List.setIfInBounds_toArray, List.set_cons_zero, List.set_cons_succ]; done) | (simp only [putAll, Act.put, List.setIfInBounds_toArray, List.set_cons_zero, List.set_cons_succ]; rfl)) (hcont (v33, v37, v39) _ ⟨p37, p39, po, pa, pb, pc, pB⟩)
              · refine Kd.R_lit_step (Kd.int .i64) (w0 := w) w.heap.size 3 (by rfl) (N := 39) rfl (xs := [(n : Int)]) (inner := [Value.int .i64 (n : Int)]) (ok := fun _ => True) (okp := fun _ => True) ?hr (Reps.one rfl (Reps.none _ _)) (fun _ hk => hk) trivial pB pB.size (by simp) ?_
                (case hr => first | (go_simp; done) | (go_simp; rfl))
                intro v39 wn a1 a2 a3 a4
                have qo := Kd.R_grown2 po rfl a3 (fun k e => by cases e)
                have qx39 := ap_new a4 po
                have q33 := Kd.R_grown2 p33 rfl a3 (fun k e => by cases e)
                have q339 := (ap_new a4 p33).sym
                have q39 := a1
                refine hK.out _ _ trivial (fun hHeld => ?_)
                clear hK K
                refine norm_ (a' := ?_) ?_ ?_
                rotate_left
                · show Act.put _ (some 39) _ = _
                  simp only [Act.put, List.setIfInBounds_toArray, List.set_cons_zero, List.set_cons_succ]
                  rfl
                have pB := a2
                have po := qo
                have p33 := q33
                have p39 := q39
                have px39 := qx39
                have p339 := q339
                refine one_ (i := 4) (N := (some 37)) #[true, true, true, true, true, true, true, false, true, true, true, false, false] rfl rfl (by kernel_rfl) (by decide) (fun K hK => ?_)
                refine Kd.R_append_rows_step (Kd.int .i64) (w0 := w) w.heap.size (by rfl) (.tmp 33) (.tmp 36) 24 3 (.int .i64 0) 8 rfl Tryd.underlying24 info3 rfl (by decide) (by omega) v33 ([] : List Int) (out.take k) _ _ _ (fun _ => True) (fun _ => False) rfl rfl p33 (take_C (Kd.R_reads' po).2.2 (by omega)) (fun _ _ h => h) (fun _ h => h.elim) (fun _ _ => trivial) pB pB.size (by simp only [List.length_nil]; omega) ?_
                intro v37 wn a1 a2 a3 a4
                have qo := Kd.R_grown2 po rfl a3 (fun k e => px33 k e)
                have qx37 := ap_app a4 px33 po
                have q39 := Kd.R_grown2 p39 rfl a3 (fun k e => p339 k e)
                have q379 := ap_app a4 p339 p39
                have q37 := a1
                refine hK.out _ _ trivial (fun hHeld => ?_)
                clear hK K
                refine norm_ (a' := ?_) ?_ ?_
                rotate_left
                · show Act.put _ (some 37) _ = _
                  simp only [Act.put, List.setIfInBounds_toArray, List.set_cons_zero, List.set_cons_succ]
                  rfl
                have pB := a2
                have po := qo
                have p37 := q37
                have p39 := q39
                have px37 := qx37
                have p379 := q379
                have pa := p379
                have pb := px37
                have pc := px39
                exact norm_ (by first | (simp only [putAll, Act.put, List.setIfInBounds_toArray, List.set_cons_zero, List.set_cons_succ]; done) | (simp only [putAll, Act.put, List.setIfInBounds_toArray, List.set_cons_zero, List.set_cons_succ]; rfl)) (hcont (v33, v37, v39) _ ⟨p37, p39, po, pa, pb, pc, pB⟩)
            · refine Kd.R_lit_step (Kd.int .i64) (w0 := w) w.heap.size 3 (by rfl) (N := 39) rfl (xs := [(n : Int)]) (inner := [Value.int .i64 (n : Int)]) (ok := fun _ => True) (okp := fun _ => True) ?hr (Reps.one rfl (Reps.none _ _)) (fun _ hk => hk) trivial pB pB.size (by simp) ?_
              (case hr => first | (go_simp; done) | (go_simp; rfl))
              intro v39 wn a1 a2 a3 a4
              have qo := Kd.R_grown2 po rfl a3 (fun k e => by cases e)
              have qx39 := ap_new a4 po
              have q39 := a1
              refine hK.out _ _ trivial (fun hHeld => ?_)
              clear hK K
              refine norm_ (a' := ?_) ?_ ?_
              rotate_left
              · show Act.put _ (some 39) _ = _
                simp only [Act.put, List.setIfInBounds_toArray, List.set_cons_zero, List.set_cons_succ]
                rfl
              have pB := a2
              have po := qo
              have p39 := q39
              have px39 := qx39
              refine one_ (i := 0) (N := (some 33)) #[true, true, true, true, false, true, true, false, true, true, true, false, false] rfl rfl (by kernel_rfl) (by decide) (fun K hK => ?_)
              refine Kd.R_lit_step (Kd.int .i64) (w0 := w) w.heap.size 3 (by rfl) (N := 33) rfl (xs := ([] : List Int)) (inner := ([] : List Value)) (ok := fun _ => True) (okp := fun _ => True) ?hr (Reps.none _ _) (fun _ hk => hk) trivial pB pB.size (by simp) ?_
              (case hr => first | (go_simp; done) | (go_simp; rfl))
              intro v33 wn a1 a2 a3 a4
              have qo := Kd.R_grown2 po rfl a3 (fun k e => by cases e)
              have qx33 := ap_new a4 po
              have q39 := Kd.R_grown2 p39 rfl a3 (fun k e => by cases e)
              have q339 := ap_new a4 p39
              have q33 := a1
              refine hK.out _ _ trivial (fun hHeld => ?_)
              clear hK K
              refine norm_ (a' := ?_) ?_ ?_
              rotate_left
              · show Act.put _ (some 33) _ = _
                simp only [Act.put, List.setIfInBounds_toArray, List.set_cons_zero, List.set_cons_succ]
                rfl
              have pB := a2
              have po := qo
              have p33 := q33
              have p39 := q39
              have px33 := qx33
              have p339 := q339
              refine one_ (i := 4) (N := (some 37)) #[true, true, true, true, true, true, true, false, true, true, true, false, false] rfl rfl (by kernel_rfl) (by decide) (fun K hK => ?_)
              refine Kd.R_append_rows_step (Kd.int .i64) (w0 := w) w.heap.size (by rfl) (.tmp 33) (.tmp 36) 24 3 (.int .i64 0) 8 rfl Tryd.underlying24 info3 rfl (by decide) (by omega) v33 ([] : List Int) (out.take k) _ _ _ (fun _ => True) (fun _ => False) rfl rfl p33 (take_C (Kd.R_reads' po).2.2 (by omega)) (fun _ _ h => h) (fun _ h => h.elim) (fun _ _ => trivial) pB pB.size (by simp only [List.length_nil]; omega) ?_
              intro v37 wn a1 a2 a3 a4
              have qo := Kd.R_grown2 po rfl a3 (fun k e => px33 k e)
              have qx37 := ap_app a4 px33 po
              have q39 := Kd.R_grown2 p39 rfl a3 (fun k e => p339 k e)
              have q379 := ap_app a4 p339 p39
              have q37 := a1
              refine hK.out _ _ trivial (fun hHeld => ?_)
              clear hK K
              refine norm_ (a' := ?_) ?_ ?_
              rotate_left
              · show Act.put _ (some 37) _ = _
                simp only [Act.put, List.setIfInBounds_toArray, List.set_cons_zero, List.set_cons_succ]
                rfl
              have pB := a2
              have po := qo
              have p37 := q37
              have p39 := q39
              have px37 := qx37
              have p379 := q379
              have pa := p379
              have pb := px37
              have pc := px39
              exact norm_ (by first | (simp only [putAll, Act.put, List.setIfInBounds_toArray, List.set_cons_zero, List.set_cons_succ]; done) | (simp only [putAll, Act.put, List.setIfInBounds_toArray, List.set_cons_zero, List.set_cons_succ]; rfl)) (hcont (v33, v37, v39) _ ⟨p37, p39, po, pa, pb, pc, pB⟩)
    · have hz : ¬ (n : Int) < (l0.length : Int) := by omega
      have hnl : n = l0.length := by have := HX.out; omega
      subst hnl
      clear hlt hln hbd
      go_wp2
      go_ret
      exact ⟨_, rfl, HO.out, HB.out⟩
end Go.Proofs.YtfmfikodnpnblaaDoor.RankRef
/- RateMoves, plainly: the document's Rank is the program's; the order of whole numbers, of twice these, of one more. No program here. -/
namespace Go.Proofs.YtfmfikodnpnblaaDoor.MovesP
open Go.RowKit Go.Sort Go.Proofs.YtfmfikodnpnblaaDoorW.PrintWords Go.Proofs.YtfmfikodnpnblaaDoor.Base Go.Proofs.YtfmfikodnpnblaaDoor.Flt Go.Proofs.YtfmfikodnpnblaaDoor.FltWhole Go.Proofs.YtfmfikodnpnblaaDoor.FltClk Go.Proofs.YtfmfikodnpnblaaDoor.FltAdd Go.Proofs.YtfmfikodnpnblaaDoor.SymMerge Go.Proofs.YtfmfikodnpnblaaDoor.RankCmp Go.Proofs.YtfmfikodnpnblaaDoor.RankRow Go.Proofs.YtfmfikodnpnblaaDoor.RankWalk Go.Proofs.YtfmfikodnpnblaaDoor.RankRef Go.Proofs.YtfmfikodnpnblaaDoor.RateNan Go.Proofs.YtfmfikodnpnblaaDoor.RateNanS
/-! ### the document's Rank is sorted -/
def Bf (G : Nat → Nat) (a b : Int) : Prop := kz (key (G a.toNat)) (key (G b.toNat)) = true ∨ (kz (key (G b.toNat)) (key (G a.toNat)) = false ∧ a < b)
theorem kz_trans {a b c : Option Int} (h1 : kz a b = true) (h2 : kz b c = true) : kz a c = true := by
  cases a <;> cases b <;> cases c <;> simp_all [kz]
  omega
theorem kz_asym {a b : Option Int} (h : kz a b = true) : kz b a = false := by
  cases a <;> cases b <;> simp_all [kz]
  omega
theorem kz_tail {a b c : Option Int} (h1 : kz b a = false) (h2 : kz c b = false) : kz c a = false := by
  cases a <;> cases b <;> cases c <;> simp_all [kz]
  omega
theorem pos_after (G : Nat → Nat) (x : Nat) (out : List Int) : ∀ m, ∀ j, pos G x out m ≤ j → j < m → kz (key x) (key (G (out.getD j 0).toNat)) = true
  | 0 => fun j _ h => by omega
  | m + 1 => fun j h1 h2 => by
    rw [pos] at h1
    by_cases hk : kz (key x) (key (G (out.getD m 0).toNat)) = true
    · rw [if_pos hk] at h1
      by_cases e : j = m
      · rw [e]; exact hk
      · exact pos_after G x out m j h1 (by omega)
    · rw [if_neg hk] at h1; omega
theorem pos_front (G : Nat → Nat) (x : Nat) (out : List Int) : ∀ m, 0 < pos G x out m → kz (key x) (key (G (out.getD (pos G x out m - 1) 0).toNat)) = false
  | 0 => fun h => by rw [pos] at h; omega
  | m + 1 => fun h => by
    rw [pos] at h ⊢
    by_cases hk : kz (key x) (key (G (out.getD m 0).toNat)) = true
    · rw [if_pos hk] at h ⊢
      exact pos_front G x out m h
    · rw [if_neg hk, Nat.add_sub_cancel]
      exact Bool.eq_false_iff.2 hk
theorem gd {β : Type} {l : List β} {d : β} {i : Nat} (h : i < l.length) : l.getD i d = l[i] := by rw [List.getD_eq_getElem?_getD, List.getElem?_eq_getElem h]; rfl
theorem ins_sorted {G : Nat → Nat} {i : Nat} {out : List Int} (h : out.Pairwise (Bf G)) (hb : ∀ x ∈ out, x < (i : Int)) : (ins G i out).Pairwise (Bf G) := by
  unfold ins
  have hp := pos_le G (G i) out out.length
  have h1 := pos_after G (G i) out out.length
  have h2 := pos_front G (G i) out out.length
  generalize pos G (G i) out out.length = p at hp h1 h2
  have hsplit : out.take p ++ out.drop p = out := List.take_append_drop p out
  have hpw := List.pairwise_append.1 (hsplit ▸ h)
  refine List.pairwise_append.2 ⟨hpw.1, List.pairwise_cons.2 ⟨fun b hbm => ?_, hpw.2.1⟩, fun a ha b hbm => ?_⟩
  · obtain ⟨j, hj, rfl⟩ := List.mem_iff_getElem.1 hbm
    rw [List.length_drop] at hj
    rw [List.getElem_drop]
    have := h1 (p + j) (by omega) (by omega)
    rw [gd (by omega)] at this
    exact .inl (by rw [Int.toNat_natCast]; exact this)
  · rcases List.mem_cons.1 hbm with rfl | hbm
    · obtain ⟨j, hj, rfl⟩ := List.mem_iff_getElem.1 ha
      rw [List.length_take] at hj
      rw [List.getElem_take]
      have hpp : 0 < p := by omega
      have hlast := h2 hpp
      rw [gd (by omega)] at hlast
      refine .inr ⟨?_, hb _ (List.getElem_mem _)⟩
      rw [Int.toNat_natCast]
      by_cases e : j = p - 1
      · subst e; exact hlast
      · have hj2 : j < p - 1 := by omega
        rcases List.pairwise_iff_getElem.1 h j (p - 1) (by omega) (by omega) hj2 with g | ⟨g, _⟩
        · exact kz_tail (kz_asym g) hlast
        · exact kz_tail g hlast
    · exact hpw.2.2 a ha b hbm
theorem ref_sorted (G : Nat → Nat) : ∀ n, (refRank G n).Pairwise (Bf G)
  | 0 => .nil
  | n + 1 => by
    rw [refRank]
    exact ins_sorted (ref_sorted G n) (fun x hx => (ref_bound G n x hx).2)
theorem ins_perm (G : Nat → Nat) (i : Nat) (out : List Int) : (ins G i out).Perm ((i : Int) :: out) := by
  unfold ins
  refine List.perm_middle.trans ?_
  rw [List.take_append_drop]
theorem ref_perm (G : Nat → Nat) : ∀ n, (refRank G n).Perm ((List.range n).map fun j : Nat => (j : Int))
  | 0 => .refl _
  | n + 1 => by
    rw [refRank, List.range_succ, List.map_append]
    exact (ins_perm G n _).trans (((ref_perm G n).cons _).trans (by rw [List.map_cons, List.map_nil]; exact (List.perm_append_singleton _ _).symm))
theorem ref_is (G : Nat → Nat) (k : Nat) : refRank G (k + 1) = rankOf G k := by
  have hb := ref_bound G (k + 1)
  have hl := ref_len G (k + 1)
  have hs := ref_sorted G (k + 1)
  have hp := ref_perm G (k + 1)
  generalize refRank G (k + 1) = r at hb hl hs hp
  refine rank_is ?_
  obtain ⟨dl, hdl⟩ : ∃ dl : List (Fin (k + 1)), dl.map (pl k) = r := by
    refine ⟨r.pmap (fun x (hx : 0 ≤ x ∧ x < ((k + 1 : Nat) : Int)) => (⟨x.toNat, by omega⟩ : Fin (k + 1))) hb, ?_⟩
    rw [List.map_pmap]
    refine List.ext_getElem (by simp) (fun j h1 h2 => ?_)
    rw [List.getElem_pmap]
    have := hb r[j] (List.getElem_mem _)
    show ((r[j].toNat : Nat) : Int) = r[j]
    omega
  have hll : dl.length = k + 1 := by
    have := congrArg List.length hdl
    rw [List.length_map] at this
    omega
  refine ⟨dl.toArray, by simp [hdl], ⟨?_, fun i hi => ?_, ?_⟩, fun i j _ hij hj => ?_⟩
  · rw [List.size_toArray, hll, places_size]
  · have e1 : dl.toArray[i]! = default := by rw [getElem!_neg]; simp; omega
    have e2 : (places k)[i]! = default := by rw [getElem!_neg]; rw [places_size]; omega
    rw [e1, e2]
  · have e1 : dl.toArray.extract 0 (k + 1) = dl.toArray := Array.extract_eq_self_of_le (by rw [List.size_toArray]; omega)
    have e2 : (places k).extract 0 (k + 1) = places k := Array.extract_eq_self_of_le (by rw [places_size]; omega)
    rw [e1, e2]
    have hq : (dl.map (pl k)).Perm ((places k).toList.map (pl k)) := by rw [hdl, places_list]; exact hp
    have hinj : ∀ x y : Fin (k + 1), pl k x = pl k y → x = y := fun x y h => Fin.ext (by exact Int.ofNat.inj h)
    have hg : ∀ x : Fin (k + 1), (⟨(pl k x).toNat % (k + 1), Nat.mod_lt _ (by omega)⟩ : Fin (k + 1)) = x := fun x => Fin.ext (by show ((x.val : Int)).toNat % (k + 1) = x.val; rw [Int.toNat_natCast, Nat.mod_eq_of_lt x.isLt])
    have := hq.map (fun z : Int => (⟨z.toNat % (k + 1), Nat.mod_lt _ (by omega)⟩ : Fin (k + 1)))
    rw [List.map_map, List.map_map] at this
    have hid : ((fun z : Int => (⟨z.toNat % (k + 1), Nat.mod_lt _ (by omega)⟩ : Fin (k + 1))) ∘ pl k) = id := funext hg
    rw [hid, List.map_id, List.map_id] at this
    exact this
  · rw [getElem!_pos dl.toArray i (by rw [List.size_toArray]; omega), getElem!_pos dl.toArray j (by rw [List.size_toArray]; omega)]
    rw [lx_false, ltOf_is]
    simp only [List.getElem_toArray]
    have h1 : r[i]'(by omega) = pl k (dl[i]'(by omega)) := by simp [← hdl]
    have h2 : r[j]'(by omega) = pl k (dl[j]'(by omega)) := by simp [← hdl]
    have := List.pairwise_iff_getElem.1 hs i j (by omega) (by omega) hij
    rw [h1, h2] at this
    unfold Bf at this
    simp only [pl, Int.toNat_natCast] at this
    rcases this with g | ⟨g, g2⟩
    · exact ⟨kz_asym g, .inl g⟩
    · exact ⟨g, .inr (by omega)⟩
/-! ### the order alone matters -/
theorem rank_mono {G H : Nat → Nat} {k : Nat} (h : ∀ i j, i < k + 1 → j < k + 1 → kz (key (G i)) (key (G j)) = kz (key (H i)) (key (H j))) : rankOf G k = rankOf H k := by
  have e : lxF G k = lxF H k := by
    unfold lxF
    rw [ltOf_is, ltOf_is]
    have : (fun x y : Fin (k + 1) => kz (key (G x.val)) (key (G y.val))) = fun x y => kz (key (H x.val)) (key (H y.val)) := by
      funext x y; exact h _ _ x.isLt y.isLt
    rw [this]
  unfold rankOf
  rw [e]
/-! ### one number -/
theorem F1 : (4607182418800017408 : Nat) = floatOfInt .f64 1 := by decide +kernel
theorem F2 : (4611686018427387904 : Nat) = floatOfInt .f64 2 := by decide +kernel
theorem F7 : (4619567317775286272 : Nat) = floatOfInt .f64 7 := by decide +kernel
theorem FB : (4787326403894837248 : Nat) = floatOfInt .f64 1099511627776 := by decide +kernel
theorem FN : (14010698440749613056 : Nat) = floatOfInt .f64 (-1099511627776) := by decide +kernel
def nof (v : Nat) : Option Int := match key v with
  | none => none
  | some a => if 1099511627776 * U < a ∨ a < -1099511627776 * U then some 7 else some (a.tdiv U)
def fx (v : Nat) : Nat := match nof v with | none => v | some n => floatOfInt .f64 n
def f2 (v : Nat) : Nat := match nof v with | none => qnan | some n => fop .mul 4611686018427387904 (floatOfInt .f64 n)
def f3 (v : Nat) : Nat := match nof v with | none => qnan | some n => fop .add (floatOfInt .f64 n) 4607182418800017408
theorem nof_small {v : Nat} {n : Int} (h : nof v = some n) : n.natAbs ≤ 1099511627776 := by
  unfold nof at h
  split at h
  · cases h
  · rename_i a ha
    split at h
    · injection h with h; omega
    · rename_i hn
      injection h with h
      have hU := U_pos
      have h1 : -1099511627776 * U ≤ a := by omega
      have h2 : a ≤ 1099511627776 * U := by omega
      have : a.tdiv U ≤ 1099511627776 := by
        have := Int.tdiv_le_tdiv hU h2
        rwa [Int.mul_tdiv_cancel _ (by omega)] at this
      have : -1099511627776 ≤ a.tdiv U := by
        have := Int.tdiv_le_tdiv hU h1
        rwa [Int.mul_tdiv_cancel _ (by omega)] at this
      omega
theorem elem_cases (v : Nat) : (nof v = none ∧ key v = none) ∨ (nof v = some 7 ∧ (FloatKind.f64.format.order v 4787326403894837248 == some .gt) = true) ∨
    (nof v = some 7 ∧ (FloatKind.f64.format.order v 4787326403894837248 == some .gt) = false ∧ (FloatKind.f64.format.order v 14010698440749613056 == some .lt) = true) ∨
    (∃ n, nof v = some n ∧ (FloatKind.f64.format.order v 4787326403894837248 == some .gt) = false ∧ (FloatKind.f64.format.order v 14010698440749613056 == some .lt) = false ∧ (FloatKind.f64.format.order v v == some .eq) = true ∧ fintOk v = true ∧ fint v = n) := by
  have hU := U_pos
  cases hk : key v with
  | none => exact .inl ⟨by unfold nof; rw [hk], rfl⟩
  | some a =>
    right
    have kb : key 4787326403894837248 = some (1099511627776 * U) := by rw [FB]; exact key_ofInt _ (by decide)
    have kn : key 14010698440749613056 = some (-1099511627776 * U) := by rw [FN]; exact key_ofInt _ (by decide)
    have ob : FloatKind.f64.format.order v 4787326403894837248 = some (compare a (1099511627776 * U)) := order_key hk kb
    have on_ : FloatKind.f64.format.order v 14010698440749613056 = some (compare a (-1099511627776 * U)) := order_key hk kn
    have oo : FloatKind.f64.format.order v v = some (compare a a) := order_key hk hk
    by_cases h1 : 1099511627776 * U < a
    · exact .inl ⟨by unfold nof; rw [hk]; simp only; rw [if_pos (.inl h1)], by rw [ob, cmp_gt h1]; rfl⟩
    · have g1 : (FloatKind.f64.format.order v 4787326403894837248 == some .gt) = false := by
        rw [ob]
        rcases Int.lt_trichotomy a (1099511627776 * U) with g | g | g
        · rw [cmp_lt g]; rfl
        · rw [cmp_eq g]; rfl
        · exact absurd g h1
      right
      by_cases h2 : a < -1099511627776 * U
      · exact .inl ⟨by unfold nof; rw [hk]; simp only; rw [if_pos (.inr h2)], g1, by rw [on_, cmp_lt h2]; rfl⟩
      · have g2 : (FloatKind.f64.format.order v 14010698440749613056 == some .lt) = false := by
          rw [on_]
          rcases Int.lt_trichotomy a (-1099511627776 * U) with g | g | g
          · exact absurd g h2
          · rw [cmp_eq g]; rfl
          · rw [cmp_gt g]; rfl
        right
        have hn : nof v = some (a.tdiv U) := by unfold nof; rw [hk]; simp only; rw [if_neg (by omega)]
        have hs := nof_small hn
        have hab : a.natAbs < p2 2150 := by
          have := @int_small (1099511627776 : Int) (by decide)
          have h3 : (1099511627776 * U).natAbs = (1099511627776 : Int).natAbs * p2 1074 := abs_U _
          have : a.natAbs ≤ (1099511627776 * U).natAbs := by omega
          have h4 : ((1099511627776 : Int) * U).natAbs < p2 2150 := @int_small (1099511627776 : Int) (by decide)
          omega
        obtain ⟨f1, f2⟩ := fint_of (int_key hk hab (by omega) (by omega))
        exact ⟨_, hn, g1, g2, by rw [oo, cmp_eq rfl]; rfl, f1, f2⟩
theorem key_fx (v : Nat) : key (fx v) = (nof v).map (fun n => n * U) := by
  unfold fx
  cases h : nof v with
  | none =>
    show key v = none
    rcases elem_cases v with ⟨_, g⟩ | ⟨g, _⟩ | ⟨g, _⟩ | ⟨n, g, _⟩
    · exact g
    all_goals rw [h] at g; cases g
  | some n =>
    have := nof_small h
    exact key_ofInt n (by omega)
theorem mul2 {n : Int} (h : n.natAbs ≤ 1099511627776) : fvalid .mul 4611686018427387904 (floatOfInt .f64 n) = true ∧ Wk (fop .mul 4611686018427387904 (floatOfInt .f64 n)) (2 * n) := by
  have h2 : Wk 4611686018427387904 2 := by rw [F2]; exact wk_int 2 (by decide)
  exact wk_mul h2 (wk_int n (by omega)) (by decide) (by omega) (by omega)
theorem add1 {n : Int} (h : n.natAbs ≤ 1099511627776) : fvalid .add (floatOfInt .f64 n) 4607182418800017408 = true ∧ Wk (fop .add (floatOfInt .f64 n) 4607182418800017408) (n + 1) := by
  have h2 : Wk 4607182418800017408 1 := by rw [F1]; exact wk_int 1 (by decide)
  exact wk_add (wk_int n (by omega)) h2 (by omega) (by decide)
theorem key_f2 (v : Nat) : key (f2 v) = (nof v).map (fun n => 2 * n * U) := by
  unfold f2
  cases h : nof v with
  | none => exact qnan_key
  | some n => exact (mul2 (nof_small h)).2
theorem key_f3 (v : Nat) : key (f3 v) = (nof v).map (fun n => (n + 1) * U) := by
  unfold f3
  cases h : nof v with
  | none => exact qnan_key
  | some n => exact (add1 (nof_small h)).2
theorem lt_scale {a b : Int} : (a * U < b * U) ↔ a < b := by
  have := U_pos
  constructor
  · intro h; exact Int.lt_of_mul_lt_mul_right h (by omega)
  · intro h; exact Int.mul_lt_mul_of_pos_right h this
theorem kz_f2 (x y : Nat) : kz (key (f2 x)) (key (f2 y)) = kz (key (fx x)) (key (fx y)) := by
  rw [key_f2, key_f2, key_fx, key_fx]
  cases nof x <;> cases nof y <;> simp only [Option.map_none, Option.map_some, kz]
  exact decide_eq_decide.2 (by rw [lt_scale, lt_scale]; omega)
theorem kz_f3 (x y : Nat) : kz (key (f3 x)) (key (f3 y)) = kz (key (fx x)) (key (fx y)) := by
  rw [key_f3, key_f3, key_fx, key_fx]
  cases nof x <;> cases nof y <;> simp only [Option.map_none, Option.map_some, kz]
  exact decide_eq_decide.2 (by rw [lt_scale, lt_scale]; omega)
theorem sm_key {b r : Nat} (h : Sm b r) : key b = key r := by
  rcases h with rfl | ⟨h1, h2⟩
  · rfl
  · rw [h1, h2]
theorem getD_map {l : List Nat} (f : Nat → Nat) {i : Nat} (h : i < l.length) : (l.map f).getD i 0 = f (l.getD i 0) := by
  rw [gd (by simpa using h), List.getElem_map, gd h]
/-- the three lists' Ranks. -/
def rk (l : List Nat) : List Int := if l.length = 0 then [] else rankOf (fun t => l.getD t 0) (l.length - 1)
theorem rk_sm {l ys : List Nat} (f : Nat → Nat) (hf : ∀ x y, kz (key (f x)) (key (f y)) = kz (key (fx x)) (key (fx y))) (hs : SmL ys (l.map f)) : rk ys = rk (l.map fx) := by
  obtain ⟨h1, h2⟩ := hs
  unfold rk
  rw [h1, List.length_map, List.length_map]
  rw [List.length_map] at h2
  by_cases h0 : l.length = 0
  · rw [if_pos h0, if_pos h0]
  · rw [if_neg h0, if_neg h0]
    refine rank_mono (fun i j hi hj => ?_)
    rw [sm_key (h2 i (by omega)), sm_key (h2 j (by omega)), getD_map f (by omega), getD_map f (by omega), getD_map fx (by omega), getD_map fx (by omega)]
    exact hf _ _
theorem rk_ref (l : List Nat) : refRank (fun t => l.getD t 0) l.length = rk l := by
  unfold rk
  by_cases h0 : l.length = 0
  · rw [if_pos h0, h0]; rfl
  · rw [if_neg h0]
    obtain ⟨k, hk⟩ : ∃ k, l.length = k + 1 := ⟨l.length - 1, by omega⟩
    rw [hk, Nat.add_sub_cancel]
    exact ref_is _ k
end Go.Proofs.YtfmfikodnpnblaaDoor.MovesP
/- RateMoves, walked by hand. -/
namespace Go.Proofs.YtfmfikodnpnblaaDoor.WalkRateMoves
open Go.RowKit Go.Proofs Go.Sort Go.Proofs.YtfmfikodnpnblaaDoorW.PrintWords Go.Proofs.YtfmfikodnpnblaaDoorW.PrintLast Go.Proofs.YtfmfikodnpnblaaDoorW.PrintMore Go.Proofs.YtfmfikodnpnblaaDoor.Base Go.Proofs.YtfmfikodnpnblaaDoor.Flt Go.Proofs.YtfmfikodnpnblaaDoor.FltNan Go.Proofs.YtfmfikodnpnblaaDoor.RateNan Go.Proofs.YtfmfikodnpnblaaDoor.RateNanS Go.Proofs.YtfmfikodnpnblaaDoor.RateTold Go.Proofs.YtfmfikodnpnblaaDoor.ClkLib Go.Proofs.YtfmfikodnpnblaaDoor.PRate1 Go.Proofs.YtfmfikodnpnblaaDoor.RankRef Go.Proofs.YtfmfikodnpnblaaDoor.MovesP
attribute [local go_sem] fop_run fint_run fofint_run
/-! ### NaNs that are drawn -/
theorem mul_none {b : Nat} (h : key b = none) : floatBits .mul .f64 4611686018427387904 b = none := by
  show Ieee.Format.mul Ieee.double 4611686018427387904 b = none
  have e : Ieee.double.read 4611686018427387904 = .number false 4503599627370496 (-51) := by decide +kernel
  unfold Ieee.Format.mul
  unfold key at h
  rcases read_cases b with ⟨s, t, eb⟩ | ⟨s, eb⟩ | ⟨s, m, i, eb, _⟩
  · rw [e, eb]; rfl
  · rw [eb] at h; cases h
  · rw [eb] at h; cases h
theorem add_none {b : Nat} (h : key b = none) : floatBits .add .f64 b 4607182418800017408 = none := by
  show Ieee.Format.add Ieee.double b 4607182418800017408 = none
  have e : Ieee.double.read 4607182418800017408 = .number false 4503599627370496 (-52) := by decide +kernel
  unfold Ieee.Format.add
  unfold key at h
  rcases read_cases b with ⟨s, t, eb⟩ | ⟨s, eb⟩ | ⟨s, m, i, eb, _⟩
  · rw [e, eb]; rfl
  · rw [eb] at h; cases h
  · rw [eb] at h; cases h
theorem mul_nan_run {P : Program} (t : TypeId) (y : Nat) (h : key y = none) (w : World) : (binOp .mul t (.float .f64 4611686018427387904) (.float .f64 y)).run P w = .ok (.float .f64 (nanOf 4611686018427387904 y w)) w.drew := by
  have h0 : FloatKind.f64.format.mul 4611686018427387904 y = none := mul_none h
  have hf : Question.forced (.nanBits .f64 4611686018427387904 y) = false := rfl
  simp only [binOp, Op.floatArith, h0]
  simp [hf]
  rfl
theorem add_nan_run {P : Program} (t : TypeId) (x : Nat) (h : key x = none) (w : World) : (binOp .add t (.float .f64 x) (.float .f64 4607182418800017408)).run P w = .ok (.float .f64 (nanOf x 4607182418800017408 w)) w.drew := by
  have h0 : FloatKind.f64.format.add x 4607182418800017408 = none := add_none h
  have hf : Question.forced (.nanBits .f64 x 4607182418800017408) = false := rfl
  simp only [binOp, Op.floatArith, h0]
  simp [hf]
  rfl
theorem al_dr (w : World) (o : Obj) : (w.alloc o).drew = w.drew.alloc o := rfl
/-! ### three rows -/
section
variable {α β : Type} {d : Kd α} {d' : Kd β}
theorem apn {w W : World} {e : Nat} {u v : Value} {xs : List α} (hu : ∃ b, u.ownBlock = some b ∧ W.heap.size ≤ b) (hv : Kd.R d e W w.heap.size (fun _ => True) v xs) : Ap u v := fun k hk e' => by
  obtain ⟨b, h1, h2⟩ := hu
  have := Kd.R_lt hv k e'.symm
  rw [hk] at h1; injection h1 with h1; omega
theorem apa {w W : World} {e : Nat} {v1 v u : Value} {ys : List α} (hat : v1.ownBlock = v.ownBlock ∨ ∃ b, v1.ownBlock = some b ∧ W.heap.size ≤ b) (h : Ap v u) (hu : Kd.R d e W w.heap.size (fun _ => True) u ys) : Ap v1 u := by
  rcases hat with e' | hb
  · intro k hk; exact h k (e' ▸ hk)
  · exact apn hb hu
end
structure Lo (w w' : World) (v3 v4 v5 : Value) (xs ys zs : List Nat) : Prop where
  qa : Kd.R Kd.float 27 w' w.heap.size (fun _ => True) v3 xs
  qb : Kd.R floatS 27 w' w.heap.size (fun _ => True) v4 ys
  qc : Kd.R floatS 27 w' w.heap.size (fun _ => True) v5 zs
  ab : Ap v3 v4
  ac : Ap v3 v5
  bc : Ap v4 v5
  qB : Below w.heap.size w w'
theorem Lo.alloc {w w' : World} {v3 v4 v5 : Value} {xs ys zs : List Nat} (h : Lo w w' v3 v4 v5 xs ys zs) (o : Obj) : Lo w (w'.alloc o) v3 v4 v5 xs ys zs :=
  ⟨Kd.R_alloc h.qa o, Kd.R_alloc h.qb o, Kd.R_alloc h.qc o, h.ab, h.ac, h.bc, below_alloc h.qB o⟩
theorem Lo.drew {w w' : World} {v3 v4 v5 : Value} {xs ys zs : List Nat} (h : Lo w w' v3 v4 v5 xs ys zs) : Lo w w'.drew v3 v4 v5 xs ys zs :=
  ⟨Kd.R_drew h.qa, Kd.R_drew h.qb, Kd.R_drew h.qc, h.ab, h.ac, h.bc, below_drew h.qB⟩
theorem Lo.drewN {w w' : World} {v3 v4 v5 : Value} {xs ys zs : List Nat} (h : Lo w w' v3 v4 v5 xs ys zs) (n : Nat) : Lo w (w'.drewN n) v3 v4 v5 xs ys zs :=
  ⟨Kd.R_drewN h.qa n, Kd.R_drewN h.qb n, Kd.R_drewN h.qc n, h.ab, h.ac, h.bc, pw_below_drewN h.qB n⟩
section
variable {w W w1 : World} {v3 v4 v5 v1 : Value} {xs ys zs l1 : List Nat}
theorem Lo.pushA (h : Lo w W v3 v4 v5 xs ys zs) (h1 : Kd.R Kd.float 27 w1 w.heap.size (fun _ => True) v1 l1) (h2 : Below w.heap.size w w1) (h3 : W.grownBy w1 v3.ownBlock) (h4 : v1.ownBlock = v3.ownBlock ∨ ∃ b, v1.ownBlock = some b ∧ W.heap.size ≤ b) : Lo w w1 v1 v4 v5 l1 ys zs :=
  ⟨h1, Kd.R_grown2 h.qb rfl h3 (fun k e => h.ab k e), Kd.R_grown2 h.qc rfl h3 (fun k e => h.ac k e), apa h4 h.ab h.qb, apa h4 h.ac h.qc, h.bc, h2⟩
theorem Lo.pushB (h : Lo w W v3 v4 v5 xs ys zs) (h1 : Kd.R floatS 27 w1 w.heap.size (fun _ => True) v1 l1) (h2 : Below w.heap.size w w1) (h3 : W.grownBy w1 v4.ownBlock) (h4 : v1.ownBlock = v4.ownBlock ∨ ∃ b, v1.ownBlock = some b ∧ W.heap.size ≤ b) : Lo w w1 v3 v1 v5 xs l1 zs :=
  ⟨Kd.R_grown2 h.qa rfl h3 (fun k e => h.ab.sym k e), h1, Kd.R_grown2 h.qc rfl h3 (fun k e => h.bc k e), (apa h4 h.ab.sym h.qa).sym, h.ac, apa h4 h.bc h.qc, h2⟩
theorem Lo.pushC (h : Lo w W v3 v4 v5 xs ys zs) (h1 : Kd.R floatS 27 w1 w.heap.size (fun _ => True) v1 l1) (h2 : Below w.heap.size w w1) (h3 : W.grownBy w1 v5.ownBlock) (h4 : v1.ownBlock = v5.ownBlock ∨ ∃ b, v1.ownBlock = some b ∧ W.heap.size ≤ b) : Lo w w1 v3 v4 v1 xs ys l1 :=
  ⟨Kd.R_grown2 h.qa rfl h3 (fun k e => h.ac.sym k e), Kd.R_grown2 h.qb rfl h3 (fun k e => h.bc.sym k e), h1, h.ab, (apa h4 h.ac.sym h.qa).sym, (apa h4 h.bc.sym h.qb).sym, h2⟩
end
theorem take_f (l : List Nat) (f : Nat → Nat) {i : Nat} (h : i < l.length) : (l.map f).take (i + 1) = (l.map f).take i ++ [f (l.getD i 0)] := by
  rw [List.take_succ_eq_append_getElem (by simpa using h), List.getElem_map, gd h]
theorem ints_l (r : List Int) (hr : r.length ≤ 60) : ∀ d i : Nat, i + d = r.length → PRate1.stevedorelaw36_ints.l0 (d + 1) r r (i : Int) = some true
  | 0 => fun i h => by rw [PRate1.stevedorelaw36_ints.l0, if_neg (by omega)]
  | d + 1 => fun i h => by
    rw [PRate1.stevedorelaw36_ints.l0, if_pos (by omega), if_pos (by omega), if_pos (by omega), if_pos rfl, show wrap64 ((i : Int) + 1) = ((i + 1 : Nat) : Int) by unfold wrap64; omega]
    exact ints_l r hr d (i + 1) (by omega)
theorem ints_f (r : List Int) (hr : r.length ≤ 60) : PRate1.stevedorelaw36_ints.f (r.length + 1) r r = some true := by
  unfold PRate1.stevedorelaw36_ints.f
  rw [if_pos rfl]
  exact ints_l r hr r.length 0 (by omega)
theorem rk_len (l : List Nat) : (rk l).length = l.length := by
  rw [← rk_ref, ref_len]
set_option maxHeartbeats 8000000 in
set_option maxRecDepth 100000 in
theorem great (A0 : Option Addr) (c0 : Nat) (l0 : List Nat) (w : World) (h40 : ¬ l0.length ≤ 40) (hv : Vars w) :
    Calls Tryd.prog 4 #[.slice A0 l0.length c0] w fun e w' => e = .returned (.bool true) ∧ Below w.heap.size w w' := by
  have g : decide (40 < (l0.length : Int)) = true := decide_eq_true (by omega)
  have HV := Aside0.mk hv
  clear hv h40
  go_enter Tryd.func4, Tryd.ntmps4
  go_wp2_with (first | (go_at_call 15; (with_reducible refine (stevedorelaw36_told.calls true _ rfl HV.out).mono ?_); rintro e w2 ⟨rfl, HB2⟩))
  refine bodyPost_ret (v := .bool true) (by simp [results, Tryd.results4, go_sem]) rfl ⟨rfl, HB2⟩
set_option maxHeartbeats 8000000 in
set_option maxRecDepth 100000 in
theorem RateMoves (A0 : Option Addr) (c0 : Nat) (l0 : List Nat) (w : World) (hr0 : Kd.C Kd.float w A0 l0.length l0) (hc0 : l0.length ≤ c0) (hv : Vars w) :
    Calls Tryd.prog 4 #[.slice A0 l0.length c0] w fun e w' => e = .returned (.bool true) ∧ Below w.heap.size w w' := by
  by_cases h40 : l0.length ≤ 40
  · have g : decide (40 < (l0.length : Int)) = false := decide_eq_false (by omega)
    have HV := Aside0.mk hv
    have HR := Aside0.mk hr0
    clear hv hr0
    have HL0 : Aside0 (Lo w w (.slice none 0 0) (.slice none 0 0) (.slice none 0 0) [] [] []) := ⟨Kd.R_nil _ _ _ _ _, Kd.R_nil _ _ _ _ _, Kd.R_nil _ _ _ _ _, fun k h => by simp [Value.ownBlock] at h, fun k h => by simp [Value.ownBlock] at h, fun k h => by simp [Value.ownBlock] at h, Below.refl _ _⟩
    go_enter Tryd.func4, Tryd.ntmps4
    go_wp2
    go_loopg [3, 4, 5, 6] (l0.length + 1) (fun kq v3 v4 v5 v6 wr => ∃ i : Nat, v6 = .int .i64 (i : Int) ∧ Aside0 (i ≤ l0.length ∧ l0.length + 1 ≤ kq + i) ∧ Aside0 (Lo w wr v3 v4 v5 ((l0.map fx).take i) ((l0.map f2).take i) ((l0.map f3).take i)))
    case atStart => exact ⟨0, rfl, ⟨by omega, by omega⟩, HL0⟩
    case round =>
      clear HL0
      obtain ⟨i, rfl, HX, HL⟩ := hrel
      by_cases hlt : i < l0.length
      · have hz : (i : Int) < (l0.length : Int) := by omega
        obtain ⟨kq0, rfl⟩ : ∃ q, gk = q + 1 := ⟨gk - 1, by have := HX.out; omega⟩
        obtain ⟨ad, rfl, hx⟩ := Kd.at_float (Kd.C_below HR.out HL.out.qB) (i : Int) (by omega) hz
        have n0 : 0 ≤ (i : Int) := by omega
        have hvv : rdOf 0 l0 (i : Int) = l0.getD i 0 := by unfold rdOf; simp
        rw [hvv, Int.toNat_natCast] at hx
        have HT1 := Aside0.mk (take_f l0 fx hlt)
        have HT2 := Aside0.mk (take_f l0 f2 hlt)
        have HT3 := Aside0.mk (take_f l0 f3 hlt)
        have hl1 : ((l0.map fx).take i).length ≤ 40 := by rw [List.length_take]; omega
        have hl2 : ((l0.map f2).take i).length ≤ 40 := by rw [List.length_take]; omega
        have hl3 : ((l0.map f3).take i).length ≤ 40 := by rw [List.length_take]; omega
        generalize l0.getD i 0 = v at hx HT1 HT2 HT3
        generalize (l0.map fx).take i = xs at HL HT1 hl1
        generalize (l0.map f2).take i = ys at HL HT2 hl2
        generalize (l0.map f3).take i = zs at HL HT3 hl3
        clear hvv
        rcases elem_cases v with ⟨e1, e2⟩ | ⟨e1, e2⟩ | ⟨e1, e2, e3⟩ | ⟨n, e1, e2, e3, e4, e5, e6⟩
        · have hf1 : fx v = v := by unfold fx; rw [e1]
          have hf2 : f2 v = qnan := by unfold f2; rw [e1]
          have hf3 : f3 v = qnan := by unfold f3; rw [e1]
          have o1 : (FloatKind.f64.format.order v 4787326403894837248 == some .gt) = false := by rw [show FloatKind.f64.format.order v 4787326403894837248 = none from order_nan (.inl e2)]; rfl
          have o2 : (FloatKind.f64.format.order v 14010698440749613056 == some .lt) = false := by rw [show FloatKind.f64.format.order v 14010698440749613056 = none from order_nan (.inl e2)]; rfl
          have o3 : (FloatKind.f64.format.order v v == some .eq) = false := by rw [show FloatKind.f64.format.order v v = none from order_nan (.inl e2)]; rfl
          have r1 := mul_nan_run (P := Tryd.prog) 27 v e2
          have r2 := add_nan_run (P := Tryd.prog) 27 v e2
          rw [hf1] at HT1
          rw [hf2] at HT2
          rw [hf3] at HT3
          clear hf1 hf2 hf3 e1 e2
          go_wp2_with (first
            | ((with_reducible refine gate_builtin (b := .append) (xs := #[.tmp 35, .tmp 37]) rfl ?_); at_builtin; (try rw [al_dr]); refine Kd.R_append Kd.float (w0 := w) w.heap.size rfl (.tmp 35) (.tmp 37) 22 27 (.float .f64 0) 8 rfl Tryd.underlying22 info27 rfl (by decide) (by omega) _ xs v [.float .f64 v] (fun _ => True) (fun _ => False) rfl rfl ?aP (fun _ hk => hk.elim) (fun _ _ => trivial) ?aO ?aB ?aS (by omega) ?_; (case aP => exact rfl); (case aO => exact Lo.qa (xs := xs) (ys := ys) (zs := zs) (v3 := _) (v4 := _) (v5 := _) (by repeat (first | exact HL.out | apply Lo.alloc | apply Lo.drew | apply Lo.drewN))); (case aB => exact Lo.qB (xs := xs) (ys := ys) (zs := zs) (v3 := _) (v4 := _) (v5 := _) (by repeat (first | exact HL.out | apply Lo.alloc | apply Lo.drew | apply Lo.drewN))); (case aS => exact below_size (Lo.qB (xs := xs) (ys := ys) (zs := zs) (v3 := _) (v4 := _) (v5 := _) (by repeat (first | exact HL.out | apply Lo.alloc | apply Lo.drew | apply Lo.drewN)))); intro q3 wa h1 h2 h3 h4; have HLa := Aside0.mk (Lo.pushA (xs := xs) (ys := ys) (zs := zs) (v3 := _) (v4 := _) (v5 := _) (by repeat (first | exact HL.out | apply Lo.alloc | apply Lo.drew | apply Lo.drewN)) h1 h2 h3 h4); clear h1 h2 h3 h4 HL)
            | ((with_reducible refine gate_builtin (b := .append) (xs := #[.tmp 39, .tmp 42]) rfl ?_); at_builtin; (try rw [al_dr]); refine Kd.R_append floatS (w0 := w) w.heap.size rfl (.tmp 39) (.tmp 42) 22 27 (.float .f64 0) 8 rfl Tryd.underlying22 info27 rfl (by decide) (by omega) _ ys qnan _ (fun _ => True) (fun _ => False) rfl rfl ?aP (fun _ hk => hk.elim) (fun _ _ => trivial) ?aO ?aB ?aS (by omega) ?_; (case aP => exact ⟨_, rfl, .inr ⟨nanOf_key _ _ _, qnan_key⟩⟩); (case aO => exact Lo.qb (xs := (xs ++ [v])) (ys := ys) (zs := zs) (v3 := _) (v4 := _) (v5 := _) (by repeat (first | exact HLa.out | apply Lo.alloc | apply Lo.drew | apply Lo.drewN))); (case aB => exact Lo.qB (xs := (xs ++ [v])) (ys := ys) (zs := zs) (v3 := _) (v4 := _) (v5 := _) (by repeat (first | exact HLa.out | apply Lo.alloc | apply Lo.drew | apply Lo.drewN))); (case aS => exact below_size (Lo.qB (xs := (xs ++ [v])) (ys := ys) (zs := zs) (v3 := _) (v4 := _) (v5 := _) (by repeat (first | exact HLa.out | apply Lo.alloc | apply Lo.drew | apply Lo.drewN)))); intro q4 wb h1 h2 h3 h4; have HLb := Aside0.mk (Lo.pushB (xs := (xs ++ [v])) (ys := ys) (zs := zs) (v3 := _) (v4 := _) (v5 := _) (by repeat (first | exact HLa.out | apply Lo.alloc | apply Lo.drew | apply Lo.drewN)) h1 h2 h3 h4); clear h1 h2 h3 h4 HLa)
            | ((with_reducible refine gate_builtin (b := .append) (xs := #[.tmp 44, .tmp 47]) rfl ?_); at_builtin; (try rw [al_dr]); refine Kd.R_append floatS (w0 := w) w.heap.size rfl (.tmp 44) (.tmp 47) 22 27 (.float .f64 0) 8 rfl Tryd.underlying22 info27 rfl (by decide) (by omega) _ zs qnan _ (fun _ => True) (fun _ => False) rfl rfl ?aP (fun _ hk => hk.elim) (fun _ _ => trivial) ?aO ?aB ?aS (by omega) ?_; (case aP => exact ⟨_, rfl, .inr ⟨nanOf_key _ _ _, qnan_key⟩⟩); (case aO => exact Lo.qc (xs := (xs ++ [v])) (ys := (ys ++ [qnan])) (zs := zs) (v3 := _) (v4 := _) (v5 := _) (by repeat (first | exact HLb.out | apply Lo.alloc | apply Lo.drew | apply Lo.drewN))); (case aB => exact Lo.qB (xs := (xs ++ [v])) (ys := (ys ++ [qnan])) (zs := zs) (v3 := _) (v4 := _) (v5 := _) (by repeat (first | exact HLb.out | apply Lo.alloc | apply Lo.drew | apply Lo.drewN))); (case aS => exact below_size (Lo.qB (xs := (xs ++ [v])) (ys := (ys ++ [qnan])) (zs := zs) (v3 := _) (v4 := _) (v5 := _) (by repeat (first | exact HLb.out | apply Lo.alloc | apply Lo.drew | apply Lo.drewN)))); intro q5 wc h1 h2 h3 h4; have HLc := Aside0.mk (Lo.pushC (xs := (xs ++ [v])) (ys := (ys ++ [qnan])) (zs := zs) (v3 := _) (v4 := _) (v5 := _) (by repeat (first | exact HLb.out | apply Lo.alloc | apply Lo.drew | apply Lo.drewN)) h1 h2 h3 h4); clear h1 h2 h3 h4 HLb))
          go_roundg kq0
          case measure => omega
          case rel => exact ⟨i + 1, by go_num, ⟨by omega, by have := HX.out; omega⟩, ⟨by rw [HT1.out, HT2.out, HT3.out]; exact HLc.out⟩⟩
        · have o1 := e2
          have hs := mul2 (n := 7) (by decide)
          have hs2 := add1 (n := 7) (by decide)
          have o4 : (FloatKind.f64.format.order 4619567317775286272 4619567317775286272 == some .eq) = true := by decide +kernel
          have i7 : fint 4619567317775286272 = 7 := by decide +kernel
          have o5 : fintOk 4619567317775286272 = true := by decide +kernel
          have hf1 : fx v = floatOfInt .f64 (fint 4619567317775286272) := by unfold fx; rw [e1, i7]
          have hf2 : f2 v = fop .mul 4611686018427387904 (floatOfInt .f64 (fint 4619567317775286272)) := by unfold f2; rw [e1, i7]
          have hf3 : f3 v = fop .add (floatOfInt .f64 (fint 4619567317775286272)) 4607182418800017408 := by unfold f3; rw [e1, i7]
          have o6 : fvalid .mul 4611686018427387904 (floatOfInt .f64 (fint 4619567317775286272)) = true := by rw [i7]; exact hs.1
          have o7 : fvalid .add (floatOfInt .f64 (fint 4619567317775286272)) 4607182418800017408 = true := by rw [i7]; exact hs2.1
          rw [hf1] at HT1
          rw [hf2] at HT2
          rw [hf3] at HT3
          have hu3 := Tryd.underlying3
          have hu27 := Tryd.underlying27
          clear hf1 hf2 hf3 e1 hs hs2 i7
          go_wp2_with (first
            | ((with_reducible refine gate_builtin (b := .append) (xs := #[.tmp 35, .tmp 37]) rfl ?_); at_builtin; (try rw [al_dr]); refine Kd.R_append Kd.float (w0 := w) w.heap.size rfl (.tmp 35) (.tmp 37) 22 27 (.float .f64 0) 8 rfl Tryd.underlying22 info27 rfl (by decide) (by omega) _ xs (floatOfInt .f64 (fint 4619567317775286272)) [.float .f64 (floatOfInt .f64 (fint 4619567317775286272))] (fun _ => True) (fun _ => False) rfl rfl ?aP (fun _ hk => hk.elim) (fun _ _ => trivial) ?aO ?aB ?aS (by omega) ?_; (case aP => exact rfl); (case aO => exact Lo.qa (xs := xs) (ys := ys) (zs := zs) (v3 := _) (v4 := _) (v5 := _) (by repeat (first | exact HL.out | apply Lo.alloc | apply Lo.drew | apply Lo.drewN))); (case aB => exact Lo.qB (xs := xs) (ys := ys) (zs := zs) (v3 := _) (v4 := _) (v5 := _) (by repeat (first | exact HL.out | apply Lo.alloc | apply Lo.drew | apply Lo.drewN))); (case aS => exact below_size (Lo.qB (xs := xs) (ys := ys) (zs := zs) (v3 := _) (v4 := _) (v5 := _) (by repeat (first | exact HL.out | apply Lo.alloc | apply Lo.drew | apply Lo.drewN)))); intro q3 wa h1 h2 h3 h4; have HLa := Aside0.mk (Lo.pushA (xs := xs) (ys := ys) (zs := zs) (v3 := _) (v4 := _) (v5 := _) (by repeat (first | exact HL.out | apply Lo.alloc | apply Lo.drew | apply Lo.drewN)) h1 h2 h3 h4); clear h1 h2 h3 h4 HL)
            | ((with_reducible refine gate_builtin (b := .append) (xs := #[.tmp 39, .tmp 42]) rfl ?_); at_builtin; (try rw [al_dr]); refine Kd.R_append floatS (w0 := w) w.heap.size rfl (.tmp 39) (.tmp 42) 22 27 (.float .f64 0) 8 rfl Tryd.underlying22 info27 rfl (by decide) (by omega) _ ys (fop .mul 4611686018427387904 (floatOfInt .f64 (fint 4619567317775286272))) _ (fun _ => True) (fun _ => False) rfl rfl ?aP (fun _ hk => hk.elim) (fun _ _ => trivial) ?aO ?aB ?aS (by omega) ?_; (case aP => exact ⟨_, rfl, .inl rfl⟩); (case aO => exact Lo.qb (xs := (xs ++ [(floatOfInt .f64 (fint 4619567317775286272))])) (ys := ys) (zs := zs) (v3 := _) (v4 := _) (v5 := _) (by repeat (first | exact HLa.out | apply Lo.alloc | apply Lo.drew | apply Lo.drewN))); (case aB => exact Lo.qB (xs := (xs ++ [(floatOfInt .f64 (fint 4619567317775286272))])) (ys := ys) (zs := zs) (v3 := _) (v4 := _) (v5 := _) (by repeat (first | exact HLa.out | apply Lo.alloc | apply Lo.drew | apply Lo.drewN))); (case aS => exact below_size (Lo.qB (xs := (xs ++ [(floatOfInt .f64 (fint 4619567317775286272))])) (ys := ys) (zs := zs) (v3 := _) (v4 := _) (v5 := _) (by repeat (first | exact HLa.out | apply Lo.alloc | apply Lo.drew | apply Lo.drewN)))); intro q4 wb h1 h2 h3 h4; have HLb := Aside0.mk (Lo.pushB (xs := (xs ++ [(floatOfInt .f64 (fint 4619567317775286272))])) (ys := ys) (zs := zs) (v3 := _) (v4 := _) (v5 := _) (by repeat (first | exact HLa.out | apply Lo.alloc | apply Lo.drew | apply Lo.drewN)) h1 h2 h3 h4); clear h1 h2 h3 h4 HLa)
            | ((with_reducible refine gate_builtin (b := .append) (xs := #[.tmp 44, .tmp 47]) rfl ?_); at_builtin; (try rw [al_dr]); refine Kd.R_append floatS (w0 := w) w.heap.size rfl (.tmp 44) (.tmp 47) 22 27 (.float .f64 0) 8 rfl Tryd.underlying22 info27 rfl (by decide) (by omega) _ zs (fop .add (floatOfInt .f64 (fint 4619567317775286272)) 4607182418800017408) _ (fun _ => True) (fun _ => False) rfl rfl ?aP (fun _ hk => hk.elim) (fun _ _ => trivial) ?aO ?aB ?aS (by omega) ?_; (case aP => exact ⟨_, rfl, .inl rfl⟩); (case aO => exact Lo.qc (xs := (xs ++ [(floatOfInt .f64 (fint 4619567317775286272))])) (ys := (ys ++ [(fop .mul 4611686018427387904 (floatOfInt .f64 (fint 4619567317775286272)))])) (zs := zs) (v3 := _) (v4 := _) (v5 := _) (by repeat (first | exact HLb.out | apply Lo.alloc | apply Lo.drew | apply Lo.drewN))); (case aB => exact Lo.qB (xs := (xs ++ [(floatOfInt .f64 (fint 4619567317775286272))])) (ys := (ys ++ [(fop .mul 4611686018427387904 (floatOfInt .f64 (fint 4619567317775286272)))])) (zs := zs) (v3 := _) (v4 := _) (v5 := _) (by repeat (first | exact HLb.out | apply Lo.alloc | apply Lo.drew | apply Lo.drewN))); (case aS => exact below_size (Lo.qB (xs := (xs ++ [(floatOfInt .f64 (fint 4619567317775286272))])) (ys := (ys ++ [(fop .mul 4611686018427387904 (floatOfInt .f64 (fint 4619567317775286272)))])) (zs := zs) (v3 := _) (v4 := _) (v5 := _) (by repeat (first | exact HLb.out | apply Lo.alloc | apply Lo.drew | apply Lo.drewN)))); intro q5 wc h1 h2 h3 h4; have HLc := Aside0.mk (Lo.pushC (xs := (xs ++ [(floatOfInt .f64 (fint 4619567317775286272))])) (ys := (ys ++ [(fop .mul 4611686018427387904 (floatOfInt .f64 (fint 4619567317775286272)))])) (zs := zs) (v3 := _) (v4 := _) (v5 := _) (by repeat (first | exact HLb.out | apply Lo.alloc | apply Lo.drew | apply Lo.drewN)) h1 h2 h3 h4); clear h1 h2 h3 h4 HLb))
          go_roundg kq0
          case measure => omega
          case rel => exact ⟨i + 1, by go_num, ⟨by omega, by have := HX.out; omega⟩, ⟨by rw [HT1.out, HT2.out, HT3.out]; exact HLc.out⟩⟩
        · have o1 := e2
          have o2 := e3
          have hs := mul2 (n := 7) (by decide)
          have hs2 := add1 (n := 7) (by decide)
          have o4 : (FloatKind.f64.format.order 4619567317775286272 4619567317775286272 == some .eq) = true := by decide +kernel
          have i7 : fint 4619567317775286272 = 7 := by decide +kernel
          have o5 : fintOk 4619567317775286272 = true := by decide +kernel
          have hf1 : fx v = floatOfInt .f64 (fint 4619567317775286272) := by unfold fx; rw [e1, i7]
          have hf2 : f2 v = fop .mul 4611686018427387904 (floatOfInt .f64 (fint 4619567317775286272)) := by unfold f2; rw [e1, i7]
          have hf3 : f3 v = fop .add (floatOfInt .f64 (fint 4619567317775286272)) 4607182418800017408 := by unfold f3; rw [e1, i7]
          have o6 : fvalid .mul 4611686018427387904 (floatOfInt .f64 (fint 4619567317775286272)) = true := by rw [i7]; exact hs.1
          have o7 : fvalid .add (floatOfInt .f64 (fint 4619567317775286272)) 4607182418800017408 = true := by rw [i7]; exact hs2.1
          rw [hf1] at HT1
          rw [hf2] at HT2
          rw [hf3] at HT3
          have hu3 := Tryd.underlying3
          have hu27 := Tryd.underlying27
          clear hf1 hf2 hf3 e1 hs hs2 i7
          go_wp2_with (first
            | ((with_reducible refine gate_builtin (b := .append) (xs := #[.tmp 35, .tmp 37]) rfl ?_); at_builtin; (try rw [al_dr]); refine Kd.R_append Kd.float (w0 := w) w.heap.size rfl (.tmp 35) (.tmp 37) 22 27 (.float .f64 0) 8 rfl Tryd.underlying22 info27 rfl (by decide) (by omega) _ xs (floatOfInt .f64 (fint 4619567317775286272)) [.float .f64 (floatOfInt .f64 (fint 4619567317775286272))] (fun _ => True) (fun _ => False) rfl rfl ?aP (fun _ hk => hk.elim) (fun _ _ => trivial) ?aO ?aB ?aS (by omega) ?_; (case aP => exact rfl); (case aO => exact Lo.qa (xs := xs) (ys := ys) (zs := zs) (v3 := _) (v4 := _) (v5 := _) (by repeat (first | exact HL.out | apply Lo.alloc | apply Lo.drew | apply Lo.drewN))); (case aB => exact Lo.qB (xs := xs) (ys := ys) (zs := zs) (v3 := _) (v4 := _) (v5 := _) (by repeat (first | exact HL.out | apply Lo.alloc | apply Lo.drew | apply Lo.drewN))); (case aS => exact below_size (Lo.qB (xs := xs) (ys := ys) (zs := zs) (v3 := _) (v4 := _) (v5 := _) (by repeat (first | exact HL.out | apply Lo.alloc | apply Lo.drew | apply Lo.drewN)))); intro q3 wa h1 h2 h3 h4; have HLa := Aside0.mk (Lo.pushA (xs := xs) (ys := ys) (zs := zs) (v3 := _) (v4 := _) (v5 := _) (by repeat (first | exact HL.out | apply Lo.alloc | apply Lo.drew | apply Lo.drewN)) h1 h2 h3 h4); clear h1 h2 h3 h4 HL)
            | ((with_reducible refine gate_builtin (b := .append) (xs := #[.tmp 39, .tmp 42]) rfl ?_); at_builtin; (try rw [al_dr]); refine Kd.R_append floatS (w0 := w) w.heap.size rfl (.tmp 39) (.tmp 42) 22 27 (.float .f64 0) 8 rfl Tryd.underlying22 info27 rfl (by decide) (by omega) _ ys (fop .mul 4611686018427387904 (floatOfInt .f64 (fint 4619567317775286272))) _ (fun _ => True) (fun _ => False) rfl rfl ?aP (fun _ hk => hk.elim) (fun _ _ => trivial) ?aO ?aB ?aS (by omega) ?_; (case aP => exact ⟨_, rfl, .inl rfl⟩); (case aO => exact Lo.qb (xs := (xs ++ [(floatOfInt .f64 (fint 4619567317775286272))])) (ys := ys) (zs := zs) (v3 := _) (v4 := _) (v5 := _) (by repeat (first | exact HLa.out | apply Lo.alloc | apply Lo.drew | apply Lo.drewN))); (case aB => exact Lo.qB (xs := (xs ++ [(floatOfInt .f64 (fint 4619567317775286272))])) (ys := ys) (zs := zs) (v3 := _) (v4 := _) (v5 := _) (by repeat (first | exact HLa.out | apply Lo.alloc | apply Lo.drew | apply Lo.drewN))); (case aS => exact below_size (Lo.qB (xs := (xs ++ [(floatOfInt .f64 (fint 4619567317775286272))])) (ys := ys) (zs := zs) (v3 := _) (v4 := _) (v5 := _) (by repeat (first | exact HLa.out | apply Lo.alloc | apply Lo.drew | apply Lo.drewN)))); intro q4 wb h1 h2 h3 h4; have HLb := Aside0.mk (Lo.pushB (xs := (xs ++ [(floatOfInt .f64 (fint 4619567317775286272))])) (ys := ys) (zs := zs) (v3 := _) (v4 := _) (v5 := _) (by repeat (first | exact HLa.out | apply Lo.alloc | apply Lo.drew | apply Lo.drewN)) h1 h2 h3 h4); clear h1 h2 h3 h4 HLa)
            | ((with_reducible refine gate_builtin (b := .append) (xs := #[.tmp 44, .tmp 47]) rfl ?_); at_builtin; (try rw [al_dr]); refine Kd.R_append floatS (w0 := w) w.heap.size rfl (.tmp 44) (.tmp 47) 22 27 (.float .f64 0) 8 rfl Tryd.underlying22 info27 rfl (by decide) (by omega) _ zs (fop .add (floatOfInt .f64 (fint 4619567317775286272)) 4607182418800017408) _ (fun _ => True) (fun _ => False) rfl rfl ?aP (fun _ hk => hk.elim) (fun _ _ => trivial) ?aO ?aB ?aS (by omega) ?_; (case aP => exact ⟨_, rfl, .inl rfl⟩); (case aO => exact Lo.qc (xs := (xs ++ [(floatOfInt .f64 (fint 4619567317775286272))])) (ys := (ys ++ [(fop .mul 4611686018427387904 (floatOfInt .f64 (fint 4619567317775286272)))])) (zs := zs) (v3 := _) (v4 := _) (v5 := _) (by repeat (first | exact HLb.out | apply Lo.alloc | apply Lo.drew | apply Lo.drewN))); (case aB => exact Lo.qB (xs := (xs ++ [(floatOfInt .f64 (fint 4619567317775286272))])) (ys := (ys ++ [(fop .mul 4611686018427387904 (floatOfInt .f64 (fint 4619567317775286272)))])) (zs := zs) (v3 := _) (v4 := _) (v5 := _) (by repeat (first | exact HLb.out | apply Lo.alloc | apply Lo.drew | apply Lo.drewN))); (case aS => exact below_size (Lo.qB (xs := (xs ++ [(floatOfInt .f64 (fint 4619567317775286272))])) (ys := (ys ++ [(fop .mul 4611686018427387904 (floatOfInt .f64 (fint 4619567317775286272)))])) (zs := zs) (v3 := _) (v4 := _) (v5 := _) (by repeat (first | exact HLb.out | apply Lo.alloc | apply Lo.drew | apply Lo.drewN)))); intro q5 wc h1 h2 h3 h4; have HLc := Aside0.mk (Lo.pushC (xs := (xs ++ [(floatOfInt .f64 (fint 4619567317775286272))])) (ys := (ys ++ [(fop .mul 4611686018427387904 (floatOfInt .f64 (fint 4619567317775286272)))])) (zs := zs) (v3 := _) (v4 := _) (v5 := _) (by repeat (first | exact HLb.out | apply Lo.alloc | apply Lo.drew | apply Lo.drewN)) h1 h2 h3 h4); clear h1 h2 h3 h4 HLb))
          go_roundg kq0
          case measure => omega
          case rel => exact ⟨i + 1, by go_num, ⟨by omega, by have := HX.out; omega⟩, ⟨by rw [HT1.out, HT2.out, HT3.out]; exact HLc.out⟩⟩
        · have hs := mul2 (n := n) (nof_small e1)
          have hs2 := add1 (n := n) (nof_small e1)
          have hf1 : fx v = floatOfInt .f64 (fint v) := by unfold fx; rw [e1, e6]
          have hf2 : f2 v = fop .mul 4611686018427387904 (floatOfInt .f64 (fint v)) := by unfold f2; rw [e1, e6]
          have hf3 : f3 v = fop .add (floatOfInt .f64 (fint v)) 4607182418800017408 := by unfold f3; rw [e1, e6]
          have o6 : fvalid .mul 4611686018427387904 (floatOfInt .f64 (fint v)) = true := by rw [e6]; exact hs.1
          have o7 : fvalid .add (floatOfInt .f64 (fint v)) 4607182418800017408 = true := by rw [e6]; exact hs2.1
          rw [hf1] at HT1
          rw [hf2] at HT2
          rw [hf3] at HT3
          have hu3 := Tryd.underlying3
          have hu27 := Tryd.underlying27
          clear hf1 hf2 hf3 e1 hs hs2 e6
          go_wp2_with (first
            | ((with_reducible refine gate_builtin (b := .append) (xs := #[.tmp 35, .tmp 37]) rfl ?_); at_builtin; (try rw [al_dr]); refine Kd.R_append Kd.float (w0 := w) w.heap.size rfl (.tmp 35) (.tmp 37) 22 27 (.float .f64 0) 8 rfl Tryd.underlying22 info27 rfl (by decide) (by omega) _ xs (floatOfInt .f64 (fint v)) [.float .f64 (floatOfInt .f64 (fint v))] (fun _ => True) (fun _ => False) rfl rfl ?aP (fun _ hk => hk.elim) (fun _ _ => trivial) ?aO ?aB ?aS (by omega) ?_; (case aP => exact rfl); (case aO => exact Lo.qa (xs := xs) (ys := ys) (zs := zs) (v3 := _) (v4 := _) (v5 := _) (by repeat (first | exact HL.out | apply Lo.alloc | apply Lo.drew | apply Lo.drewN))); (case aB => exact Lo.qB (xs := xs) (ys := ys) (zs := zs) (v3 := _) (v4 := _) (v5 := _) (by repeat (first | exact HL.out | apply Lo.alloc | apply Lo.drew | apply Lo.drewN))); (case aS => exact below_size (Lo.qB (xs := xs) (ys := ys) (zs := zs) (v3 := _) (v4 := _) (v5 := _) (by repeat (first | exact HL.out | apply Lo.alloc | apply Lo.drew | apply Lo.drewN)))); intro q3 wa h1 h2 h3 h4; have HLa := Aside0.mk (Lo.pushA (xs := xs) (ys := ys) (zs := zs) (v3 := _) (v4 := _) (v5 := _) (by repeat (first | exact HL.out | apply Lo.alloc | apply Lo.drew | apply Lo.drewN)) h1 h2 h3 h4); clear h1 h2 h3 h4 HL)
            | ((with_reducible refine gate_builtin (b := .append) (xs := #[.tmp 39, .tmp 42]) rfl ?_); at_builtin; (try rw [al_dr]); refine Kd.R_append floatS (w0 := w) w.heap.size rfl (.tmp 39) (.tmp 42) 22 27 (.float .f64 0) 8 rfl Tryd.underlying22 info27 rfl (by decide) (by omega) _ ys (fop .mul 4611686018427387904 (floatOfInt .f64 (fint v))) _ (fun _ => True) (fun _ => False) rfl rfl ?aP (fun _ hk => hk.elim) (fun _ _ => trivial) ?aO ?aB ?aS (by omega) ?_; (case aP => exact ⟨_, rfl, .inl rfl⟩); (case aO => exact Lo.qb (xs := (xs ++ [(floatOfInt .f64 (fint v))])) (ys := ys) (zs := zs) (v3 := _) (v4 := _) (v5 := _) (by repeat (first | exact HLa.out | apply Lo.alloc | apply Lo.drew | apply Lo.drewN))); (case aB => exact Lo.qB (xs := (xs ++ [(floatOfInt .f64 (fint v))])) (ys := ys) (zs := zs) (v3 := _) (v4 := _) (v5 := _) (by repeat (first | exact HLa.out | apply Lo.alloc | apply Lo.drew | apply Lo.drewN))); (case aS => exact below_size (Lo.qB (xs := (xs ++ [(floatOfInt .f64 (fint v))])) (ys := ys) (zs := zs) (v3 := _) (v4 := _) (v5 := _) (by repeat (first | exact HLa.out | apply Lo.alloc | apply Lo.drew | apply Lo.drewN)))); intro q4 wb h1 h2 h3 h4; have HLb := Aside0.mk (Lo.pushB (xs := (xs ++ [(floatOfInt .f64 (fint v))])) (ys := ys) (zs := zs) (v3 := _) (v4 := _) (v5 := _) (by repeat (first | exact HLa.out | apply Lo.alloc | apply Lo.drew | apply Lo.drewN)) h1 h2 h3 h4); clear h1 h2 h3 h4 HLa)
            | ((with_reducible refine gate_builtin (b := .append) (xs := #[.tmp 44, .tmp 47]) rfl ?_); at_builtin; (try rw [al_dr]); refine Kd.R_append floatS (w0 := w) w.heap.size rfl (.tmp 44) (.tmp 47) 22 27 (.float .f64 0) 8 rfl Tryd.underlying22 info27 rfl (by decide) (by omega) _ zs (fop .add (floatOfInt .f64 (fint v)) 4607182418800017408) _ (fun _ => True) (fun _ => False) rfl rfl ?aP (fun _ hk => hk.elim) (fun _ _ => trivial) ?aO ?aB ?aS (by omega) ?_; (case aP => exact ⟨_, rfl, .inl rfl⟩); (case aO => exact Lo.qc (xs := (xs ++ [(floatOfInt .f64 (fint v))])) (ys := (ys ++ [(fop .mul 4611686018427387904 (floatOfInt .f64 (fint v)))])) (zs := zs) (v3 := _) (v4 := _) (v5 := _) (by repeat (first | exact HLb.out | apply Lo.alloc | apply Lo.drew | apply Lo.drewN))); (case aB => exact Lo.qB (xs := (xs ++ [(floatOfInt .f64 (fint v))])) (ys := (ys ++ [(fop .mul 4611686018427387904 (floatOfInt .f64 (fint v)))])) (zs := zs) (v3 := _) (v4 := _) (v5 := _) (by repeat (first | exact HLb.out | apply Lo.alloc | apply Lo.drew | apply Lo.drewN))); (case aS => exact below_size (Lo.qB (xs := (xs ++ [(floatOfInt .f64 (fint v))])) (ys := (ys ++ [(fop .mul 4611686018427387904 (floatOfInt .f64 (fint v)))])) (zs := zs) (v3 := _) (v4 := _) (v5 := _) (by repeat (first | exact HLb.out | apply Lo.alloc | apply Lo.drew | apply Lo.drewN)))); intro q5 wc h1 h2 h3 h4; have HLc := Aside0.mk (Lo.pushC (xs := (xs ++ [(floatOfInt .f64 (fint v))])) (ys := (ys ++ [(fop .mul 4611686018427387904 (floatOfInt .f64 (fint v)))])) (zs := zs) (v3 := _) (v4 := _) (v5 := _) (by repeat (first | exact HLb.out | apply Lo.alloc | apply Lo.drew | apply Lo.drewN)) h1 h2 h3 h4); clear h1 h2 h3 h4 HLb))
          go_roundg kq0
          case measure => omega
          case rel => exact ⟨i + 1, by go_num, ⟨by omega, by have := HX.out; omega⟩, ⟨by rw [HT1.out, HT2.out, HT3.out]; exact HLc.out⟩⟩
      · have hz : ¬ (i : Int) < (l0.length : Int) := by omega
        have hi : i = l0.length := by have := HX.out; omega
        subst hi
        have hL := HL.out
        rw [show (l0.map fx).take l0.length = l0.map fx from List.take_of_length_le (by simp), show (l0.map f2).take l0.length = l0.map f2 from List.take_of_length_le (by simp), show (l0.map f3).take l0.length = l0.map f3 from List.take_of_length_le (by simp)] at hL
        obtain ⟨A3, c3, rfl⟩ := Kd.R_slice hL.qa
        obtain ⟨A4, c4, rfl⟩ := Kd.R_slice hL.qb
        obtain ⟨A5, c5, rfl⟩ := Kd.R_slice hL.qc
        obtain ⟨ys, sy, cy⟩ := C_float (Kd.R_reads' hL.qb).2.2
        obtain ⟨zs, sz, cz⟩ := C_float (Kd.R_reads' hL.qc).2.2
        have ca := (Kd.R_reads' hL.qa).2.2
        have la3 := (Kd.R_reads' hL.qa).2.1
        have la4 := (Kd.R_reads' hL.qb).2.1
        have la5 := (Kd.R_reads' hL.qc).2.1
        have ry := rk_sm f2 kz_f2 sy
        have rz := rk_sm f3 kz_f3 sz
        have rr := rk_ref (l0.map fx)
        have rl := rk_len (l0.map fx)
        have hB := hL.qB
        rw [← sy.1] at cy la4 ⊢
        rw [← sz.1] at cz la5 ⊢
        have ly : ys.length ≤ 40 := by rw [sy.1, List.length_map]; exact h40
        have lz : zs.length ≤ 40 := by rw [sz.1, List.length_map]; exact h40
        have lx : (l0.map fx).length ≤ 40 := by rw [List.length_map]; exact h40
        generalize l0.map fx = xs at ca la3 rr rl lx ry rz ⊢
        generalize hr : rk xs = r at ry rz rr rl
        have fa : RankF.rate_Rank.f xs = some r := by unfold RankF.rate_Rank.f; rw [if_pos lx, ← hr]; rfl
        have fb : RankF.rate_Rank.f ys = some r := by unfold RankF.rate_Rank.f; rw [if_pos ly, ← ry]; rfl
        have fc : RankF.rate_Rank.f zs = some r := by unfold RankF.rate_Rank.f; rw [if_pos lz, ← rz]; rfl
        have FI := Aside0.mk (ints_f r (by omega))
        have CA : Aside0 (∀ W, Below wr.heap.size wr W → Calls Tryd.prog 16 #[.slice A3 xs.length c3] W fun e w' => ∃ v0_ : Value, e = .returned (v0_) ∧ Kd.R (Kd.int .i64) 3 w' W.heap.size (fun _ => True) v0_ r ∧ Below W.heap.size W w') := ⟨fun W hb => RankF.rate_Rank.calls A3 c3 xs r W (Kd.C_below ca hb) la3 fa⟩
        have CB : Aside0 (∀ W, Below wr.heap.size wr W → Calls Tryd.prog 16 #[.slice A4 ys.length c4] W fun e w' => ∃ v0_ : Value, e = .returned (v0_) ∧ Kd.R (Kd.int .i64) 3 w' W.heap.size (fun _ => True) v0_ r ∧ Below W.heap.size W w') := ⟨fun W hb => RankF.rate_Rank.calls A4 c4 ys r W (Kd.C_below cy hb) la4 fb⟩
        have CC : Aside0 (∀ W, Below wr.heap.size wr W → Calls Tryd.prog 16 #[.slice A5 zs.length c5] W fun e w' => ∃ v0_ : Value, e = .returned (v0_) ∧ Kd.R (Kd.int .i64) 3 w' W.heap.size (fun _ => True) v0_ r ∧ Below W.heap.size W w') := ⟨fun W hb => RankF.rate_Rank.calls A5 c5 zs r W (Kd.C_below cz hb) la5 fc⟩
        have CD : Aside0 (∀ W, Below wr.heap.size wr W → Calls Tryd.prog 18 #[.slice A3 xs.length c3] W fun e w' => ∃ v0_ : Value, e = .returned (v0_) ∧ Kd.R (Kd.int .i64) 3 w' W.heap.size (fun _ => True) v0_ r ∧ Below W.heap.size W w') := ⟨fun W hb => by rw [← rr]; exact stevedoreref35_Rank.calls0 A3 c3 xs W (Kd.C_below ca hb) la3 lx⟩
        have HB0 := Aside0.mk hB
        have HBB := Aside0.mk (Below.refl wr.heap.size wr)
        clear rl ry rz rr fa fb fc ca cy cz la3 la4 la5 sy sz hL hB HL hr
        generalize ys.length = ny at CB ly ⊢
        generalize zs.length = nz at CC lz ⊢
        generalize xs.length = nx at CA CD lx ⊢
        go_wp2_with (first
          | (go_at_call 16; (with_reducible refine (CA.out _ HBB.out).mono ?_); rintro e w2 ⟨v8, rfl, ho, hb⟩; obtain ⟨A8, c8, rfl⟩ := Kd.R_slice ho; have HC8 := Aside0.mk (Kd.R_reads' ho).2.2; have HL8 := Aside0.mk (Kd.R_reads' ho).2.1; have H2 := Aside0.mk hb; clear ho hb)
          | (go_at_call 15; (with_reducible refine (stevedorelaw36_told.calls true _ rfl ((HV.out.below HB0.out).below H2.out)).mono ?_); rintro e w3 ⟨rfl, hb⟩; have H3 := Aside0.mk (below_then H2.out H2.out.size hb); have HC8b := Aside0.mk (Kd.C_below HC8.out hb); clear hb H2 HC8)
          | (go_at_call 16; (with_reducible refine (CB.out _ H3.out).mono ?_); rintro e w4 ⟨v4_, rfl, ho, hb⟩; obtain ⟨A9, c9, rfl⟩ := Kd.R_slice ho; have HC9 := Aside0.mk (Kd.R_reads' ho).2.2; have HL9 := Aside0.mk (Kd.R_reads' ho).2.1; have H4 := Aside0.mk (below_then H3.out H3.out.size hb); have HC8c := Aside0.mk (Kd.C_below HC8b.out hb); clear ho hb H3 HC8b)
          | (go_at_call 17; (with_reducible refine (stevedorelaw36_ints.calls _ A8 c8 r A9 c9 r true _ HC8c.out HL8.out HC9.out HL9.out FI.out).mono ?_); rintro e w5 ⟨rfl, ⟨nd5, rfl⟩⟩; have H5 := Aside0.mk (pw_below_drewN H4.out nd5); have HC8d := Aside0.mk (Kd.C_drewN HC8c.out nd5); clear H4 HC8c)
          | (go_at_call 16; (with_reducible refine (CC.out _ H5.out).mono ?_); rintro e w6 ⟨v6_, rfl, ho, hb⟩; obtain ⟨A10, c10, rfl⟩ := Kd.R_slice ho; have HC10 := Aside0.mk (Kd.R_reads' ho).2.2; have HL10 := Aside0.mk (Kd.R_reads' ho).2.1; have H6 := Aside0.mk (below_then H5.out H5.out.size hb); have HC8e := Aside0.mk (Kd.C_below HC8d.out hb); clear ho hb H5 HC8d)
          | (go_at_call 17; (with_reducible refine (stevedorelaw36_ints.calls _ A8 c8 r A10 c10 r true _ HC8e.out HL8.out HC10.out HL10.out FI.out).mono ?_); rintro e w7 ⟨rfl, ⟨nd7, rfl⟩⟩; have H7 := Aside0.mk (pw_below_drewN H6.out nd7); have HC8f := Aside0.mk (Kd.C_drewN HC8e.out nd7); clear H6 HC8e)
          | (go_at_call 18; (with_reducible refine (CD.out _ H7.out).mono ?_); rintro e w8 ⟨v8_, rfl, ho, hb⟩; obtain ⟨A11, c11, rfl⟩ := Kd.R_slice ho; have HC11 := Aside0.mk (Kd.R_reads' ho).2.2; have HL11 := Aside0.mk (Kd.R_reads' ho).2.1; have H8 := Aside0.mk (below_then H7.out H7.out.size hb); have HC8g := Aside0.mk (Kd.C_below HC8f.out hb); clear ho hb H7 HC8f)
          | (go_at_call 17; (with_reducible refine (stevedorelaw36_ints.calls _ A8 c8 r A11 c11 r true _ HC8g.out HL8.out HC11.out HL11.out FI.out).mono ?_); rintro e w9 ⟨rfl, ⟨nd9, rfl⟩⟩; have H9 := Aside0.mk (pw_below_drewN H8.out nd9); clear H8))
        go_ret
        exact ⟨rfl, below_then HB0.out HB0.out.size H9.out⟩
  · exact great A0 c0 l0 w h40 hv
end Go.Proofs.YtfmfikodnpnblaaDoor.WalkRateMoves
