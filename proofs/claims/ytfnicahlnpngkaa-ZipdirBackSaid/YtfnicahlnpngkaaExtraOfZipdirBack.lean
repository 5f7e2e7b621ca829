/- extra.Read, walked by hand: what it comes to, and the walk (it recovers its own panic). ZipdirBack: the printed namespace. -/
import Derived.Test.YtfnicahlnpngkaaPZipdirBackx0
import Derived.Test.YtfnicahlnpngkaaExtraNum
set_option linter.unusedVariables false
set_option linter.unusedSimpArgs false
namespace Go.Proofs.Ytfnicahlnpngkaa.ExtraOfZipdirBack
open Go.RowKit Go.Proofs.YtfnicahlnpngkaaW.PrintWords Go.Proofs.YtfnicahlnpngkaaW.PrintLast Go.Proofs.YtfnicahlnpngkaaW.PrintMore Go.Proofs.Ytfnicahlnpngkaa.Base Go.Proofs.Ytfnicahlnpngkaa.NumRead Go.Proofs.Ytfnicahlnpngkaa.ExtraNum Go.Proofs.Ytfnicahlnpngkaa.PZipdirBack

def rdLoop (s : ByteArray) : Nat → Int → List S38 → Option (List S38 × Int)
  | 0, _, _ => none
  | k + 1, at_, out =>
    if at_ < (s.size : Int) then
      match exNum (bytesOf s) at_ 2 with
      | none => some ([], 2)
      | some id => match exNum (bytesOf s) (at_ + 2) 2 with
        | none => some ([], 2)
        | some n => if n > (s.size : Int) - (at_ + 4) then some ([], 2) else rdLoop s k (at_ + 4 + n) (out ++ [⟨id, s.extract (at_ + 4).toNat (at_ + 4 + n).toNat⟩])
    else some (out, 0)
def extra_Read.f (a0 : ByteArray) : Option (List S38 × Int) := if a0.size ≤ 1048576 then rdLoop a0 (a0.size + 1) 0 [] else none

theorem inf38 : (Try.prog.info? 38).map (fun i => (i.zero, i.size, i.bytes)) = some (some (.agg #[.int .i64 0, .string ⟨#[]⟩]), 2, 24) := by kernel_rfl
/-- what holds of memory at a round's head: the two results' variables, the bytes, the fields so far. -/
def Inv (w : World) (s : ByteArray) (ob : Obj) (wr : World) (v : Value) (out : List S38) : Prop :=
  wr.heap[w.heap.size]? = some (.cells #[v] 33 (0, 0)) ∧ wr.heap[w.heap.size + 1]? = some (.cells #[.int .i64 0] 23 (0, 0)) ∧ wr.heap[w.heap.size + 1 + 1]? = some ob ∧
    Kd.R k38 38 wr (w.heap.size + 3) (fun _ => True) v out ∧ Below w.heap.size w wr ∧ w.heap.size + 3 ≤ wr.heap.size

theorem Inv.below {w : World} {s : ByteArray} {ob : Obj} {wr w1 : World} {v : Value} {out : List S38} (h : Inv w s ob wr v out) (hb : Below wr.heap.size wr w1) : Inv w s ob w1 v out := by
  obtain ⟨h1, h2, h3, h4, h5, h6⟩ := h
  exact ⟨blk_below h1 hb, blk_below h2 hb, blk_below h3 hb, Kd.R_below h4 hb, below_then h5 h5.size hb, Nat.le_trans h6 hb.size⟩

theorem exNum_range {l : List Int} {a k v : Int} (h : exNum l a k = some v) : 0 ≤ v ∧ v ≤ 4611686018427387904 := by
  unfold exNum at h
  split at h
  · rename_i hh
    injection h with h
    have := rdNum_range l a k (fun i => k - 1 - i)
    omega
  · cases h

theorem Inv.push {w : World} {s : ByteArray} {ob : Obj} {wr w1 : World} {v v1 : Value} {out out1 : List S38} (h : Inv w s ob wr v out) (hR : Kd.R k38 38 w1 (w.heap.size + 3) (fun _ => True) v1 out1) (hb : Below (w.heap.size + 3) wr w1) :
    Inv w s ob (w1.setCell ⟨w.heap.size, 0, none⟩ v1) v1 out1 := by
  obtain ⟨h1, h2, h3, h4, h5, h6⟩ := h
  have e1 : w1.heap[w.heap.size]? = some (.cells #[v] 33 (0, 0)) := (hb.block _ (by omega)).trans h1
  refine ⟨by simpa using blk_set e1 0 v1, ?_, ?_, ?_, ?_, ?_⟩
  · rw [Below.heap_setCell _ _ _ _ (by simp)]; exact (hb.block _ (by omega)).trans h2
  · rw [Below.heap_setCell _ _ _ _ (by show w.heap.size + 1 + 1 ≠ w.heap.size; omega)]; exact (hb.block _ (by omega)).trans h3
  · have := Kd.R_far (Kd.R_bound hR) (p := ⟨w.heap.size, 0, none⟩) (fun k hk => by show k ≠ w.heap.size; have := hk.2.1; omega) v1
    exact Kd.R_mono this (fun _ _ => trivial)
  · refine Below.setCell ?_ (by simp) _
    exact h5.trans ⟨hb.os, hb.tape, hb.output, hb.size, fun k hk => hb.block k (by omega)⟩
  · have := hb.size; simp [World.setCell]; omega

theorem Inv.same {w : World} {s : ByteArray} {ob : Obj} {wr : World} {v : Value} {out : List S38} (h : Inv w s ob wr v out) :
    Inv w s ob ((wr.setCell ⟨w.heap.size, 0, none⟩ v).setCell ⟨w.heap.size + 1, 0, none⟩ (.int .i64 0)) v out := by
  obtain ⟨h1, h2, h3, h4, h5, h6⟩ := h
  refine ⟨?_, ?_, ?_, ?_, ?_, ?_⟩
  · rw [Below.heap_setCell _ _ _ _ (by simp)]; simpa using blk_set h1 0 v
  · have : (wr.setCell ⟨w.heap.size, 0, none⟩ v).heap[w.heap.size + 1]? = some (.cells #[.int .i64 0] 23 (0, 0)) := by rw [Below.heap_setCell _ _ _ _ (by simp)]; exact h2
    simpa using blk_set this 0 (.int .i64 0)
  · rw [Below.heap_setCell _ _ _ _ (by show w.heap.size + 1 + 1 ≠ w.heap.size + 1; omega), Below.heap_setCell _ _ _ _ (by show w.heap.size + 1 + 1 ≠ w.heap.size; omega)]; exact h3
  · have a1 := Kd.R_far (Kd.R_bound h4) (p := ⟨w.heap.size, 0, none⟩) (fun k hk => by show k ≠ w.heap.size; have := hk.2.1; omega) v
    have a2 := Kd.R_far (Kd.R_bound a1) (p := ⟨w.heap.size + 1, 0, none⟩) (fun k hk => by show k ≠ w.heap.size + 1; have := hk.2.1; omega) (.int .i64 0)
    exact Kd.R_mono a2 (fun _ _ => trivial)
  · exact (h5.setCell (by simp) _).setCell (by simp) _
  · simp [World.setCell]; omega

/-- behind a panic: the closure recovers, what is read of the results' variables. -/
theorem door_panic (w w1 : World) (v : Value) (tmps : Array Value) (Q : Ending → World → Prop) (h2 : tmps[2]? = some (.pointer (some ⟨w.heap.size, 0, none⟩))) (h3 : tmps[3]? = some (.pointer (some ⟨w.heap.size + 1, 0, none⟩)))
    (z0 : w1.heap[w.heap.size]? = some (.cells #[v] 33 (0, 0))) (z1 : w1.heap[w.heap.size + 1]? = some (.cells #[.int .i64 0] 23 (0, 0)))
    (hQ : ∀ w', Below w.heap.size w1 w' → Q (.returned (.tuple #[.slice none 0 0, .int .i64 2])) w') :
    bodyPostD Try.prog Try.f24 Q (Exit.panic [{ v := fault 2, recovered := false }])
      { tmps := tmps, defers := [{ target := .fn (.func 58) #[.pointer (some ⟨w.heap.size, 0, none⟩), .pointer (some ⟨w.heap.size + 1, 0, none⟩)], args := #[] }] } w1 := by
  have c0 : w1.cell? ⟨w.heap.size, 0, none⟩ = some v := (blk_cell z0 0).trans rfl
  have c1 : w1.cell? ⟨w.heap.size + 1, 0, none⟩ = some (.int .i64 0) := (blk_cell z1 0).trans rfl
  have l1 := blk_lt z1
  refine leaves_cons (f := 58) (args := #[.pointer (some ⟨w.heap.size, 0, none⟩), .pointer (some ⟨w.heap.size + 1, 0, none⟩)]) (by simp) (by simp [go_sem]) ?_
  refine (catch_panicking_Read ⟨w.heap.size, 0, none⟩ ⟨w.heap.size + 1, 0, none⟩ 2 [] _ (x := v) (y := .int .i64 0) c0 c1 (blk_frozen z0 0) (blk_frozen z1 0) (by simp)).mono ?_
  rintro e u' w'' ⟨rfl, rfl, rfl⟩
  have d0 : ((((w1.alloc (.cells #[.int .i64 2, .int .i64 0] 92)).setCell ⟨w.heap.size, 0, none⟩ (.slice none 0 0)).setCell ⟨w.heap.size + 1, 0, none⟩ (.int .i64 2)).drew).cell? ⟨w.heap.size, 0, none⟩ = some (.slice none 0 0) := by
    show (((w1.alloc (.cells #[.int .i64 2, .int .i64 0] 92)).setCell ⟨w.heap.size, 0, none⟩ (.slice none 0 0)).setCell ⟨w.heap.size + 1, 0, none⟩ (.int .i64 2)).cell? ⟨w.heap.size, 0, none⟩ = _
    rw [World.cell?_setCell_other _ _ _ _ (by simp), World.cell?_setCell_same _ _ _ ((World.cell?_alloc_lt _ _ _ (by show w.heap.size < w1.heap.size; omega)).trans c0)]
  have d1 : ((((w1.alloc (.cells #[.int .i64 2, .int .i64 0] 92)).setCell ⟨w.heap.size, 0, none⟩ (.slice none 0 0)).setCell ⟨w.heap.size + 1, 0, none⟩ (.int .i64 2)).drew).cell? ⟨w.heap.size + 1, 0, none⟩ = some (.int .i64 2) := by
    show (((w1.alloc (.cells #[.int .i64 2, .int .i64 0] 92)).setCell ⟨w.heap.size, 0, none⟩ (.slice none 0 0)).setCell ⟨w.heap.size + 1, 0, none⟩ (.int .i64 2)).cell? ⟨w.heap.size + 1, 0, none⟩ = _
    rw [World.cell?_setCell_same _ _ _ ((World.cell?_setCell_other _ _ _ _ (by simp)).trans ((World.cell?_alloc_lt _ _ _ (by show w.heap.size + 1 < w1.heap.size; omega)).trans c1))]
  have hB : Below w.heap.size w1 ((((w1.alloc (.cells #[.int .i64 2, .int .i64 0] 92)).setCell ⟨w.heap.size, 0, none⟩ (.slice none 0 0)).setCell ⟨w.heap.size + 1, 0, none⟩ (.int .i64 2)).drew) :=
    below_drew ((((Below.refl _ _).alloc (by omega) _).setCell (by simp) _).setCell (by simp) _)
  have hq := hQ _ hB
  generalize ((((w1.alloc (.cells #[.int .i64 2, .int .i64 0] 92)).setCell ⟨w.heap.size, 0, none⟩ (.slice none 0 0)).setCell ⟨w.heap.size + 1, 0, none⟩ (.int .i64 2)).drew) = w2 at d0 d1 hq ⊢
  simp [Leaves, settle, results, Try.results24, go_sem, h2, h3, d0, d1]
  exact hq

/-- behind a plain return. -/
theorem door_ok (w w1 : World) (v : Value) (tmps : Array Value) (Q : Ending → World → Prop) (h2 : tmps[2]? = some (.pointer (some ⟨w.heap.size, 0, none⟩))) (h3 : tmps[3]? = some (.pointer (some ⟨w.heap.size + 1, 0, none⟩)))
    (z0 : w1.heap[w.heap.size]? = some (.cells #[v] 33 (0, 0))) (z1 : w1.heap[w.heap.size + 1]? = some (.cells #[.int .i64 0] 23 (0, 0)))
    (hQ : ∀ o : Obj, Q (.returned (.tuple #[v, .int .i64 0])) (w1.alloc o)) :
    bodyPostD Try.prog Try.f24 Q Exit.ret
      { tmps := tmps, defers := [{ target := .fn (.func 58) #[.pointer (some ⟨w.heap.size, 0, none⟩), .pointer (some ⟨w.heap.size + 1, 0, none⟩)], args := #[] }] } w1 := by
  have c0 : w1.cell? ⟨w.heap.size, 0, none⟩ = some v := (blk_cell z0 0).trans rfl
  have c1 : w1.cell? ⟨w.heap.size + 1, 0, none⟩ = some (.int .i64 0) := (blk_cell z1 0).trans rfl
  have l1 := blk_lt z1
  refine leaves_cons (f := 58) (args := #[.pointer (some ⟨w.heap.size, 0, none⟩), .pointer (some ⟨w.heap.size + 1, 0, none⟩)]) (by simp) (by simp [go_sem]) ?_
  refine (catch_idle_Read ⟨w.heap.size, 0, none⟩ ⟨w.heap.size + 1, 0, none⟩ _).mono ?_
  rintro e u' w'' ⟨rfl, rfl, rfl⟩
  have d0 := (World.cell?_alloc_lt w1 (.cells #[.int .i64 0, .int .i64 0] 92) ⟨w.heap.size, 0, none⟩ (by show w.heap.size < w1.heap.size; omega)).trans c0
  have d1 := (World.cell?_alloc_lt w1 (.cells #[.int .i64 0, .int .i64 0] 92) ⟨w.heap.size + 1, 0, none⟩ (by show w.heap.size + 1 < w1.heap.size; omega)).trans c1
  have hq := hQ (.cells #[.int .i64 0, .int .i64 0] 92)
  generalize w1.alloc (.cells #[.int .i64 0, .int .i64 0] 92) = w2 at d0 d1 hq ⊢
  simp [Leaves, settle, results, Try.results24, go_sem, h2, h3, d0, d1]
  exact hq

set_option maxHeartbeats 8000000 in
set_option maxRecDepth 100000 in
theorem extra_Read.calls (a0 : ByteArray) (r1 : List S38) (r2 : Int) (w : World) (h : extra_Read.f a0 = some (r1, r2)) :
    Calls Try.prog 24 #[.string a0] w fun e w' => ∃ v0_ : Value, e = .returned (.tuple #[v0_, .int .i64 r2]) ∧ Kd.R k38 38 w' w.heap.size (fun _ => True) v0_ r1 ∧ Below w.heap.size w w' := by
  have hmf : ∀ (fn : Fn) (first cap : Array Value) (w : World), (Instr.makeFunc fn first cap).run Try.prog w = .ok (.func fn first cap) w := fun _ _ _ _ => rfl
  have kb := run_bytes a0
  unfold extra_Read.f at h
  by_cases hs : a0.size ≤ 1048576
  · rw [if_pos hs] at h
    have HF := Aside0.mk h
    clear h
    go_enter_defers Try.func24, Try.ntmps24
    go_wp2
    obtain ⟨g0, g1, hsz0, hB⟩ := two_new w (.cells #[.slice none 0 0] 33) (.cells #[.int .i64 0] 23)
    generalize (w.alloc (.cells #[.slice none 0 0] 33)).alloc (.cells #[.int .i64 0] 23) = W0 at g0 g1 hsz0 hB ⊢
    obtain ⟨ob, hob, hIB⟩ := bytes_block W0 a0 (by omega)
    have hcap := cap_bytes W0 a0
    have hI0 : Inv w a0 ob (Lib.bytesWorld W0 5 a0) (.slice none 0 0) [] :=
      ⟨(Lib.bytesWorld_at_old _ _ _ _ (by omega)).trans g0, (Lib.bytesWorld_at_old _ _ _ _ (by omega)).trans g1, by rw [show w.heap.size + 1 + 1 = W0.heap.size by omega]; exact hob, Kd.R_nil _ _ _ _ _, bytes_below hB (by omega) _ _, by rw [Lib.bytesWorld_size]; omega⟩
    generalize grownCap W0 a0.size 0 5 = cp at hcap ⊢
    generalize Lib.bytesWorld W0 5 a0 = W1 at hI0 ⊢
    clear g0 g1 hsz0 hB hob kb W0
    have HI0 := Aside0.mk hI0
    have HIB := Aside0.mk hIB
    clear hI0 hIB
    go_loopg [5] (a0.size + 1) (fun kq v5 wr => ∃ (at_ : Int) (v : Value) (out : List S38), v5 = .int .i64 at_ ∧ Aside0 (rdLoop a0 kq at_ out = some (r1, r2)) ∧ Aside0 (0 ≤ at_ ∧ at_ ≤ (a0.size : Int)) ∧ Aside0 (out.length ≤ 1048576 ∧ 4 * (out.length : Int) ≤ at_) ∧ Aside0 (Inv w a0 ob wr v out))
    case atStart => exact ⟨0, _, [], rfl, HF, ⟨by omega, by omega⟩, ⟨by simp, by simp⟩, HI0⟩
    case round =>
      clear HF HI0
      obtain ⟨at_, v, out, rfl, HA, HR, HN, HI⟩ := hrel
      cases gk with
      | zero => exact absurd HA.out (by simp [rdLoop])
      | succ k1 =>
        have hr := HR.out
        have HLEN := HN
        have HC := Aside0.mk (HIB.out wr _ HI.out.2.2.1)
        have hl : a0.size = (bytesOf a0).length := (bytesOf_length a0).symm
        have HL := Aside0.mk hl
        clear hl
        by_cases hlt : at_ < (a0.size : Int)
        · cases hx : exNum (bytesOf a0) at_ 2 with
          | none =>
            have HX := Aside0.mk hx
            have hH : rdLoop a0 (k1 + 1) at_ out = some ([], 2) := by rw [rdLoop, if_pos hlt, hx]
            rw [hH] at HA
            obtain ⟨rfl, rfl⟩ := Prod.mk.inj (Option.some.inj HA.out)
            clear hx hH HA
            go_wp2_with (go_at_call 57; refine (number_no _ _ _ _ _ _ _ HC.out HL.out hcap (by omega) HX.out).mono ?_; rintro e w1 ⟨rfl, hb⟩)
            have HI1 := Aside0.mk (HI.out.below hb)
            exact door_panic w w1 v _ _ rfl rfl HI1.out.1 HI1.out.2.1 (fun w' hb' => ⟨_, rfl, Kd.R_nil _ _ _ _ _, HI1.out.2.2.2.2.1.trans hb'⟩)
          | some id =>
            have HX := Aside0.mk hx
            have hid := exNum_range hx
            have hw2 : wrap64 (at_ + 2) = at_ + 2 := wrap64_id (by omega) (by omega)
            cases hy : exNum (bytesOf a0) (at_ + 2) 2 with
            | none =>
              have HY := Aside0.mk hy
              have hH : rdLoop a0 (k1 + 1) at_ out = some ([], 2) := by rw [rdLoop, if_pos hlt, hx]; simp only [hy]
              rw [hH] at HA
              obtain ⟨rfl, rfl⟩ := Prod.mk.inj (Option.some.inj HA.out)
              clear hx hy hH HA hw2
              go_wp2_with (first | (go_at_call 57; refine (number_yes _ _ _ _ _ _ _ _ HC.out HL.out hcap (by omega) HX.out).mono ?_; rintro e w1 ⟨rfl, hb⟩; have HI0 := Aside0.mk (HI.out.below hb); clear HC; have HC1 := Aside0.mk (HIB.out w1 _ HI0.out.2.2.1)) | (go_at_call 57; refine (number_no _ _ _ _ _ _ _ HC1.out HL.out hcap (by omega) HY.out).mono ?_; rintro e w2 ⟨rfl, hb2⟩; have HI1 := Aside0.mk (HI0.out.below hb2)))
              exact door_panic w w2 v _ _ rfl rfl HI1.out.1 HI1.out.2.1 (fun w' hb' => ⟨_, rfl, Kd.R_nil _ _ _ _ _, HI1.out.2.2.2.2.1.trans hb'⟩)
            | some n =>
              have HY := Aside0.mk hy
              have hn := exNum_range hy
              have h0 : 0 ≤ at_ := hr.1
              by_cases hgt : n > (a0.size : Int) - (at_ + 4)
              · have hH : rdLoop a0 (k1 + 1) at_ out = some ([], 2) := by rw [rdLoop, if_pos hlt, hx]; simp only [hy]; rw [if_pos hgt]
                rw [hH] at HA
                obtain ⟨rfl, rfl⟩ := Prod.mk.inj (Option.some.inj HA.out)
                have hg1 : decide ((a0.size : Int) - (at_ + 4) < n) = true := decide_eq_true (by omega)
                clear hx hy hH HA hw2 hgt
                go_wp2_with (first | (go_at_call 57; refine (number_yes _ _ _ _ _ _ _ _ HC.out HL.out hcap (by omega) HX.out).mono ?_; rintro e w1 ⟨rfl, hb⟩; have HI0 := Aside0.mk (HI.out.below hb); clear HC; have HC1 := Aside0.mk (HIB.out w1 _ HI0.out.2.2.1)) | (go_at_call 57; refine (number_yes _ _ _ _ _ _ _ _ HC1.out HL.out hcap (by omega) HY.out).mono ?_; rintro e w2 ⟨rfl, hb2⟩; have HI1 := Aside0.mk (HI0.out.below hb2); clear HC1))
                exact door_panic w w2 v _ _ rfl rfl HI1.out.1 HI1.out.2.1 (fun w' hb' => ⟨_, rfl, Kd.R_nil _ _ _ _ _, HI1.out.2.2.2.2.1.trans hb'⟩)
              · have hH : rdLoop a0 (k1 + 1) at_ out = rdLoop a0 k1 (at_ + 4 + n) (out ++ [⟨id, a0.extract (at_ + 4).toNat (at_ + 4 + n).toNat⟩]) := by rw [rdLoop, if_pos hlt, hx]; simp only [hy]; rw [if_neg hgt]
                rw [hH] at HA
                have hg1 : decide ((a0.size : Int) - (at_ + 4) < n) = false := decide_eq_false (by omega)
                have hn0 : 0 ≤ n := hn.1
                have hn1 : n ≤ (a0.size : Int) - (at_ + 4) := by omega
                clear hx hy hH hw2 hgt
                go_wp2_with (first | (go_at_call 57; refine (number_yes _ _ _ _ _ _ _ _ HC.out HL.out hcap (by omega) HX.out).mono ?_; rintro e w1 ⟨rfl, hb⟩; have HI0 := Aside0.mk (HI.out.below hb); clear HC; have HC1 := Aside0.mk (HIB.out w1 _ HI0.out.2.2.1)) | (go_at_call 57; refine (number_yes _ _ _ _ _ _ _ _ HC1.out HL.out hcap (by omega) HY.out).mono ?_; rintro e w2 ⟨rfl, hb2⟩; have HI1 := Aside0.mk (HI0.out.below hb2); clear HC1))
                have hw4 : IntKind.i64.wrap (at_ + 4 + n) = at_ + 4 + n := by rw [wi64]; exact wrap64_id (by omega) (by omega)
                have hsl : ∀ W, (Instr.slice 9 (.string a0) (some (.int .i64 (at_ + 4))) (some (.int .i64 (at_ + 4 + n))) none).run Try.prog W = .ok (.string (a0.extract (at_ + 4).toNat (at_ + 4 + n).toNat)) W := fun W => run_slice_string W 9 a0 .i64 .i64 (at_ + 4) (at_ + 4 + n) Try.underlying9 (by omega) (by omega) (by omega)
                have hc0 : w2.drew.cell? ⟨w.heap.size, 0, none⟩ = some v := (blk_cell HI1.out.1 0).trans rfl
                refine start_ (n := 12) (S := (fun W => W.cell? ⟨w.heap.size, 0, none⟩ = some v)) (ds := [11]) #[false, false, false, false, false, false, false, false, false, false, false, false] (by kernel_rfl) rfl rfl hc0 (fun hHeld => ?_)
                refine take_ (i := 0) (N := (some 32)) (v := ?_) (a' := ?_) #[true, false, false, false, false, false, false, false, false, false, false, false] rfl rfl (by kernel_rfl) (fun _ _ _ h => leaves_put (fn := Try.f24) (p := 2) (q := 3) rfl (by decide) (by decide) h) (Or.inl ⟨by rfl, ?_⟩) hHeld ?_ ?_
                rotate_left
                · intro w' hS'
                  go_simp
                  with_reducible rfl
                rotate_left
                · simp only [Act.put, List.setIfInBounds_toArray, List.set_cons_zero, List.set_cons_succ, i64_w, i32_w]
                  rfl
                refine pure_ (i := 1) (N := (some 33)) (v := ?_) (a' := ?_) #[true, true, false, false, false, false, false, false, false, false, false, false] rfl rfl (by kernel_rfl) (fun _ _ _ h => leaves_put (fn := Try.f24) (p := 2) (q := 3) rfl (by decide) (by decide) h) (Or.inl ⟨by rfl, ?_⟩) ?_ ?_
                rotate_left
                · intro w'
                  go_simp
                  with_reducible rfl
                rotate_left
                · simp only [Act.put, List.setIfInBounds_toArray, List.set_cons_zero, List.set_cons_succ, i64_w, i32_w]
                  rfl
                refine pure_ (i := 2) (N := (some 34)) (v := ?_) (a' := ?_) #[true, true, true, false, false, false, false, false, false, false, false, false] rfl rfl (by kernel_rfl) (fun _ _ _ h => leaves_put (fn := Try.f24) (p := 2) (q := 3) rfl (by decide) (by decide) h) (Or.inl ⟨by rfl, ?_⟩) ?_ ?_
                rotate_left
                · intro w'
                  go_simp
                  with_reducible rfl
                rotate_left
                · simp only [Act.put, List.setIfInBounds_toArray, List.set_cons_zero, List.set_cons_succ, i64_w, i32_w]
                  rfl
                refine pure_ (i := 3) (N := (some 35)) (v := ?_) (a' := ?_) #[true, true, true, true, false, false, false, false, false, false, false, false] rfl rfl (by kernel_rfl) (fun _ _ _ h => leaves_put (fn := Try.f24) (p := 2) (q := 3) rfl (by decide) (by decide) h) (Or.inl ⟨by rfl, ?_⟩) ?_ ?_
                rotate_left
                · intro w'
                  go_simp
                  with_reducible rfl
                rotate_left
                · simp only [Act.put, List.setIfInBounds_toArray, List.set_cons_zero, List.set_cons_succ, i64_w, i32_w]
                  rfl
                refine pure_ (i := 4) (N := (some 36)) (v := ?_) (a' := ?_) #[true, true, true, true, true, false, false, false, false, false, false, false] rfl rfl (by kernel_rfl) (fun _ _ _ h => leaves_put (fn := Try.f24) (p := 2) (q := 3) rfl (by decide) (by decide) h) (Or.inl ⟨by rfl, ?_⟩) ?_ ?_
                rotate_left
                · intro w'
                  go_simp
                  with_reducible rfl
                rotate_left
                · simp only [Act.put, List.setIfInBounds_toArray, List.set_cons_zero, List.set_cons_succ, i64_w, i32_w]
                  rfl
                refine pure_ (i := 5) (N := (some 37)) (v := ?_) (a' := ?_) #[true, true, true, true, true, true, false, false, false, false, false, false] rfl rfl (by kernel_rfl) (fun _ _ _ h => leaves_put (fn := Try.f24) (p := 2) (q := 3) rfl (by decide) (by decide) h) (Or.inl ⟨by rfl, ?_⟩) ?_ ?_
                rotate_left
                · intro w'
                  go_simp
                  with_reducible rfl
                rotate_left
                · simp only [Act.put, List.setIfInBounds_toArray, List.set_cons_zero, List.set_cons_succ, i64_w, i32_w]
                  rfl
                refine pure_ (i := 6) (N := (some 38)) (v := ?_) (a' := ?_) #[true, true, true, true, true, true, true, false, false, false, false, false] rfl rfl (by kernel_rfl) (fun _ _ _ h => leaves_put (fn := Try.f24) (p := 2) (q := 3) rfl (by decide) (by decide) h) (Or.inl ⟨by rfl, ?_⟩) ?_ ?_
                rotate_left
                · intro w'
                  go_simp
                  with_reducible rfl
                rotate_left
                · simp only [Act.put, List.setIfInBounds_toArray, List.set_cons_zero, List.set_cons_succ, i64_w, i32_w]
                  rfl
                refine pure_ (i := 7) (N := (some 39)) (v := ?_) (a' := ?_) #[true, true, true, true, true, true, true, true, false, false, false, false] rfl rfl (by kernel_rfl) (fun _ _ _ h => leaves_put (fn := Try.f24) (p := 2) (q := 3) rfl (by decide) (by decide) h) (Or.inl ⟨by rfl, ?_⟩) ?_ ?_
                rotate_left
                · intro w'
                  go_simp
                  with_reducible rfl
                rotate_left
                · simp only [Act.put, List.setIfInBounds_toArray, List.set_cons_zero, List.set_cons_succ, i64_w, i32_w]
                  rfl
                refine pure_ (i := 8) (N := (some 40)) (v := ?_) (a' := ?_) #[true, true, true, true, true, true, true, true, true, false, false, false] rfl rfl (by kernel_rfl) (fun _ _ _ h => leaves_put (fn := Try.f24) (p := 2) (q := 3) rfl (by decide) (by decide) h) (Or.inl ⟨by rfl, ?_⟩) ?_ ?_
                rotate_left
                · intro w'
                  go_simp
                  with_reducible rfl
                rotate_left
                · simp only [Act.put, List.setIfInBounds_toArray, List.set_cons_zero, List.set_cons_succ, i64_w, i32_w]
                  rfl
                refine one_ (i := 9) (N := (some 41)) #[true, true, true, true, true, true, true, true, true, true, false, false] rfl rfl (by kernel_rfl) (by decide) (fun K hK => ?_)
                go_simp
                refine hK.out _ _ (by show (w2.alloc _).cell? _ = _; exact (World.cell?_alloc_lt _ _ _ (blk_lt HI1.out.1)).trans hc0) (fun hHeld => ?_)
                clear hK K
                rw [show (w2.alloc (.cells #[.int .i64 id, .string (a0.extract (at_ + 4).toNat (at_ + 4 + n).toNat)] 38)).drew = w2.drew.alloc (.cells #[.int .i64 id, .string (a0.extract (at_ + 4).toNat (at_ + 4 + n).toNat)] 38) from rfl]
                refine one_ (i := 10) (N := (some 42)) #[true, true, true, true, true, true, true, true, true, true, true, false] rfl rfl (by kernel_rfl) (by decide) (fun K hK => ?_)
                refine Kd.R_append_step k38 (w0 := w2.drew) (w.heap.size + 3) (by rfl) (.tmp 32) (.tmp 41) 33 38 (.agg #[.int .i64 0, .string ⟨#[]⟩]) 24 rfl Try.underlying33 inf38 rfl (by decide) (by omega) v out (⟨id, a0.extract (at_ + 4).toNat (at_ + 4 + n).toNat⟩ : S38) [.int .i64 id, .string (a0.extract (at_ + 4).toNat (at_ + 4 + n).toNat)] (fun _ => True) (fun _ => False) rfl rfl (k38_mkM _ _ _ (⟨id, a0.extract (at_ + 4).toNat (at_ + 4 + n).toNat⟩ : S38)) (fun _ hk => hk.elim) (fun _ _ => trivial) (Kd.R_drew HI1.out.2.2.2.1) (Below.refl _ _) HI1.out.2.2.2.2.2 (by have := HN.out; omega) ?_
                intro v1 w3 ho hb3 _ _
                obtain ⟨A1, c1, e1⟩ := Kd.R_slice ho
                subst e1
                have HI3 := Aside0.mk (Inv.push (HI1.out.below (w1 := w2.drew) (below_drew (Below.refl _ _))) ho hb3)
                have hc3 : w3.cell? ⟨w.heap.size, 0, none⟩ = some v := (hb3.cell (p := ⟨w.heap.size, 0, none⟩) (by show w.heap.size < w.heap.size + 3; omega)).trans hc0
                have hf3 : w3.frozen? ⟨w.heap.size, 0, none⟩ = false := (hb3.frozen (p := ⟨w.heap.size, 0, none⟩) (by show w.heap.size < w.heap.size + 3; omega)).trans (blk_frozen HI1.out.1 0)
                refine hK.out _ _ hc3 (fun hHeld => ?_)
                clear hK K ho hb3
                refine last_ (i := 11) (N := none) #[true, true, true, true, true, true, true, true, true, true, true, true] rfl rfl (by kernel_rfl) (by decide) (fun K hK => ?_)
                go_simp
                refine hK.out _ _ ?_
                clear hK K
                refine done_ (by kernel_rfl) ?_
                have HW := Aside0.mk hw4
                clear hsl hw4
                have hs1 : 0 ≤ at_ + 4 + n := by omega
                have hs2 : at_ + 4 + n ≤ (a0.size : Int) := by omega
                go_wp2
                go_roundg k1
                case measure => omega
                case rel => exact ⟨at_ + 4 + n, _, _, rfl, HA, ⟨hs1, hs2⟩, ⟨by have := HN.out; simp; omega, by have := HN.out; simp; omega⟩, ⟨by have h := HI3.out; simp only [List.length_append, List.length_cons, List.length_nil, Nat.zero_add] at h; exact h⟩⟩
        · have hH : rdLoop a0 (k1 + 1) at_ out = some (out, 0) := by rw [rdLoop, if_neg hlt]
          rw [hH] at HA
          obtain ⟨rfl, rfl⟩ := Prod.mk.inj (Option.some.inj HA.out)
          have hg1 : decide (at_ < (a0.size : Int)) = false := decide_eq_false hlt
          have hc0 : wr.cell? ⟨w.heap.size, 0, none⟩ = some v := (blk_cell HI.out.1 0).trans rfl
          have hc1 : wr.cell? ⟨w.heap.size + 1, 0, none⟩ = some (.int .i64 0) := (blk_cell HI.out.2.1 0).trans rfl
          have hf0 : wr.frozen? ⟨w.heap.size, 0, none⟩ = false := blk_frozen HI.out.1 0
          have hf1 : wr.frozen? ⟨w.heap.size + 1, 0, none⟩ = false := blk_frozen HI.out.2.1 0
          obtain ⟨A1, c1, e1⟩ := Kd.R_slice HI.out.2.2.2.1
          subst e1
          clear hlt hr hH HA
          have HS := Aside0.mk HI.out.same
          go_wp2
          exact door_ok w _ _ _ _ rfl rfl HS.out.1 HS.out.2.1 (fun o => ⟨_, rfl, Kd.R_lower (Kd.R_alloc HS.out.2.2.2.1 o) (by omega), HS.out.2.2.2.2.1.alloc HS.out.2.2.2.2.1.size o⟩)
  · rw [if_neg hs] at h; cases h
end Go.Proofs.Ytfnicahlnpngkaa.ExtraOfZipdirBack
