/- pax.Put: what it comes to, and the walk. PaxPuts: the printed namespace. -/
import Derived.Test.YtfnicahlnpngkaaDoorPPaxPutsx0
import Derived.Test.YtfnicahlnpngkaaDoorDoorLen
import Derived.Test.YtfnicahlnpngkaaDoorDoorLib
set_option linter.unusedVariables false
set_option linter.unusedSimpArgs false
namespace Go.Proofs.YtfnicahlnpngkaaDoor.DoorPutOfPaxPuts
open Go.RowKit Go.Proofs Go.Proofs.YtfnicahlnpngkaaDoorW.PrintWords Go.Proofs.YtfnicahlnpngkaaDoorW.PrintLast Go.Proofs.YtfnicahlnpngkaaDoorW.PrintMore Go.Proofs.YtfnicahlnpngkaaDoor.Base Go.Proofs.YtfnicahlnpngkaaDoor.DoorCut Go.Proofs.YtfnicahlnpngkaaDoor.DoorLen Go.Proofs.YtfnicahlnpngkaaDoor.DoorLib Go.Proofs.YtfnicahlnpngkaaDoor.PPaxPuts

/-- may a key be put? -/
def has (s : ByteArray) (c : UInt8) : Bool := decide (0 ≤ Lib.indexByte s.data.toList c)
def good (x : S39) : Bool := !(x.f0.toList == []) && !has x.f0 61 && !has x.f0 10 && !has x.f0 0
/-- a record's text, of a length that is known. -/
def recB (n : Int) (x : S39) : ByteArray := strOf (Lib.itoa n) ++ ⟨#[32]⟩ ++ x.f0 ++ ⟨#[61]⟩ ++ x.f1 ++ ⟨#[10]⟩
def putLoop : List S39 → List UInt8 → Option (ByteArray × Int)
  | [], b => some (strOf b, 0)
  | x :: l, b => if good x = true then (match pax_Len.f x.f0 x.f1 with
    | none => none
    | some n => if n > 1048576 - (b.length : Int) then some (⟨#[]⟩, 1) else putLoop l (b ++ (recB n x).data.toList)) else some (⟨#[]⟩, 1)
def pax_Put.f (l0 : List S39) : Option (ByteArray × Int) := if (l0.length : Int) > 1000 then some (⟨#[]⟩, 1) else putLoop l0 []

theorem lenGo_is (bare : Int) : ∀ (k : Nat) (n r : Int), lenGo bare k n = some r → bare + (Lib.itoa r).length = r
  | 0, n, r, h => by rw [lenGo] at h; cases h
  | k + 1, n, r, h => by
    rw [lenGo] at h
    split at h
    · rename_i hh; injection h with h; rw [← h]; exact hh
    · exact lenGo_is bare k _ r h
theorem len_is {a0 a1 : ByteArray} {n : Int} (h : pax_Len.f a0 a1 = some n) : (a0.size : Int) + a1.size + 3 + (Lib.itoa n).length = n := by
  unfold pax_Len.f at h
  split at h
  · exact lenGo_is _ _ _ _ h
  · cases h
theorem builder_below {T e B b : Nat} {bs : List Value} {w w' : World} (h : Lib.IsBuilder T e B b bs w) (hb : Below w.heap.size w w') : Lib.IsBuilder T e B b bs w' := by
  rcases h with ⟨h1, v, h2, h3, h4⟩ | ⟨h1, v, h2, h3, h4⟩
  · exact Or.inl ⟨h1, v, blk_below h2 hb, pw_own_below h3 hb, h4⟩
  · exact Or.inr ⟨h1, v, blk_below h2 hb, pw_own_below h3 hb, h4⟩
theorem drop_rd (l : List S39) (i : Nat) (h : i < l.length) : l.drop i = rd_T39 l i :: l.drop (i + 1) := by
  rw [List.drop_eq_getElem_cons h]
  congr 1
  unfold rd_T39
  rw [Int.toNat_natCast, List.getD_eq_getElem?_getD, List.getElem?_eq_getElem h]
  rfl
set_option maxHeartbeats 8000000 in
set_option maxRecDepth 100000 in
theorem pax_Put.calls (A0 : Option Addr) (c0 : Nat) (l0 : List S39) (r1 : ByteArray) (r2 : Int) (w : World) (hr0 : Kd.C k39 w A0 l0.length l0) (hc0 : l0.length ≤ c0) (h : pax_Put.f l0 = some (r1, r2)) (hv : Vars w) :
    Calls Tryd.prog 14 #[.slice A0 l0.length c0] w fun e w' => e = .returned (.tuple #[.string r1, .int .i64 r2]) ∧ Below w.heap.size w w' := by
  have hu39 := Tryd.underlying39
  unfold pax_Put.f at h
  have HR0 := Aside0.mk hr0
  have HV := Aside0.mk hv
  clear hr0 hc0 hv
  by_cases hl : (l0.length : Int) > 1000
  · rw [if_pos hl, Option.some.injEq] at h
    obtain ⟨rfl, rfl⟩ := Prod.mk.inj h
    have g1 : decide (1000 < (l0.length : Int)) = true := decide_eq_true hl
    clear h hl
    go_enter Tryd.func14, Tryd.ntmps14
    go_wp2
    refine bodyPost_ret (v := .tuple #[.string ⟨#[]⟩, .int .i64 1]) (by simp [results, Tryd.results14, go_sem]) rfl ⟨rfl, Below.refl _ _⟩
  · rw [if_neg hl] at h
    have HF := Aside0.mk h
    have g1 : decide (1000 < (l0.length : Int)) = false := decide_eq_false hl
    have HL := Aside0.mk hl
    clear h hl
    go_enter Tryd.func14, Tryd.ntmps14
    go_wp2
    have hB0 := Lib.fresh_isBuilder 57 5 w
    have hb0 : Below w.heap.size w (w.alloc (.cells #[.pointer none, .slice none 0 0] 57)) := (Below.refl _ _).alloc (Nat.le_refl _) _
    generalize w.alloc (.cells #[.pointer none, .slice none 0 0] 57) = W0 at hB0 hb0 ⊢
    have HI0 : Aside0 (Lib.IsBuilder 57 5 w.heap.size w.heap.size (Lib.byteCells []) W0) := ⟨hB0⟩
    have HB0 := Aside0.mk hb0
    clear hB0 hb0
    go_loopg [12] (l0.length + 1) (fun kq v12 wr => ∃ (i : Int) (bs : List UInt8), v12 = .int .i64 i ∧ Aside0 (0 ≤ i ∧ i ≤ (l0.length : Int) ∧ (l0.length : Int) - i < kq) ∧ Aside0 (putLoop (l0.drop i.toNat) bs = some (r1, r2)) ∧ Aside0 (bs.length ≤ 1048576) ∧ Aside0 (Lib.IsBuilder 57 5 w.heap.size w.heap.size (Lib.byteCells bs) wr) ∧ Aside0 (Below w.heap.size w wr))
    case atStart => exact ⟨0, [], rfl, ⟨by omega, by omega, by omega⟩, HF, ⟨by simp⟩, HI0, HB0⟩
    case round =>
      clear HF HI0 HB0
      obtain ⟨i, bs, rfl, HJ, HP, HS, HI, HB⟩ := hrel
      have hj := HJ.out
      have hi0 : 0 ≤ i := hj.1
      obtain ⟨kq, rfl⟩ : ∃ kq, gk = kq + 1 := ⟨gk - 1, by omega⟩
      by_cases hlt : i < (l0.length : Int)
      · have hp := HP.out
        rw [drop_rd l0 i.toNat (by omega), putLoop, show ((i.toNat : Nat) : Int) = i by omega] at hp
        obtain ⟨ad, hA, hx0, hx1⟩ := at_T39 HR0.out i hi0 hlt
        cases hA
        replace hx0 := (HB.out.cell (World.block_lt_of_cell? w _ hx0)).trans hx0
        replace hx1 := (HB.out.cell (World.block_lt_of_cell? w _ hx1)).trans hx1
        have p1 := eq_true hi0
        have q1 := eq_true hlt
        have HB2 := Aside0.mk (HB.out.alloc HB.out.size (.cells #[.string (rd_T39 l0 i).f0, .string (rd_T39 l0 i).f1] 39))
        generalize rd_T39 l0 i = X at hx0 hx1 hp HB2
        have HC1 := Aside0.mk (fun W => Tryd.strings_Contains_one X.f0 61 W)
        have HC2 := Aside0.mk (fun W => Tryd.strings_Contains_one X.f0 10 W)
        have HC3 := Aside0.mk (fun W => Tryd.strings_Contains_one X.f0 0 W)
        have hgd : good X = (!(X.f0.toList == []) && !decide (0 ≤ Lib.indexByte X.f0.data.toList 61) && !decide (0 ≤ Lib.indexByte X.f0.data.toList 10) && !decide (0 ≤ Lib.indexByte X.f0.data.toList 0)) := rfl
        generalize decide (0 ≤ Lib.indexByte X.f0.data.toList 61) = d1 at HC1 hgd
        generalize decide (0 ≤ Lib.indexByte X.f0.data.toList 10) = d2 at HC2 hgd
        generalize decide (0 ≤ Lib.indexByte X.f0.data.toList 0) = d3 at HC3 hgd
        clear hlt hj
        cases he : (X.f0.toList == ([] : List UInt8)) with
        | true =>
          rw [hgd, he, if_neg (by simp), Option.some.injEq] at hp
          obtain ⟨rfl, rfl⟩ := Prod.mk.inj hp
          clear hp hgd HP
          go_wp2
          refine bodyPost_ret (v := .tuple #[.string ⟨#[]⟩, .int .i64 1]) (by simp [results, Tryd.results14, go_sem]) rfl ⟨rfl, HB2.out⟩
        | false =>
          cases d1 with
          | true =>
            rw [hgd, he, if_neg (by simp), Option.some.injEq] at hp
            obtain ⟨rfl, rfl⟩ := Prod.mk.inj hp
            clear hp hgd HP
            go_wp2_with (first | (go_at_call 25; (with_reducible refine (HC1.out _).mono ?_); rintro e w1 ⟨rfl, rfl⟩) | (go_at_call 25; (with_reducible refine (HC2.out _).mono ?_); rintro e w2 ⟨rfl, rfl⟩) | (go_at_call 25; (with_reducible refine (HC3.out _).mono ?_); rintro e w3 ⟨rfl, rfl⟩))
            refine bodyPost_ret (v := .tuple #[.string ⟨#[]⟩, .int .i64 1]) (by simp [results, Tryd.results14, go_sem]) rfl ⟨rfl, HB2.out⟩
          | false =>
            cases d2 with
            | true =>
              rw [hgd, he, if_neg (by simp), Option.some.injEq] at hp
              obtain ⟨rfl, rfl⟩ := Prod.mk.inj hp
              clear hp hgd HP
              go_wp2_with (first | (go_at_call 25; (with_reducible refine (HC1.out _).mono ?_); rintro e w1 ⟨rfl, rfl⟩) | (go_at_call 25; (with_reducible refine (HC2.out _).mono ?_); rintro e w2 ⟨rfl, rfl⟩) | (go_at_call 25; (with_reducible refine (HC3.out _).mono ?_); rintro e w3 ⟨rfl, rfl⟩))
              refine bodyPost_ret (v := .tuple #[.string ⟨#[]⟩, .int .i64 1]) (by simp [results, Tryd.results14, go_sem]) rfl ⟨rfl, HB2.out⟩
            | false =>
              cases d3 with
              | true =>
                rw [hgd, he, if_neg (by simp), Option.some.injEq] at hp
                obtain ⟨rfl, rfl⟩ := Prod.mk.inj hp
                clear hp hgd HP
                go_wp2_with (first | (go_at_call 25; (with_reducible refine (HC1.out _).mono ?_); rintro e w1 ⟨rfl, rfl⟩) | (go_at_call 25; (with_reducible refine (HC2.out _).mono ?_); rintro e w2 ⟨rfl, rfl⟩) | (go_at_call 25; (with_reducible refine (HC3.out _).mono ?_); rintro e w3 ⟨rfl, rfl⟩))
                refine bodyPost_ret (v := .tuple #[.string ⟨#[]⟩, .int .i64 1]) (by simp [results, Tryd.results14, go_sem]) rfl ⟨rfl, HB2.out⟩
              | false =>
                rw [hgd, he, if_pos (by simp)] at hp
                clear hgd HP
                cases hn : pax_Len.f X.f0 X.f1 with
                | none => rw [hn] at hp; cases hp
                | some n =>
                  rw [hn] at hp
                  dsimp only at hp
                  have hni := len_is hn
                  have hs := HS.out
                  have hbl : (Lib.byteCells bs).length = bs.length := Lib.byteCells_length bs
                  have HI2 : Aside0 (Lib.IsBuilder 57 5 w.heap.size w.heap.size (Lib.byteCells bs) (wr.alloc (.cells #[.string X.f0, .string X.f1] 39))) := ⟨builder_below HI.out ((Below.refl _ _).alloc (Nat.le_refl _) _)⟩
                  have HLN := Aside0.mk (pax_Len.calls X.f0 X.f1 n _ hn (HV.out.below HB2.out))
                  by_cases hgt : n > 1048576 - (bs.length : Int)
                  · rw [if_pos hgt, Option.some.injEq] at hp
                    obtain ⟨rfl, rfl⟩ := Prod.mk.inj hp
                    have g2 : decide (1048576 - (bs.length : Int) < n) = true := decide_eq_true hgt
                    clear hp hgt hni hn
                    go_wp2_with (first | (go_at_call 25; (with_reducible refine (HC1.out _).mono ?_); rintro e w1 ⟨rfl, rfl⟩) | (go_at_call 25; (with_reducible refine (HC2.out _).mono ?_); rintro e w2 ⟨rfl, rfl⟩) | (go_at_call 25; (with_reducible refine (HC3.out _).mono ?_); rintro e w3 ⟨rfl, rfl⟩) | (go_at_call 15; (with_reducible refine (HLN.out).mono ?_); rintro e w4 ⟨rfl, hb4⟩; have HI4 := Aside0.mk (builder_below HI2.out hb4); have HB4 := Aside0.mk (below_then HB2.out HB2.out.size hb4); clear hb4) | (go_at_call 26; (with_reducible refine (Tryd.Builder_Len w.heap.size w.heap.size (Lib.byteCells bs) _ HI4.out).mono ?_); rintro e w5 ⟨rfl, rfl⟩))
                    refine bodyPost_ret (v := .tuple #[.string ⟨#[]⟩, .int .i64 1]) (by simp [results, Tryd.results14, go_sem]) rfl ⟨rfl, HB4.out⟩
                  · rw [if_neg hgt] at hp
                    have hns : -9223372036854775808 ≤ n ∧ n ≤ 9223372036854775807 := by omega
                    have HT : Aside0 (strconv_Itoa.f n = some (strOf (Lib.itoa n))) := ⟨by unfold strconv_Itoa.f; rw [if_pos hns]⟩
                    have g2 : decide (1048576 - (bs.length : Int) < n) = false := decide_eq_false hgt
                    have hts : (strOf (Lib.itoa n)).size = (Lib.itoa n).length := by simp [strOf, ByteArray.size]
                    have hrec : recB n X = strOf (Lib.itoa n) ++ ⟨#[32]⟩ ++ X.f0 ++ ⟨#[61]⟩ ++ X.f1 ++ ⟨#[10]⟩ := rfl
                    generalize strOf (Lib.itoa n) = ti at HT hts hrec
                    have k1 : (⟨#[32]⟩ : ByteArray).size = 1 := rfl
                    have k2 : (⟨#[61]⟩ : ByteArray).size = 1 := rfl
                    have k3 : (⟨#[10]⟩ : ByteArray).size = 1 := rfl
                    have hrs : ((ti ++ ⟨#[32]⟩ ++ X.f0 ++ ⟨#[61]⟩ ++ X.f1 ++ ⟨#[10]⟩ : ByteArray).size : Int) = n := by simp only [ByteArray.size_append, k1, k2, k3]; omega
                    have HSZ : Aside0 ((Lib.byteCells bs).length + (ti ++ ⟨#[32]⟩ ++ X.f0 ++ ⟨#[61]⟩ ++ X.f1 ++ ⟨#[10]⟩ : ByteArray).size ≤ 140737488355328) := ⟨by rw [hbl]; omega⟩
                    have f1 : (9223372036854775807 < ti.size + 1) = False := eq_false (by omega)
                    have f2 : (9223372036854775807 < ti.size + 1 + X.f0.size) = False := eq_false (by omega)
                    have f3 : (9223372036854775807 < ti.size + 1 + X.f0.size + 1) = False := eq_false (by omega)
                    have f4 : (9223372036854775807 < ti.size + 1 + X.f0.size + 1 + X.f1.size) = False := eq_false (by omega)
                    have f5 : (9223372036854775807 < ti.size + 1 + X.f0.size + 1 + X.f1.size + 1) = False := eq_false (by omega)
                    have HN := Aside0.mk hn
                    have HP := Aside0.mk hp
                    have HGT := Aside0.mk hgt
                    have HRS := Aside0.mk hrs
                    have HREC := Aside0.mk hrec
                    have HG : Aside0 ((wr.alloc (.cells #[.string X.f0, .string X.f1] 39)).heap[wr.heap.size]? = some (.cells #[.string X.f0, .string X.f1] 39 (0, 0))) := ⟨heap_alloc_new _ _⟩
                    clear hp hgt hni hn hns hrs hrec hts
                    go_wp2_with (first | (go_at_call 25; (with_reducible refine (HC1.out _).mono ?_); rintro e w1 ⟨rfl, rfl⟩) | (go_at_call 25; (with_reducible refine (HC2.out _).mono ?_); rintro e w2 ⟨rfl, rfl⟩) | (go_at_call 25; (with_reducible refine (HC3.out _).mono ?_); rintro e w3 ⟨rfl, rfl⟩) | (go_at_call 15; (with_reducible refine (HLN.out).mono ?_); rintro e w4 ⟨rfl, hb4⟩; have HI4 := Aside0.mk (builder_below HI2.out hb4); have HB4 := Aside0.mk (below_then HB2.out HB2.out.size hb4); have HG4 := Aside0.mk (blk_below HG.out hb4); clear hb4) | (go_at_call 26; (with_reducible refine (Tryd.Builder_Len w.heap.size w.heap.size (Lib.byteCells bs) _ HI4.out).mono ?_); rintro e w5 ⟨rfl, rfl⟩))
                    have hc5 : w5.drew.cell? ⟨wr.heap.size, 0, none⟩ = some (.string X.f0) ∧ w5.drew.cell? ⟨wr.heap.size, 1, none⟩ = some (.string X.f1) := ⟨(blk_cell HG4.out 0).trans rfl, (blk_cell HG4.out 1).trans rfl⟩
                    refine start_ (n := 13) (S := (fun W => W.cell? ⟨wr.heap.size, 0, none⟩ = some (.string X.f0) ∧ W.cell? ⟨wr.heap.size, 1, none⟩ = some (.string X.f1))) (ds := [12]) #[false, false, false, false, false, false, false, false, false, false, false, false, false] (by kernel_rfl) rfl rfl hc5 (fun hHeld => ?_)
                    refine take_ (i := 0) (N := (some 41)) (v := ?_) (a' := ?_) #[true, false, false, false, false, false, false, false, false, false, false, false, false] rfl rfl (by kernel_rfl) (fun _ _ _ h => h) (Or.inl ⟨by rfl, ?_⟩) hHeld ?_ ?_
                    rotate_left
                    · intro w' hS'
                      obtain ⟨q1', q2'⟩ := hS'
                      go_simp
                      with_reducible rfl
                    rotate_left
                    · simp only [Act.put, List.setIfInBounds_toArray, List.set_cons_zero, List.set_cons_succ, i64_w, i32_w]
                      rfl
                    refine pure_ (i := 4) (N := (some 45)) (v := ?_) (a' := ?_) #[true, false, false, false, true, false, false, false, false, false, false, false, false] rfl rfl (by kernel_rfl) (fun _ _ _ h => h) (Or.inl ⟨by rfl, ?_⟩) ?_ ?_
                    rotate_left
                    · intro w'
                      go_simp
                      with_reducible rfl
                    rotate_left
                    · simp only [Act.put, List.setIfInBounds_toArray, List.set_cons_zero, List.set_cons_succ, i64_w, i32_w]
                      rfl
                    refine take_ (i := 5) (N := (some 46)) (v := ?_) (a' := ?_) #[true, false, false, false, true, true, false, false, false, false, false, false, false] rfl rfl (by kernel_rfl) (fun _ _ _ h => h) (Or.inl ⟨by rfl, ?_⟩) hHeld ?_ ?_
                    rotate_left
                    · intro w' hS'
                      obtain ⟨q1', q2'⟩ := hS'
                      go_simp
                      with_reducible rfl
                    rotate_left
                    · simp only [Act.put, List.setIfInBounds_toArray, List.set_cons_zero, List.set_cons_succ, i64_w, i32_w]
                      rfl
                    refine pure_ (i := 8) (N := (some 49)) (v := ?_) (a' := ?_) #[true, false, false, false, true, true, false, false, true, false, false, false, false] rfl rfl (by kernel_rfl) (fun _ _ _ h => h) (Or.inl ⟨by rfl, ?_⟩) ?_ ?_
                    rotate_left
                    · intro w'
                      go_simp
                      with_reducible rfl
                    rotate_left
                    · simp only [Act.put, List.setIfInBounds_toArray, List.set_cons_zero, List.set_cons_succ, i64_w, i32_w]
                      rfl
                    refine take_ (i := 9) (N := (some 50)) (v := ?_) (a' := ?_) #[true, false, false, false, true, true, false, false, true, true, false, false, false] rfl rfl (by kernel_rfl) (fun _ _ _ h => h) (Or.inl ⟨by rfl, ?_⟩) hHeld ?_ ?_
                    rotate_left
                    · intro w' hS'
                      obtain ⟨q1', q2'⟩ := hS'
                      go_simp
                      with_reducible rfl
                    rotate_left
                    · simp only [Act.put, List.setIfInBounds_toArray, List.set_cons_zero, List.set_cons_succ, i64_w, i32_w]
                      rfl
                    refine one_ (i := 1) (N := (some 42)) #[true, true, false, false, true, true, false, false, true, true, false, false, false] rfl rfl (by kernel_rfl) (by decide) (fun K hK => ?_)
                    refine goes_ Tryd.func15 (by kernel_rfl) rfl #[.agg #[.string X.f0, .string X.f1]] (by rfl) rfl rfl (by (try simp only [List.map_toArray, List.map_cons, List.map_nil]); first | done | rfl) ?_
                    refine (pax_Len.calls X.f0 X.f1 n _ HN.out (HV.out.below (below_drew HB4.out))).mono ?_
                    rintro e w6 ⟨rfl, hb6⟩
                    refine ⟨_, rfl, ?_⟩
                    have HI6 := Aside0.mk (builder_below HI4.out (Below.trans (below_drew (Below.refl _ _)) hb6))
                    have HB6 := Aside0.mk (below_then (below_drew HB4.out) (below_drew HB4.out).size hb6)
                    refine hK.out _ _ ⟨pw_cell_below hb6 hHeld.1, pw_cell_below hb6 hHeld.2⟩ (fun hHeld => ?_)
                    clear hK K
                    refine norm_ (a' := ?_) ?_ ?_
                    rotate_left
                    · simp only [Act.put, List.setIfInBounds_toArray, List.set_cons_zero, List.set_cons_succ]
                      rfl
                    refine one_ (i := 2) (N := (some 43)) #[true, true, true, false, true, true, false, false, true, true, false, false, false] rfl rfl (by kernel_rfl) (by decide) (fun K hK => ?_)
                    refine goes_ Tryd.func22 (by kernel_rfl) rfl #[.int .i64 n] (by rfl) rfl rfl (by (try simp only [List.map_toArray, List.map_cons, List.map_nil]); first | done | rfl) ?_
                    refine (strconv_Itoa.calls n _ _ HT.out (HV.out.below HB6.out)).mono ?_
                    rintro e w7 ⟨rfl, hb7⟩
                    refine ⟨_, rfl, ?_⟩
                    have HI7 := Aside0.mk (builder_below HI6.out hb7)
                    have HB7 := Aside0.mk (below_then HB6.out HB6.out.size hb7)
                    refine hK.out _ _ ⟨pw_cell_below hb7 hHeld.1, pw_cell_below hb7 hHeld.2⟩ (fun hHeld => ?_)
                    clear hK K
                    refine norm_ (a' := ?_) ?_ ?_
                    rotate_left
                    · simp only [Act.put, List.setIfInBounds_toArray, List.set_cons_zero, List.set_cons_succ]
                      rfl
                    refine pure_ (i := 3) (N := (some 44)) (v := ?_) (a' := ?_) #[true, true, true, true, true, true, false, false, true, true, false, false, false] rfl rfl (by kernel_rfl) (fun _ _ _ h => h) (Or.inl ⟨by rfl, ?_⟩) ?_ ?_
                    rotate_left
                    · intro w'
                      go_simp
                      with_reducible rfl
                    rotate_left
                    · simp only [Act.put, List.setIfInBounds_toArray, List.set_cons_zero, List.set_cons_succ, i64_w, i32_w]
                      rfl
                    refine pure_ (i := 6) (N := (some 47)) (v := ?_) (a' := ?_) #[true, true, true, true, true, true, true, false, true, true, false, false, false] rfl rfl (by kernel_rfl) (fun _ _ _ h => h) (Or.inl ⟨by rfl, ?_⟩) ?_ ?_
                    rotate_left
                    · intro w'
                      go_simp
                      with_reducible rfl
                    rotate_left
                    · simp only [Act.put, List.setIfInBounds_toArray, List.set_cons_zero, List.set_cons_succ, i64_w, i32_w]
                      rfl
                    refine pure_ (i := 7) (N := (some 48)) (v := ?_) (a' := ?_) #[true, true, true, true, true, true, true, true, true, true, false, false, false] rfl rfl (by kernel_rfl) (fun _ _ _ h => h) (Or.inl ⟨by rfl, ?_⟩) ?_ ?_
                    rotate_left
                    · intro w'
                      go_simp
                      with_reducible rfl
                    rotate_left
                    · simp only [Act.put, List.setIfInBounds_toArray, List.set_cons_zero, List.set_cons_succ, i64_w, i32_w]
                      rfl
                    refine pure_ (i := 10) (N := (some 51)) (v := ?_) (a' := ?_) #[true, true, true, true, true, true, true, true, true, true, true, false, false] rfl rfl (by kernel_rfl) (fun _ _ _ h => h) (Or.inl ⟨by rfl, ?_⟩) ?_ ?_
                    rotate_left
                    · intro w'
                      go_simp
                      with_reducible rfl
                    rotate_left
                    · simp only [Act.put, List.setIfInBounds_toArray, List.set_cons_zero, List.set_cons_succ, i64_w, i32_w]
                      rfl
                    refine pure_ (i := 11) (N := (some 52)) (v := ?_) (a' := ?_) #[true, true, true, true, true, true, true, true, true, true, true, true, false] rfl rfl (by kernel_rfl) (fun _ _ _ h => h) (Or.inl ⟨by rfl, ?_⟩) ?_ ?_
                    rotate_left
                    · intro w'
                      go_simp
                      with_reducible rfl
                    rotate_left
                    · simp only [Act.put, List.setIfInBounds_toArray, List.set_cons_zero, List.set_cons_succ, i64_w, i32_w]
                      rfl
                    refine last_ (i := 12) (N := (some 53)) #[true, true, true, true, true, true, true, true, true, true, true, true, true] rfl rfl (by kernel_rfl) (by decide) (fun K hK => ?_)
                    refine goes_ Tryd.func27 (by kernel_rfl) rfl #[.pointer (some ⟨w.heap.size, 0, none⟩), .string (ti ++ ⟨#[32]⟩ ++ X.f0 ++ ⟨#[61]⟩ ++ X.f1 ++ ⟨#[10]⟩)] (by rfl) rfl rfl (by (try simp only [List.map_toArray, List.map_cons, List.map_nil]); first | done | rfl) ?_
                    refine (writeString w.heap.size w.heap.size (Lib.byteCells bs) _ _ HI7.out HSZ.out HB7.out.size).mono ?_
                    rintro e w8 ⟨rfl, hI8, hb8⟩
                    refine ⟨_, rfl, ?_⟩
                    have HI8 := Aside0.mk hI8
                    have HB8 := Aside0.mk (HB7.out.trans hb8)
                    refine hK.out _ _ ?_
                    clear hK K
                    refine done_ (by kernel_rfl) ?_
                    go_wp2
                    go_roundg kq
                    case measure => omega
                    case rel =>
                      have hi9 : Lib.IsBuilder 57 5 w.heap.size w.heap.size (Lib.byteCells (bs ++ (recB n X).data.toList)) w8 := by
                        rw [HREC.out, Lib.byteCells_append, ← Lib.strCells_eq]
                        exact Or.inr HI8.out
                      have hlen : (bs ++ (recB n X).data.toList).length ≤ 1048576 := by
                        have h1 := HRS.out
                        rw [← HREC.out] at h1
                        have h2 : (recB n X).data.toList.length = (recB n X).size := Array.length_toList
                        have h3 := HGT.out
                        rw [List.length_append, h2]
                        omega
                      have hLL := HL.out
                      have hJJ := HJ.out
                      have hII := of_eq_true q1
                      exact ⟨i + 1, _, by rw [wrap64_id (n := i + 1) (by omega) (by omega)], ⟨by omega, by omega, by omega⟩, ⟨by rw [show (i + 1).toNat = i.toNat + 1 by omega]; exact HP.out⟩, ⟨hlen⟩, ⟨hi9⟩, HB8⟩
      · have hp := HP.out
        rw [List.drop_of_length_le (by omega), putLoop, Option.some.injEq] at hp
        obtain ⟨rfl, rfl⟩ := Prod.mk.inj hp
        have b0 : decide (i < (l0.length : Int)) = false := decide_eq_false hlt
        have HS2 := Aside0.mk (Tryd.Builder_String_any w.heap.size w.heap.size bs wr HI.out HB.out.size)
        clear hlt hj hi0 hp HP
        go_wp2_with (go_at_call 28; (with_reducible refine (HS2.out).mono ?_); rintro e w1 ⟨rfl, hb⟩)
        refine bodyPost_ret (v := .tuple #[.string (strOf bs), .int .i64 0]) (by simp [results, Tryd.results14, go_sem, strOf]) rfl ⟨rfl, HB.out.trans hb⟩
end Go.Proofs.YtfnicahlnpngkaaDoor.DoorPutOfPaxPuts
