/- stevedoreref27.SameMember at two members that are alike, walked by hand. ZipdirBack: the printed namespace. -/
import Derived.Test.YtfnicahlnpngkaaZipFieldsOfZipdirBack
import Derived.BigQuiet
import Derived.Deep.QuietTactic
set_option linter.unusedVariables false
set_option linter.unusedSimpArgs false
namespace Go.Proofs.Ytfnicahlnpngkaa.ZipSameOfZipdirBack
open Go.RowKit Go.Proofs.YtfnicahlnpngkaaW.PrintWords Go.Proofs.YtfnicahlnpngkaaW.PrintLast Go.Proofs.YtfnicahlnpngkaaW.PrintMore Go.Proofs.Ytfnicahlnpngkaa.Base Go.Proofs.Ytfnicahlnpngkaa.ZipCm Go.Proofs.Ytfnicahlnpngkaa.PZipdirBack
theorem eqB38 (d : Nat) (w : World) (x0 y0 : Int) (x1 y1 : ByteArray) :
    (Op.equalIn (d + 2) 38 (.agg #[.int .i64 x0, .string x1]) (.agg #[.int .i64 y0, .string y1])).run Try.prog w = .ok (x0 == y0 && (x1.toList == y1.toList)) w := by
  refine eqA_of Try.underlying38 (by kernel_rfl) ?_
  refine eqf_cons (by rfl) (by go_simp; rfl) (by go_simp; rfl) (by go_simp) ?_
  exact eqf_last (by rfl) (by go_simp; rfl) (by go_simp; rfl) (by go_simp)
attribute [local go_sem high] eqB38
theorem toList_inj {a b : ByteArray} (h : a.data.toList = b.data.toList) : a = b := ByteArray.ext (Array.ext' h)
def sameB (a b : ByteArray) : Bool := a.data.toList == b.data.toList
theorem sameB_eq {a b : ByteArray} (h : sameB a b = true) : a = b := toList_inj (by simpa [sameB] using h)
theorem sameB_self (a : ByteArray) : sameB a a = true := by simp [sameB]
def sameL : List S38 → List S38 → Bool
  | [], [] => true
  | x :: xs, y :: ys => (x.f0 == y.f0) && sameB x.f1 y.f1 && sameL xs ys
  | _, _ => false
theorem sameL_eq : ∀ {xs ys : List S38}, sameL xs ys = true → xs = ys
  | [], [], _ => rfl
  | ⟨i, s⟩ :: xs, ⟨j, t⟩ :: ys, h => by
    simp only [sameL, Bool.and_eq_true, beq_iff_eq] at h
    obtain ⟨⟨h1, h2⟩, h3⟩ := h
    rw [sameL_eq h3, h1, sameB_eq h2]
  | [], _ :: _, h => by simp [sameL] at h
  | _ :: _, [], h => by simp [sameL] at h
theorem sameL_self : ∀ xs : List S38, sameL xs xs = true
  | [] => rfl
  | x :: xs => by simp [sameL, sameB_self, sameL_self xs]
def stevedoreref27_SameMember.f (a0 a1 a2 a3 a4 a5 a6 a7 : Int) (a8 : ByteArray) (a9 : List S38) (a10 : ByteArray) (a11 a12 : Int) (b0 b1 b2 b3 b4 b5 b6 b7 : Int) (b8 : ByteArray) (b9 : List S38) (b10 : ByteArray) (b11 b12 : Int) : Option Bool :=
  if a0 = b0 ∧ a1 = b1 ∧ a2 = b2 ∧ a3 = b3 ∧ a4 = b4 ∧ a5 = b5 ∧ a6 = b6 ∧ a7 = b7 ∧ sameB a8 b8 = true ∧ sameL a9 b9 = true ∧ sameB a10 b10 = true ∧ a11 = b11 ∧ a12 = b12 ∧ a9.length ≤ 1000000 then some true else none
theorem same_self (a0 a1 a2 a3 a4 a5 a6 a7 : Int) (a8 : ByteArray) (a9 : List S38) (a10 : ByteArray) (a11 a12 : Int) (h : a9.length ≤ 1000000) : stevedoreref27_SameMember.f a0 a1 a2 a3 a4 a5 a6 a7 a8 a9 a10 a11 a12 a0 a1 a2 a3 a4 a5 a6 a7 a8 a9 a10 a11 a12 = some true := by
  unfold stevedoreref27_SameMember.f
  rw [if_pos ⟨rfl, rfl, rfl, rfl, rfl, rfl, rfl, rfl, sameB_self _, sameL_self _, sameB_self _, rfl, rfl, h⟩]
set_option maxHeartbeats 16000000 in
set_option maxRecDepth 100000 in
theorem same_ (a0 a1 a2 a3 a4 a5 a6 a7 : Int) (a8 : ByteArray) (A : Option Addr) (cA : Nat) (a9 : List S38) (a10 : ByteArray) (a11 a12 : Int) (B : Option Addr) (cB : Nat) (w : World) (hra : Kd.C k38 w A a9.length a9) (hca : a9.length ≤ cA) (hrb : Kd.C k38 w B a9.length a9) (hcb : a9.length ≤ cB) (hl : a9.length ≤ 1000000) :
    Calls Try.prog 52 #[.agg #[.int .i64 a0, .int .i64 a1, .int .i64 a2, .int .i64 a3, .int .i64 a4, .int .u32 a5, .int .i64 a6, .int .i64 a7, .string a8, .slice A a9.length cA, .string a10, .int .u32 a11, .int .i64 a12], .agg #[.int .i64 a0, .int .i64 a1, .int .i64 a2, .int .i64 a3, .int .i64 a4, .int .u32 a5, .int .i64 a6, .int .i64 a7, .string a8, .slice B a9.length cB, .string a10, .int .u32 a11, .int .i64 a12]] w fun e w' => e = .returned (.bool true) ∧ Below w.heap.size w w' := by
  have hu38 := Try.underlying38
  have hu78 := Try.underlying78
  obtain ⟨W0, hW0⟩ : ∃ W0, (w.alloc (.cells #[.int .i64 a0, .int .i64 a1, .int .i64 a2, .int .i64 a3, .int .i64 a4, .int .u32 a5, .int .i64 a6, .int .i64 a7, .string a8, .slice A a9.length cA, .string a10, .int .u32 a11, .int .i64 a12] 78)).alloc (.cells #[.int .i64 a0, .int .i64 a1, .int .i64 a2, .int .i64 a3, .int .i64 a4, .int .u32 a5, .int .i64 a6, .int .i64 a7, .string a8, .slice B a9.length cB, .string a10, .int .u32 a11, .int .i64 a12] 78) = W0 := ⟨_, rfl⟩
  have K0 : W0.heap[w.heap.size]? = some (.cells #[.int .i64 a0, .int .i64 a1, .int .i64 a2, .int .i64 a3, .int .i64 a4, .int .u32 a5, .int .i64 a6, .int .i64 a7, .string a8, .slice A a9.length cA, .string a10, .int .u32 a11, .int .i64 a12] 78 (0, 0)) := by rw [← hW0]; exact blk_alloc (blk_new w _) _
  have K1 : W0.heap[w.heap.size + 1]? = some (.cells #[.int .i64 a0, .int .i64 a1, .int .i64 a2, .int .i64 a3, .int .i64 a4, .int .u32 a5, .int .i64 a6, .int .i64 a7, .string a8, .slice B a9.length cB, .string a10, .int .u32 a11, .int .i64 a12] 78 (0, 0)) := by
    rw [← hW0]
    have h := blk_new (w.alloc (.cells #[.int .i64 a0, .int .i64 a1, .int .i64 a2, .int .i64 a3, .int .i64 a4, .int .u32 a5, .int .i64 a6, .int .i64 a7, .string a8, .slice A a9.length cA, .string a10, .int .u32 a11, .int .i64 a12] 78)) (.cells #[.int .i64 a0, .int .i64 a1, .int .i64 a2, .int .i64 a3, .int .i64 a4, .int .u32 a5, .int .i64 a6, .int .i64 a7, .string a8, .slice B a9.length cB, .string a10, .int .u32 a11, .int .i64 a12] 78)
    rwa [World.size_alloc] at h
  have B0 := Aside0.mk (show Below w.heap.size w W0 by rw [← hW0]; exact below_alloc (below_alloc (Below.refl _ _) _) _)
  have RA := Aside0.mk (Kd.C_below hra B0.out)
  have RB := Aside0.mk (Kd.C_below hrb B0.out)
  have H0 := Aside0.mk K0
  have H1 := Aside0.mk K1
  have HW := Aside0.mk hW0
  clear hra hrb K0 K1 hW0
  go_enter Try.func52, Try.ntmps52
  go_wp2
  rw [HW.out]
  go_loopg [5] (a9.length + 1) (fun kq v5 wr => ∃ i : Nat, v5 = .int .i64 (i : Int) ∧ Aside0 (i ≤ a9.length ∧ a9.length + 1 ≤ kq + i) ∧ Aside0 (Below W0.heap.size W0 wr))
  case atStart => exact ⟨0, rfl, ⟨by omega, by omega⟩, ⟨Below.refl _ _⟩⟩
  case round =>
    obtain ⟨i, rfl, HI, HB⟩ := hrel
    by_cases hlt : i < a9.length
    · have hz : (i : Int) < (a9.length : Int) := by omega
      have n0 : 0 ≤ (i : Int) := by omega
      obtain ⟨kq, rfl⟩ : ∃ kq, gk = kq + 1 := ⟨gk - 1, by have := HI.out; omega⟩
      have c9 := (blk_cell (blk_below H0.out HB.out) 9).trans (rfl : _ = some (Value.slice A a9.length cA))
      have d9 := (blk_cell (blk_below H1.out HB.out) 9).trans (rfl : _ = some (Value.slice B a9.length cB))
      obtain ⟨ad, hA, hx0, hx1⟩ := at_T38 (Kd.C_below RA.out HB.out) (i : Int) n0 hz
      cases hA
      obtain ⟨bd, hB, hy0, hy1⟩ := at_T38 (Kd.C_below RB.out HB.out) (i : Int) n0 hz
      cases hB
      rw [Int.toNat_natCast] at hx0 hx1 hy0 hy1
      obtain ⟨⟨id, tx⟩, hf⟩ : ∃ f, rd_T38 a9 (i : Int) = f := ⟨_, rfl⟩
      rw [hf] at hx0 hx1 hy0 hy1
      simp only at hx0 hx1 hy0 hy1
      have p1 := eq_true n0
      have q1 := eq_true hz
      clear hf hlt
      go_wp2
      go_quiet (fail)
      go_wp2
      go_roundg kq
      case measure => omega
      case rel => exact ⟨i + 1, by go_num, ⟨by omega, by have := HI.out; omega⟩, ⟨pw_below_drewN HB.out _⟩⟩
    · have hz : ¬ (i : Int) < (a9.length : Int) := by omega
      obtain ⟨c0, c1, c2, c3, c4, c5, c6, c7, c8, c9, c10, c11, c12⟩ := ms_cells (blk_below H0.out HB.out)
      obtain ⟨d0, d1, d2, d3, d4, d5, d6, d7, d8, d9, d10, d11, d12⟩ := ms_cells (blk_below H1.out HB.out)
      go_wp2
      go_ret
      exact ⟨rfl, below_step B0.out HB.out⟩
theorem stevedoreref27_SameMember.calls (a0 a1 a2 a3 a4 a5 a6 a7 : Int) (a8 : ByteArray) (A : Option Addr) (cA : Nat) (a9 : List S38) (a10 : ByteArray) (a11 a12 : Int) (b0 b1 b2 b3 b4 b5 b6 b7 : Int) (b8 : ByteArray) (B : Option Addr) (cB : Nat) (b9 : List S38) (b10 : ByteArray) (b11 b12 : Int) (r : Bool) (w : World) (hra : Kd.C k38 w A a9.length a9) (hca : a9.length ≤ cA) (hrb : Kd.C k38 w B b9.length b9) (hcb : b9.length ≤ cB) (h : stevedoreref27_SameMember.f a0 a1 a2 a3 a4 a5 a6 a7 a8 a9 a10 a11 a12 b0 b1 b2 b3 b4 b5 b6 b7 b8 b9 b10 b11 b12 = some r) :
    Calls Try.prog 52 #[.agg #[.int .i64 a0, .int .i64 a1, .int .i64 a2, .int .i64 a3, .int .i64 a4, .int .u32 a5, .int .i64 a6, .int .i64 a7, .string a8, .slice A a9.length cA, .string a10, .int .u32 a11, .int .i64 a12], .agg #[.int .i64 b0, .int .i64 b1, .int .i64 b2, .int .i64 b3, .int .i64 b4, .int .u32 b5, .int .i64 b6, .int .i64 b7, .string b8, .slice B b9.length cB, .string b10, .int .u32 b11, .int .i64 b12]] w fun e w' => e = .returned (.bool r) ∧ Below w.heap.size w w' := by
  unfold stevedoreref27_SameMember.f at h
  split at h
  · rename_i hh
    obtain ⟨rfl, rfl, rfl, rfl, rfl, rfl, rfl, rfl, h8, h9, h10, rfl, rfl, hl⟩ := hh
    obtain rfl := sameB_eq h8
    obtain rfl := sameL_eq h9
    obtain rfl := sameB_eq h10
    injection h with h
    subst h
    exact same_ _ _ _ _ _ _ _ _ _ A cA _ _ _ _ B cB w hra hca hrb hcb hl
  · cases h
end Go.Proofs.Ytfnicahlnpngkaa.ZipSameOfZipdirBack
