/- An argument that is a slice of entries (struct type 73), opened to the list that it reads as. RateOf1: the printed namespace. -/
import Derived.Deep.Slices
import Derived.Deep.Fields
import Derived.Deep.Grids
import Derived.ChangeSame
import Derived.ChangeSlices
import Derived.Test.YtfmfikodnpnblaaDoorPRateOf1x0
import Derived.Test.YtfmfikodnpnblaaDoorRows
set_option linter.unusedVariables false
namespace Go.Proofs.YtfmfikodnpnblaaDoor.OpenE
open Go Go.ChangeShapes Go.WideShapes Go.Deep Go.RowKit Go.Proofs.YtfmfikodnpnblaaDoorW.PrintWords Go.Proofs.YtfmfikodnpnblaaDoorW.PrintLast Go.Proofs.YtfmfikodnpnblaaDoorW.PrintMore Go.Proofs.YtfmfikodnpnblaaDoor.PRateOf1
section
variable {H : Type} {enc : TypeId × Value → H} {P : Program} {w : World} {base : Nat} {spare : Nat → Bool} {held : Bool}
-- turned from the kit's text 'extra-structs'
theorem open_slice_fields {t e : TypeId} {fs : Array Field} {fuel : Nat} {cs : List Value} {x : DataW H × List MemPlace} (ht : P.underlying t = some (.slice e)) (he : P.underlying e = some (.struct fs))
    (hone : oneCellFields P fs = true) (hC : P.cellsOf e = fs.size) (h : DataW.trod enc P w base spare held fuel t cs = some x) :
    (cs = [.slice none 0 0] ∧ x = (.nil, [])) ∨
    ∃ (a : Addr) (len cap m : Nat) (D : Nat → DataW H) (Pl : Nat → List MemPlace), cs = [.slice (some a) len cap] ∧ base ≤ a.block ∧ len ≤ cap ∧ cap ≤ maxLen ∧ m = (if spare a.block then cap else len) ∧
      x = (.slice ((List.range len).map D) ((List.range (m - len)).map fun j => D (len + j)), MemPlace.row a (m * fs.size) ++ (List.range m).flatMap Pl) ∧
      ∀ i, i < m → ∃ (ys : List (DataW H × List MemPlace)) (n : Nat), D i = .agg (ys.map (·.1)) ∧ Pl i = ys.flatMap (·.2) ∧ ys.length = fs.size ∧
        ∀ (j : Nat) (f : Field), fs[j]? = some f → ∃ (v : Value) (y : DataW H × List MemPlace), w.cell? (a.add (i * fs.size + j)) = some v ∧ ys[j]? = some y ∧ DataW.trod enc P w base spare held n f.type [v] = some y := by
  rcases open_slice ht h with h0 | ⟨a, len, cap, m, n, D, Pl, hcs, hb, hl, hm, hmm, hx, hi⟩
  · exact .inl h0
  · refine .inr ⟨a, len, cap, m, D, Pl, hcs, hb, hl, hm, hmm, by rw [hC] at hx; exact hx, fun i him => ?_⟩
    obtain ⟨cs', hc, ht'⟩ := hi i him
    rw [hC] at hc
    obtain ⟨ys, n', hn', hy, hlen, hyl, hf⟩ := DataW.trod_struct he ht'
    obtain ⟨_, hcl, hat⟩ := World.cells?_some hc
    simp only [Prod.mk.injEq] at hy
    refine ⟨ys, n', hy.1, hy.2, hyl, fun j f hj => ?_⟩
    obtain ⟨ho, hk⟩ := hone_of hone j f hj
    have hjl : j < fs.size := (Array.getElem?_eq_some_iff.1 hj).1
    have hcell := hat j hjl
    have hv : cs'[j]? = some (cs'[j]'(by omega)) := List.getElem?_eq_getElem (by omega)
    have h1 := hf j f hj
    rw [ho, hk] at h1
    have hone' : (cs'.drop j).take 1 = [cs'[j]'(by omega)] := by
      rw [List.drop_eq_getElem_cons (by omega)]
      rfl
    rw [hone'] at h1
    have hys : ys[j]? = some (ys[j]'(by omega)) := List.getElem?_eq_getElem (by omega)
    refine ⟨_, _, ?_, hys, h1.trans hys⟩
    rw [← Go.Deep.add_add, hcell, hv]
theorem trod_float {t : TypeId} {k : FloatKind} {fuel : Nat} {cs : List Value} {x : DataW H × List MemPlace} (ht : P.underlying t = some (.float k)) (h : DataW.trod enc P w base spare held fuel t cs = some x) : ∃ n, cs = [.float k n] ∧ x = (.lit (.float k n), []) ∧ (Lit.float k n).wf = true := by
  cases fuel with
  | zero => simp [DataW.trod] at h
  | succ n =>
    unfold DataW.trod at h
    rw [ht] at h
    split at h <;> simp_all
/-- bytes in a field. -/
theorem open_bytes {fuel : Nat} {v : Value} {x : DataW H × List MemPlace} (h : DataW.trod enc Tryd.prog w base (fun _ => true) held fuel 71 [v] = some x) :
    ∃ (a : Option Addr) (c : Nat) (l : List Int), v = .slice a l.length c ∧ l.length ≤ c ∧ Kd.C (Kd.int .u8) w a l.length l ∧ l.length ≤ maxLen ∧ ∀ b ∈ l, (Lit.int .u8 b).wf = true := by
  have main : ∀ (b : Option Addr) (len cap : Nat) (zs : List Int), ((b = none ∧ len = 0 ∧ cap = 0 ∧ zs = []) ∨ ∃ x, b = some x ∧ len ≤ cap ∧ cap ≤ maxLen ∧ zs.length = cap ∧ (∀ i, i < zs.length → w.cell? (x.add i) = some (.int .u8 (zs.getD i 0))) ∧ ∀ n ∈ zs, (Lit.int .u8 n).wf = true) →
      ∃ (a : Option Addr) (c : Nat) (l : List Int), Value.slice b len cap = .slice a l.length c ∧ l.length ≤ c ∧ Kd.C (Kd.int .u8) w a l.length l ∧ l.length ≤ maxLen ∧ ∀ b ∈ l, (Lit.int .u8 b).wf = true := by
    intro b len cap zs hz
    obtain ⟨l, rfl, hr, hm, hw, hc⟩ := ReadsInt.ofRowC hz
    exact ⟨b, cap, l, rfl, hc, Kd.C_of_reads (d := (0 : Int)) (h1 := fun _ => rfl) hr, hm, hw⟩
  rcases open_ints Tryd.underlying71 Tryd.underlying5 (by kernel_rfl) h with ⟨hcs, _⟩ | ⟨x, l, c, zs, hcs, _, hl, hm, hz, _, hcell, hwz⟩
  · injection hcs with hcs _
    subst hcs
    exact main none 0 0 [] (.inl ⟨rfl, rfl, rfl, rfl⟩)
  · injection hcs with hcs _
    subst hcs
    exact main (some x) l c zs (.inr ⟨x, rfl, hl, hm, by simpa using hz, hcell, hwz⟩)
def Good (x : S73) : Prop := x.f0.size ≤ maxLen ∧ (Lit.int .i64 x.f1).wf = true ∧ (Lit.int .i64 x.f2).wf = true ∧ (Lit.int .i64 x.f3).wf = true ∧ (Lit.int .i64 x.f4).wf = true ∧ (Lit.float .f64 x.f5).wf = true ∧ x.f6.size ≤ maxLen ∧ x.f7.length ≤ maxLen ∧ ∀ b ∈ x.f7, (Lit.int .u8 b).wf = true
theorem open_E {W : World} {a : Option Addr} {len cap : Nat} {d : DataW H} {p : List MemPlace} (h : DataW.Trod enc Tryd.prog W base (fun _ => true) held 37 (.slice a len cap) d p) :
    ∃ xs : List S73, len = xs.length ∧ xs.length ≤ cap ∧ xs.length ≤ maxLen ∧ Kd.C k73 W a xs.length xs ∧ ∀ x ∈ xs, Good x := by
  obtain ⟨fuel, hf⟩ := h
  rcases open_slice_fields Tryd.underlying37 Tryd.underlying73 (by kernel_rfl) (by kernel_rfl) hf with ⟨hcs, _⟩ | ⟨x, l, c, m, D, Pl, hcs, _, hl, hm, hmm, _, hi⟩
  · simp [Value.cells] at hcs
    obtain ⟨rfl, rfl, rfl⟩ := hcs
    exact ⟨[], rfl, Nat.le_refl _, Nat.zero_le _, ⟨rfl, by simp, fun h => absurd h (by simp)⟩, by simp⟩
  · simp [Value.cells] at hcs
    obtain ⟨rfl, rfl, rfl⟩ := hcs
    have hlm : len ≤ m := by rw [hmm]; split <;> omega
    have hmax : maxLen ≤ 9223372036854775807 := by decide
    haveI : Inhabited S73 := ⟨z73⟩
    have hx : ∀ i, i < len → ∃ s : S73, ∃ (A7 : Option Addr) (c7 : Nat), W.cell? (x.add (i * 8)) = some (.string s.f0) ∧ W.cell? (x.add (i * 8 + 1)) = some (.int .i64 s.f1) ∧ W.cell? (x.add (i * 8 + 2)) = some (.int .i64 s.f2) ∧ W.cell? (x.add (i * 8 + 3)) = some (.int .i64 s.f3) ∧
        W.cell? (x.add (i * 8 + 4)) = some (.int .i64 s.f4) ∧ W.cell? (x.add (i * 8 + 5)) = some (.float .f64 s.f5) ∧ W.cell? (x.add (i * 8 + 6)) = some (.string s.f6) ∧ W.cell? (x.add (i * 8 + 7)) = some (.slice A7 s.f7.length c7) ∧
        s.f7.length ≤ c7 ∧ Kd.C (Kd.int .u8) W A7 s.f7.length s.f7 ∧ Good s := by
      intro i hi'
      obtain ⟨ys, n, _, _, _, hg⟩ := hi i (by omega)
      obtain ⟨v0, y0, c0, _, t0⟩ := hg 0 _ rfl
      obtain ⟨v1, y1, c1, _, t1⟩ := hg 1 _ rfl
      obtain ⟨v2, y2, c2, _, t2⟩ := hg 2 _ rfl
      obtain ⟨v3, y3, c3, _, t3⟩ := hg 3 _ rfl
      obtain ⟨v4, y4, c4, _, t4⟩ := hg 4 _ rfl
      obtain ⟨v5, y5, c5, _, t5⟩ := hg 5 _ rfl
      obtain ⟨v6, y6, c6, _, t6⟩ := hg 6 _ rfl
      obtain ⟨v7, y7, c7, _, t7⟩ := hg 7 _ rfl
      obtain ⟨s0, h0, _, w0⟩ := DataW.trod_string Tryd.underlying9 t0
      obtain ⟨s1, h1, _, w1⟩ := DataW.trod_int Tryd.underlying3 t1
      obtain ⟨s2, h2, _, w2⟩ := DataW.trod_int Tryd.underlying3 t2
      obtain ⟨s3, h3, _, w3⟩ := DataW.trod_int Tryd.underlying3 t3
      obtain ⟨s4, h4, _, w4⟩ := DataW.trod_int Tryd.underlying3 t4
      obtain ⟨s5, h5, _, w5⟩ := trod_float Tryd.underlying27 t5
      obtain ⟨s6, h6, _, w6⟩ := DataW.trod_string Tryd.underlying9 t6
      obtain ⟨A7, k7, s7, h7, l7, g7, m7, w7⟩ := open_bytes t7
      injection h0 with h0 _
      injection h1 with h1 _
      injection h2 with h2 _
      injection h3 with h3 _
      injection h4 with h4 _
      injection h5 with h5 _
      injection h6 with h6 _
      subst h0 h1 h2 h3 h4 h5 h6 h7
      exact ⟨⟨s0, s1, s2, s3, s4, s5, s6, s7⟩, A7, k7, c0, c1, c2, c3, c4, c5, c6, c7, l7, g7, w0, w1, w2, w3, w4, w5, w6, m7, w7⟩
    obtain ⟨B, hB⟩ := choose_lt hx
    refine ⟨(List.range len).map B, by simp, by simpa using hl, by simp; omega, ⟨by simp, by simp; omega, fun _ => ⟨x, rfl, fun j p hj => ?_⟩⟩, ?_⟩
    · rw [List.getElem?_map] at hj
      obtain ⟨q, hq, rfl⟩ := Option.map_eq_some_iff.1 hj
      obtain ⟨hql, hqe⟩ := List.getElem?_eq_some_iff.1 hq
      rw [List.getElem_range] at hqe
      subst hqe
      rw [List.length_range] at hql
      obtain ⟨A7, k7, c0, c1, c2, c3, c4, c5, c6, c7, l7, g7, _⟩ := hB j hql
      refine ⟨_, rfl, k73_mk W (B j) l7 g7, fun i u hu => ?_⟩
      match i, hu with
      | 0, hu => injection hu with hu; subst hu; exact c0
      | 1, hu => injection hu with hu; subst hu; exact c1
      | 2, hu => injection hu with hu; subst hu; exact c2
      | 3, hu => injection hu with hu; subst hu; exact c3
      | 4, hu => injection hu with hu; subst hu; exact c4
      | 5, hu => injection hu with hu; subst hu; exact c5
      | 6, hu => injection hu with hu; subst hu; exact c6
      | 7, hu => injection hu with hu; subst hu; exact c7
    · intro y hy
      obtain ⟨q, hq, rfl⟩ := List.mem_map.1 hy
      obtain ⟨_, _, _, _, _, _, _, _, _, _, _, _, hg⟩ := hB q (List.mem_range.1 hq)
      exact hg
end
end Go.Proofs.YtfmfikodnpnblaaDoor.OpenE
