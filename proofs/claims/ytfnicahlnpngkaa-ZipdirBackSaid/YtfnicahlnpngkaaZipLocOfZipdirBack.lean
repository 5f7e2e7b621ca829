/- zipdir.Local, walked by hand. ZipdirBack: the printed namespace. -/
import Derived.Test.YtfnicahlnpngkaaZipGreatOfZipdirBack
import Derived.Test.YtfnicahlnpngkaaZipRdr
set_option linter.unusedVariables false
set_option linter.unusedSimpArgs false
namespace Go.Proofs.Ytfnicahlnpngkaa.ZipLocOfZipdirBack
open Go.RowKit Go.Proofs.YtfnicahlnpngkaaW.PrintWords Go.Proofs.YtfnicahlnpngkaaW.PrintLast Go.Proofs.YtfnicahlnpngkaaW.PrintMore Go.Proofs.Ytfnicahlnpngkaa.Base Go.Proofs.Ytfnicahlnpngkaa.NumRead Go.Proofs.Ytfnicahlnpngkaa.ExtraNum Go.Proofs.Ytfnicahlnpngkaa.ZipRd Go.Proofs.Ytfnicahlnpngkaa.ZipNums Go.Proofs.Ytfnicahlnpngkaa.ZipText Go.Proofs.Ytfnicahlnpngkaa.ZipCom Go.Proofs.Ytfnicahlnpngkaa.ZipRow Go.Proofs.Ytfnicahlnpngkaa.PZipdirBack Go.Proofs.Ytfnicahlnpngkaa.ExtraOfZipdirBack Go.Proofs.Ytfnicahlnpngkaa.ExtraBigOfZipdirBack Go.Proofs.Ytfnicahlnpngkaa.ZipGreatOfZipdirBack
/-- what great comes to. -/
def greatF (more : ByteArray) (vs : List Int) : Option (Option (List S38 × List Int)) :=
  match extra_Read.f more with
  | none => none
  | some (r1, e1) => if e1 = 0 then (if r1.length ≤ 1048576 then (match extra_Big.f r1 (wants vs) with | none => none | some (r2, e2) => some (if e2 = 0 then some (keepX r1, pick vs r2) else none)) else none) else some none
def GPost (M : Nat) (ms : Array Value) (offs : List Nat) (w : World) : Option (List S38 × List Int) → Ending → World → Prop
  | none => fun e w' => e = .returned (.bool false) ∧ Below w.heap.size w w'
  | some (xs, ps) => fun e w' => ∃ r1, xs = keepX r1 ∧ GreatPost M ms offs ps r1 w e w'
theorem great_all (M tb tc : Nat) (ms : Array Value) (more : ByteArray) (offs : List Nat) (vs : List Int) (g : Option (List S38 × List Int)) (w : World) (hM : w.heap[M]? = some (.cells ms 78 (0, 0))) (ht : w.heap[tb]? = some (.cells (offs.map fun o => Value.pointer (some ⟨M, o, none⟩)).toArray 110 (0, 0))) (htM : tb ≠ M)
    (hO : Offs ms offs vs) (hn : offs.length ≤ 1000) (h9 : ms[9]? = some (.slice none 0 0)) (hg : greatF more vs = some g) :
    Calls Try.prog 76 #[.pointer (some ⟨M, 0, none⟩), .string more, .slice (some ⟨tb, 0, none⟩) offs.length tc] w fun e w' => GPost M ms offs w g e w' := by
  unfold greatF at hg
  split at hg
  · cases hg
  · rename_i r1 e1 hr
    by_cases he : e1 = 0
    · subst he
      rw [if_pos rfl] at hg
      by_cases hl : r1.length ≤ 1048576
      · rw [if_pos hl] at hg
        split at hg
        · cases hg
        · rename_i r2 e2 hb
          injection hg with hg
          refine (great_ M tb tc ms more offs vs r1 w hM ht htM hO hn hr r2 e2 hb h9 hl).mono fun e w' h => ?_
          by_cases he2 : e2 = 0
          · rw [if_pos he2] at hg; subst hg; exact ⟨r1, rfl, h.1 he2⟩
          · rw [if_neg he2] at hg; subst hg; exact h.2 he2
      · rw [if_neg hl] at hg; cases hg
    · rw [if_neg he] at hg
      injection hg with hg
      subst hg
      exact (great_bad _ _ more r1 e1 w hr he).mono fun e w' h => h
/-- the three blocks: the result's, the reader's, the member's. -/
structure Loc (w W : World) (H R M : Nat) (A : Option Addr) (c : Nat) (l : List Int) (at_ : Int) (bad : Bool) (hs ms : Array Value) : Prop where
  h : W.heap[H]? = some (.cells hs 78 (0, 0))
  r : Rd W R A c l at_ bad
  m : W.heap[M]? = some (.cells ms 78 (0, 0))
  low : Below w.heap.size w W
  hH : w.heap.size ≤ H
  hR : w.heap.size ≤ R
  hM : w.heap.size ≤ M
  n1 : H ≠ R
  n2 : R ≠ M
  n3 : H ≠ M
theorem Loc.rd {w W W' : World} {H R M : Nat} {A : Option Addr} {c : Nat} {l : List Int} {at_ at2 : Int} {bad bad2 : Bool} {hs ms : Array Value} (h : Loc w W H R M A c l at_ bad hs ms) (hr : Rd W' R A c l at2 bad2) (hg : W.grownBy W' (some R)) : Loc w W' H R M A c l at2 bad2 hs ms :=
  ⟨(hg.block H (blk_lt h.h) (by intro e; injection e with e; exact h.n1 e)).trans h.h, hr, (hg.block M (blk_lt h.m) (by intro e; injection e with e; exact h.n2 e.symm)).trans h.m, below_of h.low hg h.hR, h.hH, h.hR, h.hM, h.n1, h.n2, h.n3⟩
theorem Loc.below {w W W' : World} {H R M : Nat} {A : Option Addr} {c : Nat} {l : List Int} {at_ : Int} {bad : Bool} {hs ms : Array Value} (h : Loc w W H R M A c l at_ bad hs ms) (hb : Below W.heap.size W W') : Loc w W' H R M A c l at_ bad hs ms :=
  ⟨blk_below h.h hb, blk_below h.r hb, blk_below h.m hb, below_then h.low h.low.size hb, h.hH, h.hR, h.hM, h.n1, h.n2, h.n3⟩
theorem Loc.set {w W : World} {H R M : Nat} {A : Option Addr} {c : Nat} {l : List Int} {at_ : Int} {bad : Bool} {hs ms : Array Value} (h : Loc w W H R M A c l at_ bad hs ms) (j : Nat) (u : Value) : Loc w (W.setCell ⟨M, j, none⟩ u) H R M A c l at_ bad hs (ms.setIfInBounds j u) :=
  ⟨(Below.heap_setCell _ _ _ _ (by exact h.n3)).trans h.h, (Below.heap_setCell _ _ _ _ (by exact h.n2)).trans h.r, blk_set h.m _ _, h.low.setCell (by exact h.hM) _, h.hH, h.hR, h.hM, h.n1, h.n2, h.n3⟩
theorem Loc.other {w W W' : World} {H R M : Nat} {A : Option Addr} {c : Nat} {l : List Int} {at_ : Int} {bad : Bool} {hs ms mk : Array Value} (h : Loc w W H R M A c l at_ bad hs ms) (hm : W'.heap[M]? = some (.cells mk 78 (0, 0))) (ho : ∀ g, g < W.heap.size → g ≠ M → W'.heap[g]? = W.heap[g]?) (hb : Below w.heap.size W W') : Loc w W' H R M A c l at_ bad hs mk :=
  ⟨(ho H (blk_lt h.h) h.n3).trans h.h, (ho R (blk_lt h.r) h.n2).trans h.r, hm, h.low.trans hb, h.hH, h.hR, h.hM, h.n1, h.n2, h.n3⟩
abbrev LocR := Int × Int × Int × Int × Int × Int × Int × Int × ByteArray × List S38 × ByteArray × Int × Int × Int × Int
def locZ : LocR := (0, 0, 0, 0, 0, 0, 0, 0, ⟨#[]⟩, [], ⟨#[]⟩, 0, 0, 0, 2)
def locEnd (mark a1 a2 a3 a4 a5 b1 b2 b3 : Int) (t1 : ByteArray) (t2 : ByteArray × Int × Bool) : Option LocR :=
  if t2.2.2 = true ∨ mark ≠ 67324752 then some locZ else match greatF t2.1 [b3, b2] with
    | none => none
    | some none => some locZ
    | some (some (xs, ps)) => some (0, a1, a2, a3, dateOf a5 a4, b1 % 4294967296, ps.getD 1 0, ps.getD 0 0, t1, xs, ⟨#[]⟩, 0, 0, t2.2.1, 0)
def locTail (l : List Int) (mark : Int) (at2 : Int) (bad2 : Bool) : List Int → List Int → List Int → Option LocR
  | [a1, a2, a3, a4, a5], [b1, b2, b3], [c1, c2] => locEnd mark a1 a2 a3 a4 a5 b1 b2 b3 (tx l at2 bad2 c1).1 (tx l (tx l at2 bad2 c1).2.1 (tx l at2 bad2 c1).2.2 c2)
  | _, _, _ => none
def locMid (l : List Int) (n0 : Int × Int × Bool) : Option LocR := locTail l n0.1 (s3 l n0.2.1 n0.2.2).2.1 (s3 l n0.2.1 n0.2.2).2.2 (s1 l n0.2.1 n0.2.2).1 (s2 l n0.2.1 n0.2.2).1 (s3 l n0.2.1 n0.2.2).1
def zipdir_Local.f (l : List Int) (a : Int) : Option LocR := if l.length ≤ 1000000 then locMid l (nx l a false 4) else none
/-- what a call of Local leaves. -/
def LocPost (w : World) (r : LocR) (e : Ending) (w' : World) : Prop :=
  ∃ v9, e = .returned (.tuple #[.agg #[.int .i64 r.1, .int .i64 r.2.1, .int .i64 r.2.2.1, .int .i64 r.2.2.2.1, .int .i64 r.2.2.2.2.1, .int .u32 r.2.2.2.2.2.1, .int .i64 r.2.2.2.2.2.2.1, .int .i64 r.2.2.2.2.2.2.2.1, .string r.2.2.2.2.2.2.2.2.1, v9, .string r.2.2.2.2.2.2.2.2.2.2.1, .int .u32 r.2.2.2.2.2.2.2.2.2.2.2.1, .int .i64 r.2.2.2.2.2.2.2.2.2.2.2.2.1], .int .i64 r.2.2.2.2.2.2.2.2.2.2.2.2.2.1, .int .i64 r.2.2.2.2.2.2.2.2.2.2.2.2.2.2]) ∧ Kd.R k38 38 w' w.heap.size (fun _ => True) v9 r.2.2.2.2.2.2.2.2.2.1 ∧ Below w.heap.size w w'
abbrev zs : Array Value := #[.int .i64 0, .int .i64 0, .int .i64 0, .int .i64 0, .int .i64 0, .int .u32 0, .int .i64 0, .int .i64 0, .string ⟨#[]⟩, .slice none 0 0, .string ⟨#[]⟩, .int .u32 0, .int .i64 0]
theorem loc0 (w W : World) (A : Option Addr) (c : Nat) (l : List Int) (a : Int) (hb : Below w.heap.size w W) :
    Loc w (((W.alloc (.cells zs 78)).alloc (.cells #[.slice A l.length c, .int .i64 a, .bool false] 108)).alloc (.cells zs 78)) W.heap.size (W.heap.size + 1) (W.heap.size + 1 + 1) A c l a false zs zs := by
  have hs := hb.size
  refine ⟨blk_alloc (blk_alloc (blk_new W _) _) _, blk_alloc (by simpa using blk_new (W.alloc (.cells zs 78)) (.cells #[.slice A l.length c, .int .i64 a, .bool false] 108)) _, ?_, below_alloc (below_alloc (below_alloc hb _) _) _, hs, by omega, by omega, by omega, by omega, by omega⟩
  simpa using blk_new ((W.alloc (.cells zs 78)).alloc (.cells #[.slice A l.length c, .int .i64 a, .bool false] 108)) (.cells zs 78)
theorem num_step (w W : World) (H R M : Nat) (A : Option Addr) (c : Nat) (l : List Int) (at_ : Int) (bad : Bool) (hs ms : Array Value) (n : Int) (st : Int × Int × Bool) (h : Loc w W H R M A c l at_ bad hs ms) (hC : Kd.C (Kd.int .u8) w A l.length l) (hc : l.length ≤ c) (hl : l.length ≤ 140737488355328) (hst : nx l at_ bad n = st) :
    Calls Try.prog 78 #[.pointer (some ⟨R, 0, none⟩), .int .i64 n] W fun e w' => e = .returned (.int .i64 st.1) ∧ Loc w w' H R M A c l st.2.1 st.2.2 hs ms := by
  subst hst
  exact (number_ R A c l at_ bad n W h.r (Kd.C_below hC h.low) hc hl).mono fun e w' hh => ⟨hh.1, h.rd hh.2.1 hh.2.2⟩
theorem text_step (w W : World) (H R M : Nat) (A : Option Addr) (c : Nat) (l : List Int) (at_ : Int) (bad : Bool) (hs ms : Array Value) (n : Int) (st : ByteArray × Int × Bool) (h : Loc w W H R M A c l at_ bad hs ms) (hC : Kd.C (Kd.int .u8) w A l.length l) (hc : l.length ≤ c) (hl : l.length ≤ 140737488355328) (ha : bad = false → 0 ≤ at_ ∧ at_ ≤ (l.length : Int)) (hn : 0 ≤ n ∧ n ≤ 4611686018427387904) (hst : tx l at_ bad n = st) :
    Calls Try.prog 75 #[.pointer (some ⟨R, 0, none⟩), .int .i64 n] W fun e w' => e = .returned (.string st.1) ∧ Loc w w' H R M A c l st.2.1 st.2.2 hs ms ∧ (st.2.2 = false → 0 ≤ st.2.1 ∧ st.2.1 ≤ (l.length : Int)) := by
  subst hst
  exact (text_ R A c l at_ bad n W h.r (Kd.C_below hC h.low) hc hl ha hn.1 hn.2).mono fun e w' hh => ⟨hh.1, h.rd hh.2.1 hh.2.2, tx_at hn.1 ha⟩
/-- what common leaves, in the form of Loc. -/
def ComR (w : World) (H R M : Nat) (A : Option Addr) (c : Nat) (l : List Int) (at_ : Int) (bad : Bool) (hs : Array Value) (m0 m8 m9 m10 m11 m12 : Value) (e : Ending) (w' : World) : Prop :=
  ∃ a1 a2 a3 a4 a5 b1 b2 b3 c1 c2, (s1 l at_ bad).1 = [a1, a2, a3, a4, a5] ∧ (s2 l at_ bad).1 = [b1, b2, b3] ∧ (s3 l at_ bad).1 = [c1, c2] ∧ e = .returned (.tuple #[.int .i64 c1, .int .i64 c2]) ∧ (0 ≤ c1 ∧ c1 ≤ 4611686018427387904) ∧ (0 ≤ c2 ∧ c2 ≤ 4611686018427387904) ∧ ((s3 l at_ bad).2.2 = false → 0 ≤ (s3 l at_ bad).2.1 ∧ (s3 l at_ bad).2.1 ≤ (l.length : Int)) ∧
    Loc w w' H R M A c l (s3 l at_ bad).2.1 (s3 l at_ bad).2.2 hs #[m0, .int .i64 a1, .int .i64 a2, .int .i64 a3, .int .i64 (dateOf a5 a4), .int .u32 (b1 % 4294967296), .int .i64 b2, .int .i64 b3, m8, m9, m10, m11, m12]
theorem com_step (w W : World) (H R M : Nat) (A : Option Addr) (c : Nat) (l : List Int) (at_ : Int) (bad : Bool) (hs : Array Value) (m0 m1 m2 m3 m4 m5 m6 m7 m8 m9 m10 m11 m12 : Value) (h : Loc w W H R M A c l at_ bad hs #[m0, m1, m2, m3, m4, m5, m6, m7, m8, m9, m10, m11, m12]) (hC : Kd.C (Kd.int .u8) w A l.length l) (hc : l.length ≤ c) (hl : l.length ≤ 140737488355328) :
    Calls Try.prog 74 #[.pointer (some ⟨R, 0, none⟩), .pointer (some ⟨M, 0, none⟩)] W fun e w' => ComR w H R M A c l at_ bad hs m0 m8 m9 m10 m11 m12 e w' := by
  refine (common_ w R M A c l at_ bad W m0 m1 m2 m3 m4 m5 m6 m7 m8 m9 m10 m11 m12 h.r hC hc hl h.low h.hR h.hM h.n2 h.m).mono ?_
  rintro e w' ⟨a1, a2, a3, a4, a5, b1, b2, b3, c1, c2, q1, q2, q3, rfl, hr, hm, hb, hsz, ho⟩
  have hv := nxi_val l (s2 l at_ bad).2.1 2 (s2 l at_ bad).2.2 2
  rw [show nxi l (s2 l at_ bad).2.1 (s2 l at_ bad).2.2 2 2 = s3 l at_ bad from rfl, q3] at hv
  exact ⟨a1, a2, a3, a4, a5, b1, b2, b3, c1, c2, q1, q2, q3, rfl, hv c1 (by simp), hv c2 (by simp), fun hb => nxi_at (i := 1) hb, ⟨(ho H (blk_lt h.h) h.n1 h.n3).trans h.h, hr, hm, hb, h.hH, h.hR, h.hM, h.n1, h.n2, h.n3⟩⟩
theorem z_cells {W : World} {G : Nat} (h : W.heap[G]? = some (.cells zs 78 (0, 0))) : W.cell? ⟨G, 0, none⟩ = some (.int .i64 0) ∧ W.cell? ⟨G, 1, none⟩ = some (.int .i64 0) ∧ W.cell? ⟨G, 2, none⟩ = some (.int .i64 0) ∧ W.cell? ⟨G, 3, none⟩ = some (.int .i64 0) ∧ W.cell? ⟨G, 4, none⟩ = some (.int .i64 0) ∧ W.cell? ⟨G, 5, none⟩ = some (.int .u32 0) ∧ W.cell? ⟨G, 6, none⟩ = some (.int .i64 0) ∧ W.cell? ⟨G, 7, none⟩ = some (.int .i64 0) ∧ W.cell? ⟨G, 8, none⟩ = some (.string ⟨#[]⟩) ∧ W.cell? ⟨G, 9, none⟩ = some (.slice none 0 0) ∧ W.cell? ⟨G, 10, none⟩ = some (.string ⟨#[]⟩) ∧ W.cell? ⟨G, 11, none⟩ = some (.int .u32 0) ∧ W.cell? ⟨G, 12, none⟩ = some (.int .i64 0) :=
  ⟨(blk_cell h 0).trans rfl, (blk_cell h 1).trans rfl, (blk_cell h 2).trans rfl, (blk_cell h 3).trans rfl, (blk_cell h 4).trans rfl, (blk_cell h 5).trans rfl, (blk_cell h 6).trans rfl, (blk_cell h 7).trans rfl, (blk_cell h 8).trans rfl, (blk_cell h 9).trans rfl, (blk_cell h 10).trans rfl, (blk_cell h 11).trans rfl, (blk_cell h 12).trans rfl⟩
theorem offs2 (m0 m1 m2 m3 m4 m5 m8 m9 m10 m11 m12 : Value) (p s : Int) : Offs #[m0, m1, m2, m3, m4, m5, .int .i64 p, .int .i64 s, m8, m9, m10, m11, m12] [7, 6] [s, p] := by
  refine ⟨rfl, fun i hi => ?_, fun i j hi hj => ?_, fun i hi => ?_⟩
  · match i, hi with
    | 0, _ => rfl
    | 1, _ => rfl
  · match i, j, hi, hj with
    | 0, 0, _, _ => simp
    | 0, 1, _, _ => simp
    | 1, 0, _, _ => simp
    | 1, 1, _, _ => simp
  · match i, hi with
    | 0, _ => decide
    | 1, _ => decide
theorem mk_eq2 {m0 m1 m2 m3 m4 m5 m6 m7 m8 m9 m10 m11 m12 s' p' v9 : Value} {mk : Array Value} (h7 : mk[7]? = some s') (h6 : mk[6]? = some p') (h9 : mk[9]? = some v9) (hr : ∀ j, j ≠ 9 → (∀ k, k < 2 → [7, 6].getD k 0 ≠ j) → mk[j]? = #[m0, m1, m2, m3, m4, m5, m6, m7, m8, m9, m10, m11, m12][j]?) : mk = #[m0, m1, m2, m3, m4, m5, p', s', m8, v9, m10, m11, m12] := by
  have hr' : ∀ j, j ≠ 9 → j ≠ 7 → j ≠ 6 → mk[j]? = #[m0, m1, m2, m3, m4, m5, m6, m7, m8, m9, m10, m11, m12][j]? := fun j a b c => hr j a (fun k hk => by
    match k, hk with
    | 0, _ => exact fun e => b e.symm
    | 1, _ => exact fun e => c e.symm)
  apply Array.ext_getElem?
  intro j
  rcases j with _ | _ | _ | _ | _ | _ | _ | _ | _ | _ | _ | _ | _ | j
  · exact (hr' 0 (by decide) (by decide) (by decide)).trans rfl
  · exact (hr' 1 (by decide) (by decide) (by decide)).trans rfl
  · exact (hr' 2 (by decide) (by decide) (by decide)).trans rfl
  · exact (hr' 3 (by decide) (by decide) (by decide)).trans rfl
  · exact (hr' 4 (by decide) (by decide) (by decide)).trans rfl
  · exact (hr' 5 (by decide) (by decide) (by decide)).trans rfl
  · exact h6.trans rfl
  · exact h7.trans rfl
  · exact (hr' 8 (by decide) (by decide) (by decide)).trans rfl
  · exact h9.trans rfl
  · exact (hr' 10 (by decide) (by decide) (by decide)).trans rfl
  · exact (hr' 11 (by decide) (by decide) (by decide)).trans rfl
  · exact (hr' 12 (by decide) (by decide) (by decide)).trans rfl
  · rw [hr' (j + 13) (by omega) (by omega) (by omega)]; simp
theorem Loc.res {w W : World} {H R M : Nat} {A : Option Addr} {c : Nat} {l : List Int} {at_ : Int} {bad : Bool} {hs ms : Array Value} (h : Loc w W H R M A c l at_ bad hs ms) (cs : Array Value) : (W.setRow H cs).heap[H]? = some (.cells cs 78 (0, 0)) ∧ Below w.heap.size w (W.setRow H cs) ∧ ∀ g, g ≠ H → (W.setRow H cs).heap[g]? = W.heap[g]? :=
  ⟨setRow_heap _ _ _ _ _ _ h.h, below_setRow h.low h.hH _, fun g hg => setRow_other _ _ _ _ hg⟩
theorem zs_one : zs.all (·.oneCell') = true := by simp [Value.oneCell']
theorem ms_one (m0 a1 a2 a3 d p s m12 u11 u5 : Int) (nm cm : ByteArray) (A : Option Addr) (n c : Nat) : (#[.int .i64 m0, .int .i64 a1, .int .i64 a2, .int .i64 a3, .int .i64 d, .int .u32 u5, .int .i64 p, .int .i64 s, .string nm, .slice A n c, .string cm, .int .u32 u11, .int .i64 m12] : Array Value).all (·.oneCell') = true := by simp [Value.oneCell']
/-- the result where it failed. -/
theorem loc_fail {w W : World} (h : Below w.heap.size w W) : LocPost w locZ (.returned (.tuple #[.agg zs, .int .i64 0, .int .i64 2])) W :=
  ⟨.slice none 0 0, rfl, Kd.R_nil _ _ _ _ _, h⟩
set_option maxHeartbeats 8000000 in
set_option maxRecDepth 100000 in
theorem local_ (A : Option Addr) (c : Nat) (l : List Int) (a : Int) (r : LocR) (w : World) (hC : Kd.C (Kd.int .u8) w A l.length l) (hc : l.length ≤ c) (h : zipdir_Local.f l a = some r) :
    Calls Try.prog 53 #[.slice A l.length c, .int .i64 a] w fun e w' => LocPost w r e w' := by
  have hu78 := Try.underlying78
  have HU := Aside0.mk hu78
  clear hu78
  unfold zipdir_Local.f at h
  by_cases hl : l.length ≤ 1000000
  · rw [if_pos hl] at h
    have hl2 : l.length ≤ 140737488355328 := by omega
    obtain ⟨⟨mark, at1, bad1⟩, hn0⟩ : ∃ n0, nx l a false 4 = n0 := ⟨_, rfl⟩
    rw [hn0] at h
    unfold locMid at h
    simp only at h
    have L0 := Aside0.mk (loc0 w w A c l a (Below.refl _ _))
    have HH := Aside0.mk h
    have HN0 := Aside0.mk hn0
    have HC := Aside0.mk hC
    clear h hn0 hC
    go_enter Try.func53, Try.ntmps53
    go_wp2_with (first | (go_at_call 78; (refine (num_step w _ _ _ _ A c l a false _ _ 4 _ L0.out HC.out hc hl2 HN0.out).mono ?_); rintro e w1 ⟨rfl, hL⟩; have L1 := Aside0.mk hL; clear hL L0) | (go_at_call 74; (refine (com_step w _ _ _ _ A c l at1 bad1 _ _ _ _ _ _ _ _ _ _ _ _ _ _ L1.out HC.out hc hl2).mono ?_); rintro e w2 ⟨a1, a2, a3, a4, a5, b1, b2, b3, c1, c2, q1, q2, q3, rfl, v1, v2, hp, hL⟩; have L2 := Aside0.mk hL; have HP := Aside0.mk hp; have Q1 := Aside0.mk q1; have Q2 := Aside0.mk q2; have Q3 := Aside0.mk q3; have V1 := Aside0.mk v1; have V2 := Aside0.mk v2; clear hL L1 hp q1 q2 q3 v1 v2))
    have hh := HH.out
    have hP := HP.out
    rw [Q1.out, Q2.out, Q3.out] at hh
    obtain ⟨⟨x3, at2, bad2⟩, hs3⟩ : ∃ s, s3 l at1 bad1 = s := ⟨_, rfl⟩
    have HL2 := L2.out
    rw [hs3] at hh hP HL2
    simp only [locTail] at hh
    obtain ⟨⟨nm, at3, bad3⟩, ht1⟩ : ∃ t, tx l at2 bad2 c1 = t := ⟨_, rfl⟩
    rw [ht1] at hh
    simp only at hh hP HL2
    obtain ⟨⟨fl, at4, bad4⟩, ht2⟩ : ∃ t, tx l at3 bad3 c2 = t := ⟨_, rfl⟩
    rw [ht2] at hh
    have T1 := Aside0.mk (text_step w w2 _ _ _ A c l at2 bad2 _ _ c1 _ HL2 HC.out hc hl2 hP V1.out ht1)
    have T2 := Aside0.mk ht2
    have H3 := Aside0.mk hh
    clear HH HP Q1 Q2 Q3 hh hP HL2 hs3 ht1 ht2 L2 HN0
    refine (T1.out).mono ?_
    rintro e w3 ⟨rfl, hL, hp⟩
    have k0 := (blk_cell hL.m 8).trans (rfl : _ = some (Value.string ⟨#[]⟩))
    have k1 := blk_frozen hL.m 8
    have L3 := Aside0.mk (hL.set 8 (.string nm))
    have HP := Aside0.mk hp
    clear hL hp T1
    have T3 := Aside0.mk (text_step w _ _ _ _ A c l at3 bad3 _ _ c2 _ L3.out HC.out hc hl2 HP.out V2.out T2.out)
    clear L3 HP T2
    cases bad4 with
    | true =>
      go_wp2_with (first | (go_at_call 75; (refine (T3.out).mono ?_); rintro e w4 ⟨rfl, hL, hp⟩; have L4 := Aside0.mk hL; clear hp; have hb4 := (blk_cell hL.r 2).trans (rfl : _ = some (Value.bool true)); clear hL) | ((with_reducible refine gate_store (t := 78) (p := 4) rfl ?_); refine wpList_store_row rfl 78 (.tmp 4) (.tmp 47) rfl w.heap.size zs rfl rfl 78 zs L4.out.h (by kernel_rfl) rfl zs_one ?_))
      obtain ⟨f1, f2, _⟩ := L4.out.res zs
      refine bodyPost_ret (results_ctt rfl _ _ w.heap.size 78 zs (0, 0) _ rfl f1 HU.out rfl (by kernel_rfl)) rfl ?_
      have hh := H3.out
      rw [locEnd, if_pos (.inl rfl)] at hh
      injection hh with hh
      rw [← hh]
      exact loc_fail f2
    | false =>
      by_cases hmk : mark = 67324752
      · have b0 : (mark != 67324752) = false := by simp [hmk]
        have hh := H3.out
        rw [locEnd, if_neg (by simp [hmk])] at hh
        have H4 := Aside0.mk hh
        cases hg : greatF fl [b3, b2] with
        | none => rw [hg] at hh; cases hh
        | some g =>
          rw [hg] at hh
          have HG := Aside0.mk hg
          have H4 := Aside0.mk hh
          have hu110 : True := trivial
          clear hg hh hmk H3
          go_wp2_with (fail)
          refine (T3.out).mono ?_
          rintro e w4 ⟨rfl, hL, hp⟩
          have hb4 := (blk_cell hL.r 2).trans (rfl : _ = some (Value.bool false))
          have GR := Aside0.mk (great_all (w.heap.size + 1 + 1) w4.heap.size 2 _ fl [7, 6] [b3, b2] g (w4.alloc (.cells #[.pointer (some ⟨w.heap.size + 1 + 1, 7, none⟩), .pointer (some ⟨w.heap.size + 1 + 1, 6, none⟩)] 110)) (hL.below (below_alloc (Below.refl _ _) _)).m (blk_new w4 _) (by have := blk_lt hL.m; omega) (offs2 _ _ _ _ _ _ _ _ _ _ _ _ _) (by simp) rfl HG.out)
          have L4 := Aside0.mk hL
          clear hL hp T3
          cases g with
          | none =>
            go_wp2_with (first | (go_at_call 76; (refine (GR.out).mono ?_); rintro e w5 ⟨rfl, hb⟩; have L5 := Aside0.mk ((L4.out.below (below_alloc (Below.refl _ _) _)).below hb); clear hb) | ((with_reducible refine gate_store (t := 78) (p := 4) rfl ?_); refine wpList_store_row rfl 78 (.tmp 4) (.tmp 47) rfl w.heap.size zs rfl rfl 78 zs L5.out.h (by kernel_rfl) rfl zs_one ?_))
            obtain ⟨f1, f2, _⟩ := L5.out.res zs
            refine bodyPost_ret (results_ctt rfl _ _ w.heap.size 78 zs (0, 0) _ rfl f1 HU.out rfl (by kernel_rfl)) rfl ?_
            have hh := H4.out
            injection hh with hh
            rw [← hh]
            exact loc_fail f2
          | some xp =>
            obtain ⟨xs, ps⟩ := xp
            go_wp2_with (go_at_call 76; (refine (GR.out).mono ?_); rintro e w5 ⟨r1, hx1, mk, v9, rfl, hm, hof, hrest, h9, hR, hsz, ho, hlow⟩; have HQ := Aside0.mk (And.intro hx1 (And.intro hm (And.intro hof (And.intro hrest (And.intro h9 (And.intro hR (And.intro hsz (And.intro ho hlow)))))))); clear hx1 hm hof hrest h9 hR hsz ho hlow)
            obtain ⟨hx1, hm, hof, hrest, h9, hR, hsz, ho, hlow⟩ := HQ.out
            have h7 := hof 0 (by simp)
            have h6 := hof 1 (by simp)
            have hmk := mk_eq2 h7 h6 h9 hrest
            subst hmk
            obtain ⟨A9, c9, e9⟩ := Kd.R_slice hR
            subst e9
            have hL5 := (L4.out.below (below_alloc (Below.refl _ _) (.cells #[.pointer (some ⟨w.heap.size + 1 + 1, 7, none⟩), .pointer (some ⟨w.heap.size + 1 + 1, 6, none⟩)] 110))).other hm ho (by have := hlow w.heap.size (by omega); exact this)
            have L5 := Aside0.mk hL5
            have HR5 := Aside0.mk hR
            have HS5 := Aside0.mk hsz
            have H5 := Aside0.mk (And.intro hx1 H4.out)
            have hS : (fun W : World => W.heap[w.heap.size + 1 + 1]? = w5.heap[w.heap.size + 1 + 1]? ∧ W.heap[w.heap.size + 1]? = some (.cells #[.slice A l.length c, .int .i64 at4, .bool false] 108 (0, 0))) w5.drew := ⟨rfl, hL5.r⟩
            have HM5 := Aside0.mk hm
            clear HQ hx1 hm hof hrest h9 hR hsz ho hlow h7 h6 hL5 GR H4
            refine start_ (n := 8) (S := (fun W : World => W.heap[w.heap.size + 1 + 1]? = w5.heap[w.heap.size + 1 + 1]? ∧ W.heap[w.heap.size + 1]? = some (.cells #[.slice A l.length c, .int .i64 at4, .bool false] 108 (0, 0)))) (ds := []) #[false, false, false, false, false, false, false, false] (by kernel_rfl) rfl rfl hS (fun hHeld => ?_)
            refine pure_ (i := 1) (N := (some 49)) (v := ?_) (a' := ?_) #[false, true, false, false, false, false, false, false] rfl rfl (by kernel_rfl) (fun _ _ _ h => h) (Or.inl ⟨by rfl, ?_⟩) ?_ ?_
            rotate_left
            · intro w'
              go_simp
              with_reducible rfl
            rotate_left
            · simp only [Act.put, List.setIfInBounds_toArray, List.set_cons_zero, List.set_cons_succ, i64_w, i32_w]
              rfl
            refine pure_ (i := 2) (N := (some 50)) (v := ?_) (a' := ?_) #[false, true, true, false, false, false, false, false] rfl rfl (by kernel_rfl) (fun _ _ _ h => h) (Or.inl ⟨by rfl, ?_⟩) ?_ ?_
            rotate_left
            · intro w'
              go_simp
              with_reducible rfl
            rotate_left
            · simp only [Act.put, List.setIfInBounds_toArray, List.set_cons_zero, List.set_cons_succ, i64_w, i32_w]
              rfl
            refine pure_ (i := 3) (N := (some 51)) (v := ?_) (a' := ?_) #[false, true, true, true, false, false, false, false] rfl rfl (by kernel_rfl) (fun _ _ _ h => h) (Or.inl ⟨by rfl, ?_⟩) ?_ ?_
            rotate_left
            · intro w'
              go_simp
              with_reducible rfl
            rotate_left
            · simp only [Act.put, List.setIfInBounds_toArray, List.set_cons_zero, List.set_cons_succ, i64_w, i32_w]
              rfl
            refine take_ (i := 4) (N := (some 52)) (v := ?_) (a' := ?_) #[false, true, true, true, true, false, false, false] rfl rfl (by kernel_rfl) (fun _ _ _ h => h) (Or.inl ⟨by rfl, ?_⟩) hHeld ?_ ?_
            rotate_left
            · intro w' hS'
              obtain ⟨q2, q3⟩ := hS'
              have q4 := (blk_cell q3 1).trans (rfl : _ = some (Value.int .i64 at4))
              go_simp
              with_reducible rfl
            rotate_left
            · simp only [Act.put, List.setIfInBounds_toArray, List.set_cons_zero, List.set_cons_succ, i64_w, i32_w]
              rfl
            refine take_ (i := 0) (N := (some 48)) (v := ?_) (a' := ?_) #[true, true, true, true, true, false, false, false] rfl rfl (by kernel_rfl) (fun _ _ _ h => h) (Or.inl ⟨by rfl, ?_⟩) hHeld ?_ ?_
            rotate_left
            · intro w' hS'
              obtain ⟨q2, q3⟩ := hS'
              refine exec_load_row 78 (.tmp 8) (w.heap.size + 1 + 1) 78 _ _ ?_ ?_ (q2.trans HM5.out) HU.out (by kernel_rfl) <;> rfl
            rotate_left
            · simp only [Act.put, List.setIfInBounds_toArray, List.set_cons_zero, List.set_cons_succ, i64_w, i32_w]
              rfl
            refine one_ (i := 5) (N := none) #[true, true, true, true, true, true, false, false] rfl rfl (by kernel_rfl) (by decide) (fun K hK => ?_)
            refine skip_ (by rfl) rfl (exec_store_row 78 (.tmp 4) (.tmp 48) w.heap.size 78 zs #[.int .i64 0, .int .i64 a1, .int .i64 a2, .int .i64 a3, .int .i64 (dateOf a5 a4), .int .u32 (b1 % 4294967296), .int .i64 (ps.getD 1 0), .int .i64 (ps.getD 0 0), .string nm, .slice A9 (keepX r1).length c9, .string ⟨#[]⟩, .int .u32 0, .int .i64 0] rfl rfl rfl (blk_drew L5.out.h) (by kernel_rfl) rfl (ms_one _ _ _ _ _ _ _ _ _ _ _ _ _ _ _)) ?_
            refine hK.out _ _ ⟨(setRow_other _ _ _ _ (by omega)).trans hHeld.1, (setRow_other _ _ _ _ (by omega)).trans hHeld.2⟩ (fun hHeld => ?_)
            clear hK K
            refine pure_ (i := 6) (N := (some 5)) (v := ?_) (a' := ?_) #[true, true, true, true, true, true, true, false] rfl rfl (by kernel_rfl) (fun _ _ _ h => h) (Or.inl ⟨by rfl, ?_⟩) ?_ ?_
            rotate_left
            · intro w'
              go_simp
              with_reducible rfl
            rotate_left
            · simp only [Act.put, List.setIfInBounds_toArray, List.set_cons_zero, List.set_cons_succ, i64_w, i32_w]
              rfl
            refine pure_ (i := 7) (N := (some 6)) (v := ?_) (a' := ?_) #[true, true, true, true, true, true, true, true] rfl rfl (by kernel_rfl) (fun _ _ _ h => h) (Or.inl ⟨by rfl, ?_⟩) ?_ ?_
            rotate_left
            · intro w'
              go_simp
              with_reducible rfl
            rotate_left
            · simp only [Act.put, List.setIfInBounds_toArray, List.set_cons_zero, List.set_cons_succ, i64_w, i32_w]
              rfl
            refine done_ (by kernel_rfl) ?_
            have hh := H5.out.2
            have hx := H5.out.1
            injection hh with hh
            have L5d := L5.out.below (below_drew (Below.refl _ _))
            obtain ⟨f1, f2, f3⟩ := L5d.res #[.int .i64 0, .int .i64 a1, .int .i64 a2, .int .i64 a3, .int .i64 (dateOf a5 a4), .int .u32 (b1 % 4294967296), .int .i64 (ps.getD 1 0), .int .i64 (ps.getD 0 0), .string nm, .slice A9 (keepX r1).length c9, .string ⟨#[]⟩, .int .u32 0, .int .i64 0]
            go_wp2
            refine bodyPost_ret (results_ctt rfl _ _ w.heap.size 78 _ (0, 0) _ rfl f1 HU.out rfl (by kernel_rfl)) rfl ?_
            rw [← hh]
            refine ⟨_, rfl, ?_, f2⟩
            rw [hx]
            exact R_row2 L5d.h (Kd.R_drew HR5.out) (by have := blk_lt L4.out.m; simp; omega) (by have := blk_lt L4.out.m; simp; omega)
      · have b0 : (mark != 67324752) = true := by simp [hmk]
        go_wp2_with (first | (go_at_call 75; (refine (T3.out).mono ?_); rintro e w4 ⟨rfl, hL, hp⟩; have L4 := Aside0.mk hL; clear hp; have hb4 := (blk_cell hL.r 2).trans (rfl : _ = some (Value.bool false)); clear hL) | ((with_reducible refine gate_store (t := 78) (p := 4) rfl ?_); refine wpList_store_row rfl 78 (.tmp 4) (.tmp 47) rfl w.heap.size zs rfl rfl 78 zs L4.out.h (by kernel_rfl) rfl zs_one ?_))
        obtain ⟨f1, f2, _⟩ := L4.out.res zs
        refine bodyPost_ret (results_ctt rfl _ _ w.heap.size 78 zs (0, 0) _ rfl f1 HU.out rfl (by kernel_rfl)) rfl ?_
        have hh := H3.out
        rw [locEnd, if_pos (.inr hmk)] at hh
        injection hh with hh
        rw [← hh]
        exact loc_fail f2
  · rw [if_neg hl] at h; cases h
theorem zipdir_Local.calls (A : Option Addr) (c : Nat) (l : List Int) (a : Int) (r1 r2 r3 r4 r5 r6 r7 r8 : Int) (r9 : ByteArray) (r10 : List S38) (r11 : ByteArray) (r12 r13 r14 r15 : Int) (w : World) (hC : Kd.C (Kd.int .u8) w A l.length l) (hc : l.length ≤ c) (h : zipdir_Local.f l a = some (r1, r2, r3, r4, r5, r6, r7, r8, r9, r10, r11, r12, r13, r14, r15)) :
    Calls Try.prog 53 #[.slice A l.length c, .int .i64 a] w fun e w' => ∃ v0_ : Value, e = .returned (.tuple #[.agg #[.int .i64 r1, .int .i64 r2, .int .i64 r3, .int .i64 r4, .int .i64 r5, .int .u32 r6, .int .i64 r7, .int .i64 r8, .string r9, v0_, .string r11, .int .u32 r12, .int .i64 r13], .int .i64 r14, .int .i64 r15]) ∧ Kd.R k38 38 w' w.heap.size (fun _ => True) v0_ r10 ∧ Below w.heap.size w w' :=
  (local_ A c l a _ w hC hc h).mono fun e w' hh => hh
end Go.Proofs.Ytfnicahlnpngkaa.ZipLocOfZipdirBack
