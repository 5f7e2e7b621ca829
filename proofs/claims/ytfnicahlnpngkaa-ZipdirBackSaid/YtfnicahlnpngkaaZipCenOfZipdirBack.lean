/- zipdir.Central, walked by hand. ZipdirBack: the printed namespace. -/
import Derived.Test.YtfnicahlnpngkaaZipLocOfZipdirBack
set_option linter.unusedVariables false
set_option linter.unusedSimpArgs false
namespace Go.Proofs.Ytfnicahlnpngkaa.ZipCenOfZipdirBack
open Go.RowKit Go.Proofs.YtfnicahlnpngkaaW.PrintWords Go.Proofs.YtfnicahlnpngkaaW.PrintLast Go.Proofs.YtfnicahlnpngkaaW.PrintMore Go.Proofs.Ytfnicahlnpngkaa.Base Go.Proofs.Ytfnicahlnpngkaa.NumRead Go.Proofs.Ytfnicahlnpngkaa.ExtraNum Go.Proofs.Ytfnicahlnpngkaa.ZipRd Go.Proofs.Ytfnicahlnpngkaa.ZipNums Go.Proofs.Ytfnicahlnpngkaa.ZipText Go.Proofs.Ytfnicahlnpngkaa.ZipCom Go.Proofs.Ytfnicahlnpngkaa.ZipRow Go.Proofs.Ytfnicahlnpngkaa.PZipdirBack Go.Proofs.Ytfnicahlnpngkaa.ExtraOfZipdirBack Go.Proofs.Ytfnicahlnpngkaa.ExtraBigOfZipdirBack Go.Proofs.Ytfnicahlnpngkaa.ZipGreatOfZipdirBack Go.Proofs.Ytfnicahlnpngkaa.ZipLocOfZipdirBack
/-- the blocks: Local's three and five numbers (mark, comment, disk, inner, attr). -/
structure Ce (w W : World) (n : Nat) (A : Option Addr) (c : Nat) (l : List Int) (at_ : Int) (bad : Bool) (ms : Array Value) (x1 x2 x3 x4 x5 : Int) : Prop where
  loc : ZipLocOfZipdirBack.Loc w W n (n + 1) (n + 1 + 1) A c l at_ bad zs ms
  k1 : W.heap[n + 1 + 1 + 1]? = some (.cells #[.int .i64 x1] 3 (0, 0))
  k2 : W.heap[n + 1 + 1 + 1 + 1]? = some (.cells #[.int .i64 x2] 3 (0, 0))
  k3 : W.heap[n + 1 + 1 + 1 + 1 + 1]? = some (.cells #[.int .i64 x3] 3 (0, 0))
  k4 : W.heap[n + 1 + 1 + 1 + 1 + 1 + 1]? = some (.cells #[.int .i64 x4] 3 (0, 0))
  k5 : W.heap[n + 1 + 1 + 1 + 1 + 1 + 1 + 1]? = some (.cells #[.int .i64 x5] 3 (0, 0))
theorem sz_ {w1 : World} {o : Obj} {k : Nat} (h : w1.heap.size = k) : (w1.alloc o).heap.size = k + 1 := by simp [h]
theorem new_ {w1 : World} {o : Obj} {k : Nat} (h : w1.heap.size = k) : (w1.alloc o).heap[k]? = some o := by subst h; exact blk_new _ _
theorem ce0 (w : World) (A : Option Addr) (c : Nat) (l : List Int) (a : Int) :
    Ce w ((((((((w.alloc (.cells zs 78)).alloc (.cells #[.slice A l.length c, .int .i64 a, .bool false] 108)).alloc (.cells zs 78)).alloc (.cells #[.int .i64 0] 3)).alloc (.cells #[.int .i64 0] 3)).alloc (.cells #[.int .i64 0] 3)).alloc (.cells #[.int .i64 0] 3)).alloc (.cells #[.int .i64 0] 3)) w.heap.size A c l a false zs 0 0 0 0 0 := by
  have L := loc0 w w A c l a (Below.refl _ _)
  obtain ⟨W3, e3⟩ : ∃ W3, (((w.alloc (.cells zs 78)).alloc (.cells #[.slice A l.length c, .int .i64 a, .bool false] 108)).alloc (.cells zs 78)) = W3 := ⟨_, rfl⟩
  have s3 : W3.heap.size = w.heap.size + 1 + 1 + 1 := by rw [← e3]; simp
  rw [e3] at L ⊢
  have s4 := sz_ (o := .cells #[.int .i64 0] 3) s3
  have s5 := sz_ (o := .cells #[.int .i64 0] 3) s4
  have s6 := sz_ (o := .cells #[.int .i64 0] 3) s5
  have s7 := sz_ (o := .cells #[.int .i64 0] 3) s6
  exact ⟨ZipLocOfZipdirBack.Loc.below L (below_alloc (below_alloc (below_alloc (below_alloc (below_alloc (Below.refl _ _) _) _) _) _) _), blk_alloc (blk_alloc (blk_alloc (blk_alloc (new_ s3) _) _) _) _, blk_alloc (blk_alloc (blk_alloc (new_ s4) _) _) _, blk_alloc (blk_alloc (new_ s5) _) _, blk_alloc (new_ s6) _, new_ s7⟩
theorem Ce.below {w W W' : World} {n : Nat} {A : Option Addr} {c : Nat} {l : List Int} {at_ : Int} {bad : Bool} {ms : Array Value} {x1 x2 x3 x4 x5 : Int} (h : Ce w W n A c l at_ bad ms x1 x2 x3 x4 x5) (hb : Below W.heap.size W W') : Ce w W' n A c l at_ bad ms x1 x2 x3 x4 x5 :=
  ⟨h.loc.below hb, blk_below h.k1 hb, blk_below h.k2 hb, blk_below h.k3 hb, blk_below h.k4 hb, blk_below h.k5 hb⟩
/-- the five numbers are as they were. -/
theorem Ce.other {w W W' : World} {n : Nat} {A : Option Addr} {c : Nat} {l : List Int} {at_ at2 : Int} {bad bad2 : Bool} {ms ms2 : Array Value} {x1 x2 x3 x4 x5 : Int} (h : Ce w W n A c l at_ bad ms x1 x2 x3 x4 x5) (hl : ZipLocOfZipdirBack.Loc w W' n (n + 1) (n + 1 + 1) A c l at2 bad2 zs ms2) (ho : ∀ g, g < W.heap.size → n + 1 + 1 < g → W'.heap[g]? = W.heap[g]?) : Ce w W' n A c l at2 bad2 ms2 x1 x2 x3 x4 x5 :=
  ⟨hl, (ho _ (blk_lt h.k1) (by omega)).trans h.k1, (ho _ (blk_lt h.k2) (by omega)).trans h.k2, (ho _ (blk_lt h.k3) (by omega)).trans h.k3, (ho _ (blk_lt h.k4) (by omega)).trans h.k4, (ho _ (blk_lt h.k5) (by omega)).trans h.k5⟩
theorem Ce.set {w W : World} {n : Nat} {A : Option Addr} {c : Nat} {l : List Int} {at_ : Int} {bad : Bool} {ms : Array Value} {x1 x2 x3 x4 x5 : Int} (h : Ce w W n A c l at_ bad ms x1 x2 x3 x4 x5) (j : Nat) (u : Value) : Ce w (W.setCell ⟨n + 1 + 1, j, none⟩ u) n A c l at_ bad (ms.setIfInBounds j u) x1 x2 x3 x4 x5 :=
  h.other (h.loc.set j u) (fun g _ hg => Below.heap_setCell _ _ _ _ (by show g ≠ n + 1 + 1; omega))
theorem ce_text (w W : World) (n : Nat) (A : Option Addr) (c : Nat) (l : List Int) (at_ : Int) (bad : Bool) (ms : Array Value) (x1 x2 x3 x4 x5 : Int) (m : Int) (st : ByteArray × Int × Bool) (h : Ce w W n A c l at_ bad ms x1 x2 x3 x4 x5) (hC : Kd.C (Kd.int .u8) w A l.length l) (hc : l.length ≤ c) (hl : l.length ≤ 140737488355328) (ha : bad = false → 0 ≤ at_ ∧ at_ ≤ (l.length : Int)) (hm : 0 ≤ m ∧ m ≤ 4611686018427387904) (hst : tx l at_ bad m = st) :
    Calls Try.prog 75 #[.pointer (some ⟨n + 1, 0, none⟩), .int .i64 m] W fun e w' => e = .returned (.string st.1) ∧ Ce w w' n A c l st.2.1 st.2.2 ms x1 x2 x3 x4 x5 ∧ (st.2.2 = false → 0 ≤ st.2.1 ∧ st.2.1 ≤ (l.length : Int)) := by
  subst hst
  exact (text_ (n + 1) A c l at_ bad m W h.loc.r (Kd.C_below hC h.loc.low) hc hl ha hm.1 hm.2).mono fun e w' hh => ⟨hh.1, h.other (h.loc.rd hh.2.1 hh.2.2) (fun g hg hn => hh.2.2.block g hg (by intro e; injection e with e; omega)), tx_at hm.1 ha⟩
def CeCom (w : World) (n : Nat) (A : Option Addr) (c : Nat) (l : List Int) (at_ : Int) (bad : Bool) (m0 m8 m9 m10 m11 m12 : Value) (x1 x2 x3 x4 x5 : Int) (e : Ending) (w' : World) : Prop :=
  ∃ a1 a2 a3 a4 a5 b1 b2 b3 c1 c2, (s1 l at_ bad).1 = [a1, a2, a3, a4, a5] ∧ (s2 l at_ bad).1 = [b1, b2, b3] ∧ (s3 l at_ bad).1 = [c1, c2] ∧ e = .returned (.tuple #[.int .i64 c1, .int .i64 c2]) ∧ (0 ≤ c1 ∧ c1 ≤ 4611686018427387904) ∧ (0 ≤ c2 ∧ c2 ≤ 4611686018427387904) ∧
    Ce w w' n A c l (s3 l at_ bad).2.1 (s3 l at_ bad).2.2 #[m0, .int .i64 a1, .int .i64 a2, .int .i64 a3, .int .i64 (dateOf a5 a4), .int .u32 (b1 % 4294967296), .int .i64 b2, .int .i64 b3, m8, m9, m10, m11, m12] x1 x2 x3 x4 x5
theorem ce_com (w W : World) (n : Nat) (A : Option Addr) (c : Nat) (l : List Int) (at_ : Int) (bad : Bool) (m0 m1 m2 m3 m4 m5 m6 m7 m8 m9 m10 m11 m12 : Value) (x1 x2 x3 x4 x5 : Int) (h : Ce w W n A c l at_ bad #[m0, m1, m2, m3, m4, m5, m6, m7, m8, m9, m10, m11, m12] x1 x2 x3 x4 x5) (hC : Kd.C (Kd.int .u8) w A l.length l) (hc : l.length ≤ c) (hl : l.length ≤ 140737488355328) :
    Calls Try.prog 74 #[.pointer (some ⟨n + 1, 0, none⟩), .pointer (some ⟨n + 1 + 1, 0, none⟩)] W fun e w' => CeCom w n A c l at_ bad m0 m8 m9 m10 m11 m12 x1 x2 x3 x4 x5 e w' := by
  refine (common_ w (n + 1) (n + 1 + 1) A c l at_ bad W m0 m1 m2 m3 m4 m5 m6 m7 m8 m9 m10 m11 m12 h.loc.r hC hc hl h.loc.low h.loc.hR h.loc.hM h.loc.n2 h.loc.m).mono ?_
  rintro e w' ⟨a1, a2, a3, a4, a5, b1, b2, b3, c1, c2, q1, q2, q3, rfl, hr, hm, hb, hsz, ho⟩
  have hv := nxi_val l (s2 l at_ bad).2.1 2 (s2 l at_ bad).2.2 2
  rw [show nxi l (s2 l at_ bad).2.1 (s2 l at_ bad).2.2 2 2 = s3 l at_ bad from rfl, q3] at hv
  exact ⟨a1, a2, a3, a4, a5, b1, b2, b3, c1, c2, q1, q2, q3, rfl, hv c1 (by simp), hv c2 (by simp), h.other ⟨(ho n (blk_lt h.loc.h) h.loc.n1 h.loc.n3).trans h.loc.h, hr, hm, hb, h.loc.hH, h.loc.hR, h.loc.hM, h.loc.n1, h.loc.n2, h.loc.n3⟩ (fun g hg hn => ho g hg (by omega) (by omega))⟩
theorem lone_ {vs : List Int} (h : vs.length = 1) : ∃ a, vs = [a] := by
  match vs, h with
  | [a], _ => exact ⟨a, rfl⟩
/-- numbers read into some blocks: all others are as they were. -/
theorem nums_far {w W w' : World} {R : Nat} {A : Option Addr} {c : Nat} {l : List Int} {ps : List Addr} {st : List Int × Int × Bool} {o2 : Obj} (hn : Nums w (W.alloc o2) w' R A c l ps st) {g : Nat} {o : Obj} (hg : W.heap[g]? = some o) (hR : g ≠ R) (hp : ∀ p ∈ ps, p.block ≠ g) : w'.heap[g]? = some o := Nums.far hn (blk_alloc hg _) hR hp
theorem ce_mark (w W : World) (n : Nat) (A : Option Addr) (c : Nat) (l : List Int) (at_ : Int) (bad : Bool) (ms : Array Value) (x1 x2 x3 x4 x5 : Int) (st : List Int × Int × Bool) (tb : Nat) (htb : tb = W.heap.size) (h : Ce w W n A c l at_ bad ms x1 x2 x3 x4 x5) (hC : Kd.C (Kd.int .u8) w A l.length l) (hc : l.length ≤ c) (hl : l.length ≤ 140737488355328) (hst : nxi l at_ bad 4 1 = st) :
    Calls Try.prog 67 #[.pointer (some ⟨n + 1, 0, none⟩), .int .i64 4, .slice (some ⟨tb, 0, none⟩) 1 1] (W.alloc (.cells #[.pointer (some ⟨n + 1 + 1 + 1, 0, none⟩)] 110)) fun e w' => ∃ a, st.1 = [a] ∧ e = .returned (.tuple #[]) ∧ Ce w w' n A c l st.2.1 st.2.2 ms a x2 x3 x4 x5 := by
  subst hst htb
  have k0 := blk_lt h.k5
  have k1 := h.loc.hH
  refine (numbers_ w (n + 1) A c l at_ bad 4 [⟨n + 1 + 1 + 1, 0, none⟩] W.heap.size 1 _ (blk_alloc h.loc.r _) hC hc hl (below_alloc h.loc.low _) h.loc.hR (blk_new W _) (by omega) ?_ (by simp)).mono ?_
  · intro p hp
    simp only [List.mem_cons, List.not_mem_nil, or_false] at hp
    subst hp
    exact ⟨by show _ ≤ n + 1 + 1 + 1; omega, by show n + 1 + 1 + 1 ≠ n + 1; omega, by show n + 1 + 1 + 1 ≠ _; omega, rfl, _, _, blk_alloc h.k1 _, by show 0 < 1; omega⟩
  · rintro e w' ⟨rfl, hn⟩
    obtain ⟨⟨vs, at2, bad2⟩, hst⟩ : ∃ st, nxi l at_ bad 4 1 = st := ⟨_, rfl⟩
    have hlen : (nxi l at_ bad 4 1).1.length = 1 := nxi_len _ _ _ _ _
    rw [show ([⟨n + 1 + 1 + 1, 0, none⟩] : List Addr).length = 1 from rfl, hst] at hn
    rw [hst] at hlen ⊢
    obtain ⟨a, rfl⟩ := lone_ hlen
    have far : ∀ (g : Nat) (o : Obj), W.heap[g]? = some o → g ≠ n + 1 → g ≠ n + 1 + 1 + 1 → w'.heap[g]? = some o := fun g o hg h1 h2 => nums_far hn hg h1 (fun p hp => by simp only [List.mem_cons, List.not_mem_nil, or_false] at hp; subst hp; exact fun e => h2 e.symm)
    refine ⟨a, rfl, rfl, ⟨far _ _ h.loc.h (by omega) (by omega), hn.rd, far _ _ h.loc.m (by omega) (by omega), hn.low, h.loc.hH, h.loc.hR, h.loc.hM, h.loc.n1, h.loc.n2, h.loc.n3⟩, ?_, far _ _ h.k2 (by omega) (by omega), far _ _ h.k3 (by omega) (by omega), far _ _ h.k4 (by omega) (by omega), far _ _ h.k5 (by omega) (by omega)⟩
    rw [hn.all (n + 1 + 1 + 1) (by simp; omega) (by omega)]
    simp only [List.zip_cons_cons, List.zip_nil_right, poke]
    exact poke1 (v := x1) (blk_alloc h.k1 _)
theorem ce_made (w W : World) (n : Nat) (A : Option Addr) (c : Nat) (l : List Int) (at_ : Int) (bad : Bool) (m0 m1 m2 m3 m4 m5 m6 m7 m8 m9 m10 m11 m12 : Value) (x1 x2 x3 x4 x5 : Int) (st : List Int × Int × Bool) (tb : Nat) (htb : tb = W.heap.size) (h : Ce w W n A c l at_ bad #[m0, m1, m2, m3, m4, m5, m6, m7, m8, m9, m10, m11, m12] x1 x2 x3 x4 x5) (hC : Kd.C (Kd.int .u8) w A l.length l) (hc : l.length ≤ c) (hl : l.length ≤ 140737488355328) (hst : nxi l at_ bad 2 1 = st) :
    Calls Try.prog 67 #[.pointer (some ⟨n + 1, 0, none⟩), .int .i64 2, .slice (some ⟨tb, 0, none⟩) 1 1] (W.alloc (.cells #[.pointer (some ⟨n + 1 + 1, 0, none⟩)] 110)) fun e w' => ∃ a, st.1 = [a] ∧ e = .returned (.tuple #[]) ∧ Ce w w' n A c l st.2.1 st.2.2 #[.int .i64 a, m1, m2, m3, m4, m5, m6, m7, m8, m9, m10, m11, m12] x1 x2 x3 x4 x5 := by
  subst hst htb
  have k0 := blk_lt h.k5
  have k1 := h.loc.hH
  refine (numbers_ w (n + 1) A c l at_ bad 2 [⟨n + 1 + 1, 0, none⟩] W.heap.size 1 _ (blk_alloc h.loc.r _) hC hc hl (below_alloc h.loc.low _) h.loc.hR (blk_new W _) (by omega) ?_ (by simp)).mono ?_
  · intro p hp
    simp only [List.mem_cons, List.not_mem_nil, or_false] at hp
    subst hp
    exact ⟨by show _ ≤ n + 1 + 1; omega, by show n + 1 + 1 ≠ n + 1; omega, by show n + 1 + 1 ≠ _; omega, rfl, _, _, blk_alloc h.loc.m _, by show 0 < 13; omega⟩
  · rintro e w' ⟨rfl, hn⟩
    obtain ⟨⟨vs, at2, bad2⟩, hst⟩ : ∃ st, nxi l at_ bad 2 1 = st := ⟨_, rfl⟩
    have hlen : (nxi l at_ bad 2 1).1.length = 1 := nxi_len _ _ _ _ _
    rw [show ([⟨n + 1 + 1, 0, none⟩] : List Addr).length = 1 from rfl, hst] at hn
    rw [hst] at hlen ⊢
    obtain ⟨a, rfl⟩ := lone_ hlen
    have far : ∀ (g : Nat) (o : Obj), W.heap[g]? = some o → g ≠ n + 1 → g ≠ n + 1 + 1 → w'.heap[g]? = some o := fun g o hg h1 h2 => nums_far hn hg h1 (fun p hp => by simp only [List.mem_cons, List.not_mem_nil, or_false] at hp; subst hp; exact fun e => h2 e.symm)
    refine ⟨a, rfl, rfl, ⟨far _ _ h.loc.h (by omega) (by omega), hn.rd, ?_, hn.low, h.loc.hH, h.loc.hR, h.loc.hM, h.loc.n1, h.loc.n2, h.loc.n3⟩, far _ _ h.k1 (by omega) (by omega), far _ _ h.k2 (by omega) (by omega), far _ _ h.k3 (by omega) (by omega), far _ _ h.k4 (by omega) (by omega), far _ _ h.k5 (by omega) (by omega)⟩
    rw [hn.all (n + 1 + 1) (by simp; omega) (by omega)]
    simp only [List.zip_cons_cons, List.zip_nil_right, poke]
    exact (blk_set (blk_alloc h.loc.m _) 0 _).trans rfl
theorem ce_disk (w W : World) (n : Nat) (A : Option Addr) (c : Nat) (l : List Int) (at_ : Int) (bad : Bool) (ms : Array Value) (x1 x2 x3 x4 x5 : Int) (st : List Int × Int × Bool) (tb : Nat) (htb : tb = W.heap.size) (h : Ce w W n A c l at_ bad ms x1 x2 x3 x4 x5) (hC : Kd.C (Kd.int .u8) w A l.length l) (hc : l.length ≤ c) (hl : l.length ≤ 140737488355328) (hst : nxi l at_ bad 2 3 = st) :
    Calls Try.prog 67 #[.pointer (some ⟨n + 1, 0, none⟩), .int .i64 2, .slice (some ⟨tb, 0, none⟩) 3 3] (W.alloc (.cells #[.pointer (some ⟨n + 1 + 1 + 1 + 1, 0, none⟩), .pointer (some ⟨n + 1 + 1 + 1 + 1 + 1, 0, none⟩), .pointer (some ⟨n + 1 + 1 + 1 + 1 + 1 + 1, 0, none⟩)] 110)) fun e w' => ∃ a b d, st.1 = [a, b, d] ∧ (0 ≤ a ∧ a ≤ 4611686018427387904) ∧ e = .returned (.tuple #[]) ∧ Ce w w' n A c l st.2.1 st.2.2 ms x1 a b d x5 := by
  subst hst htb
  have k0 := blk_lt h.k5
  have k1 := h.loc.hH
  refine (numbers_ w (n + 1) A c l at_ bad 2 [⟨n + 1 + 1 + 1 + 1, 0, none⟩, ⟨n + 1 + 1 + 1 + 1 + 1, 0, none⟩, ⟨n + 1 + 1 + 1 + 1 + 1 + 1, 0, none⟩] W.heap.size 3 _ (blk_alloc h.loc.r _) hC hc hl (below_alloc h.loc.low _) h.loc.hR (blk_new W _) (by omega) ?_ (by simp)).mono ?_
  · intro p hp
    simp only [List.mem_cons, List.not_mem_nil, or_false] at hp
    rcases hp with rfl | rfl | rfl
    · exact ⟨by show _ ≤ n + 1 + 1 + 1 + 1; omega, by show n + 1 + 1 + 1 + 1 ≠ n + 1; omega, by show n + 1 + 1 + 1 + 1 ≠ _; omega, rfl, _, _, blk_alloc h.k2 _, by show 0 < 1; omega⟩
    · exact ⟨by show _ ≤ n + 1 + 1 + 1 + 1 + 1; omega, by show n + 1 + 1 + 1 + 1 + 1 ≠ n + 1; omega, by show n + 1 + 1 + 1 + 1 + 1 ≠ _; omega, rfl, _, _, blk_alloc h.k3 _, by show 0 < 1; omega⟩
    · exact ⟨by show _ ≤ n + 1 + 1 + 1 + 1 + 1 + 1; omega, by show n + 1 + 1 + 1 + 1 + 1 + 1 ≠ n + 1; omega, by show n + 1 + 1 + 1 + 1 + 1 + 1 ≠ _; omega, rfl, _, _, blk_alloc h.k4 _, by show 0 < 1; omega⟩
  · rintro e w' ⟨rfl, hn⟩
    have hv := nxi_val l at_ 2 bad 3
    obtain ⟨⟨vs, at2, bad2⟩, hst⟩ : ∃ st, nxi l at_ bad 2 3 = st := ⟨_, rfl⟩
    have hlen : (nxi l at_ bad 2 3).1.length = 3 := nxi_len _ _ _ _ _
    rw [show ([⟨n + 1 + 1 + 1 + 1, 0, none⟩, ⟨n + 1 + 1 + 1 + 1 + 1, 0, none⟩, ⟨n + 1 + 1 + 1 + 1 + 1 + 1, 0, none⟩] : List Addr).length = 3 from rfl, hst] at hn
    rw [hst] at hlen hv ⊢
    obtain ⟨a, b, d, rfl⟩ := three hlen
    have far : ∀ (g : Nat) (o : Obj), W.heap[g]? = some o → g ≠ n + 1 → g ≠ n + 1 + 1 + 1 + 1 → g ≠ n + 1 + 1 + 1 + 1 + 1 → g ≠ n + 1 + 1 + 1 + 1 + 1 + 1 → w'.heap[g]? = some o := fun g o hg h1 h2 h3 h4 => nums_far hn hg h1 (fun p hp => by
      simp only [List.mem_cons, List.not_mem_nil, or_false] at hp
      rcases hp with rfl | rfl | rfl
      · exact fun e => h2 e.symm
      · exact fun e => h3 e.symm
      · exact fun e => h4 e.symm)
    refine ⟨a, b, d, rfl, hv a (by simp), rfl, ⟨far _ _ h.loc.h (by omega) (by omega) (by omega) (by omega), hn.rd, far _ _ h.loc.m (by omega) (by omega) (by omega) (by omega), hn.low, h.loc.hH, h.loc.hR, h.loc.hM, h.loc.n1, h.loc.n2, h.loc.n3⟩, far _ _ h.k1 (by omega) (by omega) (by omega) (by omega), ?_, ?_, ?_, far _ _ h.k5 (by omega) (by omega) (by omega) (by omega)⟩
    · rw [hn.all (n + 1 + 1 + 1 + 1) (by simp; omega) (by omega)]
      simp only [List.zip_cons_cons, List.zip_nil_right, poke]
      refine (Below.heap_setCell _ _ _ _ (by show n + 1 + 1 + 1 + 1 ≠ n + 1 + 1 + 1 + 1 + 1 + 1; omega)).trans ((Below.heap_setCell _ _ _ _ (by show n + 1 + 1 + 1 + 1 ≠ n + 1 + 1 + 1 + 1 + 1; omega)).trans ?_)
      exact poke1 (v := x2) (blk_alloc h.k2 _)
    · rw [hn.all (n + 1 + 1 + 1 + 1 + 1) (by simp; omega) (by omega)]
      simp only [List.zip_cons_cons, List.zip_nil_right, poke]
      refine (Below.heap_setCell _ _ _ _ (by show n + 1 + 1 + 1 + 1 + 1 ≠ n + 1 + 1 + 1 + 1 + 1 + 1; omega)).trans ?_
      refine poke1 (v := x3) ?_
      exact (Below.heap_setCell _ _ _ _ (by show n + 1 + 1 + 1 + 1 + 1 ≠ n + 1 + 1 + 1 + 1; omega)).trans (blk_alloc h.k3 _)
    · rw [hn.all (n + 1 + 1 + 1 + 1 + 1 + 1) (by simp; omega) (by omega)]
      simp only [List.zip_cons_cons, List.zip_nil_right, poke]
      refine poke1 (v := x4) ?_
      exact (Below.heap_setCell _ _ _ _ (by show n + 1 + 1 + 1 + 1 + 1 + 1 ≠ n + 1 + 1 + 1 + 1 + 1; omega)).trans ((Below.heap_setCell _ _ _ _ (by show n + 1 + 1 + 1 + 1 + 1 + 1 ≠ n + 1 + 1 + 1 + 1; omega)).trans (blk_alloc h.k4 _))
theorem ce_attr (w W : World) (n : Nat) (A : Option Addr) (c : Nat) (l : List Int) (at_ : Int) (bad : Bool) (m0 m1 m2 m3 m4 m5 m6 m7 m8 m9 m10 m11 m12 : Value) (x1 x2 x3 x4 x5 : Int) (st : List Int × Int × Bool) (tb : Nat) (htb : tb = W.heap.size) (h : Ce w W n A c l at_ bad #[m0, m1, m2, m3, m4, m5, m6, m7, m8, m9, m10, m11, m12] x1 x2 x3 x4 x5) (hC : Kd.C (Kd.int .u8) w A l.length l) (hc : l.length ≤ c) (hl : l.length ≤ 140737488355328) (hst : nxi l at_ bad 4 2 = st) :
    Calls Try.prog 67 #[.pointer (some ⟨n + 1, 0, none⟩), .int .i64 4, .slice (some ⟨tb, 0, none⟩) 2 2] (W.alloc (.cells #[.pointer (some ⟨n + 1 + 1 + 1 + 1 + 1 + 1 + 1, 0, none⟩), .pointer (some ⟨n + 1 + 1, 12, none⟩)] 110)) fun e w' => ∃ a b, st.1 = [a, b] ∧ e = .returned (.tuple #[]) ∧ (st.2.2 = false → 0 ≤ st.2.1 ∧ st.2.1 ≤ (l.length : Int)) ∧ Ce w w' n A c l st.2.1 st.2.2 #[m0, m1, m2, m3, m4, m5, m6, m7, m8, m9, m10, m11, .int .i64 b] x1 x2 x3 x4 a := by
  subst hst htb
  have k0 := blk_lt h.k5
  have k1 := h.loc.hH
  have hat : (nxi l at_ bad 4 2).2.2 = false → 0 ≤ (nxi l at_ bad 4 2).2.1 ∧ (nxi l at_ bad 4 2).2.1 ≤ (l.length : Int) := fun hb => nxi_at (i := 1) hb
  refine (numbers_ w (n + 1) A c l at_ bad 4 [⟨n + 1 + 1 + 1 + 1 + 1 + 1 + 1, 0, none⟩, ⟨n + 1 + 1, 12, none⟩] W.heap.size 2 _ (blk_alloc h.loc.r _) hC hc hl (below_alloc h.loc.low _) h.loc.hR (blk_new W _) (by omega) ?_ (by simp)).mono ?_
  · intro p hp
    simp only [List.mem_cons, List.not_mem_nil, or_false] at hp
    rcases hp with rfl | rfl
    · exact ⟨by show _ ≤ n + 1 + 1 + 1 + 1 + 1 + 1 + 1; omega, by show n + 1 + 1 + 1 + 1 + 1 + 1 + 1 ≠ n + 1; omega, by show n + 1 + 1 + 1 + 1 + 1 + 1 + 1 ≠ _; omega, rfl, _, _, blk_alloc h.k5 _, by show 0 < 1; omega⟩
    · exact ⟨by show _ ≤ n + 1 + 1; omega, by show n + 1 + 1 ≠ n + 1; omega, by show n + 1 + 1 ≠ _; omega, rfl, _, _, blk_alloc h.loc.m _, by show 12 < 13; omega⟩
  · rintro e w' ⟨rfl, hn⟩
    obtain ⟨⟨vs, at2, bad2⟩, hst⟩ : ∃ st, nxi l at_ bad 4 2 = st := ⟨_, rfl⟩
    have hlen : (nxi l at_ bad 4 2).1.length = 2 := nxi_len _ _ _ _ _
    rw [show ([⟨n + 1 + 1 + 1 + 1 + 1 + 1 + 1, 0, none⟩, ⟨n + 1 + 1, 12, none⟩] : List Addr).length = 2 from rfl, hst] at hn
    rw [hst] at hlen hat ⊢
    obtain ⟨a, b, rfl⟩ := two hlen
    have far : ∀ (g : Nat) (o : Obj), W.heap[g]? = some o → g ≠ n + 1 → g ≠ n + 1 + 1 → g ≠ n + 1 + 1 + 1 + 1 + 1 + 1 + 1 → w'.heap[g]? = some o := fun g o hg h1 h2 h3 => nums_far hn hg h1 (fun p hp => by
      simp only [List.mem_cons, List.not_mem_nil, or_false] at hp
      rcases hp with rfl | rfl
      · exact fun e => h3 e.symm
      · exact fun e => h2 e.symm)
    refine ⟨a, b, rfl, rfl, hat, ⟨far _ _ h.loc.h (by omega) (by omega) (by omega), hn.rd, ?_, hn.low, h.loc.hH, h.loc.hR, h.loc.hM, h.loc.n1, h.loc.n2, h.loc.n3⟩, far _ _ h.k1 (by omega) (by omega) (by omega), far _ _ h.k2 (by omega) (by omega) (by omega), far _ _ h.k3 (by omega) (by omega) (by omega), far _ _ h.k4 (by omega) (by omega) (by omega), ?_⟩
    · rw [hn.all (n + 1 + 1) (by simp; omega) (by omega)]
      simp only [List.zip_cons_cons, List.zip_nil_right, poke]
      refine (blk_set (cs := #[m0, m1, m2, m3, m4, m5, m6, m7, m8, m9, m10, m11, m12]) (t := 78) ?_ 12 _).trans rfl
      exact (Below.heap_setCell _ _ _ _ (by show n + 1 + 1 ≠ n + 1 + 1 + 1 + 1 + 1 + 1 + 1; omega)).trans (blk_alloc h.loc.m _)
    · rw [hn.all (n + 1 + 1 + 1 + 1 + 1 + 1 + 1) (by simp; omega) (by omega)]
      simp only [List.zip_cons_cons, List.zip_nil_right, poke]
      refine (Below.heap_setCell _ _ _ _ (by show n + 1 + 1 + 1 + 1 + 1 + 1 + 1 ≠ n + 1 + 1; omega)).trans ?_
      exact poke1 (v := x5) (blk_alloc h.k5 _)
theorem offs3 (m0 m1 m2 m3 m4 m5 m8 m9 m10 m11 : Value) (p s o : Int) : Offs #[m0, m1, m2, m3, m4, m5, .int .i64 p, .int .i64 s, m8, m9, m10, m11, .int .i64 o] [7, 6, 12] [s, p, o] := by
  refine ⟨rfl, fun i hi => ?_, fun i j hi hj => ?_, fun i hi => ?_⟩
  · match i, hi with
    | 0, _ => rfl
    | 1, _ => rfl
    | 2, _ => rfl
  · match i, j, hi, hj with
    | 0, 0, _, _ => simp
    | 0, 1, _, _ => simp
    | 0, 2, _, _ => simp
    | 1, 0, _, _ => simp
    | 1, 1, _, _ => simp
    | 1, 2, _, _ => simp
    | 2, 0, _, _ => simp
    | 2, 1, _, _ => simp
    | 2, 2, _, _ => simp
  · match i, hi with
    | 0, _ => decide
    | 1, _ => decide
    | 2, _ => decide
theorem mk_eq3 {m0 m1 m2 m3 m4 m5 m6 m7 m8 m9 m10 m11 m12 s' p' o' v9 : Value} {mk : Array Value} (h7 : mk[7]? = some s') (h6 : mk[6]? = some p') (h12 : mk[12]? = some o') (h9 : mk[9]? = some v9) (hr : ∀ j, j ≠ 9 → (∀ k, k < 3 → [7, 6, 12].getD k 0 ≠ j) → mk[j]? = #[m0, m1, m2, m3, m4, m5, m6, m7, m8, m9, m10, m11, m12][j]?) : mk = #[m0, m1, m2, m3, m4, m5, p', s', m8, v9, m10, m11, o'] := by
  have hr' : ∀ j, j ≠ 9 → j ≠ 7 → j ≠ 6 → j ≠ 12 → mk[j]? = #[m0, m1, m2, m3, m4, m5, m6, m7, m8, m9, m10, m11, m12][j]? := fun j a b c d => hr j a (fun k hk => by
    match k, hk with
    | 0, _ => exact fun e => b e.symm
    | 1, _ => exact fun e => c e.symm
    | 2, _ => exact fun e => d e.symm)
  apply Array.ext_getElem?
  intro j
  rcases j with _ | _ | _ | _ | _ | _ | _ | _ | _ | _ | _ | _ | _ | j
  · exact (hr' 0 (by decide) (by decide) (by decide) (by decide)).trans rfl
  · exact (hr' 1 (by decide) (by decide) (by decide) (by decide)).trans rfl
  · exact (hr' 2 (by decide) (by decide) (by decide) (by decide)).trans rfl
  · exact (hr' 3 (by decide) (by decide) (by decide) (by decide)).trans rfl
  · exact (hr' 4 (by decide) (by decide) (by decide) (by decide)).trans rfl
  · exact (hr' 5 (by decide) (by decide) (by decide) (by decide)).trans rfl
  · exact h6.trans rfl
  · exact h7.trans rfl
  · exact (hr' 8 (by decide) (by decide) (by decide) (by decide)).trans rfl
  · exact h9.trans rfl
  · exact (hr' 10 (by decide) (by decide) (by decide) (by decide)).trans rfl
  · exact (hr' 11 (by decide) (by decide) (by decide) (by decide)).trans rfl
  · exact h12.trans rfl
  · rw [hr' (j + 13) (by omega) (by omega) (by omega) (by omega)]; simp
def cenEnd (mark made disk a1 a2 a3 a4 a5 b1 b2 b3 attr off : Int) (nm fl : ByteArray) (t3 : ByteArray × Int × Bool) : Option LocR :=
  if t3.2.2 = false then (if mark = 33639248 then (if disk = 0 ∨ disk = 65535 then (match greatF fl [b3, b2, off] with
    | none => none
    | some none => some locZ
    | some (some (xs, ps)) => some (made, a1, a2, a3, dateOf a5 a4, b1 % 4294967296, ps.getD 1 0, ps.getD 0 0, nm, xs, t3.1, attr % 4294967296, ps.getD 2 0, t3.2.1, 0)) else some locZ) else some locZ) else some locZ
def cenT (l : List Int) (at_ : Int) (bad : Bool) (c1 c2 cm : Int) (k : ByteArray → ByteArray → ByteArray × Int × Bool → Option LocR) : Option LocR :=
  k (tx l at_ bad c1).1 (tx l (tx l at_ bad c1).2.1 (tx l at_ bad c1).2.2 c2).1 (tx l (tx l (tx l at_ bad c1).2.1 (tx l at_ bad c1).2.2 c2).2.1 (tx l (tx l at_ bad c1).2.1 (tx l at_ bad c1).2.2 c2).2.2 cm)
def cen5 (l : List Int) (mark made a1 a2 a3 a4 a5 b1 b2 b3 c1 c2 cm disk : Int) (at_ : Int) (bad : Bool) : List Int → Option LocR
  | [attr, off] => cenT l at_ bad c1 c2 cm (cenEnd mark made disk a1 a2 a3 a4 a5 b1 b2 b3 attr off)
  | _ => none
def cen4 (l : List Int) (mark made a1 a2 a3 a4 a5 b1 b2 b3 c1 c2 : Int) (at_ : Int) (bad : Bool) : List Int → Option LocR
  | [cm, disk, _] => cen5 l mark made a1 a2 a3 a4 a5 b1 b2 b3 c1 c2 cm disk (nxi l at_ bad 4 2).2.1 (nxi l at_ bad 4 2).2.2 (nxi l at_ bad 4 2).1
  | _ => none
def cen3 (l : List Int) (mark made : Int) (at_ : Int) (bad : Bool) : List Int → List Int → List Int → Option LocR
  | [a1, a2, a3, a4, a5], [b1, b2, b3], [c1, c2] => cen4 l mark made a1 a2 a3 a4 a5 b1 b2 b3 c1 c2 (nxi l at_ bad 2 3).2.1 (nxi l at_ bad 2 3).2.2 (nxi l at_ bad 2 3).1
  | _, _, _ => none
def cen2 (l : List Int) (mark : Int) (at_ : Int) (bad : Bool) : List Int → Option LocR
  | [made] => cen3 l mark made (s3 l at_ bad).2.1 (s3 l at_ bad).2.2 (s1 l at_ bad).1 (s2 l at_ bad).1 (s3 l at_ bad).1
  | _ => none
def cen1 (l : List Int) (at_ : Int) (bad : Bool) : List Int → Option LocR
  | [mark] => cen2 l mark (nxi l at_ bad 2 1).2.1 (nxi l at_ bad 2 1).2.2 (nxi l at_ bad 2 1).1
  | _ => none
def zipdir_Central.f (l : List Int) (a : Int) : Option LocR := if l.length ≤ 1000000 then cen1 l (nxi l a false 4 1).2.1 (nxi l a false 4 1).2.2 (nxi l a false 4 1).1 else none
set_option maxHeartbeats 16000000 in
set_option maxRecDepth 100000 in
theorem central_ (A : Option Addr) (c : Nat) (l : List Int) (a : Int) (r : LocR) (w : World) (hC : Kd.C (Kd.int .u8) w A l.length l) (hc : l.length ≤ c) (h : zipdir_Central.f l a = some r) :
    Calls Try.prog 50 #[.slice A l.length c, .int .i64 a] w fun e w' => LocPost w r e w' := by
  have HU := Aside0.mk Try.underlying78
  unfold zipdir_Central.f at h
  by_cases hl : l.length ≤ 1000000
  · rw [if_pos hl] at h
    have hl2 : l.length ≤ 140737488355328 := by omega
    have HC := Aside0.mk hC
    have L0 := Aside0.mk (ce0 w A c l a)
    obtain ⟨⟨vs, at1, bad1⟩, hn⟩ : ∃ st, nxi l a false 4 1 = st := ⟨_, rfl⟩
    rw [hn] at h
    have HN := Aside0.mk hn
    have HH := Aside0.mk h
    clear h hn hC
    go_enter Try.func50, Try.ntmps50
    go_wp2_with (fail)
    refine (ce_mark w _ _ A c l a false _ _ _ _ _ _ _ _ ?hz L0.out HC.out hc hl2 HN.out).mono ?_
    case hz => simp
    rintro e w1 ⟨mark, hv, rfl, hL⟩
    obtain rfl : vs = [mark] := hv
    have hh := HH.out
    simp only [cen1] at hh
    obtain ⟨⟨vs, at2, bad2⟩, hn⟩ : ∃ st, nxi l at1 bad1 2 1 = st := ⟨_, rfl⟩
    rw [hn] at hh
    have HN2 := Aside0.mk hn
    have H2 := Aside0.mk hh
    have L1 := Aside0.mk hL
    clear hh hn hL HH HN L0
    go_wp2_with (fail)
    refine (ce_made w _ _ A c l at1 bad1 _ _ _ _ _ _ _ _ _ _ _ _ _ _ _ _ _ _ _ _ rfl L1.out HC.out hc hl2 HN2.out).mono ?_
    rintro e w2 ⟨made, hv, rfl, hL⟩
    obtain rfl : vs = [made] := hv
    have hh := H2.out
    simp only [cen2] at hh
    have H3 := Aside0.mk hh
    have L2 := Aside0.mk hL
    clear hh hL H2 HN2 L1
    go_wp2_with (fail)
    refine (ce_com w _ _ A c l at2 bad2 _ _ _ _ _ _ _ _ _ _ _ _ _ _ _ _ _ _ L2.out HC.out hc hl2).mono ?_
    rintro e w3 ⟨a1, a2, a3, a4, a5, b1, b2, b3, c1, c2, q1, q2, q3, rfl, v1, v2, hL⟩
    have hh := H3.out
    rw [q1, q2, q3] at hh
    obtain ⟨⟨x3, at3, bad3⟩, hs3⟩ : ∃ s, s3 l at2 bad2 = s := ⟨_, rfl⟩
    rw [hs3] at hh hL
    simp only [cen3] at hh
    obtain ⟨⟨vs, at4, bad4⟩, hn⟩ : ∃ st, nxi l at3 bad3 2 3 = st := ⟨_, rfl⟩
    rw [hn] at hh
    have HN3 := Aside0.mk hn
    have H4 := Aside0.mk hh
    have L3 := Aside0.mk hL
    have V1 := Aside0.mk v1
    have V2 := Aside0.mk v2
    clear hh hn hL H3 L2 q1 q2 q3 hs3 v1 v2
    go_wp2_with (fail)
    refine (ce_disk w _ _ A c l at3 bad3 _ _ _ _ _ _ _ _ rfl L3.out HC.out hc hl2 HN3.out).mono ?_
    rintro e w4 ⟨cm, disk, inner, hv, v3, rfl, hL⟩
    obtain rfl : vs = [cm, disk, inner] := hv
    have hh := H4.out
    simp only [cen4] at hh
    obtain ⟨⟨vs, at5, bad5⟩, hn⟩ : ∃ st, nxi l at4 bad4 4 2 = st := ⟨_, rfl⟩
    rw [hn] at hh
    have HN4 := Aside0.mk hn
    have H5 := Aside0.mk hh
    have L4 := Aside0.mk hL
    have V3 := Aside0.mk v3
    clear hh hn hL H4 L3 HN3 v3
    go_wp2_with (fail)
    refine (ce_attr w _ _ A c l at4 bad4 _ _ _ _ _ _ _ _ _ _ _ _ _ _ _ _ _ _ _ _ rfl L4.out HC.out hc hl2 HN4.out).mono ?_
    rintro e w5 ⟨attr, off, hv, rfl, hp, hL⟩
    obtain rfl : vs = [attr, off] := hv
    have hh := H5.out
    simp only [cen5, cenT] at hh
    obtain ⟨⟨nm, at6, bad6⟩, ht1⟩ : ∃ t, tx l at5 bad5 c1 = t := ⟨_, rfl⟩
    rw [ht1] at hh
    simp only at hh hp
    obtain ⟨⟨fl, at7, bad7⟩, ht2⟩ : ∃ t, tx l at6 bad6 c2 = t := ⟨_, rfl⟩
    rw [ht2] at hh
    simp only at hh
    obtain ⟨⟨cmt, at8, bad8⟩, ht3⟩ : ∃ t, tx l at7 bad7 cm = t := ⟨_, rfl⟩
    rw [ht3] at hh
    have T1 := Aside0.mk ht1
    have T2 := Aside0.mk ht2
    have T3 := Aside0.mk ht3
    have H6 := Aside0.mk hh
    have HP := Aside0.mk hp
    have k5 := (blk_cell hL.k5 0).trans (rfl : _ = some (Value.int .i64 attr))
    have k11 := (blk_cell hL.loc.m 11).trans (rfl : _ = some (Value.int .u32 0))
    have f11 := blk_frozen hL.loc.m 11
    have k2 := (blk_cell hL.k2 0).trans (rfl : _ = some (Value.int .i64 cm))
    have L5 := Aside0.mk (hL.set 11 (.int .u32 (attr % 4294967296)))
    clear hh hp hL ht1 ht2 ht3 H5 L4 HN4
    go_wp2_with (fail)
    refine (ce_text w _ _ A c l at5 bad5 _ _ _ _ _ _ c1 _ L5.out HC.out hc hl2 HP.out V1.out T1.out).mono ?_
    rintro e w6 ⟨rfl, hL, hp⟩
    have HP2 := Aside0.mk hp
    clear k5 k11 f11 k2
    have k8 := (blk_cell hL.loc.m 8).trans (rfl : _ = some (Value.string ⟨#[]⟩))
    have f8 := blk_frozen hL.loc.m 8
    have L6 := Aside0.mk (hL.set 8 (.string nm))
    clear hL hp L5 HP T1 V1
    go_wp2_with (fail)
    refine (ce_text w _ _ A c l at6 bad6 _ _ _ _ _ _ c2 _ L6.out HC.out hc hl2 HP2.out V2.out T2.out).mono ?_
    rintro e w7 ⟨rfl, hL, hp⟩
    have HP3 := Aside0.mk hp
    clear k8 f8
    have k2 := (blk_cell hL.k2 0).trans (rfl : _ = some (Value.int .i64 cm))
    have L7 := Aside0.mk hL
    clear hL hp L6 HP2 T2 V2
    go_wp2_with (fail)
    refine (ce_text w _ _ A c l at7 bad7 _ _ _ _ _ _ cm _ L7.out HC.out hc hl2 HP3.out V3.out T3.out).mono ?_
    rintro e w8 ⟨rfl, hL, hp⟩
    clear k2
    have k10 := (blk_cell hL.loc.m 10).trans (rfl : _ = some (Value.string ⟨#[]⟩))
    have f10 := blk_frozen hL.loc.m 10
    have hL8 := hL.set 10 (.string cmt)
    have L8 := Aside0.mk hL8
    have hb8 := (blk_cell hL8.loc.r 2).trans (rfl : _ = some (Value.bool bad8))
    have hk1 := (blk_cell hL8.k1 0).trans (rfl : _ = some (Value.int .i64 mark))
    have hk3 := (blk_cell hL8.k3 0).trans (rfl : _ = some (Value.int .i64 disk))
    clear hL hp L7 HP3 T3 V3 hL8
    have hh := H6.out
    simp only [cenEnd] at hh
    clear H6
    cases bad8 with
    | true =>
      rw [if_neg (by simp)] at hh
      have HF := Aside0.mk hh
      clear hh
      go_wp2_with (first | ((with_reducible refine gate_store (t := 78) (p := 4) rfl ?_); refine wpList_store_row rfl 78 (.tmp 4) (.tmp 79) rfl w.heap.size zs rfl rfl 78 zs L8.out.loc.h (by kernel_rfl) rfl zs_one ?_))
      obtain ⟨f1, f2, _⟩ := L8.out.loc.res zs
      refine bodyPost_ret (results_ctt rfl _ _ w.heap.size 78 zs (0, 0) _ rfl f1 HU.out rfl (by kernel_rfl)) rfl ?_
      have hh := HF.out
      injection hh with hh
      rw [← hh]
      exact loc_fail f2
    | false =>
      rw [if_pos rfl] at hh
      by_cases hmk : mark = 33639248
      · rw [if_pos hmk] at hh
        have b0 : (mark != 33639248) = false := by simp [hmk]
        clear hmk
        by_cases hdk : disk = 0 ∨ disk = 65535
        · rw [if_pos hdk] at hh
          cases hg : greatF fl [b3, b2, off] with
          | none => rw [hg] at hh; cases hh
          | some g =>
            rw [hg] at hh
            have hsz8 : (w8.setCell ⟨w.heap.size + 1 + 1, 10, none⟩ (.string cmt)).heap.size = w8.heap.size := by simp [World.setCell]
            have hn8 := blk_new (w8.setCell ⟨w.heap.size + 1 + 1, 10, none⟩ (.string cmt)) (.cells #[.pointer (some ⟨w.heap.size + 1 + 1, 7, none⟩), .pointer (some ⟨w.heap.size + 1 + 1, 6, none⟩), .pointer (some ⟨w.heap.size + 1 + 1, 12, none⟩)] 110)
            rw [hsz8] at hn8
            have GR := Aside0.mk (great_all (w.heap.size + 1 + 1) w8.heap.size 3 _ fl [7, 6, 12] [b3, b2, off] g ((w8.setCell ⟨w.heap.size + 1 + 1, 10, none⟩ (.string cmt)).alloc (.cells #[.pointer (some ⟨w.heap.size + 1 + 1, 7, none⟩), .pointer (some ⟨w.heap.size + 1 + 1, 6, none⟩), .pointer (some ⟨w.heap.size + 1 + 1, 12, none⟩)] 110)) (L8.out.below (below_alloc (Below.refl _ _) _)).loc.m hn8 (by have := blk_lt L8.out.loc.m; omega) (offs3 _ _ _ _ _ _ _ _ _ _ _ _ _) (by simp) rfl hg)
            have HF := Aside0.mk hh
            clear hh hg hn8 hsz8
            rcases (show disk = 0 ∨ (¬ disk = 0 ∧ disk = 65535) by omega) with k | ⟨k, k'⟩
            · have c1 : (disk != 0) = false := by simp [k]
              clear k hdk
              cases g with
              | none =>
                go_wp2_with (first | (go_at_call 76; (refine (GR.out).mono ?_); rintro e w9 ⟨rfl, hb⟩; have L9 := Aside0.mk ((L8.out.below (below_alloc (Below.refl _ _) _)).below hb); clear hb) | ((with_reducible refine gate_store (t := 78) (p := 4) rfl ?_); refine wpList_store_row rfl 78 (.tmp 4) (.tmp 79) rfl w.heap.size zs rfl rfl 78 zs L9.out.loc.h (by kernel_rfl) rfl zs_one ?_))
                obtain ⟨f1, f2, _⟩ := L9.out.loc.res zs
                refine bodyPost_ret (results_ctt rfl _ _ w.heap.size 78 zs (0, 0) _ rfl f1 HU.out rfl (by kernel_rfl)) rfl ?_
                have hh := HF.out
                injection hh with hh
                rw [← hh]
                exact loc_fail f2
              | some xp =>
                obtain ⟨xs, ps⟩ := xp
                go_wp2_with (go_at_call 76; (refine (GR.out).mono ?_); rintro e w9 ⟨r1, hx1, mk, v9, rfl, hm, hof, hrest, h9, hR, hsz, ho, hlow⟩; have HQ := Aside0.mk (And.intro hx1 (And.intro hm (And.intro hof (And.intro hrest (And.intro h9 (And.intro hR (And.intro hsz (And.intro ho hlow)))))))); clear hx1 hm hof hrest h9 hR hsz ho hlow)
                obtain ⟨hx1, hm, hof, hrest, h9, hR, hsz, ho, hlow⟩ := HQ.out
                have h7 := hof 0 (by simp)
                have h6 := hof 1 (by simp)
                have h12 := hof 2 (by simp)
                have hmk := mk_eq3 h7 h6 h12 h9 hrest
                subst hmk
                obtain ⟨A9, c9, e9⟩ := Kd.R_slice hR
                subst e9
                have hL9 := (L8.out.loc.below (below_alloc (Below.refl _ _) (.cells #[.pointer (some ⟨w.heap.size + 1 + 1, 7, none⟩), .pointer (some ⟨w.heap.size + 1 + 1, 6, none⟩), .pointer (some ⟨w.heap.size + 1 + 1, 12, none⟩)] 110))).other hm ho (by have := hlow w.heap.size (by omega); exact this)
                have L9 := Aside0.mk hL9
                have HR9 := Aside0.mk hR
                have HS9 := Aside0.mk hsz
                have H9 := Aside0.mk (And.intro hx1 HF.out)
                have hS : (fun W : World => W.heap[w.heap.size + 1 + 1]? = w9.heap[w.heap.size + 1 + 1]? ∧ W.heap[w.heap.size + 1]? = some (.cells #[.slice A l.length c, .int .i64 at8, .bool false] 108 (0, 0))) w9.drew := ⟨rfl, hL9.r⟩
                have HM9 := Aside0.mk hm
                clear HQ hx1 hm hof hrest h9 hR hsz ho hlow h7 h6 h12 hL9 GR HF
                refine start_ (n := 8) (S := (fun W : World => W.heap[w.heap.size + 1 + 1]? = w9.heap[w.heap.size + 1 + 1]? ∧ W.heap[w.heap.size + 1]? = some (.cells #[.slice A l.length c, .int .i64 at8, .bool false] 108 (0, 0)))) (ds := []) #[false, false, false, false, false, false, false, false] (by kernel_rfl) rfl rfl hS (fun hHeld => ?_)
                refine pure_ (i := 1) (N := (some 81)) (v := ?_) (a' := ?_) #[false, true, false, false, false, false, false, false] rfl rfl (by kernel_rfl) (fun _ _ _ h => h) (Or.inl ⟨by rfl, ?_⟩) ?_ ?_
                rotate_left
                · intro w'
                  go_simp
                  with_reducible rfl
                rotate_left
                · simp only [Act.put, List.setIfInBounds_toArray, List.set_cons_zero, List.set_cons_succ, i64_w, i32_w]
                  rfl
                refine pure_ (i := 2) (N := (some 82)) (v := ?_) (a' := ?_) #[false, true, true, false, false, false, false, false] rfl rfl (by kernel_rfl) (fun _ _ _ h => h) (Or.inl ⟨by rfl, ?_⟩) ?_ ?_
                rotate_left
                · intro w'
                  go_simp
                  with_reducible rfl
                rotate_left
                · simp only [Act.put, List.setIfInBounds_toArray, List.set_cons_zero, List.set_cons_succ, i64_w, i32_w]
                  rfl
                refine pure_ (i := 3) (N := (some 83)) (v := ?_) (a' := ?_) #[false, true, true, true, false, false, false, false] rfl rfl (by kernel_rfl) (fun _ _ _ h => h) (Or.inl ⟨by rfl, ?_⟩) ?_ ?_
                rotate_left
                · intro w'
                  go_simp
                  with_reducible rfl
                rotate_left
                · simp only [Act.put, List.setIfInBounds_toArray, List.set_cons_zero, List.set_cons_succ, i64_w, i32_w]
                  rfl
                refine take_ (i := 4) (N := (some 84)) (v := ?_) (a' := ?_) #[false, true, true, true, true, false, false, false] rfl rfl (by kernel_rfl) (fun _ _ _ h => h) (Or.inl ⟨by rfl, ?_⟩) hHeld ?_ ?_
                rotate_left
                · intro w' hS'
                  obtain ⟨q2, q3⟩ := hS'
                  have q4 := (blk_cell q3 1).trans (rfl : _ = some (Value.int .i64 at8))
                  go_simp
                  with_reducible rfl
                rotate_left
                · simp only [Act.put, List.setIfInBounds_toArray, List.set_cons_zero, List.set_cons_succ, i64_w, i32_w]
                  rfl
                refine take_ (i := 0) (N := (some 80)) (v := ?_) (a' := ?_) #[true, true, true, true, true, false, false, false] rfl rfl (by kernel_rfl) (fun _ _ _ h => h) (Or.inl ⟨by rfl, ?_⟩) hHeld ?_ ?_
                rotate_left
                · intro w' hS'
                  obtain ⟨q2, q3⟩ := hS'
                  refine exec_load_row 78 (.tmp 8) (w.heap.size + 1 + 1) 78 _ _ ?_ ?_ (q2.trans HM9.out) HU.out (by kernel_rfl) <;> rfl
                rotate_left
                · simp only [Act.put, List.setIfInBounds_toArray, List.set_cons_zero, List.set_cons_succ, i64_w, i32_w]
                  rfl
                refine one_ (i := 5) (N := none) #[true, true, true, true, true, true, false, false] rfl rfl (by kernel_rfl) (by decide) (fun K hK => ?_)
                refine skip_ (by rfl) rfl (exec_store_row 78 (.tmp 4) (.tmp 80) w.heap.size 78 zs #[.int .i64 made, .int .i64 a1, .int .i64 a2, .int .i64 a3, .int .i64 (dateOf a5 a4), .int .u32 (b1 % 4294967296), .int .i64 (ps.getD 1 0), .int .i64 (ps.getD 0 0), .string nm, .slice A9 (keepX r1).length c9, .string cmt, .int .u32 (attr % 4294967296), .int .i64 (ps.getD 2 0)] rfl rfl rfl (blk_drew L9.out.h) (by kernel_rfl) rfl (ms_one _ _ _ _ _ _ _ _ _ _ _ _ _ _ _)) ?_
                refine hK.out _ _ ⟨(setRow_other _ _ _ _ (by omega)).trans hHeld.1, (setRow_other _ _ _ _ (by omega)).trans hHeld.2⟩ (fun hHeld => ?_)
                clear hK K
                refine pure_ (i := 6) (N := (some 5)) (v := ?_) (a' := ?_) #[true, true, true, true, true, true, true, false] rfl rfl (by kernel_rfl) (fun _ _ _ h => h) (Or.inl ⟨by rfl, ?_⟩) ?_ ?_
                rotate_left
                · intro w'
                  go_simp
                  with_reducible rfl
                rotate_left
                · simp only [Act.put, List.setIfInBounds_toArray, List.set_cons_zero, List.set_cons_succ, i64_w, i32_w]
                  rfl
                refine pure_ (i := 7) (N := (some 6)) (v := ?_) (a' := ?_) #[true, true, true, true, true, true, true, true] rfl rfl (by kernel_rfl) (fun _ _ _ h => h) (Or.inl ⟨by rfl, ?_⟩) ?_ ?_
                rotate_left
                · intro w'
                  go_simp
                  with_reducible rfl
                rotate_left
                · simp only [Act.put, List.setIfInBounds_toArray, List.set_cons_zero, List.set_cons_succ, i64_w, i32_w]
                  rfl
                refine done_ (by kernel_rfl) ?_
                have hh := H9.out.2
                have hx := H9.out.1
                injection hh with hh
                have L9d := L9.out.below (below_drew (Below.refl _ _))
                obtain ⟨f1, f2, f3⟩ := L9d.res #[.int .i64 made, .int .i64 a1, .int .i64 a2, .int .i64 a3, .int .i64 (dateOf a5 a4), .int .u32 (b1 % 4294967296), .int .i64 (ps.getD 1 0), .int .i64 (ps.getD 0 0), .string nm, .slice A9 (keepX r1).length c9, .string cmt, .int .u32 (attr % 4294967296), .int .i64 (ps.getD 2 0)]
                go_wp2
                refine bodyPost_ret (results_ctt rfl _ _ w.heap.size 78 _ (0, 0) _ rfl f1 HU.out rfl (by kernel_rfl)) rfl ?_
                rw [← hh]
                refine ⟨_, rfl, ?_, f2⟩
                rw [hx]
                exact R_row2 L9d.h (Kd.R_drew HR9.out) (by have := blk_lt L8.out.loc.m; simp at this ⊢; omega) (by have := blk_lt L8.out.loc.m; simp at this ⊢; omega)
            · have c1 : (disk != 0) = true := by simp [k]
              have c2 : (disk != 65535) = false := by simp [k']
              clear k k' hdk
              cases g with
              | none =>
                go_wp2_with (first | (go_at_call 76; (refine (GR.out).mono ?_); rintro e w9 ⟨rfl, hb⟩; have L9 := Aside0.mk ((L8.out.below (below_alloc (Below.refl _ _) _)).below hb); clear hb) | ((with_reducible refine gate_store (t := 78) (p := 4) rfl ?_); refine wpList_store_row rfl 78 (.tmp 4) (.tmp 79) rfl w.heap.size zs rfl rfl 78 zs L9.out.loc.h (by kernel_rfl) rfl zs_one ?_))
                obtain ⟨f1, f2, _⟩ := L9.out.loc.res zs
                refine bodyPost_ret (results_ctt rfl _ _ w.heap.size 78 zs (0, 0) _ rfl f1 HU.out rfl (by kernel_rfl)) rfl ?_
                have hh := HF.out
                injection hh with hh
                rw [← hh]
                exact loc_fail f2
              | some xp =>
                obtain ⟨xs, ps⟩ := xp
                go_wp2_with (go_at_call 76; (refine (GR.out).mono ?_); rintro e w9 ⟨r1, hx1, mk, v9, rfl, hm, hof, hrest, h9, hR, hsz, ho, hlow⟩; have HQ := Aside0.mk (And.intro hx1 (And.intro hm (And.intro hof (And.intro hrest (And.intro h9 (And.intro hR (And.intro hsz (And.intro ho hlow)))))))); clear hx1 hm hof hrest h9 hR hsz ho hlow)
                obtain ⟨hx1, hm, hof, hrest, h9, hR, hsz, ho, hlow⟩ := HQ.out
                have h7 := hof 0 (by simp)
                have h6 := hof 1 (by simp)
                have h12 := hof 2 (by simp)
                have hmk := mk_eq3 h7 h6 h12 h9 hrest
                subst hmk
                obtain ⟨A9, c9, e9⟩ := Kd.R_slice hR
                subst e9
                have hL9 := (L8.out.loc.below (below_alloc (Below.refl _ _) (.cells #[.pointer (some ⟨w.heap.size + 1 + 1, 7, none⟩), .pointer (some ⟨w.heap.size + 1 + 1, 6, none⟩), .pointer (some ⟨w.heap.size + 1 + 1, 12, none⟩)] 110))).other hm ho (by have := hlow w.heap.size (by omega); exact this)
                have L9 := Aside0.mk hL9
                have HR9 := Aside0.mk hR
                have HS9 := Aside0.mk hsz
                have H9 := Aside0.mk (And.intro hx1 HF.out)
                have hS : (fun W : World => W.heap[w.heap.size + 1 + 1]? = w9.heap[w.heap.size + 1 + 1]? ∧ W.heap[w.heap.size + 1]? = some (.cells #[.slice A l.length c, .int .i64 at8, .bool false] 108 (0, 0))) w9.drew := ⟨rfl, hL9.r⟩
                have HM9 := Aside0.mk hm
                clear HQ hx1 hm hof hrest h9 hR hsz ho hlow h7 h6 h12 hL9 GR HF
                refine start_ (n := 8) (S := (fun W : World => W.heap[w.heap.size + 1 + 1]? = w9.heap[w.heap.size + 1 + 1]? ∧ W.heap[w.heap.size + 1]? = some (.cells #[.slice A l.length c, .int .i64 at8, .bool false] 108 (0, 0)))) (ds := []) #[false, false, false, false, false, false, false, false] (by kernel_rfl) rfl rfl hS (fun hHeld => ?_)
                refine pure_ (i := 1) (N := (some 81)) (v := ?_) (a' := ?_) #[false, true, false, false, false, false, false, false] rfl rfl (by kernel_rfl) (fun _ _ _ h => h) (Or.inl ⟨by rfl, ?_⟩) ?_ ?_
                rotate_left
                · intro w'
                  go_simp
                  with_reducible rfl
                rotate_left
                · simp only [Act.put, List.setIfInBounds_toArray, List.set_cons_zero, List.set_cons_succ, i64_w, i32_w]
                  rfl
                refine pure_ (i := 2) (N := (some 82)) (v := ?_) (a' := ?_) #[false, true, true, false, false, false, false, false] rfl rfl (by kernel_rfl) (fun _ _ _ h => h) (Or.inl ⟨by rfl, ?_⟩) ?_ ?_
                rotate_left
                · intro w'
                  go_simp
                  with_reducible rfl
                rotate_left
                · simp only [Act.put, List.setIfInBounds_toArray, List.set_cons_zero, List.set_cons_succ, i64_w, i32_w]
                  rfl
                refine pure_ (i := 3) (N := (some 83)) (v := ?_) (a' := ?_) #[false, true, true, true, false, false, false, false] rfl rfl (by kernel_rfl) (fun _ _ _ h => h) (Or.inl ⟨by rfl, ?_⟩) ?_ ?_
                rotate_left
                · intro w'
                  go_simp
                  with_reducible rfl
                rotate_left
                · simp only [Act.put, List.setIfInBounds_toArray, List.set_cons_zero, List.set_cons_succ, i64_w, i32_w]
                  rfl
                refine take_ (i := 4) (N := (some 84)) (v := ?_) (a' := ?_) #[false, true, true, true, true, false, false, false] rfl rfl (by kernel_rfl) (fun _ _ _ h => h) (Or.inl ⟨by rfl, ?_⟩) hHeld ?_ ?_
                rotate_left
                · intro w' hS'
                  obtain ⟨q2, q3⟩ := hS'
                  have q4 := (blk_cell q3 1).trans (rfl : _ = some (Value.int .i64 at8))
                  go_simp
                  with_reducible rfl
                rotate_left
                · simp only [Act.put, List.setIfInBounds_toArray, List.set_cons_zero, List.set_cons_succ, i64_w, i32_w]
                  rfl
                refine take_ (i := 0) (N := (some 80)) (v := ?_) (a' := ?_) #[true, true, true, true, true, false, false, false] rfl rfl (by kernel_rfl) (fun _ _ _ h => h) (Or.inl ⟨by rfl, ?_⟩) hHeld ?_ ?_
                rotate_left
                · intro w' hS'
                  obtain ⟨q2, q3⟩ := hS'
                  refine exec_load_row 78 (.tmp 8) (w.heap.size + 1 + 1) 78 _ _ ?_ ?_ (q2.trans HM9.out) HU.out (by kernel_rfl) <;> rfl
                rotate_left
                · simp only [Act.put, List.setIfInBounds_toArray, List.set_cons_zero, List.set_cons_succ, i64_w, i32_w]
                  rfl
                refine one_ (i := 5) (N := none) #[true, true, true, true, true, true, false, false] rfl rfl (by kernel_rfl) (by decide) (fun K hK => ?_)
                refine skip_ (by rfl) rfl (exec_store_row 78 (.tmp 4) (.tmp 80) w.heap.size 78 zs #[.int .i64 made, .int .i64 a1, .int .i64 a2, .int .i64 a3, .int .i64 (dateOf a5 a4), .int .u32 (b1 % 4294967296), .int .i64 (ps.getD 1 0), .int .i64 (ps.getD 0 0), .string nm, .slice A9 (keepX r1).length c9, .string cmt, .int .u32 (attr % 4294967296), .int .i64 (ps.getD 2 0)] rfl rfl rfl (blk_drew L9.out.h) (by kernel_rfl) rfl (ms_one _ _ _ _ _ _ _ _ _ _ _ _ _ _ _)) ?_
                refine hK.out _ _ ⟨(setRow_other _ _ _ _ (by omega)).trans hHeld.1, (setRow_other _ _ _ _ (by omega)).trans hHeld.2⟩ (fun hHeld => ?_)
                clear hK K
                refine pure_ (i := 6) (N := (some 5)) (v := ?_) (a' := ?_) #[true, true, true, true, true, true, true, false] rfl rfl (by kernel_rfl) (fun _ _ _ h => h) (Or.inl ⟨by rfl, ?_⟩) ?_ ?_
                rotate_left
                · intro w'
                  go_simp
                  with_reducible rfl
                rotate_left
                · simp only [Act.put, List.setIfInBounds_toArray, List.set_cons_zero, List.set_cons_succ, i64_w, i32_w]
                  rfl
                refine pure_ (i := 7) (N := (some 6)) (v := ?_) (a' := ?_) #[true, true, true, true, true, true, true, true] rfl rfl (by kernel_rfl) (fun _ _ _ h => h) (Or.inl ⟨by rfl, ?_⟩) ?_ ?_
                rotate_left
                · intro w'
                  go_simp
                  with_reducible rfl
                rotate_left
                · simp only [Act.put, List.setIfInBounds_toArray, List.set_cons_zero, List.set_cons_succ, i64_w, i32_w]
                  rfl
                refine done_ (by kernel_rfl) ?_
                have hh := H9.out.2
                have hx := H9.out.1
                injection hh with hh
                have L9d := L9.out.below (below_drew (Below.refl _ _))
                obtain ⟨f1, f2, f3⟩ := L9d.res #[.int .i64 made, .int .i64 a1, .int .i64 a2, .int .i64 a3, .int .i64 (dateOf a5 a4), .int .u32 (b1 % 4294967296), .int .i64 (ps.getD 1 0), .int .i64 (ps.getD 0 0), .string nm, .slice A9 (keepX r1).length c9, .string cmt, .int .u32 (attr % 4294967296), .int .i64 (ps.getD 2 0)]
                go_wp2
                refine bodyPost_ret (results_ctt rfl _ _ w.heap.size 78 _ (0, 0) _ rfl f1 HU.out rfl (by kernel_rfl)) rfl ?_
                rw [← hh]
                refine ⟨_, rfl, ?_, f2⟩
                rw [hx]
                exact R_row2 L9d.h (Kd.R_drew HR9.out) (by have := blk_lt L8.out.loc.m; simp at this ⊢; omega) (by have := blk_lt L8.out.loc.m; simp at this ⊢; omega)
        · rw [if_neg hdk] at hh
          have HF := Aside0.mk hh
          have c1 : (disk != 0) = true := by simp; exact fun e => hdk (.inl e)
          have c2 : (disk != 65535) = true := by simp; exact fun e => hdk (.inr e)
          clear hh hdk
          go_wp2_with (first | ((with_reducible refine gate_store (t := 78) (p := 4) rfl ?_); refine wpList_store_row rfl 78 (.tmp 4) (.tmp 79) rfl w.heap.size zs rfl rfl 78 zs L8.out.loc.h (by kernel_rfl) rfl zs_one ?_))
          obtain ⟨f1, f2, _⟩ := L8.out.loc.res zs
          refine bodyPost_ret (results_ctt rfl _ _ w.heap.size 78 zs (0, 0) _ rfl f1 HU.out rfl (by kernel_rfl)) rfl ?_
          have hh := HF.out
          injection hh with hh
          rw [← hh]
          exact loc_fail f2
      · rw [if_neg hmk] at hh
        have HF := Aside0.mk hh
        have b0 : (mark != 33639248) = true := by simp [hmk]
        clear hh hmk
        go_wp2_with (first | ((with_reducible refine gate_store (t := 78) (p := 4) rfl ?_); refine wpList_store_row rfl 78 (.tmp 4) (.tmp 79) rfl w.heap.size zs rfl rfl 78 zs L8.out.loc.h (by kernel_rfl) rfl zs_one ?_))
        obtain ⟨f1, f2, _⟩ := L8.out.loc.res zs
        refine bodyPost_ret (results_ctt rfl _ _ w.heap.size 78 zs (0, 0) _ rfl f1 HU.out rfl (by kernel_rfl)) rfl ?_
        have hh := HF.out
        injection hh with hh
        rw [← hh]
        exact loc_fail f2
  · rw [if_neg hl] at h; cases h
theorem zipdir_Central.calls (A : Option Addr) (c : Nat) (l : List Int) (a : Int) (r1 r2 r3 r4 r5 r6 r7 r8 : Int) (r9 : ByteArray) (r10 : List S38) (r11 : ByteArray) (r12 r13 r14 r15 : Int) (w : World) (hC : Kd.C (Kd.int .u8) w A l.length l) (hc : l.length ≤ c) (h : zipdir_Central.f l a = some (r1, r2, r3, r4, r5, r6, r7, r8, r9, r10, r11, r12, r13, r14, r15)) :
    Calls Try.prog 50 #[.slice A l.length c, .int .i64 a] w fun e w' => ∃ v0_ : Value, e = .returned (.tuple #[.agg #[.int .i64 r1, .int .i64 r2, .int .i64 r3, .int .i64 r4, .int .i64 r5, .int .u32 r6, .int .i64 r7, .int .i64 r8, .string r9, v0_, .string r11, .int .u32 r12, .int .i64 r13], .int .i64 r14, .int .i64 r15]) ∧ Kd.R k38 38 w' w.heap.size (fun _ => True) v0_ r10 ∧ Below w.heap.size w w' :=
  (central_ A c l a _ w hC hc h).mono fun e w' hh => hh
end Go.Proofs.Ytfnicahlnpngkaa.ZipCenOfZipdirBack
