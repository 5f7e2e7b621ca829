/- functions that are known by the bytes that lie in a slice, or by the variables that are laid. -/
import Derived.Test.YtgeklgnjnjpofaaGreatDoorEvGlob
set_option linter.unusedVariables false
set_option linter.unusedSimpArgs false
namespace Go.Ev
open Go Go.RowKit
 noncomputable section
/-- a heap of one block of bytes, to which nothing may be written. -/
def blkS (n : Nat) (c : T Value) (e : TypeId) : S := ⟨T.put .e 0 (.cells n c e 1 true true), 1⟩
def blkMu (b sh sz : Nat) : Mu := fun m => if m = 0 then some ⟨b, sh, sz, 1, true⟩ else none
theorem blk_get (n : Nat) (c : T Value) (e : TypeId) (m : Nat) : (blkS n c e).heap.get m = if m = 0 then some (.cells n c e 1 true true) else none := by
  show (T.put .e 0 _).get m = _
  rw [put_get]; rfl
theorem blk_wr {b sh sz n : Nat} {c : T Value} {e : TypeId} {w : World} {cs : Array Value} {f : Nat × Nat} (h : w.heap[b]? = some (.cells cs e f)) (hz : cs.size = sz) (hn : sh + n ≤ sz) (hc : ∀ i, i < n → ∃ v, c.get i = some v ∧ VR (blkMu b sh sz) v (cs.getD (sh + i) (.tuple #[]))) : WR (blkMu b sh sz) (blkS n c e) w := by
  refine ⟨fun m hm => ?_, fun m o hm => ?_, fun m k o p t u hm hk ht hu htu => ?_⟩
  · have hm : 1 ≤ m := hm
    unfold blkMu; rw [if_neg (by omega)]
  · rw [blk_get] at hm
    split at hm
    · rename_i e0
      injection hm with hm; subst hm; subst e0
      exact ⟨_, by unfold blkMu; rw [if_pos rfl], cs, f, h, rfl, rfl, hz, hn, fun hb => (by cases hb), fun hb => (by cases hb), hc⟩
    · cases hm
  · rw [blk_get] at hm hk
    split at hm
    · split at hk
      · rename_i e1 e2; rw [e1, e2]
      · cases hk
    · cases hm
theorem blk_below {b sh sz n : Nat} {c : T Value} {e : TypeId} {w w' : World} {μ' : Mu} {s' : S} (h : Fr (blkMu b sh sz) (blkS n c e) w μ' s' w') : Below w.heap.size w w' := by
  refine ⟨h.os, h.tape, h.output, h.size, fun k hk => ?_⟩
  by_cases hi : InR (blkMu b sh sz) (blkS n c e) k
  · obtain ⟨m, o, t, hm, ht, rfl⟩ := hi
    refine (h.fro m o t hm ?_ ht).2
    rw [blk_get] at hm
    split at hm
    · injection hm with hm; subst hm; rfl
    · cases hm
  · exact h.keep k hk hi
theorem gr_zero (μ : Mu) : GR μ 0 := fun g hg => absurd hg (Nat.not_lt_zero g)
theorem slc_bound {μ : Mu} {s : S} {w : World} (hw : WR μ s w) {b o l cp m : Nat} {c : T Value} {e : TypeId} {es : Nat} {opn fz : Bool} (hb : s.heap.get b = some (.cells m c e es opn fz)) (hes : es = 1 ∨ opn = false) (hcp : opn = false → o + cp ≤ m) (hl : 0 < l) {x : Value} (hx : VR μ (.slice (some ⟨b, o, none⟩) l cp) x) :
    ∃ t cp', μ b = some t ∧ x = .slice (some ⟨t.b, t.sh + o, none⟩) l cp' ∧ cp ≤ cp' ∧ t.sh + o + cp' ≤ t.sz := by
  cases hx with
  | slc n o l c c' t ht hc he hs =>
    obtain ⟨t', ht', cs, f, h1, h2, h3, h4, h5, h6, _⟩ := hw.obj _ _ hb
    rw [ht] at ht'; injection ht' with ht'; subst ht'
    refine ⟨t, c', ht, rfl, hc, ?_⟩
    cases ho : opn with
    | false =>
      rw [ho] at h2
      have := he h2.symm
      have := hcp ho
      omega
    | true =>
      rw [ho] at h2
      have h7 := hs h2.symm
      rcases hes with hes | hes
      · rw [← h3, hes] at h7; omega
      · rw [ho] at hes; cases hes
  | slz n o q t ht ho => omega
/-- a function that is asked of a slice of bytes alone: what it answers over a block of just these bytes. -/
theorem known_slice {P : Program} (hm : P.follows .mixedOrders = true) {ext : FuncId → List Value → S → Option Value} (he : ExtOK ⟨P, 0, ext⟩) {N k f n : Nat} {c : T Value} {v : Value} (hcl : callable P f = true) (hv : plain v = true) (hn : 0 < n)
    (hrun : ∀ e, ∃ s', evCall ⟨P, 0, ext⟩ N k f [.slice (some ⟨0, 0, none⟩) n n] (blkS n c e) = .ret v s')
    {μ : Mu} {s : S} {w : World} (hw : WR μ s w) {b o cp m : Nat} {c0 : T Value} {e : TypeId} {es : Nat} {opn fz : Bool} (hb : s.heap.get b = some (.cells m c0 e es opn fz)) (hes : es = 1 ∨ opn = false) (hcp : opn = false → o + cp ≤ m) (hle : o + n ≤ m) (hcn : n ≤ cp)
    (hc : ∀ i, i < n → ∃ u, c.get i = some u ∧ c0.get (o + i) = some u ∧ plain u = true) {args' : Array Value} (ha : VRs μ [.slice (some ⟨b, o, none⟩) n cp] args'.toList) :
    Calls P f args' w fun e w' => ∃ v', e = .returned v' ∧ VR μ v v' ∧ Below w.heap.size w w' := by
  obtain ⟨x', r, e1, hx, hr⟩ := ha.head
  have hr' := hr.nil_inv
  obtain ⟨t, cp', ht, hxe, hcc, hbd⟩ := slc_bound hw hb hes hcp hn hx
  obtain ⟨t', ht', cs, fr, h1, h2, h3, h4, h5, h6, _, h7⟩ := hw.obj _ _ hb
  rw [ht] at ht'; injection ht' with ht'; subst ht'
  have hwr : WR (blkMu t.b (t.sh + o) t.sz) (blkS n c e) w := blk_wr h1 h4 (by omega) fun i hi => by
    obtain ⟨u, g1, g2, g3⟩ := hc i hi
    refine ⟨u, g1, ?_⟩
    obtain ⟨u', k1, k2⟩ := h7 (o + i) (by omega)
    rw [g2] at k1; injection k1 with k1; subst k1
    have : cs.getD (t.sh + o + i) (.tuple #[]) = u := by
      rw [show t.sh + o + i = t.sh + (o + i) by omega]; exact k2.eq_plain g3
    rw [this]
    exact .of_plain g3
  have hargs : VRs (blkMu t.b (t.sh + o) t.sz) [.slice (some ⟨0, 0, none⟩) n n] args'.toList := by
    rw [e1, hr', hxe]
    refine .cons ?_ (.nil _)
    exact .slc 0 0 n n cp' ⟨t.b, t.sh + o, t.sz, 1, true⟩ (by unfold blkMu; rw [if_pos rfl]) (by omega) (fun hb => by cases hb) fun _ => by show t.sh + o + 0 + cp' * 1 ≤ t.sz; omega
  obtain ⟨s', hres⟩ := hrun e
  have hc := call_ok (p := ⟨P, 0, ext⟩) hm he N k f _ (blkS n c e) _ w args' hcl hwr (gr_zero _) hargs
  rw [hres] at hc
  exact hc _ fun μ' w' v' hv' _ hf => ⟨v', rfl, by rw [hv'.eq_plain hv]; exact .of_plain hv, blk_below hf⟩
theorem veqL_eq (n : Nat) : ∀ {l m : List Value}, veqN.veqL n l m = true → l = m
  | [], [], h => rfl
  | [], y :: m, h => by simp [veqN.veqL] at h
  | x :: l, [], h => by simp [veqN.veqL] at h
  | x :: l, y :: m, h => by
    simp only [veqN.veqL, Bool.and_eq_true] at h
    rw [veq_go _ _ _ h.1, veqL_eq n h.2]
/-- a table that lies in the heap as it is, lies so in the world. -/
theorem laid_one {μ : Mu} {s : S} {w : World} {G g m : Nat} (hw : WR μ s w) (hg : GR μ G) (hlt : g < G) {c : T Value} {el : TypeId} {es : Nat} {fz : Bool} {lc : List Value} (hget : s.heap.get g = some (.cells m c el es false fz)) (hgets : c.gets m 0 = some lc) (hpl : lc.all plain = true) : LaidT [(g, el, lc)] w := by
  intro n e l hl
  rw [lookT, beq_eq] at hl
  by_cases hn : n = g
  · simp only [hn, decide_true, cond_true] at hl
    injection hl with hl; injection hl with h1 h2
    subst h1; subst h2; subst hn
    obtain ⟨hlen, hgi⟩ := gets_spec c m 0 lc hgets
    obtain ⟨t, ht, cs, f, h1, h2, h3, h4, h5, h6, _, h7⟩ := hw.obj _ _ hget
    obtain ⟨t2, ht2, hb2, hs2⟩ := hg n hlt
    rw [ht] at ht2; injection ht2 with ht2; subst ht2
    obtain ⟨hs0, hsz⟩ := h6 rfl
    refine ⟨f, ?_⟩
    rw [hb2] at h1
    rw [h1]
    congr 2
    rw [← Array.toList_inj]
    refine List.ext_getElem? fun i => ?_
    rcases Nat.lt_or_ge i m with hi | hi
    · obtain ⟨v, k1, k2⟩ := h7 i hi
      have k3 := hgi i hi
      rw [Nat.zero_add] at k3
      rw [k1] at k3
      have hmem : v ∈ lc := List.mem_of_getElem? k3.symm
      have k4 := k2.eq_plain (List.all_eq_true.1 hpl _ hmem)
      rw [hs0, Nat.zero_add] at k4
      rw [← k3, ← k4, Array.getElem?_toList, Array.getD_eq_getD_getElem?, Array.getElem?_eq_getElem (by omega)]
      rfl
    · rw [List.getElem?_eq_none (by simp; omega), List.getElem?_eq_none (by simp; omega)]
  · simp only [hn, decide_false, cond_false] at hl
    cases hl
/-- bytes' sum, those of the sum's own field taken as blanks. -/
def term (i n : Nat) : Nat := bi (Nat.ble 148 i) (bi (Nat.blt i 156) 32 n) n
def sumL : List Value → Nat → Nat → Option Nat
  | [], _, a => some a
  | .int .u8 (.ofNat n) :: l, i, a => bi (Nat.blt n 256) (sumL l (Nat.succ i) (Nat.add a (term i n))) none
  | _, _, _ => none
def tsum : List Nat → Nat → Nat
  | [], _ => 0
  | n :: l, i => term i n + tsum l (i + 1)
theorem sumL_spec : ∀ {l : List Value} {i a r : Nat}, sumL l i a = some r → ∃ ns : List Nat, l = ns.map (fun n => Value.int .u8 (.ofNat n)) ∧ (∀ n ∈ ns, n < 256) ∧ r = a + tsum ns i
  | [], i, a, r, h => by
    simp only [sumL] at h; injection h with h
    exact ⟨[], rfl, (fun n hn => by cases hn), (by rw [← h]; rfl)⟩
  | x :: l, i, a, r, h => by
    unfold sumL at h
    split at h
    · rename_i e; cases e
    · rename_i n l2 e
      injection e with e1 e2
      subst e1; subst e2
      rw [bi_cond] at h
      obtain ⟨hb, h⟩ := bif_some h
      rw [blt_iff] at hb
      obtain ⟨ns, h1, h2, h3⟩ := sumL_spec h
      refine ⟨n :: ns, by rw [h1]; rfl, fun m hm => ?_, ?_⟩
      · rcases List.mem_cons.1 hm with rfl | hm
        · exact hb
        · exact h2 m hm
      · rw [h3, tsum]
        simp only [Nat.add_eq, Nat.succ_eq_add_one]
        omega
    · cases h
def cellsG (g : Nat → Nat) : T Value := T.puts ((List.range 512).map fun i => Value.int .u8 (.ofNat (g i))) 0 .e
def sumI (g : Nat → Nat) : Nat → Int
  | 0 => 0
  | i + 1 => IntKind.i64.wrap (sumI g i + (bif Nat.ble 148 i && Nat.blt i 156 then 32 else IntKind.i64.wrap (.ofNat (g i))))
def sumN (g : Nat → Nat) : Nat → Nat
  | 0 => 0
  | i + 1 => sumN g i + term i (g i)
theorem term_le (i n : Nat) (h : n < 256) : term i n ≤ 255 := by
  unfold term; rw [bi_cond, bi_cond]
  cases Nat.ble 148 i <;> cases Nat.blt i 156 <;> simp only [cond_true, cond_false] <;> omega
theorem sumI_eq (g : Nat → Nat) (hg : ∀ i, g i < 256) : ∀ i, i ≤ 512 → sumN g i ≤ 255 * i ∧ sumI g i = .ofNat (sumN g i)
  | 0, _ => ⟨Nat.le_refl _, rfl⟩
  | i + 1, h => by
    obtain ⟨h1, h2⟩ := sumI_eq g hg i (by omega)
    have ht := term_le i (g i) (hg i)
    refine ⟨by rw [sumN]; omega, ?_⟩
    rw [sumI, sumN, h2]
    have hw : IntKind.i64.wrap (.ofNat (g i)) = .ofNat (g i) := wrap_lim .i64 (g i) (by have := hg i; simp only [lim]; omega)
    have hx : (bif Nat.ble 148 i && Nat.blt i 156 then 32 else IntKind.i64.wrap (.ofNat (g i))) = Int.ofNat (term i (g i)) := by
      unfold term; rw [bi_cond, bi_cond, hw]
      cases Nat.ble 148 i <;> cases Nat.blt i 156 <;> rfl
    rw [hx]
    exact wrap_lim .i64 (sumN g i + term i (g i)) (by simp only [lim]; omega)
theorem tsum_snoc : ∀ (l : List Nat) (x i : Nat), tsum (l ++ [x]) i = tsum l i + term (i + l.length) x
  | [], x, i => by simp [tsum]
  | n :: l, x, i => by
    rw [List.cons_append, tsum, tsum, tsum_snoc l x (i + 1), List.length_cons, show i + 1 + l.length = i + (l.length + 1) by omega]; omega
theorem sumN_t (ns : List Nat) : ∀ k, k ≤ ns.length → sumN (fun i => ns.getD i 0) k = tsum (ns.take k) 0
  | 0, _ => by simp [sumN, tsum]
  | k + 1, h => by
    have hk : k < ns.length := by omega
    rw [sumN, sumN_t ns k (by omega), List.take_succ_eq_append_getElem hk, tsum_snoc]
    simp [List.getD_eq_getElem?_getD, List.getElem?_eq_getElem hk, Nat.min_eq_left (Nat.le_of_lt hk)]
def ksum (args : List Value) (s : S) : Option Value :=
  match args with
  | [.slice (some ⟨b, o, none⟩) n cp] => match s.heap.get b with
    | some (.cells m c e es opn fz) => bi (Nat.beq n 512 && (Nat.beq es 1 || !opn) && (opn || Nat.ble (o + cp) m) && Nat.ble (o + 512) m && Nat.ble 512 cp)
        (match c.gets 512 o with | some l => (match sumL l 0 0 with | some r => some (.int .i64 (.ofNat r)) | none => none) | none => none) none
    | _ => none
  | _ => none
theorem ksum_ok {P : Program} (hm : P.follows .mixedOrders = true) {N k f : Nat} (hcl : callable P f = true) (hs : ∀ g e, evCall ⟨P, 0, fun _ _ _ => none⟩ N k f [.slice (some ⟨0, 0, none⟩) 512 512] (blkS 512 (cellsG g) e) = .ret (.int .i64 (sumI g 512)) (blkS 512 (cellsG g) e))
    {args : List Value} {v : Value} {μ : Mu} {s : S} {w : World} {args' : Array Value} (h : ksum args s = some v) (hw : WR μ s w) (ha : VRs μ args args'.toList) : Calls P f args' w fun e w' => ∃ v', e = .returned v' ∧ VR μ v v' ∧ Below w.heap.size w w' := by
  unfold ksum at h
  split at h
  · rename_i b o n cp
    split at h
    · rename_i m c e es opn fz hb
      rw [bi_cond] at h
      obtain ⟨hc, hx⟩ := bif_some h
      clear h
      simp only [Bool.and_eq_true, Bool.or_eq_true, Bool.not_eq_true', ble_iff, beq_eq, decide_eq_true_eq] at hc
      obtain ⟨⟨⟨⟨h1, h2⟩, h3⟩, h4⟩, h5⟩ := hc
      subst h1
      split at hx
      · rename_i l hl
        split at hx
        · rename_i r hr
          injection hx with hx; subst hx
          obtain ⟨ns, e1, e2, e3⟩ := sumL_spec hr
          obtain ⟨hlen, hgi⟩ := gets_spec c 512 o l hl
          have hnl : ns.length = 512 := by rw [← hlen, e1]; simp
          have hg : ∀ i, (fun i => ns.getD i 0) i < 256 := fun i => by
            show ns.getD i 0 < 256
            rw [List.getD_eq_getElem?_getD]
            cases hi : ns[i]? with
            | none => simp
            | some x => exact e2 x (List.mem_of_getElem? hi)
          have hrun : ∀ e', ∃ s', evCall ⟨P, 0, fun _ _ _ => none⟩ N k f [.slice (some ⟨0, 0, none⟩) 512 512] (blkS 512 (cellsG fun i => ns.getD i 0) e') = .ret (.int .i64 (.ofNat r)) s' := fun e' => by
            have e4 : sumN (fun i => ns.getD i 0) 512 = r := by rw [sumN_t ns 512 (by omega), List.take_of_length_le (by omega), e3, Nat.zero_add]
            exact ⟨blkS 512 (cellsG fun i => ns.getD i 0) e', by rw [hs, (sumI_eq _ hg 512 (Nat.le_refl _)).2, e4]⟩
          refine known_slice hm (ext := fun _ _ _ => none) (fun f args v μ s w args' h => by cases h) hcl rfl (by decide) hrun hw hb (by rcases h2 with h2 | h2; exact .inl h2; exact .inr h2) (fun ho => ?_) h4 h5 (fun i hi => ?_) ha
          · rcases h3 with h3 | h3
            · rw [ho] at h3; cases h3
            · exact h3
          · refine ⟨.int .u8 (.ofNat (ns.getD i 0)), ?_, ?_, rfl⟩
            · unfold cellsG
              rw [puts_get, if_pos (by simp; omega)]
              simp [hi]
            · rw [hgi i hi, e1]
              simp [List.getD_eq_getElem?_getD, List.getElem?_eq_getElem (show i < ns.length by omega)]
        · cases hx
      · cases hx
    · cases h
  · cases h
/-- does a run come to a value? -/
def retIs (x : COut) (v : Value) : Bool := match x with | .ret u _ => veqN 4 u v | _ => false
theorem retIs_spec {x : COut} {v : Value} (h : retIs x v = true) : ∃ s, x = .ret v s := by
  unfold retIs at h
  split at h
  · rename_i u s; exact ⟨s, by rw [veq_go _ _ _ h]⟩
  · cases h
/-- a function upon values without addresses. -/
theorem known_val {P : Program} (hm : P.follows .mixedOrders = true) {N k f : Nat} {args : List Value} {v : Value} (hcl : callable P f = true) (hp : args.all plain = true) (hv : plain v = true) (hrun : retIs (fCall ⟨P, 0, extG P⟩ N k f args (S0 0 [])) v = true) {μ : Mu} {w : World} {args' : Array Value} (ha : VRs μ args args'.toList) :
    Calls P f args' w fun e w' => ∃ v', e = .returned v' ∧ VR μ v v' ∧ Below w.heap.size w w' := by
  rw [fCall_eq] at hrun
  obtain ⟨s', hres⟩ := retIs_spec hrun
  have e1 := vrs_plain ha hp
  have hargs : VRs (mu0 0 []) args args'.toList := by
    rw [e1]
    clear hres hrun ha e1
    induction args with
    | nil => exact .nil _
    | cons x l ih =>
      rw [List.all_cons, Bool.and_eq_true] at hp
      exact .cons (.of_plain hp.1) (ih hp.2)
  have hok : okT 0 [] = true := rfl
  have hl : LaidT [] w := fun n e l h => by cases h
  have hc := call_ok (p := ⟨P, 0, extG P⟩) hm (ext_ok P 0) N k f args (S0 0 []) (mu0 0 []) w args' hcl (wr0 hok hl) (gr0 0 []) hargs
  rw [hres] at hc
  exact hc _ fun μ' w' v' hv' _ hf => ⟨v', rfl, by rw [hv'.eq_plain hv]; exact .of_plain hv, fr0 hok hf⟩
abbrev KVals := List (Nat × List Value × Value)
def kval : KVals → Nat → List Value → Option Value
  | [], _, _ => none
  | (g, l, v) :: r, f, args => bi (Nat.beq g f && veqN.veqL 3 args l) (some v) (kval r f args)
theorem kval_ok {P : Program} (hm : P.follows .mixedOrders = true) {N k : Nat} : ∀ {tbl : KVals}, (∀ x ∈ tbl, callable P x.1 = true ∧ x.2.1.all plain = true ∧ plain x.2.2 = true ∧ retIs (fCall ⟨P, 0, extG P⟩ N k x.1 x.2.1 (S0 0 [])) x.2.2 = true) →
    ∀ {f : Nat} {args : List Value} {v : Value} {μ : Mu} {w : World} {args' : Array Value}, kval tbl f args = some v → VRs μ args args'.toList → Calls P f args' w fun e w' => ∃ v', e = .returned v' ∧ VR μ v v' ∧ Below w.heap.size w w'
  | [], ht, f, args, v, μ, w, args', h, ha => by cases h
  | (g, l, u) :: r, ht, f, args, v, μ, w, args', h, ha => by
    rw [kval, bi_cond] at h
    cases hb : (Nat.beq g f && veqN.veqL 3 args l) with
    | false => rw [hb] at h; exact kval_ok hm (fun x hx => ht x (List.mem_cons.2 (.inr hx))) h ha
    | true =>
      rw [hb] at h
      simp only [cond_true] at h
      injection h with h; subst h
      rw [Bool.and_eq_true, beq_eq, decide_eq_true_eq] at hb
      obtain ⟨h1, h2⟩ := hb
      have h2 := veqL_eq 3 h2
      subst h1; subst h2
      obtain ⟨a, b, c, d⟩ := ht _ (List.mem_cons.2 (.inl rfl))
      exact known_val hm a b c d ha
/-- a function that is asked of a slice of bytes alone, by what lies there. -/
def kblk1 (l : List Value) (v : Value) (args : List Value) (s : S) : Option Value :=
  match args with
  | [.slice (some ⟨b, o, none⟩) n cp] => match s.heap.get b with
    | some (.cells m c e es opn fz) => bi (Nat.beq n l.length && (Nat.beq es 1 || !opn) && (opn || Nat.ble (o + cp) m) && Nat.ble (o + n) m && Nat.ble n cp && Nat.blt 0 n)
        (match c.gets n o with | some l' => bi (veqN.veqL 1 l' l) (some v) none | none => none) none
    | _ => none
  | _ => none
def kblk : KVals → Nat → List Value → S → Option Value
  | [], _, _, _ => none
  | (g, l, v) :: r, f, args, s => bi (Nat.beq g f) (match kblk1 l v args s with | some v => some v | none => kblk r f args s) (kblk r f args s)
theorem kblk1_ok {P : Program} (hm : P.follows .mixedOrders = true) {N k f : Nat} {l : List Value} {u : Value} (hcl : callable P f = true) (hp : l.all plain = true) (hu : plain u = true) (hrun : ∀ e, retIs (fCall ⟨P, 0, extG P⟩ N k f [.slice (some ⟨0, 0, none⟩) l.length l.length] (blkS l.length (T.puts l 0 .e) e)) u = true)
    {args : List Value} {v : Value} {μ : Mu} {s : S} {w : World} {args' : Array Value} (h : kblk1 l u args s = some v) (hw : WR μ s w) (ha : VRs μ args args'.toList) : Calls P f args' w fun e w' => ∃ v', e = .returned v' ∧ VR μ v v' ∧ Below w.heap.size w w' := by
  unfold kblk1 at h
  split at h
  · rename_i b o n cp
    split at h
    · rename_i m c e es opn fz hb
      rw [bi_cond] at h
      obtain ⟨hc, hx⟩ := bif_some h
      clear h
      simp only [Bool.and_eq_true, Bool.or_eq_true, Bool.not_eq_true', ble_iff, blt_iff, beq_eq, decide_eq_true_eq] at hc
      obtain ⟨⟨⟨⟨⟨h1, h2⟩, h3⟩, h4⟩, h5⟩, h6⟩ := hc
      subst h1
      split at hx
      · rename_i l' hl
        rw [bi_cond] at hx
        obtain ⟨hv, hx⟩ := bif_some hx
        injection hx with hx; subst hx
        have hv := veqL_eq 1 hv
        subst hv
        obtain ⟨hlen, hgi⟩ := gets_spec c _ o l' hl
        refine known_slice hm (ext_ok P 0) hcl hu h6 (fun e' => ?_) hw hb (by rcases h2 with h2 | h2; exact .inl h2; exact .inr h2) (fun ho => ?_) h4 h5 (fun i hi => ?_) ha (c := T.puts l' 0 .e) (N := N) (k := k)
        · have := hrun e'
          rw [fCall_eq] at this
          exact retIs_spec this
        · rcases h3 with h3 | h3
          · rw [ho] at h3; cases h3
          · exact h3
        · refine ⟨l'[i], ?_, ?_, List.all_eq_true.1 hp _ (List.getElem_mem hi)⟩
          · rw [puts_get, if_pos (by omega), Nat.sub_zero, List.getElem?_eq_getElem hi]
          · rw [hgi i hi, List.getElem?_eq_getElem hi]
      · cases hx
    · cases h
  · cases h
theorem kblk_ok {P : Program} (hm : P.follows .mixedOrders = true) {N k : Nat} : ∀ {tbl : KVals}, (∀ x ∈ tbl, callable P x.1 = true ∧ x.2.1.all plain = true ∧ plain x.2.2 = true ∧ ∀ e, retIs (fCall ⟨P, 0, extG P⟩ N k x.1 [.slice (some ⟨0, 0, none⟩) x.2.1.length x.2.1.length] (blkS x.2.1.length (T.puts x.2.1 0 .e) e)) x.2.2 = true) →
    ∀ {f : Nat} {args : List Value} {v : Value} {μ : Mu} {s : S} {w : World} {args' : Array Value}, kblk tbl f args s = some v → WR μ s w → VRs μ args args'.toList → Calls P f args' w fun e w' => ∃ v', e = .returned v' ∧ VR μ v v' ∧ Below w.heap.size w w'
  | [], ht, f, args, v, μ, s, w, args', h, hw, ha => by cases h
  | (g, l, u) :: r, ht, f, args, v, μ, s, w, args', h, hw, ha => by
    have ih := fun h => kblk_ok hm (N := N) (k := k) (tbl := r) (fun x hx => ht x (List.mem_cons.2 (.inr hx))) (f := f) (args := args) (v := v) (s := s) h hw ha
    rw [kblk, bi_cond] at h
    cases hb : Nat.beq g f with
    | false => rw [hb] at h; exact ih h
    | true =>
      rw [hb] at h
      simp only [cond_true] at h
      rw [beq_eq, decide_eq_true_eq] at hb
      subst hb
      cases hk : kblk1 l u args s with
      | none => rw [hk] at h; exact ih h
      | some v' =>
        rw [hk] at h
        injection h with h; subst h
        obtain ⟨a, b, c, d⟩ := ht _ (List.mem_cons.2 (.inl rfl))
        exact kblk1_ok hm a b c d hk hw ha
end
end Go.Ev
