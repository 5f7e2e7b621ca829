/- what an operation that reads memory answers is what the model does. -/
import Derived.Test.YtgeklgnjnjpofaaGreatDoorEvMap
import Derived.Laws.BytesString
import Derived.Lib.Builder
set_option linter.unusedVariables false
set_option linter.unusedSimpArgs false
namespace Go.Ev
open Go Go.RowKit
section
variable {P : Program} {μ : Mu}
theorem loadVar_ok {s : S} {w : World} (h : WR μ s w) {t : TypeId} {d : TypeDesc} (hu : P.underlying t = some d) {a : Addr} {a' : Value} (ha : VR μ (.pointer (some a)) a') {v : Value}
    (e : (bif isAggB P t then (match s.cellsAt a (szOf P t) with | some l => some (.agg l.toArray) | none => none) else (match s.cellsAt a 1 with | some (v :: _) => some v | _ => none)) = some v) :
    ∃ b v', a' = .pointer (some b) ∧ (loadVar t b).run P w = .ok v' w ∧ VR μ v v' := by
  obtain ⟨n, o, sp⟩ := a
  obtain ⟨rfl, t', ht, e'⟩ := addr_inv ha
  obtain ⟨i, hi⟩ := info_of_underlying hu
  unfold loadVar
  cases hb : isAggB P t with
  | true =>
    simp only [hb, cond_true] at e
    split at e
    · rename_i l hl
      injection e with e; subst e
      obtain ⟨u, l', hu', hlen, hvr, hc⟩ := cellsAt_spec h hl
      rw [ht] at hu'; injection hu' with hu'; subst hu'
      refine ⟨_, .agg l'.toArray, e', ?_, VR.agg_iff.2 (by simpa using hvr)⟩
      rw [bind_ok (isAgg_run hu w), hb, if_pos rfl, bind_ok (sizeOf_run hi w), bind_ok (loadCells_run t'.b (t'.sh + o) i.size w l' (by rw [hlen, szOf_eq hi]) hc)]
      rfl
    · cases e
  | false =>
    simp only [hb, cond_false] at e
    split at e
    · rename_i x r hl
      injection e with e; subst e
      obtain ⟨u, l', hu', hlen, hvr, hc⟩ := cellsAt_spec h hl
      rw [ht] at hu'; injection hu' with hu'; subst hu'
      obtain ⟨y, r', e2, hxy, _⟩ := hvr.head
      subst e2
      refine ⟨_, y, e', ?_, hxy⟩
      rw [bind_ok (isAgg_run hu w), hb, if_neg (by simp)]
      exact load_run (by have := hc 0 y rfl; simpa using this)
    · cases e
theorem bytesOf_spec : ∀ {l l' : List Value} {r : List UInt8}, bytesOf l = some r → VRs μ l l' → ∃ ns : List Int, l' = ns.map (Value.int .u8) ∧ ns.map (fun n => UInt8.ofNat n.toNat) = r
  | [], l', r, h, hv => by
    rw [hv.nil_inv]
    simp only [bytesOf] at h
    injection h with h
    exact ⟨[], rfl, by rw [← h]; rfl⟩
  | x :: l, l', r, h, hv => by
    obtain ⟨y, m, rfl, hxy, hlm⟩ := hv.head
    unfold bytesOf at h
    split at h
    · rename_i e; cases e
    · rename_i b l2 e
      injection e with e1 e2
      subst e1; subst e2
      split at h
      · rename_i r2 hr2
        injection h with h; subst h
        obtain ⟨ns, h1, h2⟩ := bytesOf_spec hr2 hlm
        refine ⟨(b : Int) :: ns, by rw [int_ofNat_inv hxy, h1]; rfl, by simp [h2]⟩
      · cases h
    · cases h
theorem push_fold : ∀ (l : List Int) (s : ByteArray), l.foldl (fun r n => r.push (UInt8.ofNat n.toNat)) s = ⟨(s.data.toList ++ l.map fun n => UInt8.ofNat n.toNat).toArray⟩
  | [], s => by cases s; simp
  | n :: l, s => by
    rw [List.foldl_cons, push_fold l]
    cases s with
    | mk d => simp [ByteArray.push]
theorem sliceBound_run {k : IntKind} {n y : Nat} {c : BoundsCode} {w : World} (h : n ≤ y) : (Instr.sliceBound (.int k (.ofNat n)) y c).run P w = .ok n w := by
  unfold Instr.sliceBound
  rw [bind_ok (show (asIntOf (.int k (.ofNat n))).run P w = .ok (k, .ofNat n) w from rfl)]
  simp only []
  rw [if_pos ⟨Int.natCast_nonneg n, by simpa using h⟩]
  rfl
theorem nat_inv {v v' : Value} {n : Nat} (h : nat? v = some n) (hv : VR μ v v') : ∃ k, v' = .int k (.ofNat n) := by
  unfold nat? at h
  split at h
  · rename_i k m
    injection h with h; subst h
    exact ⟨k, int_ofNat_inv hv⟩
  · cases h
theorem bound_ok {x : Option Operand} {ρ ρ' : Operand → Value} {d n : Nat} (h : bound (x.map ρ) d = some n) (hr : ∀ y, x = some y → VR μ (ρ y) (ρ' y)) : (x = none ∧ n = d) ∨ ∃ y k, x = some y ∧ ρ' y = .int k (.ofNat n) := by
  cases x with
  | none => simp [bound] at h; exact .inl ⟨rfl, h.symm⟩
  | some y =>
    simp only [Option.map_some, bound] at h
    obtain ⟨k, hk⟩ := nat_inv h (hr y rfl)
    exact .inr ⟨y, k, rfl, hk⟩
theorem slice_run {t e : TypeId} {b o len cap l h m : Nat} {lo hi mx : Option Value} {w : World} (hu : P.underlying t = some (.slice e)) {i : TypeInfo} (hi' : P.info? e = some i)
    (hl : (lo = none ∧ l = 0) ∨ ∃ k, lo = some (.int k (.ofNat l))) (hh : (hi = none ∧ h = len) ∨ ∃ k, hi = some (.int k (.ofNat h))) (hm : (mx = none ∧ m = cap) ∨ ∃ k, mx = some (.int k (.ofNat m))) (hx : mx = none ∨ hi ≠ none) (a1 : l ≤ h) (a2 : h ≤ m) (a3 : m ≤ cap) :
    (Instr.sliceAt t (.slice (some ⟨b, o, none⟩) len cap) lo hi mx).run P w = .ok (.slice (some (if m = l then ⟨b, o, none⟩ else ⟨b, o + l * szOf P e, none⟩)) (h - l) (m - l)) w := by
  unfold Instr.sliceAt
  rw [bind_ok (underlying_run hu w)]
  show (Instr.slice t (.slice (some ⟨b, o, none⟩) len cap) lo hi mx).run P w = _
  unfold Instr.slice
  rw [bind_ok (underlying_run hu w)]
  have hb : (Instr.sliceBounds true len cap lo hi mx).run P w = .ok (l, h, m) w := by
    unfold Instr.sliceBounds
    rcases hm with ⟨rfl, rfl⟩ | ⟨k3, rfl⟩
    · rcases hh with ⟨rfl, rfl⟩ | ⟨k2, rfl⟩
      · rcases hl with ⟨rfl, rfl⟩ | ⟨k1, rfl⟩
        · rfl
        · rw [bind_ok (pure_run _ w), bind_ok (pure_run _ w), bind_ok (sliceBound_run a1)]; rfl
      · rcases hl with ⟨rfl, rfl⟩ | ⟨k1, rfl⟩
        · rw [bind_ok (pure_run _ w), bind_ok (sliceBound_run a2)]; rfl
        · rw [bind_ok (pure_run _ w), bind_ok (sliceBound_run a2), bind_ok (sliceBound_run a1)]; rfl
    · rcases hh with ⟨rfl, rfl⟩ | ⟨k2, rfl⟩
      · rcases hx with hx | hx
        · cases hx
        · exact absurd rfl hx
      · rcases hl with ⟨rfl, rfl⟩ | ⟨k1, rfl⟩
        · rw [bind_ok (sliceBound_run a3), bind_ok (sliceBound_run a2)]; rfl
        · rw [bind_ok (sliceBound_run a3), bind_ok (sliceBound_run a2), bind_ok (sliceBound_run a1)]; rfl
  rw [bind_ok hb]
  simp only []
  rw [bind_ok (sizeOf_run hi' w), szOf_eq hi']
  by_cases e' : m = l
  · simp only [if_pos e', pure_run]
  · simp only [if_neg e', pure_run, Option.map_some, add_none]
theorem sliceArr_run {t e : TypeId} {b o n l h m : Nat} {lo hi mx : Option Value} {w : World} (hu : P.underlying t = some (.array n e)) {i : TypeInfo} (hi' : P.info? e = some i)
    (hl : (lo = none ∧ l = 0) ∨ ∃ k, lo = some (.int k (.ofNat l))) (hh : (hi = none ∧ h = n) ∨ ∃ k, hi = some (.int k (.ofNat h))) (hm : (mx = none ∧ m = n) ∨ ∃ k, mx = some (.int k (.ofNat m))) (hx : mx = none ∨ hi ≠ none) (a1 : l ≤ h) (a2 : h ≤ m) (a3 : m ≤ n) :
    (Instr.sliceAt t (.pointer (some ⟨b, o, none⟩)) lo hi mx).run P w = .ok (.slice (some (if m = l then ⟨b, o, none⟩ else ⟨b, o + l * szOf P e, none⟩)) (h - l) (m - l)) w := by
  unfold Instr.sliceAt
  rw [bind_ok (underlying_run hu w)]
  have hb : (Instr.sliceBounds false n n lo hi mx).run P w = .ok (l, h, m) w := by
    unfold Instr.sliceBounds
    rcases hm with ⟨rfl, rfl⟩ | ⟨k3, rfl⟩
    · rcases hh with ⟨rfl, rfl⟩ | ⟨k2, rfl⟩
      · rcases hl with ⟨rfl, rfl⟩ | ⟨k1, rfl⟩
        · rfl
        · rw [bind_ok (pure_run _ w), bind_ok (pure_run _ w), bind_ok (sliceBound_run a1)]; rfl
      · rcases hl with ⟨rfl, rfl⟩ | ⟨k1, rfl⟩
        · rw [bind_ok (pure_run _ w), bind_ok (sliceBound_run a2)]; rfl
        · rw [bind_ok (pure_run _ w), bind_ok (sliceBound_run a2), bind_ok (sliceBound_run a1)]; rfl
    · rcases hh with ⟨rfl, rfl⟩ | ⟨k2, rfl⟩
      · rcases hx with hx | hx
        · cases hx
        · exact absurd rfl hx
      · rcases hl with ⟨rfl, rfl⟩ | ⟨k1, rfl⟩
        · rw [bind_ok (sliceBound_run a3), bind_ok (sliceBound_run a2)]; rfl
        · rw [bind_ok (sliceBound_run a3), bind_ok (sliceBound_run a2), bind_ok (sliceBound_run a1)]; rfl
  simp only []
  rw [bind_ok (show (Instr.sureAddr (.pointer (some ⟨b, o, none⟩))).run P w = .ok _ w from rfl), bind_ok hb]
  simp only []
  rw [bind_ok (sizeOf_run hi' w), szOf_eq hi']
  by_cases e' : m = l
  · simp only [if_pos e', pure_run]
  · simp only [if_neg e', pure_run, add_none]
theorem isOpen_spec {s : S} {w : World} (h : WR μ s w) {n : Nat} {b : Bool × Nat} {t : Tgt} (e : isOpen s n = some b) (ht : μ n = some t) : t.opn = b.1 ∧ t.es = b.2 := by
  unfold isOpen at e
  split at e
  · rename_i m c el es opn fz hg
    injection e with e; subst e
    obtain ⟨u, hu, cs, f, _, ho, hes, _⟩ := h.obj n _ hg
    rw [ht] at hu; injection hu with hu; subst hu
    exact ⟨ho.symm, hes.symm⟩
  · cases e
set_option maxHeartbeats 1000000 in
theorem liesAt_row {e : TypeId} (hc : P.cellsOf e = 1) (count off n : Nat) (hn : off + n ≤ count) : liesAt P P.depth e count off e n = true := by
  have hd : P.depth = (2 * (P.types.size + Made.depth) + 1) + 1 := rfl
  rw [hd]
  simp only [liesAt, Bool.or_eq_true]
  left
  rw [hd]
  simp [rowAt, hc, hn, sameLayout, Nat.mod_one]
theorem liesAt_one {e : TypeId} (hc : 0 < P.cellsOf e) (count : Nat) (hn : 1 ≤ count) : liesAt P P.depth e count 0 e 1 = true := by
  have hd : P.depth = (2 * (P.types.size + Made.depth) + 1) + 1 := rfl
  have h0 : P.cellsOf e ≠ 0 := by omega
  rw [hd]
  simp only [liesAt, Bool.or_eq_true]
  left
  rw [hd]
  simp [rowAt, h0, hn, sameLayout]
theorem info_of_sz {t : TypeId} (h : 0 < szOf P t) : ∃ i, P.info? t = some i ∧ i.size = szOf P t := by
  unfold szOf Program.cellsOf at h ⊢
  cases hi : P.info? t with
  | none => rw [hi] at h; simp at h
  | some i => exact ⟨i, rfl, by simp⟩
theorem nilp_inv {v : Value} (h : VR μ (.pointer none) v) : v = .pointer none := by cases h; rfl
theorem toUns_ok {s : S} {w : World} (hw : WR μ s w) {src dst e : TypeId} (hs : P.underlying src = some (.pointer e)) (hd : P.underlying dst = some .unsafePointer) {x x' v : Value} (h : toUns P s e x = some v) (hx : VR μ x x') :
    ∃ v', (convert src dst x').run P w = .ok v' w ∧ VR μ v v' := by
  unfold toUns at h
  split at h
  · injection h with h; subst h
    rw [nilp_inv hx]
    exact ⟨_, by simp [convert, run_underlying hs, run_underlying hd, Conv.unsafePointer], .nilp⟩
  · rename_i b o
    split at h
    · rename_i n c el es opn fz hb
      obtain ⟨h1, h2⟩ := bif_some h
      injection h2 with h2; subst h2
      rw [Bool.and_eq_true, blt_iff, blt_iff] at h1
      obtain ⟨_, t, ht, e'⟩ := addr_inv hx
      obtain ⟨t', ht', cs, f, ho, _, _, hsz, hle, _⟩ := hw.obj b _ hb
      rw [ht] at ht'; injection ht' with ht'; subst ht'
      obtain ⟨i, hi, hiz⟩ := info_of_sz h1.2
      rw [e'] at hx ⊢
      exact ⟨_, Go.Lib.run_to_unsafe (e := el) (cells := cs.size) w _ hs hd hi (by omega) (by simp [World.shape?, ho]) (by show t.sh + o < cs.size; omega), hx⟩
    · cases h
  · cases h
theorem fromUns_ok {s : S} {w : World} (hw : WR μ s w) {src dst e : TypeId} (hs : P.underlying src = some .unsafePointer) (hd : P.underlying dst = some (.pointer e)) {x x' v : Value} (h : fromUns P s e x = some v) (hx : VR μ x x') :
    ∃ v', (convert src dst x').run P w = .ok v' w ∧ VR μ v v' := by
  unfold fromUns at h
  split at h
  · injection h with h; subst h
    rw [nilp_inv hx]
    exact ⟨_, by simp [convert, run_underlying hs, run_underlying hd, Conv.unsafePointer], .nilp⟩
  · rename_i b o
    split at h
    · rename_i n c el es fz hb
      obtain ⟨h1, h2⟩ := bif_some h
      injection h2 with h2; subst h2
      rw [Bool.and_eq_true, Bool.and_eq_true, Bool.and_eq_true, blt_iff, ble_iff, beq_eq, beq_eq, decide_eq_true_eq, decide_eq_true_eq] at h1
      obtain ⟨⟨⟨h0, he⟩, hn⟩, hpos⟩ := h1
      subst h0; subst he
      obtain ⟨_, t, ht, e'⟩ := addr_inv hx
      obtain ⟨t', ht', cs, f, ho, hop, _, hsz, hle, hno, _⟩ := hw.obj b _ hb
      rw [ht] at ht'; injection ht' with ht'; subst ht'
      obtain ⟨i, hi, hiz⟩ := info_of_sz hpos
      obtain ⟨hsh, _⟩ := hno rfl
      rw [e'] at hx ⊢
      refine ⟨_, Go.Lib.run_from_unsafe (e := el) (cells := cs.size) w _ hs hd hi (by simp [World.shape?, ho]) ?_, hx⟩
      show liesAt P P.depth el (cs.size / P.cellsOf el) (t.sh + 0) el 1 = true
      rw [hsh]
      refine liesAt_one hpos _ ?_
      have hpos' : 0 < P.cellsOf el := hpos
      have hn' : P.cellsOf el ≤ n := hn
      exact (Nat.le_div_iff_mul_le hpos').2 (by omega)
    · cases h
  · cases h
theorem evRead_ok {ρ ρ' : Operand → Value} {o : Oper} {v : Value} {s : S} {w : World} (hw : WR μ s w) (h : evRead P ρ o s = some v) (hr : ∀ x ∈ o.op.operands, VR μ (ρ x) (ρ' x)) : Comp P μ (execOp ρ' o) v w := by
  obtain ⟨dst, op, type, pos, after, guard⟩ := o
  unfold evRead at h
  cases op with
  | load t a =>
    simp only at h
    have ha := hr a (by simp [Op.operands])
    split at h
    · rename_i a' e
      rw [e] at ha
      split at h
      · cases h
      · rename_i d hu
        obtain ⟨b, v', e2, hrun, hv⟩ := loadVar_ok hw hu ha h
        refine .of' (s := Instr.loadAt t (ρ' a)) ?_ hv
        unfold Instr.loadAt
        rw [e2, bind_ok (show (Instr.sureAddr (.pointer (some b))).run P w = .ok b w from rfl)]
        exact hrun
    · cases h
  | lookup t x i ok =>
    simp only at h
    have hx := hr x (by simp [Op.operands])
    have hi := hr i (by simp [Op.operands])
    split at h
    · rename_i kt et hu
      split at h
      · rename_i d hkd
        obtain ⟨hd, hk⟩ := keyD_spec hkd
        split at h
        · rename_i e
          split at h
          · rename_i z hz
            injection h with h; subst h
            obtain ⟨inf, h1, h2, h3⟩ := tyZeroV_spec (μ := μ) hz
            rw [e] at hx
            have : ρ' x = .map none := mapn_inv hx
            exact .of' (s := Instr.lookup t (ρ' x) (ρ' i) ok) (by rw [this]; exact lookup_nil hu hd hk h1 h2) (okV_rel h3)
          · cases h
        · rename_i r e
          rw [e] at hx
          obtain ⟨t', ht, e'⟩ := map_inv hx
          split at h
          · rename_i es hg
            obtain ⟨u, hu', xs, cl, hxs, k1, k2⟩ := hw.obj _ _ hg
            rw [ht] at hu'; injection hu' with hu'; subst hu'
            split at h
            · rename_i j v0 hf
              injection h with h; subst h
              obtain ⟨r', f1, f2⟩ := findNow_ok hi es xs.toList 0 _ k1 k2 hf
              rcases f2 with ⟨f2, _⟩ | ⟨j2, v1, v2, z1, z2, z3, _⟩
              · cases f2
              · injection z1 with z1
                injection z1 with z1 z1'
                subst z1; subst z1'
                subst z2
                exact .of' (s := Instr.lookup t (ρ' x) (ρ' i) ok) (by rw [e', lookup_some hu hd hk hxs f1]; rfl) (okV_rel z3)
            · rename_i hf
              split at h
              · rename_i z hz
                injection h with h; subst h
                obtain ⟨inf, h1, h2, h3⟩ := tyZeroV_spec (μ := μ) hz
                obtain ⟨r', f1, f2⟩ := findNow_ok hi es xs.toList 0 _ k1 k2 hf
                rcases f2 with ⟨_, f2⟩ | ⟨j2, v1, v2, z1, _⟩
                · subst f2
                  exact .of' (s := Instr.lookup t (ρ' x) (ρ' i) ok) (by rw [e', lookup_some hu hd hk hxs f1]; simp only []; rw [bind_ok (zeroV_run h1 h2 w)]; rfl) (okV_rel h3)
                · cases z1
              · cases h
            · cases h
          · cases h
        · cases h
      · cases h
    · cases h
  | convert src dst x =>
    simp only at h
    have hx := hr x (by simp [Op.operands])
    split at h
    · rename_i e hd hs
      split at h
      · rename_i he
        refine .of' (s := convert src dst (ρ' x)) (v' := v) ?_ ?_
        · unfold convert
          rw [bind_ok (underlying_run hs w), bind_ok (underlying_run hd w)]
          split at h
          · rename_i l c e2
            injection h with h; subst h
            rw [e2] at hx
            rw [nils_inv hx]
            show (do match ← underlying e with | .int .u8 => Conv.bytesToString (.slice none l c) | .int .i32 => Conv.runesToString (.slice none l c) | _ => stuck "Convert: a slice of what to string?" : Sem Value).run P w = _
            rw [bind_ok (underlying_run he w)]
            rfl
          · rename_i a len c e2
            split at h
            · rename_i l hl
              split at h
              · rename_i r hr2
                injection h with h; subst h
                rw [e2] at hx
                obtain ⟨n, o, sp⟩ := a
                obtain ⟨rfl, t', q, c', ht, e3, _, _, hq⟩ := slc_inv hx
                obtain ⟨u, l', hu', hlen, hvr, hc⟩ := cellsAt_spec hw hl
                rw [ht] at hu'; injection hu' with hu'; subst hu'
                obtain ⟨ns, h1, h2⟩ := bytesOf_spec hr2 hvr
                have hc' : ∀ j v, l'[j]? = some v → w.cell? ⟨t'.b, q + j, none⟩ = some v := by
                  rcases hq with ⟨rfl, _⟩ | ⟨rfl, _⟩
                  · exact hc
                  · intro j v hj
                    rw [List.getElem?_eq_none (by omega)] at hj; cases hj
                rw [e3]
                show (do match ← underlying e with | .int .u8 => Conv.bytesToString (.slice (some ⟨t'.b, q, none⟩) len c') | .int .i32 => Conv.runesToString (.slice (some ⟨t'.b, q, none⟩) len c') | _ => stuck "Convert: a slice of what to string?" : Sem Value).run P w = _
                rw [bind_ok (underlying_run he w)]
                show (Conv.bytesToString (.slice (some ⟨t'.b, q, none⟩) len c')).run P w = _
                rw [run_bytesToString w _ len c' ns (by rw [loadCells_run t'.b q len w l' hlen hc', h1]), push_fold]
                simp [← h2]
              · cases h
            · cases h
          · cases h
        · split at h
          · injection h with h; subst h; exact .str _
          · split at h
            · split at h
              · injection h with h; subst h; exact .str _
              · cases h
            · cases h
          · cases h
      · cases h
    · rename_i e hd hs
      obtain ⟨v', h1, h2⟩ := toUns_ok hw hs hd h hx
      exact .of' (s := convert src dst (ρ' x)) h1 h2
    · rename_i e hd hs
      obtain ⟨v', h1, h2⟩ := fromUns_ok hw hs hd h hx
      exact .of' (s := convert src dst (ρ' x)) h1 h2
    · cases h
  | slice t x lo hi mx =>
    simp only at h
    have hx := hr x (by simp [Op.operands])
    have hlo : ∀ y, lo = some y → VR μ (ρ y) (ρ' y) := fun y e => hr y (by simp [Op.operands, e])
    have hhi : ∀ y, hi = some y → VR μ (ρ y) (ρ' y) := fun y e => hr y (by simp [Op.operands, e])
    have hmx : ∀ y, mx = some y → VR μ (ρ y) (ρ' y) := fun y e => hr y (by simp [Op.operands, e])
    split at h
    · rename_i b o len cap e
      split at h
      · rename_i el hu
        split at h
        · rename_i l hh m h1 h2 h3
          obtain ⟨hb, h⟩ := bif_some h
          simp only [Bool.and_eq_true, ble_iff, blt_iff] at hb
          obtain ⟨⟨⟨⟨a1, a2⟩, a3⟩, a4⟩, a5⟩ := hb
          obtain ⟨inf, hinf, _⟩ := szOf_pos (P := P) (t := el) (by omega)
          rw [e] at hx
          obtain ⟨_, t', q, c', ht, e3, hcc, hce, hq⟩ := slc_inv hx
          have b1 := bound_ok h1 hlo
          have b2 := bound_ok h2 hhi
          have b3 := bound_ok h3 hmx
          have m1 : (lo.map ρ' = none ∧ l = 0) ∨ ∃ k, lo.map ρ' = some (.int k (.ofNat l)) := by
            rcases b1 with ⟨rfl, h9⟩ | ⟨y, k, rfl, hk⟩
            · exact .inl ⟨rfl, h9⟩
            · exact .inr ⟨k, by simp [hk]⟩
          have m2 : (hi.map ρ' = none ∧ hh = len) ∨ ∃ k, hi.map ρ' = some (.int k (.ofNat hh)) := by
            rcases b2 with ⟨rfl, h9⟩ | ⟨y, k, rfl, hk⟩
            · exact .inl ⟨rfl, h9⟩
            · exact .inr ⟨k, by simp [hk]⟩
          obtain ⟨m', m3, hm1, hm2⟩ : ∃ m', ((mx.map ρ' = none ∧ m' = c') ∨ ∃ k, mx.map ρ' = some (.int k (.ofNat m'))) ∧ ((mx = none ∧ m' = c' ∧ m = cap) ∨ (mx ≠ none ∧ m' = m)) ∧ m' ≤ c' := by
            rcases b3 with ⟨rfl, h9⟩ | ⟨y, k, rfl, hk⟩
            · exact ⟨c', .inl ⟨rfl, rfl⟩, .inl ⟨rfl, rfl, h9⟩, Nat.le_refl _⟩
            · exact ⟨m, .inr ⟨k, by simp [hk]⟩, .inr ⟨by simp, rfl⟩, by omega⟩
          have hmm : m ≤ m' := by rcases hm1 with ⟨_, rfl, rfl⟩ | ⟨_, rfl⟩ <;> omega
          have hxx : mx.map ρ' = none ∨ hi.map ρ' ≠ none := by
            cases mx with
            | none => exact .inl rfl
            | some y => cases hi with
              | none => simp at a4
              | some z => exact .inr (by simp)
          have hrun := slice_run (b := t'.b) (o := q) (len := len) (w := w) hu hinf m1 m2 m3 hxx a1 (Nat.le_trans a2 hmm) hm2
          refine .of' (s := Instr.sliceAt t (ρ' x) (lo.map ρ') (hi.map ρ') (mx.map ρ')) (by rw [e3]; exact hrun) ?_
          split at h
          · cases h
          · rename_i es0 ho
            obtain ⟨hop, hes⟩ := isOpen_spec hw ho ht
            simp only at hop
            have hcc' := hce hop
            have hme : m' = m := by rcases hm1 with ⟨_, r1, r2⟩ | ⟨_, r⟩ <;> omega
            subst hme
            rcases hq with ⟨rfl, _⟩ | ⟨_, _, _, hbad⟩
            · rw [beq_eq] at h
              by_cases hml : m' = l
              · simp only [hml, decide_true, cond_true, Option.some.injEq] at h
                rw [if_pos hml, ← h, hml]
                exact .slc _ _ _ _ _ t' ht (Nat.le_refl _) (fun _ => rfl) (fun hbad => by rw [hop] at hbad; cases hbad)
              · simp only [hml, decide_false, cond_false, Option.some.injEq] at h
                rw [if_neg hml, ← h, Nat.add_assoc]
                exact .slc _ _ _ _ _ t' ht (Nat.le_refl _) (fun _ => rfl) (fun hbad => by rw [hop] at hbad; cases hbad)
            · rw [hop] at hbad; cases hbad
          · rename_i es0 ho
            obtain ⟨hop, hes⟩ := isOpen_spec hw ho ht
            simp only at hop hes
            obtain ⟨hb2, h8⟩ := bif_some h
            rw [beq_eq, decide_eq_true_eq] at hb2
            rw [beq_eq] at h8
            rcases hq with ⟨rfl, hfit⟩ | ⟨rfl, rfl, rfl, _⟩
            · have hfit := hfit hop
              have fit : ∀ k, k ≤ c' → t'.sh + o + k * t'.es ≤ t'.sz := fun k hk => Nat.le_trans (Nat.add_le_add_left (Nat.mul_le_mul_right _ hk) _) hfit
              have fit2 : ∀ k, k + l ≤ c' → t'.sh + (o + l * szOf P el) + k * t'.es ≤ t'.sz := fun k hk => by
                have := fit (k + l) hk
                rw [Nat.add_mul] at this
                rw [← hb2, ← hes]; omega
              by_cases hml : m = l
              · simp only [hml, decide_true, cond_true] at h8
                split at h8
                · injection h8 with h8; subst h8
                  have hhl : hh = l := by omega
                  rcases hm1 with ⟨_, rfl, rfl⟩ | ⟨hbad, _⟩
                  · by_cases hcl : m' = l
                    · rw [if_pos hcl, hhl, hcl, Nat.sub_self]
                      exact .slz _ _ _ t' ht hop
                    · rw [if_neg hcl, hhl, Nat.sub_self, Nat.add_assoc]
                      exact .slc _ _ _ _ _ t' ht (Nat.zero_le _) (fun hbad => by rw [hop] at hbad; cases hbad) (fun _ => fit2 _ (by omega))
                  · exact absurd rfl hbad
                · rename_i y
                  injection h8 with h8; subst h8
                  rcases hm1 with ⟨hbad, _⟩ | ⟨_, rfl⟩
                  · cases hbad
                  · rw [if_pos hml, hml]
                    exact .slc _ _ _ _ _ t' ht (Nat.le_refl _) (fun _ => rfl) (fun _ => fit _ (by omega))
              · simp only [hml, decide_false, cond_false, Option.some.injEq] at h8
                rw [if_neg (by omega), ← h8, Nat.add_assoc]
                exact .slc _ _ _ _ _ t' ht (by omega) (fun hbad => by rw [hop] at hbad; cases hbad) (fun _ => fit2 _ (by omega))
            · have hl0 : l = 0 := by omega
              have hh0 : hh = 0 := by omega
              have hm0 : m = 0 := by omega
              have hm0' : m' = 0 := by omega
              subst hl0; subst hh0; subst hm0; subst hm0'
              rw [if_pos rfl]
              have h7 := h8
              clear h8
              cases mx with
              | none => simp at h7; subst h7; exact .slz _ _ _ t' ht hop
              | some y => simp at h7; subst h7; exact .slz _ _ _ t' ht hop
        · cases h
      · cases h
    · rename_i b o e
      split at h
      · rename_i n el hu
        split at h
        · rename_i l hh m h1 h2 h3
          obtain ⟨hb, h⟩ := bif_some h
          simp only [Bool.and_eq_true, ble_iff, blt_iff] at hb
          obtain ⟨⟨⟨⟨a1, a2⟩, a3⟩, a4⟩, a5⟩ := hb
          obtain ⟨inf, hinf, _⟩ := szOf_pos (P := P) (t := el) (by omega)
          rw [e] at hx
          obtain ⟨_, t', ht, e3⟩ := addr_inv hx
          have b1 := bound_ok h1 hlo
          have b2 := bound_ok h2 hhi
          have b3 := bound_ok h3 hmx
          have m1 : (lo.map ρ' = none ∧ l = 0) ∨ ∃ k, lo.map ρ' = some (.int k (.ofNat l)) := by
            rcases b1 with ⟨rfl, h9⟩ | ⟨y, k, rfl, hk⟩
            · exact .inl ⟨rfl, h9⟩
            · exact .inr ⟨k, by simp [hk]⟩
          have m2 : (hi.map ρ' = none ∧ hh = n) ∨ ∃ k, hi.map ρ' = some (.int k (.ofNat hh)) := by
            rcases b2 with ⟨rfl, h9⟩ | ⟨y, k, rfl, hk⟩
            · exact .inl ⟨rfl, h9⟩
            · exact .inr ⟨k, by simp [hk]⟩
          have m3 : (mx.map ρ' = none ∧ m = n) ∨ ∃ k, mx.map ρ' = some (.int k (.ofNat m)) := by
            rcases b3 with ⟨rfl, h9⟩ | ⟨y, k, rfl, hk⟩
            · exact .inl ⟨rfl, h9⟩
            · exact .inr ⟨k, by simp [hk]⟩
          have hxx : mx.map ρ' = none ∨ hi.map ρ' ≠ none := by
            cases mx with
            | none => exact .inl rfl
            | some y => cases hi with
              | none => simp at a4
              | some z => exact .inr (by simp)
          have hrun := sliceArr_run (b := t'.b) (o := t'.sh + o) (w := w) hu hinf m1 m2 m3 hxx a1 a2 a3
          refine .of' (s := Instr.sliceAt t (ρ' x) (lo.map ρ') (hi.map ρ') (mx.map ρ')) (by rw [e3]; exact hrun) ?_
          split at h
          · rename_i es0 ho
            obtain ⟨hop, hes⟩ := isOpen_spec hw ho ht
            simp only at hop
            rw [beq_eq] at h
            by_cases hml : m = l
            · simp only [hml, decide_true, cond_true, Option.some.injEq] at h
              rw [if_pos hml, ← h, hml]
              exact .slc _ _ _ _ _ t' ht (Nat.le_refl _) (fun _ => rfl) (fun hbad => by rw [hop] at hbad; cases hbad)
            · simp only [hml, decide_false, cond_false, Option.some.injEq] at h
              rw [if_neg hml, ← h, Nat.add_assoc]
              exact .slc _ _ _ _ _ t' ht (Nat.le_refl _) (fun _ => rfl) (fun hbad => by rw [hop] at hbad; cases hbad)
          · cases h
        · cases h
      · cases h
    · cases h
  | _ => cases h
end
end Go.Ev
