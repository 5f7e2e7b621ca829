/- append, copy, a string as bytes. -/
import Derived.Test.YtgeklgnjnjpofaaGreatDoorEvAct1
set_option linter.unusedVariables false
set_option linter.unusedSimpArgs false
namespace Go.Ev
open Go Go.RowKit
section
variable {P : Program} {μ : Mu}
theorem lenV_ok {x x' : Value} {n : Nat} (h : lenV x = some n) (hx : VR μ x x') (w : World) : (Builtin.lenOf x').run P w = .ok n w := by
  cases x <;> simp only [lenV] at h <;> (try (cases h; done))
  · injection h with h; subst h; cases hx; rfl
  · injection h with h; subst h
    cases hx <;> rfl
theorem byteCells (b : ByteArray) (n : Nat) : ((b.extract 0 n).data.map fun b => Value.int .u8 b.toNat).toList = (b.data.toList.take n).map fun x => Value.int .u8 x.toNat := by
  simp [ByteArray.data_extract, List.extract_eq_take_drop]
theorem VRs.u8 (l : List UInt8) : VRs μ (l.map fun x => Value.int .u8 x.toNat) (l.map fun x => Value.int .u8 x.toNat) := .map _ _ _ fun _ _ => .int _ _
/-- the cells of what is appended or copied. -/
theorem srcCells_ok {s : S} {w w2 : World} (h : WR μ s w) (hh : w2.heap = w.heap) {sz n : Nat} {x x' : Value} {l : List Value} (hl : srcCells s sz n x = some l) (hle : ∀ m, lenV x = some m → n ≤ m) (hx : VR μ x x') :
    ∃ l' : Array Value, (Builtin.firstCells sz n x').run P w2 = .ok l' w2 ∧ VRs μ l l'.toList := by
  have h2 := h.heap hh
  cases x <;> simp only [srcCells] at hl <;> (try (cases hl; done))
  · injection hl with hl; subst hl
    cases hx
    exact ⟨_, rfl, by rw [byteCells]; exact .u8 _⟩
  · rename_i a len cap
    cases a with
    | none =>
      injection hl with hl; subst hl
      rw [nils_inv hx]
      exact ⟨#[], rfl, .nil μ⟩
    | some a =>
      obtain ⟨nm, o, sp⟩ := a
      obtain ⟨rfl, t, q, c', ht, rfl, _, _, hq⟩ := slc_inv hx
      obtain ⟨u, l', hu, hl', hvr, hc⟩ := cellsAt_spec h2 hl
      rw [ht] at hu; injection hu with hu; subst hu
      have hc' : ∀ j v, l'[j]? = some v → w2.cell? ⟨t.b, q + j, none⟩ = some v := by
        rcases hq with ⟨rfl, _⟩ | ⟨h0, _⟩
        · exact hc
        · have := hle len rfl
          intro j v hj
          have h1 : n = 0 := by omega
          rw [h1, Nat.zero_mul] at hl'
          rw [List.getElem?_eq_none (by omega)] at hj; cases hj
      exact ⟨l'.toArray, loadCells_run t.b q (n * sz) w2 l' hl' hc', by simpa using hvr⟩
theorem isInt_no {d : TypeDesc} (hd : ∀ k, d ≠ .int k) : (match (generalizing := false) d with | .int _ => true | _ => false) = false := by
  cases d <;> first | rfl | exact absurd rfl (hd _)
theorem append_fit {sT xT e ty : TypeId} {i : TypeInfo} {d : TypeDesc} (hu : P.underlying sT = some (.slice e)) (hi : P.info? e = some i) (hx : P.underlying xT = some d) (hd : ∀ k, d ≠ .int k) {base : Option Addr} {len cap n : Nat} {x : Value} {new : Array Value} {w : World}
    (hn : (Builtin.lenOf x).run P w = .ok n w) (hnew : (Builtin.firstCells i.size n x).run P w = .ok new w) (hfit : len + n ≤ cap) :
    (Builtin.append_ #[sT, xT] ty #[.slice base len cap, x]).run P w = ((match base with | some a => storeCells (a.add (len * i.size)) new.toList | none => pure ()) >>= fun _ => pure (.slice base (len + n) cap) : Sem Value).run P w := by
  have hb := isInt_no hd
  cases base <;> simp [Builtin.append_, underlying_run hu, underlying_run hx, sizeOf_run hi, hn, hnew, hfit, hb, Result.andThen]
theorem append_grow {sT xT e ty : TypeId} {i : TypeInfo} {d : TypeDesc} (hu : P.underlying sT = some (.slice e)) (hi : P.info? e = some i) (hx : P.underlying xT = some d) (hd : ∀ k, d ≠ .int k) {base : Option Addr} {len cap n : Nat} {x z : Value} {old new : Array Value} {w : World}
    (hz : i.zero = some z) (hb0 : i.bytes ≠ 0) (hbytes : (len + n) * i.bytes ≤ 140737488355328) (hg : cap < len + n)
    (hn : (Builtin.lenOf x).run P w = .ok n w) (hold : (Builtin.firstCells i.size len (.slice base len cap)).run P w.drew = .ok old w.drew) (hnew : (Builtin.firstCells i.size n x).run P w.drew = .ok new w.drew) :
    ∃ nc, len + n ≤ nc ∧ (Builtin.append_ #[sT, xT] ty #[.slice base len cap, x]).run P w = .ok (.slice (some ⟨w.heap.size, 0, none⟩) (len + n) nc) { w with heap := w.heap.push (.cells (old ++ new ++ Builtin.zeroCells z.cells (nc - (len + n))) e (0, 0)), drawn := w.drawn + 1 } := by
  have hb := isInt_no hd
  have g := growslice_fits (need := len + n) (old := cap) (bytes := i.bytes) hg hbytes
  have hg' : ¬ (len + n ≤ cap) := by omega
  refine ⟨(Question.appendCap (len + n) cap e).cut (w.tape w.drawn (.appendCap (len + n) cap e)), by simp [Question.cut], ?_⟩
  have g2 : ¬ 281474976710656 < Builtin.nextslicecap (len + n) cap * i.bytes := by omega
  simp [Builtin.append_, underlying_run hu, underlying_run hx, sizeOf_run hi, typeInfo_run hi, hn, hnew, hold, hg', hb, Result.andThen, hb0, g2, Question.forced, zeroValue_run hi hz, newRow_run]
  exact ⟨rfl, rfl, rfl⟩
theorem sz_add {a b : List Value} (c : Nat) : (a ++ b).length = a.length + b.length := by simp
theorem zeroCells_size (z : Array Value) (n : Nat) : (Builtin.zeroCells z n).size = n * z.size := by simp [Builtin.zeroCells]
/-- what stands in front: the old cells. -/
theorem old_ok {s : S} {w w2 : World} (h : WR μ s w) (hh : w2.heap = w.heap) {nm o len cap m es sz q c' : Nat} {c : T Value} {el : TypeId} {opn fz : Bool} {t : Tgt} (hg : s.heap.get nm = some (.cells m c el es opn fz)) (ht : μ nm = some t)
    (hq : (q = t.sh + o ∧ (t.opn = true → t.sh + o + c' * t.es ≤ t.sz)) ∨ (len = 0 ∧ cap = 0 ∧ c' = 0 ∧ t.opn = true)) (hm : o + len * sz ≤ m) :
    ∃ old : Array Value, old.size = len * sz ∧ (Builtin.firstCells sz len (.slice (some ⟨t.b, q, none⟩) len c')).run P w2 = .ok old w2 ∧ ∀ i, i < len * sz → ∃ v, c.get (o + i) = some v ∧ VR μ v (old.getD i (.tuple #[])) := by
  obtain ⟨u, hu, cs, f, hw, ho, hes, hsz, hle, hx, hfz, hc⟩ := h.obj nm _ hg
  rw [ht] at hu; injection hu with hu; subst hu
  rcases hq with ⟨rfl, _⟩ | ⟨rfl, _⟩
  · refine ⟨((List.range (len * sz)).map fun j => cs.getD (t.sh + o + j) (.tuple #[])).toArray, by simp, ?_, fun i hi => ?_⟩
    · refine loadCells_run t.b (t.sh + o) (len * sz) w2 _ (by simp) (fun j v hj => ?_)
      have hi : j < len * sz := by
        rcases Nat.lt_or_ge j (len * sz) with h3 | h3
        · exact h3
        · rw [List.getElem?_eq_none (by simp; omega)] at hj; cases hj
      rw [List.getElem?_map, List.getElem?_range hi] at hj
      simp only [Option.map_some, Option.some.injEq] at hj
      rw [cell_of (by rw [hh]; exact hw), ← hj, Array.getElem?_eq_getElem (by omega)]
      simp [Array.getD_eq_getD_getElem?, show t.sh + o + j < cs.size by omega]
    · obtain ⟨v, h1, h2⟩ := hc (o + i) (by omega)
      refine ⟨v, h1, ?_⟩
      rw [getD_toList]
      rw [List.getD_eq_getElem?_getD]
      simp only [List.getElem?_map, List.getElem?_range hi, Option.map_some, Option.getD_some]
      rw [show t.sh + o + i = t.sh + (o + i) by omega]
      exact h2
  · refine ⟨#[], by simp, ?_, fun i hi => by omega⟩
    show (loadCells ⟨t.b, q, none⟩ (0 * sz)).run P w2 = _
    rw [Nat.zero_mul]
    rfl
theorem new_cells {old new new' : List Value} {z : Array Value} {a b : Nat} {olda newa : Array Value} {c : T Value} (hos : olda.size = a) (hnl : new.length = b) (ho : ∀ i, i < a → ∃ v, c.get i = some v ∧ VR μ v (olda.getD i (.tuple #[]))) (hn : VRs μ new newa.toList) :
    ∀ i, i < a + b → ∃ v, (T.puts new a c).get i = some v ∧ VR μ v ((olda ++ newa ++ z).getD i (.tuple #[])) := by
  intro i hi
  have hnl' : newa.size = b := by have := hn.1; simpa [hnl] using this.symm
  rw [puts_get]
  by_cases hin : a ≤ i ∧ i < a + new.length
  · rw [if_pos hin, List.getElem?_eq_getElem (by omega)]
    refine ⟨_, rfl, ?_⟩
    have := hn.2 (i - a) (by omega)
    rw [List.getD_eq_getElem?_getD, List.getElem?_eq_getElem (by omega)] at this
    simp only [Array.getD_eq_getD_getElem?]
    rw [Array.getElem?_append_left (by simp; omega), Array.getElem?_append_right (by omega), hos]
    rw [List.getD_eq_getElem?_getD, Array.getElem?_toList] at this
    exact this
  · rw [if_neg hin]
    obtain ⟨v, h1, h2⟩ := ho i (by omega)
    refine ⟨v, h1, ?_⟩
    simp only [Array.getD_eq_getD_getElem?] at h2 ⊢
    rw [Array.getElem?_append_left (by simp; omega), Array.getElem?_append_left (by omega)]
    exact h2
theorem run_value {x : Sem Value} {v' : Value} {w w' : World} (h : x.run P w = .ok v' w') : (do pure (.value (← x)) : Sem Next).run P w = .ok (.value v') w' := value_of h
/-- what append does, once the cells are known: room; none. -/
def AppFit (P : Program) (μ : Mu) (sT xT ty e : TypeId) (x' : Value) (n : Nat) (new : List Value) (w : World) : Prop :=
  ∀ (base : Option Addr) (len cap : Nat), len + n ≤ cap → ∃ nw : Array Value, VRs μ new nw.toList ∧
    (Builtin.append_ #[sT, xT] ty #[.slice base len cap, x']).run P w = ((match base with | some a => storeCells (a.add (len * szOf P e)) nw.toList | none => pure ()) >>= fun _ => pure (.slice base (len + n) cap) : Sem Value).run P w
def AppGrow (P : Program) (μ : Mu) (sT xT ty e : TypeId) (v : Value) (x' : Value) (n : Nat) (new : List Value) (w : World) : Prop :=
  ∀ (base : Option Addr) (len cap : Nat) (old : Array Value), cap < len + n → (len + n) * P.bytesOf e ≤ 140737488355328 → P.bytesOf e ≠ 0 → (Builtin.firstCells (szOf P e) len (.slice base len cap)).run P w.drew = .ok old w.drew →
    ∃ (nw : Array Value) (nc : Nat), VRs μ new nw.toList ∧ len + n ≤ nc ∧
      (Builtin.append_ #[sT, xT] ty #[.slice base len cap, x']).run P w = .ok (.slice (some ⟨w.heap.size, 0, none⟩) (len + n) nc) { w with heap := w.heap.push (.cells (old ++ nw ++ Builtin.zeroCells v.cells (nc - (len + n))) e (0, 0)), drawn := w.drawn + 1 }
set_option maxHeartbeats 1000000 in
theorem appendN_ok {s : S} {w : World} (h : WR μ s w) {sT xT ty e : TypeId} {base : Option Addr} {len cap n : Nat} {new : List Value} {v sl' x' : Value} (hs : VR μ (.slice base len cap) sl') (hzsz : v.cells.size = szOf P e)
    (hfitF : AppFit P μ sT xT ty e x' n new w) (hgrowF : AppGrow P μ sT xT ty e v x' n new w) :
    ActOK P μ s w (evAppendN P s e base len cap n new) ((do pure (.value (← Builtin.append_ #[sT, xT] ty #[sl', x'])) : Sem Next).run P w) := by
  unfold evAppendN
  cases hc : (new.all sc && Nat.beq new.length (n * szOf P e) && Nat.blt 0 (szOf P e) && Nat.blt 0 (P.bytesOf e)) with
  | false => exact trivial
  | true =>
  simp only [Bool.and_eq_true, beq_eq, decide_eq_true_eq, blt_iff] at hc
  obtain ⟨⟨⟨hsc, hnl⟩, hsz⟩, hby⟩ := hc
  simp only [cond_true]
  cases hf : Nat.ble (len + n) cap with
  | true =>
    rw [ble_iff] at hf
    simp only [cond_true]
    split
    · rename_i a
      obtain ⟨nm, o, sp⟩ := a
      split
      · rename_i hsp
        split
        · rename_i s' hst
          obtain ⟨rfl, t, q, c', ht, rfl, hcc', hce, hq⟩ := slc_inv hs
          obtain ⟨new', hr2, hmain⟩ := hfitF (some ⟨t.b, q, none⟩) len c' (by omega)
          obtain ⟨u, w', hu', hrun, hw', hf'⟩ := storeAt_spec (P := P) h hst hr2
          rw [ht] at hu'; injection hu' with hu'; subst hu'
          rcases hq with ⟨rfl, hfit⟩ | ⟨rfl, rfl, rfl, hop⟩
          · refine .value (v' := .slice (some ⟨t.b, t.sh + o, none⟩) (len + n) c') ?_ (.slc nm o _ _ _ t ht hcc' hce hfit) hw' hf'
            rw [hmain]
            simp only [add_none]
            rw [Nat.add_assoc, bind_ok hrun]
            rfl
          · have hn0 : n = 0 := by omega
            subst hn0
            have hnil : new'.toList = [] := by
              have := hr2.1
              rw [hnl, Nat.zero_mul] at this
              exact List.length_eq_zero_iff.1 this.symm
            rw [hnil] at hrun
            have hww : w' = w := by
              have : (storeCells ⟨t.b, t.sh + (o + 0 * szOf P e), none⟩ []).run P w = .ok () w := rfl
              rw [this] at hrun
              injection hrun with _ hww
              exact hww.symm
            subst hww
            refine .value (v' := .slice (some ⟨t.b, q, none⟩) (0 + 0) 0) ?_ (.slz nm o q t ht hop) hw' hf'
            rw [hmain]
            simp only [hnil]
            rfl
        · exact trivial
      · exact trivial
    · refine .value (v' := .slice none (len + n) cap) ?_ (.nils _ _) h (.refl μ s w)
      obtain ⟨new', hr2, hmain⟩ := hfitF none len cap hf
      rw [nils_inv hs, hmain]
      rfl
  | false =>
    have hf' : ¬ (len + n ≤ cap) := by rw [← ble_iff, hf]; simp
    simp only [cond_false]
    cases hb2 : Nat.ble ((len + n) * P.bytesOf e) 140737488355328 with
    | false => exact trivial
    | true =>
    rw [ble_iff] at hb2
    simp only [cond_true]
    have hdr : w.drew.heap = w.heap := rfl
    split
    · cases hl0 : Nat.beq len 0 with
      | false => exact trivial
      | true =>
      rw [beq_eq, decide_eq_true_eq] at hl0
      subst hl0
      simp only [cond_true]
      rw [nils_inv hs]
      obtain ⟨new', nc, hr2, hnc, hrun⟩ := hgrowF none 0 cap #[] (by omega) hb2 (by omega) rfl
      have hnew' : new'.size = n * szOf P e := by have := hr2.1; simpa [hnl] using this.symm
      have hsize : (#[] ++ new' ++ Builtin.zeroCells v.cells (nc - (0 + n))).size = nc * szOf P e := by
        simp only [Array.size_append, zeroCells_size, hzsz, hnew', Array.size_empty]
        rw [Nat.zero_add, Nat.zero_add, ← Nat.add_mul]; congr 1; omega
      obtain ⟨a, b⟩ := h.row (T.puts new 0 .e) (n * szOf P e) (#[] ++ new' ++ Builtin.zeroCells v.cells (nc - (0 + n))) e (szOf P e) true (w.drawn + 1) (by rw [hsize]; exact Nat.mul_le_mul_right _ (by omega)) (fun hb => by cases hb)
        (fun j hj => new_cells (old := []) (new' := []) (a := 0) (b := n * szOf P e) rfl hnl (fun i hi => by omega) hr2 j (by omega)) (0, 0) (fun i _ => nofr i)
      refine .value (v' := .slice (some ⟨w.heap.size, 0, none⟩) (0 + n) nc) (by rw [hrun]) ?_ a b
      rw [Nat.zero_add]
      exact .slc s.next 0 n n nc _ (Mu.up_same _ _ _) (by omega) (fun hb => by cases hb) (fun _ => by show 0 + 0 + nc * szOf P e ≤ _; rw [← hsize]; simp [tgt])
    · rename_i a
      obtain ⟨nm, o, sp⟩ := a
      split
      · rename_i m c el es opn fz hsp hg
        simp only at hsp hg
        cases hk : (Nat.beq el e && (!opn || Nat.beq es (szOf P e)) && Nat.ble (o + len * szOf P e) m) with
        | false => exact trivial
        | true =>
        simp only [Bool.and_eq_true, beq_eq, decide_eq_true_eq, ble_iff, Bool.or_eq_true] at hk
        obtain ⟨⟨rfl, hes0⟩, hm⟩ := hk
        simp only [cond_true]
        split
        · rename_i c2 hc2
          obtain ⟨rfl, t, q, c', ht, rfl, hcc', hce, hq⟩ := slc_inv hs
          obtain ⟨old, hos, hor, hold⟩ := old_ok (P := P) (sz := szOf P el) h hdr hg ht hq hm
          have hc2' : ∀ i, i < len * szOf P el → c2.get i = c.get (o + i) := by
            intro i hi
            cases h0 : Nat.beq o 0 with
            | true =>
              rw [h0] at hc2
              rw [beq_eq, decide_eq_true_eq] at h0
              simp only [cond_true, Option.some.injEq] at hc2
              rw [← hc2, h0, Nat.zero_add]
            | false =>
              rw [h0] at hc2
              simp only [cond_false] at hc2
              split at hc2
              · rename_i ol hol
                injection hc2 with hc2
                simp only [S.cellsAt, hg] at hol
                obtain ⟨_, hol⟩ := bif_some hol
                obtain ⟨hl1, hl2⟩ := gets_spec _ _ _ _ hol
                rw [← hc2, puts_get, if_pos (by omega), Nat.sub_zero, hl2 i hi]
              · cases hc2
          have hold2 : ∀ i, i < len * szOf P el → ∃ v, c2.get i = some v ∧ VR μ v (old.getD i (.tuple #[])) := fun i hi => by rw [hc2' i hi]; exact hold i hi
          obtain ⟨t2, ht2, csb, f, hwb, hob, hesb, hszb, hleb, hxb, hfzb, hcb⟩ := h.obj nm _ hg
          rw [ht] at ht2; injection ht2 with ht2; subst ht2
          have grow : c' < len + n → ∃ (new' : Array Value) (nc : Nat), VRs μ new new'.toList ∧ len + n ≤ nc ∧ (old ++ new' ++ Builtin.zeroCells v.cells (nc - (len + n))).size = nc * szOf P el ∧ (Builtin.append_ #[sT, xT] ty #[.slice (some ⟨t.b, q, none⟩) len c', x']).run P w = .ok (.slice (some ⟨w.heap.size, 0, none⟩) (len + n) nc) { w with heap := w.heap.push (.cells (old ++ new' ++ Builtin.zeroCells v.cells (nc - (len + n))) el (0, 0)), drawn := w.drawn + 1 } := by
            intro hlt
            obtain ⟨new', nc, hr2, hnc, hrun⟩ := hgrowF (some ⟨t.b, q, none⟩) len c' old hlt hb2 (by omega) hor
            have hnew' : new'.size = n * szOf P el := by have := hr2.1; simpa [hnl] using this.symm
            refine ⟨new', nc, hr2, hnc, ?_, hrun⟩
            simp only [Array.size_append, zeroCells_size, hzsz, hnew', hos]
            rw [← Nat.add_mul, ← Nat.add_mul]; congr 1; omega
          cases opn with
          | false =>
            simp only [cond_false]
            have hcap : c' = cap := hce hob.symm
            obtain ⟨new', nc, hr2, hnc, hsize, hrun⟩ := grow (by omega)
            obtain ⟨a, b⟩ := h.row (T.puts new (len * szOf P el) c2) ((len + n) * szOf P el) (old ++ new' ++ Builtin.zeroCells v.cells (nc - (len + n))) el (szOf P el) true (w.drawn + 1) (by rw [hsize]; exact Nat.mul_le_mul_right _ hnc) (fun hb => by cases hb)
              (fun j hj => new_cells (old := []) (new' := []) hos hnl hold2 hr2 j (by rw [← Nat.add_mul]; exact hj)) (0, 0) (fun i _ => nofr i)
            exact .value hrun (.slc s.next 0 _ _ nc _ (Mu.up_same _ _ _) hnc (fun hb => by cases hb) (fun _ => by show 0 + 0 + nc * szOf P el ≤ _; rw [← hsize]; simp [tgt])) a b
          | true =>
            have hes0 : es = szOf P el := by simpa using hes0
            subst hes0
            simp only [cond_true]
            cases fz with
            | true => exact trivial
            | false =>
            simp only [cond_false]
            by_cases hfit : len + n ≤ c'
            · -- the old block has room
              have hq' : q = t.sh + o ∧ t.sh + o + c' * t.es ≤ t.sz := by
                rcases hq with ⟨a, b⟩ | ⟨a, b, c3, _⟩
                · exact ⟨a, b hob.symm⟩
                · omega
              obtain ⟨rfl, hroom⟩ := hq'
              have hmul : (len + n) * szOf P el ≤ c' * t.es := by rw [← hesb]; exact Nat.mul_le_mul_right _ hfit
              have hadd : (len + n) * szOf P el = len * szOf P el + n * szOf P el := Nat.add_mul _ _ _
              obtain ⟨nw, hn2, hmain⟩ := hfitF (some ⟨t.b, t.sh + o, none⟩) len c' hfit
              have hnw : nw.toList.length = n * szOf P el := by have := hn2.1; rw [← this]; exact hnl
              have hst := storeCells_run (P := P) t.b (t.sh + o + len * szOf P el) nw.toList 0 w csb el f hwb (by omega) (fun j h1 h2 => hfzb rfl j (by omega)) (by rw [hn2.all_sc]; exact hsc)
              obtain ⟨a, b⟩ := h.move hg rfl ht (.cells ((len + n) * szOf P el) (T.puts new (len * szOf P el) c2) el (szOf P el) true false) (.cells (putL csb (t.sh + o + len * szOf P el) nw.toList) el f) ⟨t.b, t.sh + o, t.sz, szOf P el, true⟩ w.drawn rfl
                ⟨_, f, rfl, rfl, rfl, by rw [putL_size]; exact hszb, by show t.sh + o + _ ≤ t.sz; omega, fun hb => by (cases hb), fun _ j hj => hfzb rfl j hj, fun j hj => by
                  rw [puts_get]
                  show ∃ v, _ ∧ VR _ v ((putL csb (t.sh + o + len * szOf P el) nw.toList).getD (t.sh + o + j) (.tuple #[]))
                  rw [putL_get _ _ _ _ (by omega)]
                  have hmono := Mu.up_mono (t := (⟨t.b, t.sh + o, t.sz, szOf P el, true⟩ : Tgt)) (h.fresh _ (Nat.le_refl _))
                  by_cases hin : len * szOf P el ≤ j ∧ j < len * szOf P el + new.length
                  · rw [if_pos hin, if_pos (by omega), List.getElem?_eq_getElem (by omega)]
                    refine ⟨_, rfl, ?_⟩
                    have := hn2.2 (j - len * szOf P el) (by omega)
                    rw [List.getD_eq_getElem?_getD, List.getElem?_eq_getElem (by omega)] at this
                    rw [show t.sh + o + j - (t.sh + o + len * szOf P el) = j - len * szOf P el by omega]
                    exact this.mono hmono
                  · rw [if_neg hin, if_neg (by omega)]
                    obtain ⟨v1, x1, x2⟩ := hcb (o + j) (by omega)
                    refine ⟨v1, by rw [hc2' j (by omega)]; exact x1, ?_⟩
                    rw [show t.sh + o + j = t.sh + (o + j) by omega]
                    exact x2.mono hmono⟩
              refine .value (v' := .slice (some ⟨t.b, t.sh + o, none⟩) (len + n) c') ?_ (.slc s.next 0 _ _ c' _ (Mu.up_same _ _ _) hfit (fun hb => by cases hb) (fun _ => by show t.sh + o + 0 + c' * szOf P el ≤ t.sz; rw [hesb]; omega)) a b
              rw [hmain]
              simp only [add_none]
              rw [bind_ok hst]
              rfl
            · obtain ⟨new', nc, hr2, hnc, hsize, hrun⟩ := grow (by omega)
              obtain ⟨a, b⟩ := h.moveNew (n := nm) (.cells ((len + n) * szOf P el) (T.puts new (len * szOf P el) c2) el (szOf P el) true false) (.cells (old ++ new' ++ Builtin.zeroCells v.cells (nc - (len + n))) el (0, 0)) (tgt w (nc * szOf P el) (szOf P el) true) (w.drawn + 1) rfl
                ⟨_, (0, 0), rfl, rfl, rfl, hsize, by show 0 + _ ≤ nc * _; rw [Nat.zero_add]; exact Nat.mul_le_mul_right _ hnc, fun hb => by (cases hb), fun _ i _ => nofr i, fun j hj => by
                  obtain ⟨v1, x1, x2⟩ := new_cells (old := []) (new' := []) (z := Builtin.zeroCells v.cells (nc - (len + n))) hos hnl hold2 hr2 j (by rw [← Nat.add_mul]; exact hj)
                  exact ⟨v1, x1, by rw [show (tgt w (nc * szOf P el) (szOf P el) true).sh + j = j by show 0 + j = j; omega]; exact x2.mono (Mu.up_mono (h.fresh _ (Nat.le_refl _)))⟩⟩ (h.live hg) (fun o ho => by rw [hg] at ho; injection ho with ho; subst ho; rfl)
              exact .value hrun (.slc s.next 0 _ _ nc _ (Mu.up_same _ _ _) hnc (fun hb => by cases hb) (fun _ => by show 0 + 0 + nc * szOf P el ≤ nc * szOf P el; omega)) a b
        · exact trivial
      · exact trivial
theorem append_fits {sT xT ty e : TypeId} {d : TypeDesc} (hu : P.underlying sT = some (.slice e)) {i : TypeInfo} (hi : P.info? e = some i) (hxt : P.underlying xT = some d) (hd : ∀ k, d ≠ .int k) {s : S} {w : World} (h : WR μ s w) {n : Nat} {x x' : Value} {new : List Value} (hn : lenV x = some n) (hx : VR μ x x') (hnew : srcCells s (szOf P e) n x = some new) : AppFit P μ sT xT ty e x' n new w := by
  intro base len cap hf
  obtain ⟨nw, h1, h2⟩ := srcCells_ok (P := P) h rfl hnew (fun m hm => by rw [hn] at hm; injection hm with hm; omega) hx
  refine ⟨nw, h2, ?_⟩
  rw [append_fit (P := P) (ty := ty) hu hi hxt hd (lenV_ok hn hx w) (by rw [← szOf_eq hi]; exact h1) hf, szOf_eq hi]
theorem append_grows {sT xT ty e : TypeId} {d : TypeDesc} (hu : P.underlying sT = some (.slice e)) {i : TypeInfo} (hi : P.info? e = some i) {v : Value} (hv : i.zero = some v) (hxt : P.underlying xT = some d) (hd : ∀ k, d ≠ .int k) {s : S} {w : World} (h : WR μ s w) {n : Nat} {x x' : Value} {new : List Value} (hn : lenV x = some n) (hx : VR μ x x') (hnew : srcCells s (szOf P e) n x = some new) : AppGrow P μ sT xT ty e v x' n new w := by
  intro base len cap old hlt hb hb0 hor
  have hbi : P.bytesOf e = i.bytes := by simp [Program.bytesOf, hi]
  obtain ⟨nw, h1, h2⟩ := srcCells_ok (P := P) (w2 := w.drew) h rfl hnew (fun m hm => by rw [hn] at hm; injection hm with hm; omega) hx
  obtain ⟨nc, hnc, hrun⟩ := append_grow (P := P) (ty := ty) (base := base) (cap := cap) (old := old) hu hi hxt hd hv (by rw [← hbi]; exact hb0) (by rw [← hbi]; exact hb) hlt (lenV_ok hn hx w) (by rw [← szOf_eq hi]; exact hor) (by rw [← szOf_eq hi]; exact h1)
  exact ⟨nw, nc, h2, hnc, hrun⟩
theorem zero_cells (v : Value) (n : Nat) (hz : 0 < v.cells.size) : (Builtin.zeroCells v.cells n).toList = (List.replicate n v.cells.toList).flatten := made_flat v n hz
theorem zlen {i : TypeInfo} {n : Nat} (hnb : n * i.bytes ≤ 140737488355328) : (((n : Int) < 0) = False) ∧ ((281474976710656 < (n : Int) * (i.bytes : Int)) = False) := by
  constructor
  · simp
  · have : ((n * i.bytes : Nat) : Int) ≤ 140737488355328 := by omega
    rw [Int.natCast_mul] at this
    exact eq_false (by omega)
theorem wrap_n {n : Nat} (hnm : n ≤ 140737488355328) : IntKind.i64.wrap (n : Int) = (n : Int) := by rw [IntKind.wrap_i64]; omega
theorem zeroCells_nil (v : Value) : Builtin.zeroCells v.cells 0 = #[] := by simp [Builtin.zeroCells]
theorem appendZ_fits {sT xT ty e : TypeId} (hu : P.underlying sT = some (.slice e)) {i : TypeInfo} (hi : P.info? e = some i) {v : Value} (hv : i.zero = some v) (hvr : VR μ v v) (hvs : v.cells.size = i.size) (hs0 : 0 < i.size) {k kx : IntKind} (hxt : P.underlying xT = some (.int kx)) {n : Nat} (hnb : n * i.bytes ≤ 140737488355328) (hnm : n ≤ 140737488355328) (h0 : 0 < n) {w : World} : AppFit P μ sT xT ty e (.int k (.ofNat n)) n (List.replicate n v.cells.toList).flatten w := by
  intro base len cap hf
  have hw := wrap_n hnm
  obtain ⟨z1, z2⟩ := zlen (i := i) hnb
  have hn0 : ¬ n * i.size = 0 := Nat.ne_of_gt (Nat.mul_pos h0 hs0)
  refine ⟨Builtin.zeroCells v.cells n, by rw [zero_cells v n (by omega)]; have := hvr.cells; rw [cellsL_eq] at this; exact this.flat n, ?_⟩
  cases base <;> simp [Builtin.append_, underlying_run hu, underlying_run hxt, sizeOf_run hi, typeInfo_run hi, zeroValue_run hi hv, asInt, asIntOf, Result.andThen, szOf_eq hi, hw, z1, z2, hn0, hf]
theorem appendZ_grows {sT xT ty e : TypeId} (hu : P.underlying sT = some (.slice e)) {i : TypeInfo} (hi : P.info? e = some i) {v : Value} (hv : i.zero = some v) (hvr : VR μ v v) (hvs : v.cells.size = i.size) (hs0 : 0 < i.size) {k kx : IntKind} (hxt : P.underlying xT = some (.int kx)) {n : Nat} (hnb : n * i.bytes ≤ 140737488355328) (hnm : n ≤ 140737488355328) (h0 : 0 < n) {w : World} : AppGrow P μ sT xT ty e v (.int k (.ofNat n)) n (List.replicate n v.cells.toList).flatten w := by
  intro base len cap old hlt hb hb0 hor
  have hbi : P.bytesOf e = i.bytes := by simp [Program.bytesOf, hi]
  rw [hbi] at hb hb0
  rw [szOf_eq hi] at hor
  have hw := wrap_n hnm
  obtain ⟨z1, z2⟩ := zlen (i := i) hnb
  have g := growslice_fits (need := len + n) (old := cap) (bytes := i.bytes) hlt hb
  have hg' : ¬ (len + n ≤ cap) := by omega
  have g2 : ¬ 281474976710656 < Builtin.nextslicecap (len + n) cap * i.bytes := by omega
  have hlb : len + n ≤ 140737488355328 := Nat.le_trans (Nat.le_mul_of_pos_right _ (by omega)) hb
  have g3 : ((9223372036854775807 : Int) < (len : Int) + (n : Int)) = False := eq_false (by omega)
  have hn0 : ¬ n * i.size = 0 := Nat.ne_of_gt (Nat.mul_pos h0 hs0)
  refine ⟨Builtin.zeroCells v.cells n, (Question.appendCap (len + n) cap e).cut (w.tape w.drawn (.appendCap (len + n) cap e)), by rw [zero_cells v n (by omega)]; have := hvr.cells; rw [cellsL_eq] at this; exact this.flat n, by simp [Question.cut], ?_⟩
  simp [Builtin.append_, underlying_run hu, underlying_run hxt, sizeOf_run hi, typeInfo_run hi, zeroValue_run hi hv, asInt, asIntOf, Result.andThen, szOf_eq hi, hw, z1, z2, hn0, hg', g2, g3, hor, Question.forced, newRow_run]
  exact ⟨rfl, rfl, rfl⟩
theorem append_ok {s : S} {w : World} (h : WR μ s w) {sT xT ty : TypeId} {sl x sl' x' : Value} (hs : VR μ sl sl') (hx : VR μ x x') :
    ActOK P μ s w (evAppend P s sT xT sl x) ((do pure (.value (← Builtin.append_ #[sT, xT] ty #[sl', x'])) : Sem Next).run P w) := by
  unfold evAppend
  split
  · rename_i e kx hu hxt
    split
    · rename_i z base len cap k n hz
      cases hb : (Nat.ble (n * P.bytesOf e) 140737488355328 && Nat.ble n 140737488355328 && Nat.blt 0 n) with
      | false => exact trivial
      | true =>
      simp only [Bool.and_eq_true, ble_iff, blt_iff] at hb
      simp only [cond_true]
      obtain ⟨i, v, hi, hv, hcc, hzz, hzs, hzl, hvr⟩ := tyZero_spec (μ := μ) hz
      have hcs : z = v.cells.toList := by rw [← hcc, cellsL_eq]
      have hbi : P.bytesOf e = i.bytes := by simp [Program.bytesOf, hi]
      have hvs : v.cells.size = i.size := by rw [← hzl, hcs]; simp
      rw [int_ofNat_inv hx, hcs]
      by_cases hs0 : 0 < i.size
      · rw [hbi] at hb
        exact appendN_ok h hs (by rw [hvs, szOf_eq hi]) (appendZ_fits hu hi hv hvr hvs hs0 hxt hb.1.1 hb.1.2 hb.2) (appendZ_grows hu hi hv hvr hvs hs0 hxt hb.1.1 hb.1.2 hb.2)
      · unfold evAppendN
        have : Nat.blt 0 (szOf P e) = false := by
          cases hbb : Nat.blt 0 (szOf P e) with
          | false => rfl
          | true => rw [blt_iff, szOf_eq hi] at hbb; exact absurd hbb hs0
        simp [this, ActOK]
    · exact trivial
  · rename_i e d hnot hu hxt
    have hd : ∀ k, d ≠ .int k := fun k e' => hnot k e'
    split
    · rename_i z base len cap n hz hn
      split
      · rename_i new hnew
        obtain ⟨i, v, hi, hv, hcc, hzz, hzs, hzl, hvr⟩ := tyZero_spec (μ := μ) hz
        have hzsz : v.cells.size = szOf P e := by
          have h1 : (cellsL v).length = v.cells.size := by rw [cellsL_eq]; simp
          rw [← h1, hcc, hzl, szOf_eq hi]
        exact appendN_ok h hs hzsz (append_fits hu hi hxt hd h hn hx hnew) (append_grows hu hi hv hxt hd h hn hx hnew)
      · exact trivial
    · exact trivial
  · exact trivial
end
end Go.Ev
