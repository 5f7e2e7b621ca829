/- what an operation that acts comes to is what the model does. -/
import Derived.Lib.UnsafeStr
import Derived.Lib.MakeNoZero
import Derived.Laws.Externs
import Derived.Test.YtgeklgnjnjpofaaGreatDoorEvAct2
set_option linter.unusedVariables false
set_option linter.unusedSimpArgs false
namespace Go.Ev
open Go Go.RowKit
section
variable {P : Program} {μ : Mu}
theorem copy_ok {s s' : S} {w : World} (h : WR μ s w) {dT sT ty e : TypeId} (hu : P.underlying dT = some (.slice e)) {a : Addr} {dl cp n : Nat} {x d' x' : Value} (hd : VR μ (.slice (some a) dl cp) d') (hx : VR μ x x') {i : TypeInfo} (hi : P.info? e = some i) (hn : lenV x = some n)
    {l : List Value} (hl : srcCells s (szOf P e) (min n dl) x = some l) (hll : l.length = min n dl * szOf P e) (hs : s.storeAt a l = some s') :
    ActOK P μ s w (.val (.int .i64 (min n dl : Nat)) s') ((do pure (.value (← Builtin.copy_ #[dT, sT] ty #[d', x'])) : Sem Next).run P w) := by
  obtain ⟨nm, o, sp⟩ := a
  obtain ⟨rfl, t, q, c', ht, rfl, hcc', hce, hq⟩ := slc_inv hd
  obtain ⟨l', hr1, hr2⟩ := srcCells_ok (P := P) h rfl hl (fun m hm => by rw [hn] at hm; injection hm with hm; subst hm; exact Nat.min_le_left _ _) hx
  obtain ⟨u, w', hu', hrun, hw', hf'⟩ := storeAt_spec (P := P) h hs hr2
  rw [ht] at hu'; injection hu' with hu'; subst hu'
  have hln := lenV_ok (P := P) hn hx w
  have hmain : (Builtin.copy_ #[dT, sT] ty #[.slice (some ⟨t.b, q, none⟩) dl c', x']).run P w = (do storeCells ⟨t.b, q, none⟩ l'.toList; pure (goInt (min n dl : Nat)) : Sem Value).run P w := by
    rw [szOf_eq hi] at hr1
    simp [Builtin.copy_, underlying_run hu, sizeOf_run hi, hln, hr1, Result.andThen, show Nat.min n dl = min n dl from rfl]
  rcases hq with ⟨rfl, _⟩ | ⟨rfl, _⟩
  · refine .value (v' := goInt (min n dl : Nat)) ?_ (.int _ _) hw' hf'
    rw [hmain, bind_ok hrun]; rfl
  · have hnil : l'.toList = [] := by
      have := hr2.1
      rw [hll, Nat.min_zero, Nat.zero_mul] at this
      exact List.length_eq_zero_iff.1 this.symm
    rw [hnil] at hrun
    have hww : w' = w := by
      have : (storeCells ⟨t.b, t.sh + o, none⟩ []).run P w = .ok () w := rfl
      rw [this] at hrun
      injection hrun with _ hww
      exact hww.symm
    subst hww
    refine .value (v' := goInt (min n 0 : Nat)) ?_ (.int _ _) hw' hf'
    rw [hmain, hnil]
    rfl
theorem freeze_new (w : World) (cs : Array Value) (e : TypeId) (d : Nat) : ({ w with heap := w.heap.push (.cells cs e (0, 0)), drawn := d } : World).freeze ⟨w.heap.size, cs.size, none⟩ 1 = { w with heap := w.heap.push (.cells cs e (cs.size, cs.size + 1)), drawn := d } := by
  unfold World.freeze
  rw [if_neg (by simp)]
  congr 1
  apply Array.ext_getElem?
  intro i
  simp only [Array.getElem?_modify, Array.getElem?_push]
  by_cases hi : w.heap.size = i
  · subst hi; simp
  · rw [if_neg hi]
    by_cases h2 : i = w.heap.size
    · exact absurd h2.symm hi
    · rw [if_neg h2, if_neg h2]
theorem bytes_ok {n : Nat} (hm : μ n = none) (w : World) (e : TypeId) (b : ByteArray) :
    AlOK P μ n w (.slice (some ⟨n, 0, none⟩) b.size b.size) (.cells b.size (T.puts (b.data.toList.map fun x => Value.int .u8 x.toNat) 0 .e) e 1 true false) ((do pure (.value (← Conv.stringToBytes e b)) : Sem Next).run P w) := by
  obtain ⟨nc, hnc⟩ : ∃ nc, (Question.appendCap b.size 0 e).cut (w.tape w.drawn (.appendCap b.size 0 e)) = nc := ⟨_, rfl⟩
  have hle : b.size ≤ nc := by rw [← hnc]; simp [Question.cut]
  obtain ⟨cs, hcs⟩ : ∃ cs, cs = (b.data.map fun b => Value.int .u8 b.toNat) ++ Array.replicate (nc - b.size) (.int .u8 0) := ⟨_, rfl⟩
  have hbs : b.data.size = b.size := rfl
  have hsz : cs.size = nc := by rw [hcs]; simp; omega
  have hrun : (Conv.stringToBytes e b).run P w = .ok (.slice (some ⟨w.heap.size, 0, none⟩) b.size nc) { w with heap := w.heap.push (.cells cs e (cs.size, cs.size + 1)), drawn := w.drawn + 1 } := by
    rw [← freeze_new]
    unfold Conv.stringToBytes
    rw [bind_ok (show (choose (.appendCap b.size 0 e)).run P w = .ok nc { w with drawn := w.drawn + 1 } by rw [← hnc]; rfl)]
    simp only []
    rw [← hcs]
    rw [bind_ok (newRow_run e cs _)]
    rw [bind_ok (a := ()) (w' := ({ w with heap := w.heap.push (.cells cs e (0, 0)), drawn := w.drawn + 1 } : World).freeze ⟨w.heap.size, cs.size, none⟩ 1)]
    · rfl
    · unfold markStringish
      rw [bind_ok (show (shape w.heap.size).run P ({ w with heap := w.heap.push (.cells cs e (0, 0)), drawn := w.drawn + 1 } : World) = .ok (some (e, cs.size)) ({ w with heap := w.heap.push (.cells cs e (0, 0)), drawn := w.drawn + 1 } : World) by show Result.ok (World.shape? _ _) _ = _; simp [World.shape?])]
      rfl
  have ho := row_or hm w (T.puts (b.data.toList.map fun x => Value.int .u8 x.toNat) 0 .e) b.size cs e 1 true (by omega) (fun hb => by cases hb) (fun j hj => by
    rw [puts_get, if_pos (by simp only [List.length_map, Array.length_toList]; omega), Nat.sub_zero, List.getElem?_map, Array.getElem?_toList, Array.getElem?_eq_getElem (by omega)]
    refine ⟨_, rfl, ?_⟩
    rw [hcs, Array.getD_eq_getD_getElem?, Array.getElem?_append_left (by simp; omega), Array.getElem?_map, Array.getElem?_eq_getElem (by omega)]
    exact .int _ _) (cs.size, cs.size + 1) (fun i hi => by simp only; omega)
  exact .value hrun rfl (.slc n 0 b.size b.size nc _ (Mu.up_same _ _ _) hle (fun hb => by cases hb) (fun _ => by show 0 + 0 + nc * 1 ≤ cs.size; omega)) ho
theorem args_rel {ρ ρ' : Operand → Value} {c : Call} (hr : ∀ x ∈ c.operands, VR μ (ρ x) (ρ' x)) : VRs μ (c.args.toList.map ρ) (c.args.map ρ').toList := by
  rw [Array.toList_map]
  exact .map _ _ _ fun x hx => hr x (by simp [Call.operands, Array.mem_toList_iff.1 hx])
theorem update_ok {s : S} {w : World} (h : WR μ s w) {t : TypeId} {m k v m' k' v' : Value} (hm : VR μ m m') (hk : VR μ k k') (hv : VR μ v v') :
    ActOK P μ s w (evUpdate P s t m k v) ((do Instr.mapUpdate t m' k' v'; pure .skip : Sem Next).run P w) := by
  unfold evUpdate
  split
  · rename_i kt et hu
    split
    · rename_i d hkd
      obtain ⟨hd, hkk⟩ := keyD_spec hkd
      split
      · rename_i r
        obtain ⟨t', ht, rfl⟩ := map_inv hm
        split
        · rename_i es hg
          obtain ⟨u, hu', xs, cl, hxs, k1, k2⟩ := h.obj _ _ hg
          rw [ht] at hu'; injection hu' with hu'; subst hu'
          split
          · rename_i j v0 hf
            obtain ⟨r', f1, f2⟩ := findNow_ok hk es xs.toList 0 _ k1 k2 hf
            rcases f2 with ⟨f2, _⟩ | ⟨j2, v1, v2, z1, z2, z3, z4, z5, e, z6, z7⟩
            · cases f2
            · injection z1 with z1
              injection z1 with z1 z1'
              subst z1; subst z1'; subst z2
              have hmod : (xs.modify j fun e => { e with key := k', val := v' }).toList.map (·.key) = (xs.toList.map (·.key)).set j k' ∧ (xs.modify j fun e => { e with key := k', val := v' }).toList.map (·.val) = (xs.toList.map (·.val)).set j v' := by
                constructor
                · apply List.ext_getElem?
                  intro i
                  rw [List.getElem?_map, List.getElem?_set, Array.getElem?_toList, Array.getElem?_modify, List.getElem?_map, Array.getElem?_toList]
                  by_cases c : j = i
                  · subst c
                    rw [if_pos rfl, if_pos rfl]
                    by_cases c2 : j < xs.size
                    · rw [if_pos (by simpa using c2), Array.getElem?_eq_getElem c2]; rfl
                    · rw [if_neg (by simpa using c2), Array.getElem?_eq_none (by omega)]; rfl
                  · rw [if_neg c, if_neg c]
                · apply List.ext_getElem?
                  intro i
                  rw [List.getElem?_map, List.getElem?_set, Array.getElem?_toList, Array.getElem?_modify, List.getElem?_map, Array.getElem?_toList]
                  by_cases c : j = i
                  · subst c
                    rw [if_pos rfl, if_pos rfl]
                    by_cases c2 : j < xs.size
                    · rw [if_pos (by simpa using c2), Array.getElem?_eq_getElem c2]; rfl
                    · rw [if_neg (by simpa using c2), Array.getElem?_eq_none (by omega)]; rfl
                  · rw [if_neg c, if_neg c]
              obtain ⟨a, b⟩ := h.turn hg rfl ht (.map (es.set j (k, v))) (.map (xs.modify j fun e => { e with key := k', val := v' }) cl) w.drawn ⟨_, cl, rfl, by rw [hmod.1, List.map_set]; exact k1.set j hk, by rw [hmod.2, List.map_set]; exact k2.set j hv⟩
              refine ⟨μ, _, .skip, undef, ?_, .inr ⟨rfl, rfl⟩, .undef μ, a, b⟩
              rw [bind_ok (update_some hu hd hkk hxs f1 (by simpa using z6) z7)]
              rfl
          · rename_i hf
            cases hl : keyLike d k with
            | false => exact trivial
            | true =>
            obtain ⟨r', f1, f2⟩ := findNow_ok hk es xs.toList 0 _ k1 k2 hf
            rcases f2 with ⟨_, f2⟩ | ⟨j2, v1, v2, z1, _⟩
            · subst f2
              obtain ⟨a, b⟩ := h.turn hg rfl ht (.map (es ++ [(k, v)])) (.map (xs.push { key := k', val := v', born := cl }) (cl + 1)) w.drawn ⟨_, cl + 1, rfl, by simpa using k1.append (.cons hk (.nil μ)), by simpa using k2.append (.cons hv (.nil μ))⟩
              refine ⟨μ, _, .skip, undef, ?_, .inr ⟨rfl, rfl⟩, .undef μ, a, b⟩
              rw [bind_ok (update_none hu hd hkk hxs f1)]
              rfl
            · cases z1
          · exact trivial
        · exact trivial
      · exact trivial
    · exact trivial
  · exact trivial
theorem makeMap_ok {n : Nat} (hm : μ n = none) (w : World) (t : TypeId) : AlOK P μ n w (.map (some n)) (.map []) ((do pure (.value (← Instr.makeMap t none)) : Sem Next).run P w) :=
  .value (v' := .map (some w.heap.size)) (x := .map #[] 0) (d := w.drawn) (t := ⟨w.heap.size, 0, 0, 0, false⟩) rfl rfl (.map n _ (Mu.up_same _ _ _)) ⟨#[], 0, rfl, .nil _, .nil _⟩
theorem alS {v v2 : Value} {ob ob2 : AObj} (h : some (v, ob) = some (v2, ob2)) : v = v2 ∧ ob = ob2 := by injection h with h; injection h with h1 h2; exact ⟨h1, h2⟩
theorem alN {α : Prop} {x : Value × AObj} (h : none = some x) : α := nomatch h
set_option maxHeartbeats 1000000 in
theorem evAlloc_ok {ρ ρ' : Operand → Value} {o : Oper} {n : Nat} {v : Value} {ob : AObj} (hm : μ n = none) (w : World) (hr : ∀ x ∈ o.op.operands, VR μ (ρ x) (ρ' x)) (h : evAlloc P ρ o n = some (v, ob)) : AlOK P μ n w v ob ((execOp ρ' o).run P w) := by
  obtain ⟨dst, op, type, pos, after, guard⟩ := o
  unfold evAlloc at h
  cases op with
  | alloc e =>
    simp only at h
    split at h
    · rename_i z hz; obtain ⟨rfl, rfl⟩ := alS h; exact alloc_ok hm w hz
    · exact alN h
  | box e x =>
    simp only at h
    cases hb : (cellsL (ρ x)).all sc with
    | false => rw [hb] at h; exact alN h
    | true => rw [hb] at h; obtain ⟨rfl, rfl⟩ := alS h; exact box_ok hm w (hr x (by simp [Op.operands]))
  | buildSlice t len parts =>
    simp only at h
    split at h
    · rename_i e hu
      split at h
      · rename_i z hz
        cases hb : (Nat.blt 0 len && Nat.blt 0 z.length && Nat.ble (len * z.length) 16777216) with
        | false =>
          simp only [hb, cond_false] at h
          cases hb0 : (Nat.beq len 0 && Nat.beq parts.size 0 && (P.info? e).isSome) with
          | false => rw [hb0] at h; exact alN h
          | true =>
          rw [hb0] at h
          obtain ⟨rfl, rfl⟩ := alS h
          simp only [Bool.and_eq_true, beq_eq, decide_eq_true_eq] at hb0
          obtain ⟨⟨rfl, hps⟩, hsi⟩ := hb0
          obtain ⟨inf, hinf⟩ := Option.isSome_iff_exists.1 hsi
          have hp0 : parts = #[] := Array.eq_empty_of_size_eq_zero hps
          subst hp0
          simp only [execOp, List.map_toArray, List.map_nil]
          exact buildSlice_none hm w hu hinf
        | true =>
        simp only [hb, cond_true] at h
        simp only [Bool.and_eq_true, blt_iff, ble_iff] at hb
        obtain ⟨⟨h0, h1⟩, h2⟩ := hb
        split at h
        · rename_i cs hf
          cases hsc : cs.toList.all sc with
          | false => rw [hsc] at h; exact alN h
          | true =>
          rw [hsc] at h
          obtain ⟨rfl, rfl⟩ := alS h
          have := buildSlice_ok (P := P) hm w hu hz h0 h1 h2 (q := parts.toList.map fun p => (p.1, ρ' p.2)) (by rw [pairs_fst, pairs_fst]) (by
            rw [pairs_snd, pairs_snd]
            exact .map _ _ _ fun x hx => hr x.2 (by simp only [Op.operands]; simp; exact ⟨x.1, by simpa using hx⟩)) hf
          have e2 : (parts.toList.map fun p => (p.1, ρ' p.2)).toArray = parts.map fun (i, x) => (i, ρ' x) := by rw [← Array.toList_inj]; simp
          rw [e2] at this
          exact this
        · exact alN h
      · exact alN h
    · exact alN h
  | makeSlice t l c =>
    simp only at h
    split at h
    · rename_i e hu
      split at h
      · rename_i z kl l' kc c' hz hl hc
        cases hb : (Nat.ble l' c' && Nat.ble (P.bytesOf e * c') 140737488355328 && Nat.ble c' 140737488355328 && Nat.blt 0 z.length) with
        | false => rw [hb] at h; exact alN h
        | true =>
        rw [hb] at h
        obtain ⟨rfl, rfl⟩ := alS h
        simp only [Bool.and_eq_true, blt_iff, ble_iff] at hb
        obtain ⟨⟨⟨b1, b2⟩, b3⟩, b4⟩ := hb
        have r1 := hr l (by simp [Op.operands])
        have r2 := hr c (by simp [Op.operands])
        rw [hl] at r1; rw [hc] at r2
        have := makeSlice_ok (P := P) (kl := kl) (kc := kc) hm w hu hz b1 b2 b3 b4
        simp only [execOp, int_ofNat_inv r1, int_ofNat_inv r2]
        exact this
      · exact alN h
    · exact alN h
  | convert src dst x =>
    simp only at h
    have hx := hr x (by simp [Op.operands])
    split at h
    · rename_i e hd hs
      split at h
      · rename_i he
        split at h
        · rename_i b hb
          rw [hb] at hx
          obtain ⟨rfl, rfl⟩ := alS h
          have := bytes_ok (P := P) hm w e b
          have e2 : (convert src dst (ρ' x)).run P w = (Conv.stringToBytes e b).run P w := by
            unfold convert
            rw [str_inv hx, bind_ok (underlying_run hs w), bind_ok (underlying_run hd w)]
            show (do match ← underlying e with | .int .u8 => Conv.stringToBytes e b | .int .i32 => Conv.stringToRunes e b | _ => stuck "Convert: string to a slice of what?" : Sem Value).run P w = _
            rw [bind_ok (underlying_run he w)]
          have e3 : (do pure (.value (← convert src dst (ρ' x))) : Sem Next).run P w = (do pure (.value (← Conv.stringToBytes e b)) : Sem Next).run P w := by
            rw [bind_run, e2, ← bind_run]
          show AlOK P μ n w _ _ ((do pure (.value (← convert src dst (ρ' x))) : Sem Next).run P w)
          rw [e3]
          exact this
        · exact alN h
      · exact alN h
    · exact alN h
  | makeMap t r =>
    cases r with
    | none => obtain ⟨rfl, rfl⟩ := alS h; exact makeMap_ok hm w t
    | some r => exact alN h
  | _ => exact alN h
theorem digits_size : ∀ (n t : Nat) (acc : Array Value), (Extern.BytealgMakeNoZero.digits n t acc).size = acc.size + n
  | 0, t, acc => rfl
  | n + 1, t, acc => by rw [Extern.BytealgMakeNoZero.digits, digits_size n]; simp; omega
theorem digits_int : ∀ (n t : Nat) (acc : Array Value), (∀ i, i < acc.size → ∃ k z, acc.getD i (.tuple #[]) = .int k z) → ∀ i, i < acc.size + n → ∃ k z, (Extern.BytealgMakeNoZero.digits n t acc).getD i (.tuple #[]) = .int k z
  | 0, t, acc, h => h
  | n + 1, t, acc, h => by
    intro i hi
    rw [Extern.BytealgMakeNoZero.digits]
    refine digits_int n _ _ (fun j hj => ?_) i (by simp; omega)
    simp only [Array.size_push] at hj
    rw [Array.getD_eq_getD_getElem?, Array.getElem?_push]
    by_cases e : j = acc.size
    · rw [if_pos e]; exact ⟨_, _, rfl⟩
    · rw [if_neg e]
      have := h j (by omega)
      rw [Array.getD_eq_getD_getElem?] at this
      exact this
theorem noZero_run (ps : Array TypeId) (t e : TypeId) (ht : P.underlying t = some (.slice e)) (n : Nat) (hn : n ≤ 281474976710656) (w : World) :
    ∃ (cs : Array Value) (d : Nat), (Extern.BytealgMakeNoZero.makeNoZero ps #[t] #[.int .i64 n]).run P w = .ok (.slice (some ⟨w.heap.size, 0, none⟩) n cs.size) { w with heap := w.heap.push (.cells cs e (0, 0)), drawn := d } ∧ n ≤ cs.size ∧ ∀ i, i < cs.size → ∃ k z, cs.getD i (.tuple #[]) = .int k z := by
  have hdef : Extern.BytealgMakeNoZero.makeNoZero ps #[t] #[.int .i64 n] =
      (do
        let .slice elem ← underlying t | stuck "bytealg.MakeNoZero: slice type expected"
        if (n : Int) < 0 || (n : Int) > 2 ^ 48 then runtimePanic (.error "makeslice: len out of range")
        let cap ← choose (.appendCap (n : Int).toNat 0 elem)
        askRoom cap
        let bytes ← choose (.extern "internal/bytealg.MakeNoZero.bytes" 0)
        let a ← newRow elem (Extern.BytealgMakeNoZero.digits cap bytes #[])
        pure (.slice (some a) (n : Int).toNat cap)) := rfl
  refine ⟨Extern.BytealgMakeNoZero.digits (grownCap w n 0 e) ((Question.extern "internal/bytealg.MakeNoZero.bytes" 0).cut (w.tape (w.drawn + 1) (.extern "internal/bytealg.MakeNoZero.bytes" 0))) #[], w.drawn + 1 + 1, ?_, ?_, fun i hi => digits_int _ _ _ (fun j hj => by simp at hj) i (by rw [digits_size] at hi; exact hi)⟩
  · show _ = Result.ok _ (w.drew.drew.alloc (.cells _ e))
    rw [hdef]
    have h1 : ¬ (n : Int) < 0 := by omega
    have h2 : ¬ (281474976710656 : Int) < (n : Int) := by omega
    simp [run_underlying ht, h1, h2, Question.forced, newRow, Go.Lib.size_digits, grownCap]
  · rw [digits_size]
    simpa using grownCap_ge w n 0 e
theorem own1 {fn : Func} (hn : fn.name = "internal/abi.NoEscape") (ho : fn.origin = "") : Extern.findNext fn = none ∧ Extern.find fn = some Extern.AbiNoEscape.same := by
  cases fn
  simp only at hn ho
  subst hn; subst ho
  exact ⟨by kernel_rfl, by kernel_rfl⟩
theorem own2 {fn : Func} (hn : fn.name = "internal/bytealg.MakeNoZero") (ho : fn.origin = "") : Extern.findNext fn = none ∧ Extern.find fn = some (Extern.BytealgMakeNoZero.makeNoZero fn.params fn.resultTypes) := by
  cases fn
  simp only at hn ho
  subst hn; subst ho
  exact ⟨by kernel_rfl, by kernel_rfl⟩
theorem ownX_ok {g : FuncId} {args : List Value} {args' : Array Value} {s s' : S} {v : Value} {w : World} (hw : WR μ s w) (ha : VRs μ args args'.toList) (h : ownX P g args s = some (v, s')) :
    ∃ μ' w' v', (callFunc g args').run P w = .ok (.value v') w' ∧ VR μ' v v' ∧ WR μ' s' w' ∧ Fr μ s w μ' s' w' := by
  unfold ownX at h
  split at h
  rotate_left
  · cases h
  rename_i fn hf
  rw [Array.getElem?_toList] at hf
  split at h
  · cases h
  rename_i hb
  obtain ⟨ho', h⟩ := bif_some h
  have ho : fn.origin = "" := eq_of_beq ho'
  cases hne : (fn.name == "internal/abi.NoEscape") with
  | true =>
    rw [hne] at h
    simp only [cond_true] at h
    have hn : fn.name = "internal/abi.NoEscape" := eq_of_beq hne
    split at h
    · rename_i x
      injection h with h; injection h with h1 h2; subst h1; subst h2
      obtain ⟨x', r, e1, hx, hr⟩ := ha.head
      have hr' := hr.nil_inv
      have e2 : args' = #[x'] := by rw [← Array.toList_inj, e1, hr']
      obtain ⟨h1, h2⟩ := own1 hn ho
      refine ⟨μ, w, x', ?_, hx, hw, .refl μ _ w⟩
      rw [run_callFunc_extern hf (by rw [hn]; decide) (by rw [hb]; rfl) h1 h2, e2]
      rfl
    · cases h
  | false =>
    rw [hne] at h
    simp only [cond_false] at h
    obtain ⟨hn, h⟩ := bif_some h
    have hn : fn.name = "internal/bytealg.MakeNoZero" := eq_of_beq hn
    split at h
    · rename_i n t hres _ _
      split at h
      · rename_i e hu
        obtain ⟨hc, h⟩ := bif_some h
        rw [Bool.and_eq_true, ble_iff, beq_eq, decide_eq_true_eq] at hc
        injection h with h; injection h with h1 h2; subst h1; subst h2
        obtain ⟨x', r, e1, hx, hr⟩ := ha.head
        have hr' := hr.nil_inv
        have ex := int_ofNat_inv hx
        have e2 : args' = #[.int .i64 n] := by rw [← Array.toList_inj, e1, hr', ex]; rfl
        obtain ⟨cs, d, hrun, hle, hint⟩ := noZero_run fn.params t e hu n hc.1 w
        have hrow := hw.row (T.puts (List.replicate n top) 0 .e) n cs e 1 true d hle (fun hb => by cases hb) (fun i hi => ⟨top, by rw [puts_get, if_pos (by simp; omega)]; simp [hi], by
          obtain ⟨k, z, hz⟩ := hint i (by omega)
          rw [hz]; exact .top k z⟩) (0, 0) (fun i _ => nofr i)
        obtain ⟨h1, h2⟩ := own2 hn ho
        have hres' : fn.resultTypes = #[t] := by rw [← Array.toList_inj, hres]
        have hl0 : (List.replicate n top).length = n := by simp
        refine ⟨_, _, .slice (some ⟨w.heap.size, 0, none⟩) n cs.size, ?_, ?_, hrow.1, hrow.2⟩
        · rw [run_callFunc_extern hf (by rw [hn]; decide) (by rw [hb]; rfl) h1 h2, e2, hres', hrun]
          rfl
        · have := VR.slc (μ := μ.up s.next (tgt w cs.size 1 true)) s.next 0 n n cs.size (tgt w cs.size 1 true) (Mu.up_same _ _ _) hle (fun hb => by cases hb) (fun _ => by show 0 + 0 + cs.size * 1 ≤ cs.size; omega)
          exact this
      · cases h
    · cases h
theorem freeze_set {w : World} {b off n : Nat} {cs : Array Value} {e : TypeId} {f : Nat × Nat} (h : w.heap[b]? = some (.cells cs e f)) (hn : n ≠ 0) : ∃ f', w.freeze ⟨b, off, none⟩ n = { w with heap := w.heap.setIfInBounds b (.cells cs e f') } := by
  obtain ⟨lo, hi⟩ := f
  refine ⟨if lo == hi then (off, off + n) else (min lo off, max hi (off + n)), ?_⟩
  unfold World.freeze
  rw [if_neg hn]
  have key : ∀ (a : Array Obj) (g : Obj → Obj) (x y : Obj), a[b]? = some x → g x = y → a.modify b g = a.setIfInBounds b y := by
    intro a g x y hx hy
    apply Array.ext_getElem?
    intro i
    rw [Array.getElem?_modify, Array.getElem?_setIfInBounds]
    by_cases e : b = i
    · subst e
      have hlt : b < a.size := by
        rcases Nat.lt_or_ge b a.size with h1 | h1
        · exact h1
        · rw [Array.getElem?_eq_none h1] at hx; cases hx
      have hg : a[b] = x := by rw [Array.getElem?_eq_getElem hlt] at hx; injection hx
      simp [hg, hy, hlt]
    · simp [e]
  rw [key w.heap _ _ _ h rfl]
theorem unsStr_run {pt it ty e : TypeId} (hp : P.underlying pt = some (.pointer e)) (hc : P.cellsOf e = 1) {g off cells : Nat} {w : World} (hsh : w.shape? g = some (e, cells)) (ns : List Int) (l : List UInt8) (hns : ns.map (fun n => UInt8.ofNat n.toNat) = l) (h0 : l ≠ []) (hn : off + l.length ≤ cells) (h63 : l.length ≤ 9223372036854775807)
    (hcell : (loadBytes ⟨g, off, none⟩ .empty l.length).run P w = .ok ⟨l.toArray⟩ w) :
    (Builtin.unsafeString_ #[pt, it] ty #[.pointer (some ⟨g, off, none⟩), .int .i64 l.length]).run P w = .ok (.string ⟨l.toArray⟩) (w.freeze ⟨g, off, none⟩ l.length) := by
  have hl : l.length ≠ 0 := by simpa using h0
  have hlies := liesAt_row (P := P) hc (cells / P.cellsOf e) off l.length (by rw [hc]; simpa using hn)
  have h63' : ¬ (9223372036854775807 : Int) < (l.length : Int) := by omega
  have hdef : Builtin.unsafeString_ #[pt, it] ty #[.pointer (some ⟨g, off, none⟩), .int .i64 l.length] =
      (do
        let n ← asInt (.int .i64 l.length)
        if n < 0 then runtimePanic (.error "unsafe.String: len out of range")
        if n > IntKind.i64.max then unsupported (.unsafePointer "String: a length above the largest int")
        if n = 0 then pure (.string .empty)
        else if ← variablesAt ⟨g, off, none⟩ (← elemOf pt) n.toNat then do
          let s ← loadBytes ⟨g, off, none⟩ .empty n.toNat
          freeze ⟨g, off, none⟩ n.toNat
          pure (.string s)
        else unsupported (.unsafePointer "String: not so many bytes at ptr")) := rfl
  rw [hdef]
  have hmax : IntKind.i64.max = 9223372036854775807 := rfl
  have hneg : ¬ (l.length : Int) < 0 := by omega
  simp [asInt, asIntOf, hmax, h63', hneg, hl, variablesAt, hsh, elemOf, run_underlying hp, hlies, hcell]
theorem loadBytes_run : ∀ (ns : List Int) (g off : Nat) (acc : ByteArray) (w : World), (∀ j x, ns[j]? = some x → w.cell? ⟨g, off + j, none⟩ = some (.int .u8 x)) → (loadBytes ⟨g, off, none⟩ acc ns.length).run P w = .ok ⟨acc.data ++ (ns.map (fun n => UInt8.ofNat n.toNat)).toArray⟩ w
  | [], g, off, acc, w, h => by simp [loadBytes]
  | x :: l, g, off, acc, w, h => by
    have h0 : w.cell? ⟨g, off, none⟩ = some (.int .u8 x) := by simpa using h 0 x rfl
    have ih := loadBytes_run l g (off + 1) (acc.push (UInt8.ofNat x.toNat)) w fun j y hj => by
      have := h (j + 1) y (by simpa using hj)
      rw [show off + 1 + j = off + (j + 1) by omega]; exact this
    rw [List.length_cons, loadBytes, bind_ok (load_run h0)]
    show (loadBytes ((⟨g, off, none⟩ : Addr).add 1) (acc.push x.toNat.toUInt8) l.length).run P w = _
    rw [add_none]
    show (loadBytes ⟨g, off + 1, none⟩ (acc.push (UInt8.ofNat x.toNat)) l.length).run P w = _
    rw [ih]
    congr 1
    apply ByteArray.ext
    simp [ByteArray.push]
theorem unsStr_ok {s : S} {w : World} (hw : WR μ s w) {pt it ty e : TypeId} {b o n : Nat} {p' : Value} (hp : P.underlying pt = some (.pointer e)) (hn0 : n ≠ 0) (hpv : VR μ (.pointer (some ⟨b, o, none⟩)) p') :
    ActOK P μ s w (unsStr P s e b o n) ((do pure (.value (← Builtin.unsafeString_ #[pt, it] ty #[p', .int .i64 n])) : Sem Next).run P w) := by
  unfold unsStr
  split
  · rename_i m c el es opn fz hb
    cases hc : (Nat.beq el e && Nat.beq (szOf P e) 1 && !fz && Nat.ble n 9223372036854775807) with
    | false => exact trivial
    | true =>
    simp only [cond_true]
    rw [Bool.and_eq_true, Bool.and_eq_true, Bool.and_eq_true, ble_iff, beq_eq, beq_eq, decide_eq_true_eq, decide_eq_true_eq] at hc
    obtain ⟨⟨⟨h1, h2⟩, h3⟩, h4⟩ := hc
    have h3 : fz = false := by simpa using h3
    subst h1; subst h3
    split
    · rename_i l hl
      split
      · rename_i r hr
        obtain ⟨t, l', ht, hlen, hvr, hcell⟩ := cellsAt_spec hw hl
        obtain ⟨_, t2, ht2, ep⟩ := addr_inv hpv
        rw [ht] at ht2; injection ht2 with ht2; subst ht2
        obtain ⟨ns, hns1, hns2⟩ := bytesOf_spec hr hvr
        obtain ⟨t3, ht3, cs, f, hob, ho1, ho2, hsz, hle, hno, hfz, hcs⟩ := hw.obj b _ hb
        rw [ht] at ht3; injection ht3 with ht3; subst ht3
        have hnl : ns.length = n := by rw [← hlen, hns1]; simp
        have hrl : r.length = n := by rw [← hns2]; simpa using hnl
        have hc' : ∀ j x, ns[j]? = some x → w.cell? ⟨t.b, t.sh + o + j, none⟩ = some (.int .u8 x) := fun j x hj => hcell j _ (by rw [hns1]; simp [hj])
        have hlb := loadBytes_run (P := P) ns t.b (t.sh + o) .empty w hc'
        have hbnd : t.sh + o + n ≤ cs.size := by
          have := hc' (n - 1) (ns[n - 1]'(by omega)) (List.getElem?_eq_getElem (by omega))
          rw [cell_of hob] at this
          rcases Nat.lt_or_ge (t.sh + o + (n - 1)) cs.size with hlt | hge
          · omega
          · rw [Array.getElem?_eq_none hge] at this; cases this
        have hrun := unsStr_run (P := P) (it := it) (ty := ty) (g := t.b) (off := t.sh + o) (cells := cs.size) (w := w) hp h2 (by simp [World.shape?, hob]) ns r hns2 (by intro hc; rw [hc] at hrl; simp at hrl; omega) (by rw [hrl]; exact hbnd) (by omega) (by rw [hrl, ← hnl]; rw [hlb, hns2]; simp)
        obtain ⟨f', hfr⟩ := freeze_set (off := t.sh + o) (n := r.length) hob (by omega)
        rw [hfr, hrl] at hrun
        have htw := hw.turn hb rfl ht (.cells m c el es opn true) (.cells cs el f') w.drawn ⟨cs, f', rfl, ho1, ho2, hsz, hle, hno, fun hb => (by cases hb), hcs⟩
        rw [ep]
        exact ActOK.value (v' := .string ⟨r.toArray⟩) hrun (.str _) htw.1 htw.2
      · exact trivial
    · exact trivial
  · exact trivial
theorem ofAl_ok {ρ ρ' : Operand → Value} {o : Oper} {s : S} {w : World} (hw : WR μ s w) (hr : ∀ x ∈ o.op.operands, VR μ (ρ x) (ρ' x)) : ActOK P μ s w (ofAl s (evAlloc P ρ o s.next)) ((execOp ρ' o).run P w) := by
  cases h : evAlloc P ρ o s.next with
  | none => exact trivial
  | some x => exact (evAlloc_ok (hw.fresh _ (Nat.le_refl _)) w hr h).act hw
set_option maxHeartbeats 1000000 in
theorem evAct_ok {ρ ρ' : Operand → Value} {o : Oper} {s : S} {w : World} (hw : WR μ s w) (hr : ∀ x ∈ o.op.operands, VR μ (ρ x) (ρ' x)) : ActOK P μ s w (evAct P ρ o s) ((execOp ρ' o).run P w) := by
  obtain ⟨dst, op, type, pos, after, guard⟩ := o
  unfold evAct
  cases op with
  | alloc e => exact ofAl_ok hw hr
  | box e x => exact ofAl_ok hw hr
  | buildSlice t len parts => exact ofAl_ok hw hr
  | makeSlice t l c => exact ofAl_ok hw hr
  | convert src dst x => exact ofAl_ok hw hr
  | makeMap t r => exact ofAl_ok hw hr
  | store t a x =>
    simp only
    have ha := hr a (by simp [Op.operands])
    have hx := hr x (by simp [Op.operands])
    split
    · rename_i a' e
      cases hb : (Nat.beq (cellsL (ρ x)).length (szOf P t) && (P.info? t).isSome) with
      | false => exact trivial
      | true =>
      simp only [Bool.and_eq_true, beq_eq, decide_eq_true_eq] at hb
      simp only [cond_true]
      obtain ⟨i, hi⟩ := Option.isSome_iff_exists.1 hb.2
      split
      · rename_i s' hs
        rw [e] at ha
        exact store_ok hw hi ha hx hb.1 hs
      · exact trivial
    · exact trivial
  | mapUpdate t m k v => exact update_ok hw (hr m (by simp [Op.operands])) (hr k (by simp [Op.operands])) (hr v (by simp [Op.operands]))
  | insert t m k v => exact update_ok hw (hr m (by simp [Op.operands])) (hr k (by simp [Op.operands])) (hr v (by simp [Op.operands]))
  | call c =>
    simp only
    have hr' : ∀ x ∈ c.operands, VR μ (ρ x) (ρ' x) := fun x hx => hr x (by simpa [Op.operands] using hx)
    have hargs := args_rel hr'
    unfold evCall0
    split
    · rename_i f hf
      split
      · rename_i g first captured e
        have hfv := hr' f (by simp [Call.operands, hf])
        rw [e] at hfv
        obtain ⟨x', y', e', hx1, hx2⟩ := func_inv hfv
        have hrun : (execOp ρ' { dst := dst, op := .call c, type := type, pos := pos, after := after, guard := guard }).run P w = (callFunc g (x' ++ c.args.map ρ' ++ y')).run P w := by
          simp [execOp, resolve, hf, e', Deferred.ofValue, invoke, go_sem, Result.andThen]
        have hvs : VRs μ (first.toList ++ c.args.toList.map ρ ++ captured.toList) (x' ++ c.args.map ρ' ++ y').toList := by
          simp only [Array.toList_append]
          exact (hx1.append hargs).append hx2
        split
        · rename_i v s' hox
          obtain ⟨μ', w', v', r1, r2, r3, r4⟩ := ownX_ok hw hvs hox
          exact ⟨μ', w', .value v', v', hrun.trans r1, .inl rfl, r2, r3, r4⟩
        · exact ⟨_, hrun, hvs⟩
      · exact trivial
    · rename_i hf
      split
      · rename_i sl x sT xT ha ht
        obtain ⟨x1, x2, ea, e1, e2⟩ := args2 ha
        have et := types2 ht
        have v1 := hr' x1 (by simp [Call.operands, hf, ea])
        have v2 := hr' x2 (by simp [Call.operands, hf, ea])
        rw [e1] at v1; rw [e2] at v2
        have := append_ok (P := P) (ty := type) (sT := sT) (xT := xT) hw v1 v2
        have e3 : (execOp ρ' { dst := dst, op := .call c, type := type, pos := pos, after := after, guard := guard }).run P w = (do pure (.value (← Builtin.append_ #[sT, xT] type #[ρ' x1, ρ' x2])) : Sem Next).run P w := by
          simp only [execOp, resolve, hf, ea, et, List.map_toArray, List.map_cons, List.map_nil]
          rw [bind_ok (pure_run _ w)]
          rfl
        rw [e3]
        exact this
      · exact trivial
    · rename_i hf
      show (execOp ρ' { dst := dst, op := .call c, type := type, pos := pos, after := after, guard := guard }).run P w = .ok .recover w
      simp only [execOp, resolve, hf]
      rfl
    · rename_i hf
      split
      · rename_i q ln cp ty0 ha ht
        obtain ⟨x1, ea, e1⟩ := args1 ha
        have et := types1 ht
        have v1 := hr' x1 (by simp [Call.operands, hf, ea])
        rw [e1] at v1
        have e3 : (execOp ρ' { dst := dst, op := .call c, type := type, pos := pos, after := after, guard := guard }).run P w = (do pure (.value (← Builtin.unsafeSliceData_ #[ty0] type #[ρ' x1])) : Sem Next).run P w := by
          simp only [execOp, resolve, hf, ea, et, List.map_toArray, List.map_cons, List.map_nil]
          rw [bind_ok (pure_run _ w)]
          rfl
        rw [e3]
        split
        · rw [nils_inv v1]
          exact ActOK.value (v' := .pointer none) rfl .nilp hw (.refl μ _ w)
        · rename_i a
          cases hz : Nat.beq cp 0 with
          | true => exact trivial
          | false =>
          rw [beq_eq, decide_eq_false_iff_not] at hz
          simp only [cond_false]
          generalize ρ' x1 = y1 at v1 ⊢
          cases v1 with
          | slc n o l c c' t h hc he hs =>
            obtain ⟨k, hk⟩ : ∃ k, c' = k + 1 := ⟨c' - 1, by omega⟩
            subst hk
            exact ActOK.value (v' := .pointer (some ⟨t.b, t.sh + o, none⟩)) rfl (.ptr n o t h) hw (.refl μ _ w)
          | slz n o q t h ho => exact absurd rfl hz
      · exact trivial
    · rename_i hf
      split
      · rename_i q n pt it ha ht
        obtain ⟨x1, x2, ea, e1, e2⟩ := args2 ha
        have et := types2 ht
        have v1 := hr' x1 (by simp [Call.operands, hf, ea])
        have v2 := hr' x2 (by simp [Call.operands, hf, ea])
        rw [e1] at v1; rw [e2] at v2
        have i2 := int_ofNat_inv v2
        have e3 : (execOp ρ' { dst := dst, op := .call c, type := type, pos := pos, after := after, guard := guard }).run P w = (do pure (.value (← Builtin.unsafeString_ #[pt, it] type #[ρ' x1, .int .i64 n])) : Sem Next).run P w := by
          simp only [execOp, resolve, hf, ea, et, List.map_toArray, List.map_cons, List.map_nil, i2]
          rw [bind_ok (pure_run _ w)]
          rfl
        rw [e3]
        cases hz : Nat.beq n 0 with
        | true =>
          rw [beq_eq, decide_eq_true_eq] at hz
          subst hz
          obtain ⟨p', ep, _⟩ := ptr_none v1
          rw [ep]
          exact ActOK.value (v' := .string .empty) (Go.Lib.run_unsafeString_none (P := P) w pt it type p') (.str _) hw (.refl μ _ w)
        | false =>
          rw [beq_eq, decide_eq_false_iff_not] at hz
          simp only [cond_false]
          split
          · rename_i b o e hu
            exact unsStr_ok hw hu hz v1
          · exact trivial
      · exact trivial
    · rename_i hf
      split
      · rename_i a dl cp x dT sT ha ht
        obtain ⟨x1, x2, ea, e1, e2⟩ := args2 ha
        have et := types2 ht
        have v1 := hr' x1 (by simp [Call.operands, hf, ea])
        have v2 := hr' x2 (by simp [Call.operands, hf, ea])
        rw [e1] at v1; rw [e2] at v2
        split
        · rename_i e n hu hn hsp
          split
          · rename_i l hl
            cases hbk : (Nat.beq l.length (min n dl * szOf P e) && (P.info? e).isSome) with
            | false => exact trivial
            | true =>
            simp only [Bool.and_eq_true, beq_eq, decide_eq_true_eq] at hbk
            obtain ⟨hb, hk⟩ := hbk
            simp only [cond_true]
            split
            · rename_i s' hs
              obtain ⟨inf, hinf⟩ : ∃ inf, P.info? e = some inf := by
                cases hinf : P.info? e with
                | some inf => exact ⟨inf, rfl⟩
                | none => simp [hinf] at hk
              have := copy_ok (P := P) (ty := type) (sT := sT) hw hu v1 v2 hinf hn hl hb hs
              have e3 : (execOp ρ' { dst := dst, op := .call c, type := type, pos := pos, after := after, guard := guard }).run P w = (do pure (.value (← Builtin.copy_ #[dT, sT] type #[ρ' x1, ρ' x2])) : Sem Next).run P w := by
                simp only [execOp, resolve, hf, ea, et, List.map_toArray, List.map_cons, List.map_nil]
                rw [bind_ok (pure_run _ w)]
                rfl
              rw [e3]
              exact this
            · exact trivial
          · exact trivial
        · exact trivial
      · exact trivial
    · exact trivial
  | defer c =>
    simp only
    have hr' : ∀ x ∈ c.operands, VR μ (ρ x) (ρ' x) := fun x hx => hr x (by simpa [Op.operands] using hx)
    have hargs := args_rel hr'
    split
    · rename_i f hf
      split
      · rename_i g first captured e
        have hfv := hr' f (by simp [Call.operands, hf])
        rw [e] at hfv
        obtain ⟨x', y', e', hx1, hx2⟩ := func_inv hfv
        refine ⟨⟨.fn (.func g) y', x' ++ c.args.map ρ'⟩, y', ?_, rfl, ?_, hx2⟩
        · simp [execOp, resolve, hf, e', Deferred.ofValue, go_sem, Result.andThen]
        · simp only [Array.toList_append]
          exact hx1.append hargs
      · exact trivial
    · exact trivial
  | panic x =>
    simp only
    have hx := hr x (by simp [Op.operands])
    split
    · rename_i t v e
      rw [e] at hx
      obtain ⟨y, e', hy⟩ := iface_inv hx
      refine ⟨.iface t y, ?_, .iface t v y hy⟩
      simp [execOp, e', Instr.panic, goPanic, go_sem, Result.andThen]
    · exact trivial
  | _ => exact trivial
end
end Go.Ev
