/- maps: entries under a name. -/
import Derived.Test.YtgeklgnjnjpofaaGreatDoorEvPure3
import Derived.MapKept
set_option linter.unusedVariables false
set_option linter.unusedSimpArgs false
namespace Go.Ev
open Go Go.RowKit
section
variable {P : Program} {μ : Mu}
theorem keyD_spec {t : TypeId} {d : TypeDesc} (h : keyD P t = some d) : P.underlying t = some d ∧ ((∃ k, d = .int k) ∨ d = .string) := by
  unfold keyD at h
  split at h
  · rename_i k hk; injection h with h; subst h; exact ⟨hk, .inl ⟨_, rfl⟩⟩
  · rename_i hk; injection h with h; subst h; exact ⟨hk, .inr rfl⟩
  · cases h
theorem sameNow_eq {d : TypeDesc} {k x k' x' : Value} {b : Bool} (h : Instr.sameNow d k x = some b) (hk : VR μ k k') (hx : VR μ x x') : Instr.sameNow d k' x' = some b ∧ k' = k := by
  cases d <;> cases k <;> cases x <;> first
    | (cases h; done)
    | (cases hk; cases hx; exact ⟨h, rfl⟩)
/-- what is found among entries is found among those that they stand for. -/
theorem findNow_ok {d : TypeDesc} {k k' : Value} (hk : VR μ k k') : ∀ (es : List (Value × Value)) (xs : List MapEntry) (i : Nat) (r : Option (Nat × Value)), VRs μ (es.map (·.1)) (xs.map (·.key)) → VRs μ (es.map (·.2)) (xs.map (·.val)) → Instr.findNow d k (entries es) i = some r →
    ∃ r', Instr.findNow d k' xs i = some r' ∧ (r = none ∧ r' = none ∨ ∃ j v v', r = some (j, v) ∧ r' = some (j, v') ∧ VR μ v v' ∧ k' = k ∧ i ≤ j ∧ ∃ e, xs[j - i]? = some e ∧ Instr.sameNow d k' e.key = some true)
  | [], xs, i, r, h1, h2, h => by
    have : xs = [] := by have := h1.nil_inv; simpa using this
    subst this
    simp only [entries, List.map_nil, Instr.findNow] at h ⊢
    injection h with h
    exact ⟨none, rfl, .inl ⟨h.symm, rfl⟩⟩
  | (a, b) :: es, [], i, r, h1, h2, h => by
    have := h1.1; simp at this
  | (a, b) :: es, x :: xs, i, r, h1, h2, h => by
    obtain ⟨y, m, e1, ha, hm⟩ := (show VRs μ (a :: es.map (·.1)) (x.key :: xs.map (·.key)) from h1).head
    injection e1 with e1 e2
    subst e1
    obtain ⟨y2, m2, e3, hb, hm2⟩ := (show VRs μ (b :: es.map (·.2)) (x.val :: xs.map (·.val)) from h2).head
    injection e3 with e3 e4
    subst e3
    simp only [entries, List.map_cons, Instr.findNow] at h ⊢
    cases hs : Instr.sameNow d k a with
    | none => rw [hs] at h; cases h
    | some bb =>
      obtain ⟨hs', hkk⟩ := sameNow_eq hs hk ha
      rw [hs] at h
      rw [hs']
      cases bb with
      | true =>
        injection h with h
        exact ⟨_, rfl, .inr ⟨i, b, x.val, h.symm, rfl, hb, hkk, Nat.le_refl _, x, by simp, hs'⟩⟩
      | false =>
        obtain ⟨r', x1, x2⟩ := findNow_ok hk es xs (i + 1) r (by rw [← e2] at hm; exact hm) (by rw [← e4] at hm2; exact hm2) h
        refine ⟨r', x1, ?_⟩
        rcases x2 with x2 | ⟨j, v, v', z1, z2, z3, z4, z5, e, z6, z7⟩
        · exact .inl x2
        · refine .inr ⟨j, v, v', z1, z2, z3, z4, by omega, e, ?_, z7⟩
          rw [show j - i = (j - (i + 1)) + 1 by omega, List.getElem?_cons_succ]; exact z6
theorem findKey_run {kt : TypeId} {d : TypeDesc} (hd : P.underlying kt = some d) {k : Value} {xs : List MapEntry} {r : Option (Nat × Value)} (h : Instr.findNow d k xs 0 = some r) (w : World) : (Instr.findKey kt k xs).run P w = .ok r w := by
  unfold Instr.findKey
  rw [bind_ok (underlying_run hd w), h]; rfl
theorem checkKey_run {kt : TypeId} {d : TypeDesc} (hd : P.underlying kt = some d) (hk : (∃ k, d = .int k) ∨ d = .string) (b : Bool) (v : Value) (w : World) : (Instr.checkKey b 10000 kt v).run P w = .ok () w := by
  rw [show (10000 : Nat) = 9999 + 1 from rfl, Instr.checkKey, bind_ok (underlying_run hd w)]
  rcases hk with ⟨k, rfl⟩ | rfl <;> rfl
theorem tyZeroV_spec {t : TypeId} {z : Value} (h : tyZeroV P t = some z) : ∃ i, P.info? t = some i ∧ i.zero = some z ∧ VR μ z z := by
  unfold tyZeroV at h
  split at h
  · rename_i i hi
    split at h
    · rename_i v hv
      obtain ⟨a, b⟩ := bif_some h
      injection b with b
      subst b
      exact ⟨i, hi, hv, .of_plain a⟩
    · cases h
  · cases h
theorem okV_rel {ok b : Bool} {v v' : Value} (h : VR μ v v') : VR μ (okV ok b v) (if ok then .tuple #[v', .bool b] else v') := by
  cases ok
  · exact h
  · exact VR.tup_iff.2 (.cons h (.cons (.bool b) (.nil μ)))
theorem zeroV_run {t : TypeId} {i : TypeInfo} {v : Value} (hi : P.info? t = some i) (hv : i.zero = some v) (w : World) : (zeroValue t).run P w = .ok v w := by
  unfold zeroValue
  rw [bind_ok (typeInfo_run hi w), hv]; rfl
theorem getObj_run {w : World} {r : Nat} {xs : Array MapEntry} {cl : Nat} (h : w.heap[r]? = some (.map xs cl)) : (getObj r).run P w = .ok (.map xs cl) w := by
  show (Sem.getObj r .pure).run P w = _
  simp only [Sem.run, h]
theorem setObj_run {w : World} {r : Nat} {xs : Array MapEntry} {cl : Nat} (h : w.heap[r]? = some (.map xs cl)) (o : Obj) : (setObj r o).run P w = .ok () { w with heap := w.heap.setIfInBounds r o } := by
  show (Sem.setObj r o (.pure ())).run P w = _
  simp only [Sem.run, h]
theorem lookup_nil {t kt et : TypeId} {d : TypeDesc} {k z : Value} {ok : Bool} {w : World} (hu : P.underlying t = some (.map kt et)) (hd : P.underlying kt = some d) (hk : (∃ k, d = .int k) ∨ d = .string) {i : TypeInfo} (hi : P.info? et = some i) (hz : i.zero = some z) :
    (Instr.lookup t (.map none) k ok).run P w = .ok (if ok then .tuple #[z, .bool false] else z) w := by
  have h1 : (Instr.findKey kt k (#[] : Array MapEntry).toList).run P w = .ok none w := findKey_run hd rfl w
  have h2 := fun b => checkKey_run hd hk b k w
  simp [Instr.lookup, underlying_run hu, h2, h1, zeroV_run hi hz, Result.andThen]
theorem lookup_some {t kt et : TypeId} {d : TypeDesc} {k : Value} {ok : Bool} {w : World} {r : Nat} {xs : Array MapEntry} {cl : Nat} (hu : P.underlying t = some (.map kt et)) (hd : P.underlying kt = some d) (hk : (∃ k, d = .int k) ∨ d = .string) (hw : w.heap[r]? = some (.map xs cl))
    {res : Option (Nat × Value)} (hf : Instr.findNow d k xs.toList 0 = some res) :
    (Instr.lookup t (.map (some r)) k ok).run P w = (match res with | some (_, v) => pure (if ok then .tuple #[v, .bool true] else v) | none => do let z ← zeroValue et; pure (if ok then .tuple #[z, .bool false] else z) : Sem Value).run P w := by
  have h1 : (Instr.findKey kt k xs.toList).run P w = .ok res w := findKey_run hd hf w
  have h2 := fun b => checkKey_run hd hk b k w
  cases res with
  | none => simp [Instr.lookup, underlying_run hu, h2, h1, getObj_run hw, Result.andThen]
  | some jv => obtain ⟨j, v⟩ := jv; simp [Instr.lookup, underlying_run hu, h2, h1, getObj_run hw, Result.andThen]
theorem ba_eq {a b : ByteArray} (h : (a == b) = true) : a = b := by
  cases a with | mk x => cases b with | mk y =>
  have h2 : (x == y) = true := h
  rw [eq_of_beq h2]
theorem ba_refl (a : ByteArray) : (a == a) = true := by
  cases a with | mk x =>
  show (x == x) = true
  simp
theorem sameNow_bits {d : TypeDesc} {k x : Value} (h : Instr.sameNow d k x = some true) (n : Nat) : Instr.sameBits n x k = true := by
  cases d <;> cases k <;> cases x <;> (try (cases h; done)) <;> simp only [Instr.sameNow, Option.some.injEq] at h
  all_goals first
    | (have e := eq_of_beq h; subst e; simp [Instr.sameBits]; done)
    | (have e := ba_eq h; subst e; simp only [Instr.sameBits]; exact ba_refl _)
    | (split at h
       · rename_i hk
         simp only [Option.some.injEq] at h
         have e := eq_of_beq h; subst e; subst hk; simp [Instr.sameBits]
       · cases h)
theorem update_some {t kt et : TypeId} {d : TypeDesc} {k v : Value} {w : World} {r : Nat} {xs : Array MapEntry} {cl : Nat} (hu : P.underlying t = some (.map kt et)) (hd : P.underlying kt = some d) (hk : (∃ k, d = .int k) ∨ d = .string) (hw : w.heap[r]? = some (.map xs cl))
    {j : Nat} {u : Value} (hf : Instr.findNow d k xs.toList 0 = some (some (j, u))) {e : MapEntry} (he : xs.toList[j]? = some e) (hs : Instr.sameNow d k e.key = some true) :
    (Instr.mapUpdate t (.map (some r)) k v).run P w = .ok () { w with heap := w.heap.setIfInBounds r (.map (xs.modify j fun e => { e with key := k, val := v }) cl) } := by
  have h1 : (Instr.findKey kt k xs.toList).run P w = .ok (some (j, u)) w := findKey_run hd hf w
  have h2 := fun b => checkKey_run hd hk b k w
  rw [Array.getElem?_toList] at he
  have h3 : (Instr.keyThatStays e.key k).run P w = .ok k w := by
    unfold Instr.keyThatStays
    rw [if_pos (sameNow_bits hs _)]; rfl
  simp [Instr.mapUpdate, underlying_run hu, h2, h1, getObj_run hw, Result.andThen, he, h3, setObj_run hw]
theorem update_none {t kt et : TypeId} {d : TypeDesc} {k v : Value} {w : World} {r : Nat} {xs : Array MapEntry} {cl : Nat} (hu : P.underlying t = some (.map kt et)) (hd : P.underlying kt = some d) (hk : (∃ k, d = .int k) ∨ d = .string) (hw : w.heap[r]? = some (.map xs cl))
    (hf : Instr.findNow d k xs.toList 0 = some none) :
    (Instr.mapUpdate t (.map (some r)) k v).run P w = .ok () { w with heap := w.heap.setIfInBounds r (.map (xs.push { key := k, val := v, born := cl }) (cl + 1)) } := by
  have h1 : (Instr.findKey kt k xs.toList).run P w = .ok none w := findKey_run hd hf w
  have h2 := fun b => checkKey_run hd hk b k w
  simp [Instr.mapUpdate, underlying_run hu, h2, h1, getObj_run hw, Result.andThen, setObj_run hw]
theorem mapn_inv {v' : Value} (h : VR μ (.map none) v') : v' = .map none := by cases h; rfl
theorem map_inv {r : Nat} {v' : Value} (h : VR μ (.map (some r)) v') : ∃ t, μ r = some t ∧ v' = .map (some t.b) := by cases h with | map _ t ht => exact ⟨t, ht, rfl⟩
theorem like_eq {d : TypeDesc} {k k' : Value} (h : keyLike d k = true) (hk : VR μ k k') : k' = k := by
  cases d <;> cases k <;> first
    | (cases h; done)
    | (cases hk; rfl)
theorem VRs.set {l m : List Value} (h : VRs μ l m) (i : Nat) {v v' : Value} (hv : VR μ v v') : VRs μ (l.set i v) (m.set i v') :=
  .of_get (by simp [h.1]) fun j x y h1 h2 => by
    rw [List.getElem?_set] at h1 h2
    rw [← h.1] at h2
    split at h1
    · rename_i e
      rw [if_pos e] at h2
      split at h1
      · rename_i e2
        rw [if_pos e2] at h2
        injection h1 with h1; injection h2 with h2
        rw [← h1, ← h2]; exact hv
      · cases h1
    · rename_i e
      rw [if_neg e] at h2
      obtain ⟨u, hu, hr⟩ := h.get h1
      rw [hu] at h2; injection h2 with h2; rw [← h2]; exact hr
end
end Go.Ev
