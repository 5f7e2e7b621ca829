/- Records put into others (24.2): by places, and by the document's own way; what holds of them. No program here. -/
set_option linter.unusedVariables false
set_option linter.unusedSimpArgs false
namespace Go.Proofs.YtfnicahlnpngkaaDoor.MergeP
variable {α β : Type} [DecidableEq β] (key : α → β) (live : α → Bool)
def same (r : α) (x : α) : Bool := decide (key x = key r)
/-- by places: struck out all of the key, put in where the first stood, or at the end. -/
def merge1 (out : List α) (r : α) : List α :=
  if live r = true then
    match out.findIdx? (same key r) with
    | none => (out.filter fun x => !same key r x) ++ [r]
    | some i => (out.filter fun x => !same key r x).take i ++ r :: (out.filter fun x => !same key r x).drop i
  else out.filter fun x => !same key r x
/-- the document's way. -/
def go (r : α) : List α → List α → Bool → List α × Bool
  | [], next, done => (next, done)
  | x :: t, next, done => if key x ≠ key r then go r t (next ++ [x]) done else if live r = true ∧ done = false then go r t (next ++ [r]) true else go r t next done
def ref1 (out : List α) (r : α) : List α := if live r = true ∧ (go key live r out [] false).2 = false then (go key live r out [] false).1 ++ [r] else (go key live r out [] false).1
variable {key} {live}
theorem go_done (r : α) : ∀ (l next : List α), go key live r l next true = (next ++ l.filter (fun x => !same key r x), true)
  | [], next => by simp [go]
  | x :: t, next => by
    rw [go]
    by_cases h : key x = key r
    · rw [if_neg (by simpa using h), if_neg (by simp), go_done r t next]
      simp [same, h]
    · rw [if_pos h, go_done r t (next ++ [x])]
      simp [same, h]
theorem go_dead (r : α) (hr : live r = false) : ∀ (l next : List α) (d : Bool), go key live r l next d = (next ++ l.filter (fun x => !same key r x), d)
  | [], next, d => by simp [go]
  | x :: t, next, d => by
    rw [go]
    by_cases h : key x = key r
    · rw [if_neg (by simpa using h), if_neg (by simp [hr]), go_dead r hr t next]
      simp [same, h]
    · rw [if_pos h, go_dead r hr t (next ++ [x])]
      simp [same, h]
theorem go_live (r : α) (hr : live r = true) : ∀ (l next : List α), go key live r l next false = match l.findIdx? (same key r) with
    | none => (next ++ l, false)
    | some i => (next ++ (l.filter (fun x => !same key r x)).take i ++ r :: (l.filter (fun x => !same key r x)).drop i, true)
  | [], next => by simp [go]
  | x :: t, next => by
    rw [go, List.findIdx?_cons]
    by_cases h : key x = key r
    · have hs : same key r x = true := by simp [same, h]
      rw [if_neg (by simpa using h), if_pos ⟨hr, rfl⟩, go_done, hs]
      simp [hs]
    · have hs : same key r x = false := by simp [same, h]
      rw [if_pos h, go_live r hr t (next ++ [x]), hs]
      cases e : t.findIdx? (same key r) with
      | none => simp
      | some i => simp [hs]
theorem findIdx_none {p : α → Bool} : ∀ (l : List α), l.findIdx? p = none → l.filter (fun x => !p x) = l
  | [], _ => rfl
  | x :: t, h => by
    rw [List.findIdx?_cons] at h
    cases hp : p x with
    | true => rw [hp] at h; cases h
    | false =>
      rw [hp] at h
      have : t.findIdx? p = none := by
        cases e : t.findIdx? p with
        | none => rfl
        | some i => rw [e] at h; cases h
      simp [hp, findIdx_none t this]
theorem ref_eq (out : List α) (r : α) : ref1 key live out r = merge1 key live out r := by
  unfold ref1 merge1
  cases hr : live r with
  | false => rw [go_dead r hr]; simp
  | true =>
    rw [go_live r hr]
    cases e : out.findIdx? (same key r) with
    | none => simp [findIdx_none _ e]
    | some i => simp
/-! ### what holds -/
theorem form (out : List α) (r : α) : ∃ A B, (∀ x ∈ A, same key r x = false) ∧ (∀ x ∈ B, same key r x = false) ∧ out.filter (fun x => !same key r x) = A ++ B ∧ merge1 key live out r = A ++ ((if live r = true then [r] else []) ++ B) := by
  have hall : ∀ x ∈ out.filter (fun x => !same key r x), same key r x = false := fun x hx => by simpa using (List.mem_filter.1 hx).2
  unfold merge1
  generalize out.filter (fun x => !same key r x) = d at hall
  cases hr : live r with
  | false => exact ⟨d, [], hall, by simp, by simp, by simp⟩
  | true =>
    cases e : out.findIdx? (same key r) with
    | none => exact ⟨d, [], hall, by simp, by simp, by simp⟩
    | some i => exact ⟨d.take i, d.drop i, fun x hx => hall x (List.mem_of_mem_take hx), fun x hx => hall x (List.mem_of_mem_drop hx), (List.take_append_drop i d).symm, by simp⟩
theorem filter_other (out : List α) (r : α) (k : β) (hk : k ≠ key r) : (merge1 key live out r).filter (fun x => decide (key x = k)) = out.filter (fun x => decide (key x = k)) := by
  obtain ⟨A, B, _, _, h3, h4⟩ := form (key := key) (live := live) out r
  have h5 : out.filter (fun x => decide (key x = k)) = (out.filter (fun x => !same key r x)).filter (fun x => decide (key x = k)) := by
    rw [List.filter_filter]
    refine List.filter_congr (fun x _ => ?_)
    by_cases e : key x = k
    · have : key x ≠ key r := e ▸ hk
      simp [e, same, hk]
    · simp [e]
  rw [h4, h5, h3, List.filter_append, List.filter_append, List.filter_append]
  congr 1
  have : (if live r = true then [r] else []).filter (fun x => decide (key x = k)) = ([] : List α) := by
    split
    · simp [Ne.symm hk]
    · rfl
  rw [this, List.nil_append]
theorem filter_own (out : List α) (r : α) : (merge1 key live out r).filter (fun x => decide (key x = key r)) = if live r = true then [r] else [] := by
  obtain ⟨A, B, h1, h2, _, h4⟩ := form (key := key) (live := live) out r
  have hA : A.filter (fun x => decide (key x = key r)) = [] := List.filter_eq_nil_iff.2 (fun x hx => by have := h1 x hx; simpa [same] using this)
  have hB : B.filter (fun x => decide (key x = key r)) = [] := List.filter_eq_nil_iff.2 (fun x hx => by have := h2 x hx; simpa [same] using this)
  rw [h4, List.filter_append, List.filter_append, hA, hB]
  split <;> simp
/-- each key once. -/
def Uniq (key : α → β) (l : List α) : Prop := ∀ k, (l.filter fun x => decide (key x = k)).length ≤ 1
theorem uniq_merge {out : List α} (h : Uniq key out) (r : α) : Uniq key (merge1 key live out r) := fun k => by
  by_cases e : k = key r
  · rw [e, filter_own]; split <;> simp
  · rw [filter_other out r k e]; exact h k
theorem uniq_ne : ∀ {l : List α}, Uniq key l → ∀ i j, (hij : i < j) → (hj : j < l.length) → key l[j] ≠ key (l[i]'(by omega))
  | [], _, i, j, _, hj => by cases hj
  | x :: t, h, i, j, hij, hj => by
    have ht : Uniq key t := fun k => Nat.le_trans (by rw [List.filter_cons]; split <;> simp) (h k)
    cases j with
    | zero => omega
    | succ j =>
      cases i with
      | zero =>
        intro e
        have hl := h (key x)
        rw [List.filter_cons, if_pos (by simp)] at hl
        have hm : t[j]'(by simpa using hj) ∈ t.filter (fun y => decide (key y = key x)) := List.mem_filter.2 ⟨List.getElem_mem _, by simpa using e⟩
        have := List.length_pos_of_mem hm
        rw [List.length_cons] at hl
        omega
      | succ i => exact uniq_ne ht i j (by omega) (by simpa using hj)
theorem merge_again (out : List α) (r : α) : merge1 key live (merge1 key live out r) r = merge1 key live out r := by
  obtain ⟨A, B, h1, h2, _, h4⟩ := form (key := key) (live := live) out r
  rw [h4]
  have hA : A.filter (fun x => !same key r x) = A := List.filter_eq_self.2 (fun x hx => by rw [h1 x hx]; rfl)
  have hB : B.filter (fun x => !same key r x) = B := List.filter_eq_self.2 (fun x hx => by rw [h2 x hx]; rfl)
  have hs : same key r r = true := by simp [same]
  unfold merge1
  cases hr : live r with
  | false => simp [hA, hB]
  | true =>
    have hf : (A ++ ([r] ++ B)).findIdx? (same key r) = some A.length := by
      rw [List.findIdx?_append, (List.findIdx?_eq_none_iff.2 (fun x hx => by rw [h1 x hx]))]
      simp [List.findIdx?_cons, hs]
    simp only [if_true]
    rw [hf, List.filter_append, List.filter_append, hA, hB, List.filter_cons, if_neg (by simp [hs]), List.filter_nil, List.nil_append]
    simp
end Go.Proofs.YtfnicahlnpngkaaDoor.MergeP
