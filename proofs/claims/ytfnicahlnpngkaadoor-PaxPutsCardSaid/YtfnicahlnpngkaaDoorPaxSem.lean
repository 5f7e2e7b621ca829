/- Pax records, plainly: decimal numbers, a record at a text's front, on lists of bytes. No program here. -/
import Derived.Test.YtfnicahlnpngkaaDoorBase
import Derived.Lib.ItoaLen
import Derived.Lib.IndexLaws
set_option linter.unusedVariables false
namespace Go.Proofs.YtfnicahlnpngkaaDoor.PaxSem
open Go.RowKit Go.Proofs Go.Proofs.YtfnicahlnpngkaaDoorW.PrintWords Go.Proofs.YtfnicahlnpngkaaDoor.Base

/-! ### decimal digits -/
def isD (c : UInt8) : Bool := decide (48 ≤ c.toNat) && decide (c.toNat ≤ 57)
def dval (l : List UInt8) : Nat := l.foldl (fun v c => v * 10 + (c.toNat - 48)) 0
/-- what Decimal answers. -/
def decS (l : List UInt8) : Int × Int := if l = [] ∨ l.all isD = false then (0, 2) else if dval l > 4611686018427387904 then (0, 7) else ((dval l : Int), 0)

theorem isD_iff (c : UInt8) : isD c = true ↔ 48 ≤ c.toNat ∧ c.toNat ≤ 57 := by simp [isD]
theorem dval_snoc (l : List UInt8) (c : UInt8) : dval (l ++ [c]) = dval l * 10 + (c.toNat - 48) := by simp [dval]
theorem dval_app_le (p : List UInt8) : ∀ r : List UInt8, dval p ≤ dval (p ++ r)
  | [] => by simp
  | c :: r => by
    have h1 := dval_snoc p c
    have h2 := dval_app_le (p ++ [c]) r
    rw [List.append_assoc, List.singleton_append] at h2
    omega

/-! ### the numeral of a number -/
theorem dg_toNat (n : Nat) (h : n < 10) : (UInt8.ofNat (48 + n)).toNat = 48 + n := by
  rw [UInt8.toNat_ofNat']
  exact Nat.mod_eq_of_lt (by omega)
theorem decDigits_dval (u : Nat) : dval (Lib.decDigits u) = u := by
  induction u using Nat.strongRecOn with
  | _ u ih =>
    rw [Lib.decDigits]
    split
    · rename_i h
      simp only [dval, List.foldl_cons, List.foldl_nil, dg_toNat u h]
      omega
    · rename_i h
      rw [dval_snoc, ih (u / 10) (by omega), dg_toNat (u % 10) (by omega)]
      omega
theorem decDigits_all (u : Nat) : (Lib.decDigits u).all isD = true := by
  induction u using Nat.strongRecOn with
  | _ u ih =>
    rw [Lib.decDigits]
    split
    · rename_i h
      simp only [List.all_cons, List.all_nil, Bool.and_true]
      rw [isD_iff, dg_toNat u h]
      omega
    · rename_i h
      rw [List.all_append, ih (u / 10) (by omega), Bool.true_and]
      simp only [List.all_cons, List.all_nil, Bool.and_true]
      rw [isD_iff, dg_toNat (u % 10) (by omega)]
      omega
theorem decDigits_ne (u : Nat) : Lib.decDigits u ≠ [] := by
  intro h
  have h1 := Lib.decDigits_length u
  rw [h, List.length_nil] at h1
  have h2 := Lib.nDigits_pos u
  omega
theorem head_app {p q : List UInt8} (h : p ≠ []) : (p ++ q).head? = p.head? := by
  cases p with
  | nil => exact absurd rfl h
  | cons a p => rfl
theorem decDigits_head (u : Nat) (h : 0 < u) : (Lib.decDigits u).head? ≠ some 48 := by
  induction u using Nat.strongRecOn with
  | _ u ih =>
    rw [Lib.decDigits]
    split
    · rename_i h'
      simp only [List.head?_cons, ne_eq, Option.some.injEq]
      intro e
      have := congrArg UInt8.toNat e
      rw [dg_toNat u h'] at this
      have h48 : (48 : UInt8).toNat = 48 := rfl
      omega
    · rename_i h'
      rw [head_app (decDigits_ne _)]
      exact ih (u / 10) (by omega) (by omega)
/-- digits without a nought ahead are the numeral of their value. -/
theorem digits_go : ∀ (n : Nat) (l : List UInt8), l.length = n → l.all isD = true → l.head? ≠ some 48 → l ≠ [] → l = Lib.decDigits (dval l) := by
  intro n
  induction n with
  | zero =>
    intro l hl hd hh hne
    exact absurd (List.length_eq_zero_iff.1 hl) hne
  | succ n ih =>
    intro l hl hd hh hne
    obtain ⟨p, c, rfl⟩ : ∃ p c, l = p ++ [c] := ⟨l.dropLast, l.getLast hne, (List.dropLast_concat_getLast hne).symm⟩
    rw [List.all_append, Bool.and_eq_true] at hd
    have hc : isD c = true := by simpa using hd.2
    rw [isD_iff] at hc
    have hcn : UInt8.ofNat (48 + (c.toNat - 48)) = c := by
      rw [show 48 + (c.toNat - 48) = c.toNat by omega]
      exact UInt8.ofNat_toNat
    rw [dval_snoc]
    by_cases hp : p = []
    · subst hp
      have e0 : dval ([] : List UInt8) = 0 := rfl
      have hlt : (0 * 10 + (c.toNat - 48)) < 10 := by omega
      rw [e0, Lib.decDigits, dif_pos hlt, Nat.zero_mul, Nat.zero_add, hcn]
      rfl
    · rw [head_app hp] at hh
      have hi := ih p (by simpa using hl) hd.1 hh hp
      have hpos : 0 < dval p := by
        rcases Nat.eq_zero_or_pos (dval p) with h0 | h0
        · exfalso
          rw [h0, Lib.decDigits_one (by omega)] at hi
          rw [hi] at hh
          exact hh rfl
        · exact h0
      rw [Lib.decDigits, dif_neg (by omega), show (dval p * 10 + (c.toNat - 48)) / 10 = dval p by omega, show (dval p * 10 + (c.toNat - 48)) % 10 = c.toNat - 48 by omega, hcn, ← hi]
/-- digits without a nought ahead are the numeral of their value. -/
theorem digits_are (l : List UInt8) (hd : l.all isD = true) (hh : l.head? ≠ some 48) (hne : l ≠ []) : l = Lib.decDigits (dval l) := digits_go l.length l rfl hd hh hne

theorem nDigits_mono : ∀ (u v : Nat), u ≤ v → Lib.nDigits u ≤ Lib.nDigits v := by
  intro u
  induction u using Nat.strongRecOn with
  | _ u ih =>
    intro v h
    by_cases h1 : u < 10
    · rw [Lib.nDigits_small h1]; exact Lib.nDigits_pos v
    · rw [Lib.nDigits_big (u := u) h1, Lib.nDigits_big (u := v) (by omega)]
      have := ih (u / 10) (by omega) (v / 10) (by omega)
      omega
theorem itoa_mono {a b : Int} (h0 : 0 ≤ a) (h : a ≤ b) : (Lib.itoa a).length ≤ (Lib.itoa b).length := by
  obtain ⟨u, rfl⟩ : ∃ u : Nat, a = u := ⟨a.toNat, by omega⟩
  obtain ⟨v, rfl⟩ : ∃ v : Nat, b = v := ⟨b.toNat, by omega⟩
  rw [Lib.itoa_nonneg, Lib.itoa_nonneg, Lib.decDigits_length, Lib.decDigits_length]
  exact nDigits_mono u v (by omega)

/-! ### the first of a byte -/
theorem index_takeWhile (c : UInt8) : ∀ l : List UInt8, Lib.indexByte l c = if c ∈ l then ((l.takeWhile (· != c)).length : Int) else -1
  | [] => by simp [Lib.indexByte]
  | b :: l => by
    unfold Lib.indexByte
    have ih := index_takeWhile c l
    by_cases h : b = c
    · subst h
      simp
    · have hb : (b == c) = false := beq_eq_false_iff_ne.mpr h
      have hb' : (b != c) = true := bne_iff_ne.mpr h
      have hm : (c ∈ b :: l) ↔ c ∈ l := by simp [List.mem_cons, Ne.symm h]
      rw [hb, ih, List.takeWhile_cons_of_pos (p := fun x => x != c) (by simpa using h)]
      by_cases hl : c ∈ l
      · rw [if_pos hl, if_pos (hm.2 hl)]
        have : ((((l.takeWhile (· != c)).length : Int) == -1) = false) := beq_eq_false_iff_ne.mpr (by omega)
        rw [this]
        simp
      · rw [if_neg hl, if_neg (fun h' => hl (hm.1 h'))]
        simp

/-! ### a record at the front -/
def recTail (s ds X : List UInt8) : Option (List UInt8 × List UInt8 × List UInt8) :=
  if ds = [] ∨ ds.head? = some 48 ∨ s.length < dval ds ∨ dval ds < ds.length + 2 ∨ s[dval ds - 1]? ≠ some 10 then none
  else
    let body := X.take (dval ds - ds.length - 2)
    let key := body.takeWhile (· != 61)
    if key = [] ∨ key.length = body.length then none else some (key, body.drop (key.length + 1), s.drop (dval ds))
def oneS (s : List UInt8) : Option (List UInt8 × List UInt8 × List UInt8) :=
  match s.drop (s.takeWhile isD).length with
  | [] => none
  | b :: X => if b = 32 then recTail s (s.takeWhile isD) X else none

theorem oneS_shorter {s k v r : List UInt8} (h : oneS s = some (k, v, r)) : r.length < s.length := by
  unfold oneS at h
  split at h
  · cases h
  · split at h
    · unfold recTail at h
      split at h
      · cases h
      · rename_i hc
        dsimp only at h
        split at h
        · cases h
        · injection h with h
          injection h with _ h
          injection h with _ h
          subst h
          rw [List.length_drop]
          omega
    · cases h

/-- all the records; the first argument: at most so many. -/
def readS : Nat → List UInt8 → Option (List (List UInt8 × List UInt8))
  | 0, s => if s = [] then some [] else none
  | n + 1, s => if s = [] then some [] else match oneS s with
    | none => none
    | some (k, v, r) => (readS n r).map ((k, v) :: ·)

theorem readS_more : ∀ (n m : Nat) (s : List UInt8), s.length ≤ n → s.length ≤ m → readS n s = readS m s
  | 0, 0, s, hn, hm => rfl
  | 0, m + 1, s, hn, hm => by
    have : s = [] := List.length_eq_zero_iff.1 (by omega)
    subst this
    rw [readS, readS, if_pos rfl, if_pos rfl]
  | n + 1, 0, s, hn, hm => by
    have : s = [] := List.length_eq_zero_iff.1 (by omega)
    subst this
    rw [readS, readS, if_pos rfl, if_pos rfl]
  | n + 1, m + 1, s, hn, hm => by
    rw [readS, readS]
    cases ho : oneS s with
    | none => rfl
    | some t =>
      obtain ⟨k, v, r⟩ := t
      have := oneS_shorter ho
      dsimp only
      rw [readS_more n m r (by omega) (by omega)]

/-! ### a record's text -/
def recL (n : Int) (k v : List UInt8) : List UInt8 := Lib.itoa n ++ 32 :: (k ++ 61 :: (v ++ [10]))
theorem recL_length (n : Int) (k v : List UInt8) : (recL n k v).length = (Lib.itoa n).length + (k.length + v.length + 3) := by
  unfold recL
  simp
  omega
theorem takeWhile_first' {p : UInt8 → Bool} : ∀ (l : List UInt8), l.all p = true → ∀ (c : UInt8) (r : List UInt8), p c = false → (l ++ c :: r).takeWhile p = l
  | [], _, c, r, hc => by simp [hc]
  | a :: l, h, c, r, hc => by
    rw [List.all_cons, Bool.and_eq_true] at h
    rw [List.cons_append, List.takeWhile_cons_of_pos h.1, takeWhile_first' l h.2 c r hc]
theorem all_ne {c : UInt8} {l : List UInt8} (h : c ∉ l) : l.all (· != c) = true := by
  rw [List.all_eq_true]
  intro x hx
  rw [bne_iff_ne]
  rintro rfl
  exact h hx

theorem oneS_rec {n : Nat} {k v r : List UInt8} (hn : (recL n k v).length = n) (hk : k ≠ []) (h61 : (61 : UInt8) ∉ k) : oneS (recL n k v ++ r) = some (k, v, r) := by
  have hpos : 0 < n := by rw [recL_length] at hn; omega
  have hi : Lib.itoa (n : Int) = Lib.decDigits n := Lib.itoa_nonneg n
  have hl := recL_length n k v
  rw [hi] at hl
  have hs : recL n k v ++ r = Lib.decDigits n ++ 32 :: (k ++ 61 :: (v ++ [10]) ++ r) := by
    unfold recL
    rw [hi]
    simp
  have hlen : (recL n k v ++ r).length = n + r.length := by rw [List.length_append, hn]
  have h10 : (recL n k v ++ r)[n - 1]? = some 10 := by
    have e : recL n k v ++ r = (Lib.itoa (n : Int) ++ 32 :: (k ++ 61 :: v)) ++ 10 :: r := by unfold recL; simp
    have el : (Lib.itoa (n : Int) ++ 32 :: (k ++ 61 :: v)).length = n - 1 := by
      rw [hi]
      simp only [List.length_append, List.length_cons]
      omega
    rw [e, List.getElem?_append_right (by omega), el, Nat.sub_self]
    rfl
  have hd0 : recL n k v ++ r = recL n k v ++ r := rfl
  have htw : (recL n k v ++ r).takeWhile isD = Lib.decDigits n := by rw [hs]; exact takeWhile_first' _ (decDigits_all n) 32 _ (by decide)
  have hdr : (recL n k v ++ r).drop (Lib.decDigits n).length = 32 :: (k ++ 61 :: (v ++ [10]) ++ r) := by rw [hs, List.drop_left' rfl]
  have hdn : (recL n k v ++ r).drop n = r := List.drop_left' hn
  unfold oneS
  rw [htw, hdr]
  dsimp only
  rw [if_pos rfl]
  unfold recTail
  rw [decDigits_dval, if_neg]
  · have hbody : (k ++ 61 :: (v ++ [10]) ++ r).take (n - (Lib.decDigits n).length - 2) = k ++ 61 :: v := by
      rw [show k ++ 61 :: (v ++ [10]) ++ r = (k ++ 61 :: v) ++ (10 :: r) by simp]
      exact List.take_left' (by simp; omega)
    dsimp only
    rw [hbody, takeWhile_first' k (all_ne h61) 61 v (by decide), hdn]
    rw [if_neg]
    · congr 3
      rw [List.drop_append, List.drop_of_length_le (by omega), show k.length + 1 - k.length = 1 by omega]
      rfl
    · rintro (h | h)
      · exact hk h
      · simp at h
  · rintro (h | h | h | h | h)
    · exact decDigits_ne n h
    · exact decDigits_head n hpos h
    · omega
    · omega
    · exact h h10

theorem take_split (c : UInt8) (l : List UInt8) (h : (l.takeWhile (· != c)).length ≠ l.length) : l = l.takeWhile (· != c) ++ c :: l.drop ((l.takeWhile (· != c)).length + 1) := by
  induction l with
  | nil => simp at h
  | cons a l ih =>
    by_cases e : a = c
    · subst e
      simp [List.takeWhile]
    · have hp : (fun x => x != c) a = true := by simpa using e
      rw [List.takeWhile_cons_of_pos (p := fun x => x != c) hp] at h ⊢
      rw [List.length_cons, List.length_cons] at h
      rw [List.length_cons, List.drop_succ_cons, List.cons_append, ← ih (by omega)]
theorem not_mem_tw (c : UInt8) (L : List UInt8) : c ∉ L.takeWhile (· != c) := by
  induction L with
  | nil => simp
  | cons a l ih =>
    by_cases e : a = c
    · subst e; simp [List.takeWhile]
    · rw [List.takeWhile_cons_of_pos (by simpa using e)]
      intro h
      rcases List.mem_cons.1 h with h | h
      · exact e h.symm
      · exact ih h
theorem all_tw (p : UInt8 → Bool) (l : List UInt8) : (l.takeWhile p).all p = true := by
  induction l with
  | nil => rfl
  | cons a l ih =>
    cases h : p a with
    | true => rw [List.takeWhile_cons_of_pos h, List.all_cons, h, ih]; rfl
    | false => rw [List.takeWhile_cons_of_neg (by simp [h])]; rfl

theorem oneS_inv {s k v r : List UInt8} (h : oneS s = some (k, v, r)) : ∃ n : Nat, s = recL n k v ++ r ∧ (recL n k v).length = n ∧ k ≠ [] ∧ (61 : UInt8) ∉ k := by
  unfold oneS at h
  have hspl := (List.prefix_iff_eq_append.1 (List.takeWhile_prefix (l := s) isD)).symm
  have hall := all_tw isD s
  generalize s.takeWhile isD = D at h hspl hall
  split at h
  · cases h
  · rename_i b X hX
    split at h
    · rename_i hb
      subst hb
      unfold recTail at h
      split at h
      · cases h
      · rename_i hg
        dsimp only at h
        split at h
        · cases h
        · rename_i hg2
          injection h with h
          injection h with h1 h
          injection h with h2 h3
          have hDn : D ≠ [] := fun e => hg (Or.inl e)
          have hDh : D.head? ≠ some 48 := fun e => hg (Or.inr (Or.inl e))
          have hle : dval D ≤ s.length := by rcases Nat.lt_or_ge s.length (dval D) with e | e; exact absurd (Or.inr (Or.inr (Or.inl e))) hg; exact e
          have hge : D.length + 2 ≤ dval D := by rcases Nat.lt_or_ge (dval D) (D.length + 2) with e | e; exact absurd (Or.inr (Or.inr (Or.inr (Or.inl e)))) hg; exact e
          have h10 : s[dval D - 1]? = some 10 := by
            by_cases e : s[dval D - 1]? = some 10
            · exact e
            · exact absurd (Or.inr (Or.inr (Or.inr (Or.inr e)))) hg
          have hki : k ≠ [] := fun e => hg2 (Or.inl (by rw [h1]; exact e))
          have hDi := digits_are D hall hDh hDn
          have hit : Lib.itoa (dval D : Int) = D := (Lib.itoa_nonneg _).trans hDi.symm
          rw [hX] at hspl
          have hsl : s.length = D.length + (X.length + 1) := by rw [hspl]; simp
          -- the body, the line's end, what is behind
          have hbody := take_split 61 (X.take (dval D - D.length - 2)) (fun e => hg2 (Or.inr e))
          rw [h2, h1] at hbody
          have hXs : X = (X.take (dval D - D.length - 2)) ++ 10 :: r := by
            have hx10 : X[dval D - D.length - 2]? = some 10 := by
              rw [hspl, List.getElem?_append_right (by omega), show dval D - 1 - D.length = (dval D - D.length - 2) + 1 by omega, List.getElem?_cons_succ] at h10
              exact h10
            have hr : X.drop (dval D - D.length - 2 + 1) = r := by
              rw [← h3]
              conv => rhs; rw [hspl]
              obtain ⟨q, hq⟩ : ∃ q, dval D - D.length = q + 2 := ⟨dval D - D.length - 2, by omega⟩
              rw [show dval D - D.length - 2 + 1 = q + 1 by omega, List.drop_append, List.drop_of_length_le (show D.length ≤ dval D by omega), List.nil_append, hq, List.drop_succ_cons]
            obtain ⟨hlt, hge'⟩ := List.getElem?_eq_some_iff.1 hx10
            conv => lhs; rw [← List.take_append_drop (dval D - D.length - 2) X]
            rw [List.drop_eq_getElem_cons hlt, hge', hr]
          have hrec : recL (dval D) k v ++ r = s := by
            unfold recL
            rw [hit, hspl, hXs, hbody]
            simp
          refine ⟨dval D, hrec.symm, ?_, hki, ?_⟩
          · rw [recL_length, hit]
            have e1 := congrArg List.length hbody
            rw [List.length_take, List.length_append, List.length_cons] at e1
            have e2 : dval D - D.length - 2 ≤ X.length := by omega
            omega
          · rw [← h1]
            exact not_mem_tw 61 _
    · cases h
end Go.Proofs.YtfnicahlnpngkaaDoor.PaxSem
