/- rate.Rank at no number. -/
import Derived.Test.YtfmfikodnpnblaaDoorRankWalk
set_option linter.unusedVariables false
set_option linter.unusedSimpArgs false
namespace Go.Proofs.YtfmfikodnpnblaaDoor.RankNone
open Go.RowKit Go.Proofs Go.Proofs.YtfmfikodnpnblaaDoorW.PrintWords Go.Proofs.YtfmfikodnpnblaaDoor.Base Go.Proofs.YtfmfikodnpnblaaDoor.Flt Go.Proofs.YtfmfikodnpnblaaDoorW.PrintLast Go.Proofs.YtfmfikodnpnblaaDoorW.PrintMore Go.Proofs.YtfmfikodnpnblaaDoor.PRate1
set_option maxHeartbeats 4000000 in
set_option maxRecDepth 100000 in
theorem insertion_none (A : Option Addr) (c : Nat) (fv : Value) (w : World) : Calls Tryd.prog 105 #[.slice A 0 c, .int .i64 0, .int .i64 0, fv] w fun e w' => e = .returned (.tuple #[]) ∧ Below w.heap.size w w' := by
  have HB := Aside0.mk (Below.refl w.heap.size w)
  go_enter Tryd.func105, Tryd.ntmps105
  go_wp2
  go_loopg [8] 1 (fun kq v8 wr => v8 = .int .i64 1 ∧ Aside0 (Below w.heap.size w wr))
  case atStart => exact ⟨rfl, HB⟩
  case round =>
    clear HB
    obtain ⟨rfl, HB⟩ := hrel
    go_wp2
    go_end0
    exact ⟨rfl, HB.out⟩
set_option maxHeartbeats 4000000 in
set_option maxRecDepth 100000 in
theorem stable_none (A : Option Addr) (c : Nat) (fv : Value) (w : World) : Calls Tryd.prog 82 #[.slice A 0 c, .int .i64 0, fv] w fun e w' => e = .returned (.tuple #[]) ∧ Below w.heap.size w w' := by
  have HB := Aside0.mk (Below.refl w.heap.size w)
  go_enter Tryd.func82, Tryd.ntmps82
  go_wp2
  go_loopg [7, 8] 1 (fun kq v7 v8 wr => v7 = .int .i64 0 ∧ v8 = .int .i64 20 ∧ Aside0 (Below w.heap.size w wr))
  case atStart => exact ⟨rfl, rfl, HB⟩
  case round =>
    clear HB
    obtain ⟨rfl, rfl, HB⟩ := hrel
    go_wp2_with (go_at_call 105; (with_reducible refine (insertion_none A c fv _).mono ?_); rintro e w1 ⟨rfl, hb⟩; have HB1 := Aside0.mk (below_then HB.out HB.out.size hb); clear hb HB; have HB := HB1; clear HB1)
    go_loopg [6] 1 (fun kq v6 wr => v6 = .int .i64 20 ∧ Aside0 (Below w.heap.size w wr))
    case atStart => exact ⟨rfl, HB⟩
    case round =>
      clear HB
      obtain ⟨rfl, HB⟩ := hrel
      go_wp2
      go_end0
      exact ⟨rfl, HB.out⟩
set_option maxHeartbeats 4000000 in
set_option maxRecDepth 100000 in
theorem sort_none (A : Option Addr) (c : Nat) (fv : Value) (w : World) : Calls Tryd.prog 50 #[.slice A 0 c, fv] w fun e w' => e = .returned (.tuple #[]) ∧ Below w.heap.size w w' := by
  go_enter Tryd.func50, Tryd.ntmps50
  go_wp2_with (go_at_call 82; (with_reducible refine (stable_none A c _ _).mono ?_); rintro e w1 ⟨rfl, hb⟩; have HB := Aside0.mk hb; clear hb)
  go_end0
  exact ⟨rfl, HB.out⟩
set_option maxHeartbeats 4000000 in
set_option maxRecDepth 100000 in
theorem rank_none (A : Option Addr) (c : Nat) (w : World) : Calls Tryd.prog 16 #[.slice A 0 c] w fun e w' => ∃ v, e = .returned v ∧ Kd.R (Kd.int .i64) 3 w' w.heap.size (fun _ => True) v [] ∧ Below w.heap.size w w' := by
  have HB := Aside0.mk (Below.refl w.heap.size w)
  go_enter Tryd.func16, Tryd.ntmps16
  go_wp2
  go_loopg [3, 7] 1 (fun kq v3 v7 wr => v3 = .slice none 0 0 ∧ v7 = .int .i64 0 ∧ Aside0 (Below w.heap.size w wr))
  case atStart => exact ⟨rfl, rfl, ⟨by repeat (first | (with_reducible first | exact HB.out | apply below_alloc | apply pw_below_drewN | apply below_drew1) | exact HB.out)⟩⟩
  case round =>
    clear HB
    obtain ⟨rfl, rfl, HB⟩ := hrel
    go_wp2_with (go_at_call 50; (with_reducible refine (sort_none none 0 _ _).mono ?_); rintro e w1 ⟨rfl, hb⟩; have HB1 := Aside0.mk (below_then HB.out HB.out.size hb); clear hb HB; have HB := HB1; clear HB1)
    go_ret
    exact ⟨_, rfl, Kd.R_nil _ _ _ _ _, HB.out⟩
end Go.Proofs.YtfmfikodnpnblaaDoor.RankNone
/- rate.Rank at up to forty numbers, in the print's own form. -/
namespace Go.Proofs.YtfmfikodnpnblaaDoor.RankF
open Go.RowKit Go.Proofs Go.Proofs.YtfmfikodnpnblaaDoorW.PrintWords Go.Proofs.YtfmfikodnpnblaaDoor.Base Go.Proofs.YtfmfikodnpnblaaDoorW.PrintLast Go.Proofs.YtfmfikodnpnblaaDoorW.PrintMore Go.Proofs.YtfmfikodnpnblaaDoor.RankWalk
def rate_Rank.f (l0 : List Nat) : Option (List Int) := if l0.length ≤ 40 then some (if l0.length = 0 then [] else rankOf (fun t => l0.getD t 0) (l0.length - 1)) else none
theorem rate_Rank.calls (A0 : Option Addr) (c0 : Nat) (l0 : List Nat) (r : List Int) (w : World) (hr0 : Kd.C Kd.float w A0 l0.length l0) (hc0 : l0.length ≤ c0) (h : rate_Rank.f l0 = some r) :
    Calls Tryd.prog 16 #[.slice A0 l0.length c0] w fun e w' => ∃ v0_ : Value, e = .returned (v0_) ∧ Kd.R (Kd.int .i64) 3 w' w.heap.size (fun _ => True) v0_ r ∧ Below w.heap.size w w' := by
  unfold rate_Rank.f at h
  by_cases h40 : l0.length ≤ 40
  · rw [if_pos h40] at h
    injection h with h
    by_cases h0 : l0.length = 0
    · rw [if_pos h0] at h
      subst h
      rw [h0]
      exact RankNone.rank_none A0 c0 w
    · rw [if_neg h0] at h
      obtain ⟨k, hk⟩ : ∃ k, l0.length = k + 1 := ⟨l0.length - 1, by omega⟩
      have hrd : ReadsOf (Value.float .f64) (0 : Nat) w A0 l0.length l0 := Kd.reads_of_C (h1 := fun _ => rfl) hr0
      obtain ⟨ad, rfl, hc⟩ := hrd.2.2 (by omega)
      obtain ⟨lb, loff, tg⟩ := ad
      have c0' := hc 0 (by omega)
      obtain rfl : tg = none := by
        cases tg with
        | none => rfl
        | some x =>
          simp [Addr.add, World.cell?] at c0'
          split at c0' <;> cases c0'
      have hlb : lb < w.heap.size := by
        rcases Nat.lt_or_ge lb w.heap.size with g | g
        · exact g
        · simp [Addr.add, World.cell?, Array.getElem?_eq_none g] at c0'
      have hc2 : ∀ t, t < k + 1 → w.cell? ⟨lb, loff + t, none⟩ = some (.float .f64 (l0.getD t 0)) := fun t ht => by
        have := hc t (by omega)
        unfold Addr.add at this
        by_cases h00 : t = 0
        · subst h00; simpa using this
        · rw [if_neg h00] at this; exact this
      rw [hk] at h ⊢
      refine (rank_row lb loff c0 k l0 w hk (by omega) hlb hc2).mono ?_
      rintro e w' ⟨v, r', rfl, hR, h1, h2⟩
      rw [rank_is hR] at h1
      rw [Nat.add_sub_cancel] at h
      rw [h] at h1
      exact ⟨v, rfl, h1, h2⟩
  · rw [if_neg h40] at h; cases h
end Go.Proofs.YtfmfikodnpnblaaDoor.RankF
/- What the places in their order are: each once, neighbours in order. No program here. -/
namespace Go.Proofs.YtfmfikodnpnblaaDoor.RankFacts
open Go.Sort Go.Proofs Go.Proofs.YtfmfikodnpnblaaDoor.Flt Go.Proofs.YtfmfikodnpnblaaDoor.SymMerge Go.Proofs.YtfmfikodnpnblaaDoor.RankCmp Go.Proofs.YtfmfikodnpnblaaDoor.RankRow Go.Proofs.YtfmfikodnpnblaaDoor.RankWalk
theorem rankOf_is (G : Nat → Nat) (k : Nat) : RankOf G k (rankOf G k) := by
  have hS := lx_swo (ix := fun x : Fin (k + 1) => x.val) (swo_cmp G k)
  obtain ⟨p, s⟩ := insertionSort_holds hS (places k) 0 (k + 1) (by omega) (by rw [places_size]; omega)
  have h : RankOf G k ((insertionSort (lxF G k) (places k) 0 (k + 1)).toList.map (pl k)) := ⟨_, rfl, p, s⟩
  have e := rank_is h
  rw [← e]
  exact h
theorem perm_all {k : Nat} {d : Array (Fin (k + 1))} (p : PermIn 0 (k + 1) (places k) d) : d.size = k + 1 ∧ d.toList.Perm (places k).toList := by
  have hs : d.size = k + 1 := p.1.trans (places_size k)
  refine ⟨hs, ?_⟩
  have := p.2.2
  have e1 : d.extract 0 (k + 1) = d := Array.extract_eq_self_of_le (by omega)
  have e2 : (places k).extract 0 (k + 1) = places k := Array.extract_eq_self_of_le (by rw [places_size]; omega)
  rw [e1, e2] at this
  exact this
theorem rank_len {G : Nat → Nat} {k : Nat} {r : List Int} (h : RankOf G k r) : r.length = k + 1 := by
  obtain ⟨d, rfl, p, _⟩ := h
  rw [List.length_map, Array.length_toList, (perm_all p).1]
theorem rank_bound {G : Nat → Nat} {k : Nat} {r : List Int} (h : RankOf G k r) : ∀ x ∈ r, 0 ≤ x ∧ x < (k : Int) + 1 := by
  obtain ⟨d, rfl, p, _⟩ := h
  intro x hx
  obtain ⟨y, _, rfl⟩ := List.mem_map.1 hx
  have := y.isLt
  show 0 ≤ (y.val : Int) ∧ (y.val : Int) < _
  omega
theorem rank_nodup {G : Nat → Nat} {k : Nat} {r : List Int} (h : RankOf G k r) : r.Nodup := by
  obtain ⟨d, rfl, p, _⟩ := h
  have h1 : (d.toList.map (pl k)).Perm ((places k).toList.map (pl k)) := (perm_all p).2.map _
  rw [h1.nodup_iff, places_list]
  refine List.Pairwise.map _ (fun a b hab => ?_) List.nodup_range
  intro e
  exact hab (by omega)
/-- neighbours are in order. -/
theorem rank_next {G : Nat → Nat} {k : Nat} {r : List Int} (h : RankOf G k r) {i : Nat} (hi : i + 1 < r.length) :
    kz (key (G (r[i + 1]).toNat)) (key (G (r[i]'(by omega)).toNat)) = false ∧ (kz (key (G (r[i]'(by omega)).toNat)) (key (G (r[i + 1]).toNat)) = true ∨ r[i]'(by omega) ≤ r[i + 1]) := by
  obtain ⟨d, rfl, p, s⟩ := h
  have hs := (perm_all p).1
  have hi' : i + 1 < k + 1 := by rw [List.length_map, Array.length_toList, hs] at hi; exact hi
  have h1 := lx_false.1 (s i (i + 1) (by omega) (by omega) hi')
  rw [ltOf_is] at h1
  rw [getElem!_pos d i (by omega), getElem!_pos d (i + 1) (by omega)] at h1
  simp only [List.getElem_map, Array.getElem_toList, Int.toNat_natCast]
  refine ⟨h1.1, h1.2.imp (fun g => g) (fun g => ?_)⟩
  exact Int.ofNat_le.2 g
end Go.Proofs.YtfmfikodnpnblaaDoor.RankFacts
