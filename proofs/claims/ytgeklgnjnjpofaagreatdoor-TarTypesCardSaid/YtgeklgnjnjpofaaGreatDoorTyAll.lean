/- TarTypes answers true of any byte. -/
import Derived.Test.YtgeklgnjnjpofaaGreatDoorTyR0
import Derived.Test.YtgeklgnjnjpofaaGreatDoorTyR1
import Derived.Test.YtgeklgnjnjpofaaGreatDoorTyR2
import Derived.Test.YtgeklgnjnjpofaaGreatDoorTyR3
import Derived.Test.YtgeklgnjnjpofaaGreatDoorTyR4
import Derived.Test.YtgeklgnjnjpofaaGreatDoorTyR5
import Derived.Test.YtgeklgnjnjpofaaGreatDoorTyR6
import Derived.Test.YtgeklgnjnjpofaaGreatDoorTyR7
import Derived.KernelRfl
set_option maxRecDepth 100000
set_option linter.unusedVariables false
namespace Go.Proofs.YtgeklgnjnjpofaaGreatDoor
open Go Go.Ev Go.RowKit
theorem all_of {e : TypeId} {l : List Nat} (h : many e l = true) {t : Nat} (ht : t ∈ l) : one e t = true := List.all_eq_true.1 h t ht
theorem every (e : TypeId) (t : Nat) (ht : t < 256) : one e t = true := by
  have h : ∃ k, k < 64 ∧ t / 4 = k := ⟨t / 4, by omega, rfl⟩
  obtain ⟨k, hk, hd⟩ := h
  by_cases h0 : k = 0
  · subst h0; exact all_of (b0 e) (by simp only [List.mem_cons, List.mem_nil_iff, or_false]; omega)
  by_cases h1 : k = 1
  · subst h1; exact all_of (b4 e) (by simp only [List.mem_cons, List.mem_nil_iff, or_false]; omega)
  by_cases h2 : k = 2
  · subst h2; exact all_of (b8 e) (by simp only [List.mem_cons, List.mem_nil_iff, or_false]; omega)
  by_cases h3 : k = 3
  · subst h3; exact all_of (b12 e) (by simp only [List.mem_cons, List.mem_nil_iff, or_false]; omega)
  by_cases h4 : k = 4
  · subst h4; exact all_of (b16 e) (by simp only [List.mem_cons, List.mem_nil_iff, or_false]; omega)
  by_cases h5 : k = 5
  · subst h5; exact all_of (b20 e) (by simp only [List.mem_cons, List.mem_nil_iff, or_false]; omega)
  by_cases h6 : k = 6
  · subst h6; exact all_of (b24 e) (by simp only [List.mem_cons, List.mem_nil_iff, or_false]; omega)
  by_cases h7 : k = 7
  · subst h7; exact all_of (b28 e) (by simp only [List.mem_cons, List.mem_nil_iff, or_false]; omega)
  by_cases h8 : k = 8
  · subst h8; exact all_of (b32 e) (by simp only [List.mem_cons, List.mem_nil_iff, or_false]; omega)
  by_cases h9 : k = 9
  · subst h9; exact all_of (b36 e) (by simp only [List.mem_cons, List.mem_nil_iff, or_false]; omega)
  by_cases h10 : k = 10
  · subst h10; exact all_of (b40 e) (by simp only [List.mem_cons, List.mem_nil_iff, or_false]; omega)
  by_cases h11 : k = 11
  · subst h11; exact all_of (b44 e) (by simp only [List.mem_cons, List.mem_nil_iff, or_false]; omega)
  by_cases h12 : k = 12
  · subst h12; exact all_of (b48 e) (by simp only [List.mem_cons, List.mem_nil_iff, or_false]; omega)
  by_cases h13 : k = 13
  · subst h13; exact all_of (b52 e) (by simp only [List.mem_cons, List.mem_nil_iff, or_false]; omega)
  by_cases h14 : k = 14
  · subst h14; exact all_of (b56 e) (by simp only [List.mem_cons, List.mem_nil_iff, or_false]; omega)
  by_cases h15 : k = 15
  · subst h15; exact all_of (b60 e) (by simp only [List.mem_cons, List.mem_nil_iff, or_false]; omega)
  by_cases h16 : k = 16
  · subst h16; exact all_of (b64 e) (by simp only [List.mem_cons, List.mem_nil_iff, or_false]; omega)
  by_cases h17 : k = 17
  · subst h17; exact all_of (b68 e) (by simp only [List.mem_cons, List.mem_nil_iff, or_false]; omega)
  by_cases h18 : k = 18
  · subst h18; exact all_of (b72 e) (by simp only [List.mem_cons, List.mem_nil_iff, or_false]; omega)
  by_cases h19 : k = 19
  · subst h19; exact all_of (b76 e) (by simp only [List.mem_cons, List.mem_nil_iff, or_false]; omega)
  by_cases h20 : k = 20
  · subst h20; exact all_of (b80 e) (by simp only [List.mem_cons, List.mem_nil_iff, or_false]; omega)
  by_cases h21 : k = 21
  · subst h21; exact all_of (b84 e) (by simp only [List.mem_cons, List.mem_nil_iff, or_false]; omega)
  by_cases h22 : k = 22
  · subst h22; exact all_of (b88 e) (by simp only [List.mem_cons, List.mem_nil_iff, or_false]; omega)
  by_cases h23 : k = 23
  · subst h23; exact all_of (b92 e) (by simp only [List.mem_cons, List.mem_nil_iff, or_false]; omega)
  by_cases h24 : k = 24
  · subst h24; exact all_of (b96 e) (by simp only [List.mem_cons, List.mem_nil_iff, or_false]; omega)
  by_cases h25 : k = 25
  · subst h25; exact all_of (b100 e) (by simp only [List.mem_cons, List.mem_nil_iff, or_false]; omega)
  by_cases h26 : k = 26
  · subst h26; exact all_of (b104 e) (by simp only [List.mem_cons, List.mem_nil_iff, or_false]; omega)
  by_cases h27 : k = 27
  · subst h27; exact all_of (b108 e) (by simp only [List.mem_cons, List.mem_nil_iff, or_false]; omega)
  by_cases h28 : k = 28
  · subst h28; exact all_of (b112 e) (by simp only [List.mem_cons, List.mem_nil_iff, or_false]; omega)
  by_cases h29 : k = 29
  · subst h29; exact all_of (b116 e) (by simp only [List.mem_cons, List.mem_nil_iff, or_false]; omega)
  by_cases h30 : k = 30
  · subst h30; exact all_of (b120 e) (by simp only [List.mem_cons, List.mem_nil_iff, or_false]; omega)
  by_cases h31 : k = 31
  · subst h31; exact all_of (b124 e) (by simp only [List.mem_cons, List.mem_nil_iff, or_false]; omega)
  by_cases h32 : k = 32
  · subst h32; exact all_of (b128 e) (by simp only [List.mem_cons, List.mem_nil_iff, or_false]; omega)
  by_cases h33 : k = 33
  · subst h33; exact all_of (b132 e) (by simp only [List.mem_cons, List.mem_nil_iff, or_false]; omega)
  by_cases h34 : k = 34
  · subst h34; exact all_of (b136 e) (by simp only [List.mem_cons, List.mem_nil_iff, or_false]; omega)
  by_cases h35 : k = 35
  · subst h35; exact all_of (b140 e) (by simp only [List.mem_cons, List.mem_nil_iff, or_false]; omega)
  by_cases h36 : k = 36
  · subst h36; exact all_of (b144 e) (by simp only [List.mem_cons, List.mem_nil_iff, or_false]; omega)
  by_cases h37 : k = 37
  · subst h37; exact all_of (b148 e) (by simp only [List.mem_cons, List.mem_nil_iff, or_false]; omega)
  by_cases h38 : k = 38
  · subst h38; exact all_of (b152 e) (by simp only [List.mem_cons, List.mem_nil_iff, or_false]; omega)
  by_cases h39 : k = 39
  · subst h39; exact all_of (b156 e) (by simp only [List.mem_cons, List.mem_nil_iff, or_false]; omega)
  by_cases h40 : k = 40
  · subst h40; exact all_of (b160 e) (by simp only [List.mem_cons, List.mem_nil_iff, or_false]; omega)
  by_cases h41 : k = 41
  · subst h41; exact all_of (b164 e) (by simp only [List.mem_cons, List.mem_nil_iff, or_false]; omega)
  by_cases h42 : k = 42
  · subst h42; exact all_of (b168 e) (by simp only [List.mem_cons, List.mem_nil_iff, or_false]; omega)
  by_cases h43 : k = 43
  · subst h43; exact all_of (b172 e) (by simp only [List.mem_cons, List.mem_nil_iff, or_false]; omega)
  by_cases h44 : k = 44
  · subst h44; exact all_of (b176 e) (by simp only [List.mem_cons, List.mem_nil_iff, or_false]; omega)
  by_cases h45 : k = 45
  · subst h45; exact all_of (b180 e) (by simp only [List.mem_cons, List.mem_nil_iff, or_false]; omega)
  by_cases h46 : k = 46
  · subst h46; exact all_of (b184 e) (by simp only [List.mem_cons, List.mem_nil_iff, or_false]; omega)
  by_cases h47 : k = 47
  · subst h47; exact all_of (b188 e) (by simp only [List.mem_cons, List.mem_nil_iff, or_false]; omega)
  by_cases h48 : k = 48
  · subst h48; exact all_of (b192 e) (by simp only [List.mem_cons, List.mem_nil_iff, or_false]; omega)
  by_cases h49 : k = 49
  · subst h49; exact all_of (b196 e) (by simp only [List.mem_cons, List.mem_nil_iff, or_false]; omega)
  by_cases h50 : k = 50
  · subst h50; exact all_of (b200 e) (by simp only [List.mem_cons, List.mem_nil_iff, or_false]; omega)
  by_cases h51 : k = 51
  · subst h51; exact all_of (b204 e) (by simp only [List.mem_cons, List.mem_nil_iff, or_false]; omega)
  by_cases h52 : k = 52
  · subst h52; exact all_of (b208 e) (by simp only [List.mem_cons, List.mem_nil_iff, or_false]; omega)
  by_cases h53 : k = 53
  · subst h53; exact all_of (b212 e) (by simp only [List.mem_cons, List.mem_nil_iff, or_false]; omega)
  by_cases h54 : k = 54
  · subst h54; exact all_of (b216 e) (by simp only [List.mem_cons, List.mem_nil_iff, or_false]; omega)
  by_cases h55 : k = 55
  · subst h55; exact all_of (b220 e) (by simp only [List.mem_cons, List.mem_nil_iff, or_false]; omega)
  by_cases h56 : k = 56
  · subst h56; exact all_of (b224 e) (by simp only [List.mem_cons, List.mem_nil_iff, or_false]; omega)
  by_cases h57 : k = 57
  · subst h57; exact all_of (b228 e) (by simp only [List.mem_cons, List.mem_nil_iff, or_false]; omega)
  by_cases h58 : k = 58
  · subst h58; exact all_of (b232 e) (by simp only [List.mem_cons, List.mem_nil_iff, or_false]; omega)
  by_cases h59 : k = 59
  · subst h59; exact all_of (b236 e) (by simp only [List.mem_cons, List.mem_nil_iff, or_false]; omega)
  by_cases h60 : k = 60
  · subst h60; exact all_of (b240 e) (by simp only [List.mem_cons, List.mem_nil_iff, or_false]; omega)
  by_cases h61 : k = 61
  · subst h61; exact all_of (b244 e) (by simp only [List.mem_cons, List.mem_nil_iff, or_false]; omega)
  by_cases h62 : k = 62
  · subst h62; exact all_of (b248 e) (by simp only [List.mem_cons, List.mem_nil_iff, or_false]; omega)
  by_cases h63 : k = 63
  · subst h63; exact all_of (b252 e) (by simp only [List.mem_cons, List.mem_nil_iff, or_false]; omega)
  omega
theorem types_calls (e : TypeId) (t : Nat) (ht : t < 256) (w : World) (hl : LaidT (tabs e) w) : Calls Tryz.prog 4 #[.int .u8 (.ofNat t)] w fun e w' => e = .returned (.bool true) ∧ Below w.heap.size w w' :=
  run_laid Tryz.prog mixed 9 kn_ok (tabs e) (okt e) 100000 1000 4 [.int .u8 (.ofNat t)] rfl (by decide +kernel) (every e t ht) w hl
end Go.Proofs.YtgeklgnjnjpofaaGreatDoor
