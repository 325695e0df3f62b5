/-
  THE WALK OF tabardtop.TopNumbers: the Go text returns true at every pair of int64s, and turns nothing that lay in memory before. No condition but that the first number fits 64 bits.
-/
import Derived.Test.YtmncgclifblngaaLeaf
namespace Go.Proofs.Ytmncgclifblngaa
open Go.ChangeShapes Go.WideShapes Go.ChangeAt Go.RowKit
theorem below_drewN {B : Nat} {a w : World} (h : Below B a w) (n : Nat) : Below B a (w.drewN n) := ⟨h.os, h.tape, h.output, h.size, h.block⟩
theorem bcell {W w1 : World} (hb : Below W.heap.size W w1) : (∀ b o, b < W.heap.size → w1.cell? ⟨b, o, none⟩ = W.cell? ⟨b, o, none⟩) ∧ (∀ b o, b < W.heap.size → w1.frozen? ⟨b, o, none⟩ = W.frozen? ⟨b, o, none⟩) :=
  ⟨fun b o h => hb.cell (p := ⟨b, o, none⟩) h, fun b o h => hb.frozen (p := ⟨b, o, none⟩) h⟩
theorem idx_not (k : Int) (h : 0 ≤ k ∧ k < 8) (w : World) :
    (Instr.index 27 (.agg #[.int .i64 0, .int .i64 2, .int .i64 1, .int .i64 4, .int .i64 3, .int .i64 6, .int .i64 5, .int .i64 0]) (.int .i64 k)).run Try.prog w = .ok (.int .i64 (pick7 k 0 2 1 4 3 6 5)) w := by
  rcases split8 h with rfl | rfl | rfl | rfl | rfl | rfl | rfl | rfl <;> kernel_rfl
theorem idx_swap (k : Int) (h : 0 ≤ k ∧ k < 8) (w : World) :
    (Instr.index 27 (.agg #[.int .i64 0, .int .i64 1, .int .i64 2, .int .i64 5, .int .i64 6, .int .i64 3, .int .i64 4, .int .i64 0]) (.int .i64 k)).run Try.prog w = .ok (.int .i64 (pick7 k 0 1 2 5 6 3 4)) w := by
  rcases split8 h with rfl | rfl | rfl | rfl | rfl | rfl | rfl | rfl <;> kernel_rfl
theorem three (a b : Int) : ∃ x1 x2 x3 x4 x5 x6 : Bool, ∃ o : Int, (a == b) = x1 ∧ (a != b) = x2 ∧ decide (a < b) = x3 ∧ decide (b ≤ a) = x4 ∧ decide (b < a) = x5 ∧ decide (a ≤ b) = x6 ∧ ord a b = o ∧
    condB 0 a b = false ∧ condB 1 a b = x1 ∧ condB 2 a b = x2 ∧ condB 3 a b = x3 ∧ condB 4 a b = x4 ∧ condB 5 a b = x5 ∧ condB 6 a b = x6 ∧ condB 7 a b = false ∧
    ((x3 = true ∧ o = -1) ∨ (x3 = false ∧ x5 = true ∧ o = 1) ∨ (x3 = false ∧ x5 = false ∧ o = 0)) := by
  refine ⟨_, _, _, _, _, _, _, rfl, rfl, rfl, rfl, rfl, rfl, rfl, rfl, rfl, rfl, rfl, rfl, rfl, rfl, rfl, ?_⟩
  unfold ord
  by_cases h : a < b
  · simp [h]
  · by_cases h' : b < a
    · simp [h, h']
    · simp [h, h']
set_option maxHeartbeats 4000000 in
set_option maxRecDepth 100000 in
theorem law_walk (a b : Int) (w : World) (ha : -9223372036854775808 ≤ a ∧ a ≤ 9223372036854775807) :
    Calls Try.prog 3 #[.int .i64 a, .int .i64 b] w fun e w' => e = .returned (.bool true) ∧ Below w.heap.size w w' := by
  have HA := Lib.hid ha
  clear ha
  go_enter Try.func3, Try.ntmps3
  go_wp2
  go_loopw [20] (fun k wr => ∃ i : Int, 0 ≤ i ∧ i ≤ 14 ∧ k = .int .i64 i ∧ Below w.heap.size w wr) (fun k _ => (14 - intOf k).toNat)
  case atStart => exact ⟨0, by omega, by omega, rfl, Below.refl _ _⟩
  case round =>
    obtain ⟨i, hi0, hi1, rfl, hb⟩ := hrel
    by_cases hlt : i < 14
    · have hi : 0 ≤ i ∧ i < 14 := ⟨hi0, hlt⟩
      rcases split14 hi with rfl | rfl | rfl | rfl | rfl | rfl | rfl | rfl | rfl | rfl | rfl | rfl | rfl | rfl
      all_goals
        go_wp2_with (first | (go_at_call 4; refine (int_any _ _ _ _ hi).mono ?_; rintro e w' ⟨rfl, n, rfl⟩) | (go_at_call 5; refine (long_any _ _ _ _ hi).mono ?_; rintro e w' ⟨rfl, n, rfl⟩) | (go_at_call 6; first | ((with_reducible refine (reck_short _ _ _ _ hi).mono ?_); rintro e w' ⟨rfl, rfl⟩) | ((with_reducible refine (reck_wide _ _ _ _ hi HA.out).mono ?_); rintro e w' ⟨rfl, rfl⟩)) | (go_at_call 7; refine (pure_any _ _ hi).mono ?_; rintro e w' ⟨rfl, rfl⟩))
        exact ⟨⟨_, by omega, by omega, rfl, below_drewN hb _⟩, by simp [intOf]⟩
    · obtain ⟨w1, rfl⟩ : ∃ w1 : World, w1 = wr := ⟨_, rfl⟩
      have hsz := hb.size
      have e1 : wrap64 (wrap32 a) = wrap32 a := w64_32 a
      have e2 : wrap64 (wrap32 (-wrap32 a)) = wrap32 (-wrap32 a) := w64_32 _
      have e3 : wrap64 (IntKind.i8.wrap a) = IntKind.i8.wrap a := w64_8 a
      have e4 : wrap64 (IntKind.u16.wrap a) = IntKind.u16.wrap a := w64_u16 a
      have e5 : wrap64 (IntKind.i16.wrap a) = IntKind.i16.wrap a := w64_16 a
      obtain ⟨x1, x2, x3, x4, x5, x6, o, f1, f2, f3, f4, f5, f6, f7, c0, c1, c2, c3, c4, c5, c6, c7, hx⟩ := three a b
      rcases hx with ⟨rfl, rfl⟩ | ⟨rfl, rfl, rfl⟩ | ⟨rfl, rfl, rfl⟩
      all_goals
        go_wp2
        all_goals go_loopw [115] (fun k wr => ∃ i : Int, 0 ≤ i ∧ i ≤ 8 ∧ k = .int .i64 i ∧ Below (w1.heap.size + 1) (w1.alloc (.cells #[.bool false, .bool x1, .bool x2, .bool (condB 3 a b), .bool x4, .bool (condB 5 a b), .bool x6] 26)) wr) (fun k _ => (8 - intOf k).toNat)
        case atStart => exact ⟨0, by omega, by omega, rfl, by rw [c3, c5]; exact Below.refl _ _⟩
        case round =>
          obtain ⟨i, hi0, hi1, rfl, hb2⟩ := hrel
          rw [c3, c5] at hb2
          have hsz2 := hb2.size
          simp only [World.size_alloc] at hsz2
          have hw1 : w1.heap.size < wr.heap.size := by omega
          have g0 := hb2.cell (p := ⟨w1.heap.size, 0, none⟩) (by simp)
          have g1 := hb2.cell (p := ⟨w1.heap.size, 1, none⟩) (by simp)
          have g2 := hb2.cell (p := ⟨w1.heap.size, 2, none⟩) (by simp)
          have g3 := hb2.cell (p := ⟨w1.heap.size, 3, none⟩) (by simp)
          have g4 := hb2.cell (p := ⟨w1.heap.size, 4, none⟩) (by simp)
          have g5 := hb2.cell (p := ⟨w1.heap.size, 5, none⟩) (by simp)
          have g6 := hb2.cell (p := ⟨w1.heap.size, 6, none⟩) (by simp)
          simp at g0 g1 g2 g3 g4 g5 g6
          by_cases hlt : i < 8
          · have hi : 0 ≤ i ∧ i < 8 := ⟨hi0, hlt⟩
            rcases split8 hi with rfl | rfl | rfl | rfl | rfl | rfl | rfl | rfl
            all_goals
              have i1 := fun w => idx_not _ hi w
              have i2 := fun w => idx_swap _ hi w
              go_wp2_with fail
              go_quiet (fail)
              go_wp2_with (first
                | (go_at_call 8; refine (cond_any _ _ _ _ hi).mono ?_; rintro e w' ⟨rfl, hb3⟩; obtain ⟨d1, d2⟩ := bcell hb3; simp only [World.heap_drewN, World.cell?_drewN, World.frozen?_drewN] at d1 d2)
                | (go_at_call 9; refine (not_any _ _ hi).mono ?_; rintro e w' ⟨rfl, hb4⟩)
                | (go_at_call 10; refine (swap_any _ _ hi).mono ?_; rintro e w' ⟨rfl, hb5⟩))
              have z3 := hb3.size
              have z4 := hb4.size
              simp only [World.heap_drewN] at z3 z4 hb3
              have hB : Below (w1.heap.size + 1) _ _ := (((below_drewN hb2 nq).trans (hb3.mono (by omega))).trans (hb4.mono (by omega))).trans (hb5.mono (by omega))
              exact ⟨⟨_, by omega, by omega, rfl, by rw [c3, c5]; exact hB⟩, by simp [intOf]⟩
          · have hB : Below w.heap.size w wr := (hb.alloc hsz _).trans (hb2.mono (by omega))
            go_wp2_with (first
                | (go_at_call 11; refine (wrap_any _ _).mono ?_; rintro e w' ⟨rfl, rfl⟩)
                | (go_at_call 12; refine (narrow_any _ _ _ (by omega)).mono ?_; rintro e w' ⟨rfl, rfl⟩)
                | (go_at_call 13; refine (intneg_any _ _).mono ?_; rintro e w' ⟨rfl, rfl⟩)
                | (go_at_call 14; refine (longneg_any _ _).mono ?_; rintro e w' ⟨rfl, rfl⟩)
                | (go_at_call 15; refine (compare_any _ _ _).mono ?_; rintro e w' ⟨rfl, rfl⟩))
            all_goals (first | (go_ret; exact ⟨rfl, hB⟩) | go_outline)
end Go.Proofs.Ytmncgclifblngaa
