/- The law's examples: awake, walked. -/
import Derived.Test.YtkgednfofhlfdaaIp
namespace Go.Proofs.Ytkgednfofhlfdaa
open Go.RowKit Go.Shelf Go.Sort

set_option maxRecDepth 100000 in
set_option maxHeartbeats 2000000 in
theorem awake_any (w : World) : Calls Try.prog 11 #[] w fun e w' => e = .returned (.bool true) ∧ Below w.heap.size w w' := by
  have hnum := num_any
  go_enter Try.func11, Try.ntmps11
  go_upto_region 2 with (go_at_call 46; refine (hnum _ _).mono ?_; rintro e w1 ⟨rfl, hb1⟩; obtain ⟨hc1, hf1⟩ := bcell hb1)
  go_upto_region 7 with (go_at_call 46; refine (hnum _ _).mono ?_; rintro e w2 ⟨rfl, hb2⟩; obtain ⟨hc2, hf2⟩ := bcell hb2; have hz2_0 : w1.heap.size < w2.heap.size := (by have := hb2.size; (try simp at this); omega))
  obtain ⟨W, hW⟩ : ∃ W, W = (((w2.alloc (.cells #[.int .u8 12, .int .i64 1, .int .u8 4, .int .u64 0, .int .u8 1, .int .u64 2, .int .i64 2] 26)).alloc
      (.cells #[.int .u8 12, .int .i64 1, .int .u8 4, .int .u64 0, .int .u8 1, .int .u64 2, .int .i64 1, .int .u8 13, .int .i64 0, .int .u8 0, .int .u64 0, .int .u8 0, .int .u64 0, .int .i64 7, .int .u8 23, .int .i64 0, .int .u8 0, .int .u64 0, .int .u8 0, .int .u64 0, .int .i64 0] 26)).alloc
      (.cells #[.int .i64 1, .slice (some ⟨w2.heap.size + 1, 0, none⟩) 3 3] 36)) := ⟨_, rfl⟩
  rw [← hW]
  have hSet : W.heap[w1.heap.size]? = some (.cells #[.int .u8 1, .int .i64 3, .int .u8 1, .int .u64 5, .int .u8 0, .int .u64 0, .int .i64 0] 26 (0, 0)) := by
    rw [hW]
    refine (heap_alloc_old _ _ (by simp; omega)).trans ((heap_alloc_old _ _ (by simp; omega)).trans ((heap_alloc_old _ _ (by omega)).trans ((hb2.block _ (by simp; omega)).trans ?_)))
    exact (heap_alloc_old _ _ (by simp)).trans (heap_alloc_new _ _)
  have hOdd : W.heap[w1.heap.size + 1]? = some (.cells #[.int .u8 1, .int .i64 3, .int .u8 1, .int .u64 5, .int .u8 0, .int .u64 0, .int .i64 1] 26 (0, 0)) := by
    have hz : w1.heap.size + 1 < w2.heap.size := by have := hb2.size; simp at this; omega
    rw [hW]
    refine (heap_alloc_old _ _ (by simp; omega)).trans ((heap_alloc_old _ _ (by simp; omega)).trans ((heap_alloc_old _ _ (by omega)).trans ((hb2.block _ (by simp)).trans ?_)))
    have e := heap_alloc_new (w1.alloc (.cells #[.int .u8 1, .int .i64 3, .int .u8 1, .int .u64 5, .int .u8 0, .int .u64 0, .int .i64 0] 26)) (.cells #[.int .u8 1, .int .i64 3, .int .u8 1, .int .u64 5, .int .u8 0, .int .u64 0, .int .i64 1] 26)
    rw [World.size_alloc] at e
    exact e
  have hSkip : W.heap[w2.heap.size]? = some (.cells #[.int .u8 12, .int .i64 1, .int .u8 4, .int .u64 0, .int .u8 1, .int .u64 2, .int .i64 2] 26 (0, 0)) := by
    rw [hW]
    exact (heap_alloc_old _ _ (by simp; omega)).trans ((heap_alloc_old _ _ (by simp)).trans (heap_alloc_new _ _))
  have hRow : W.heap[w2.heap.size + 1]? = some (.cells #[.int .u8 12, .int .i64 1, .int .u8 4, .int .u64 0, .int .u8 1, .int .u64 2, .int .i64 1, .int .u8 13, .int .i64 0, .int .u8 0, .int .u64 0, .int .u8 0, .int .u64 0, .int .i64 7, .int .u8 23, .int .i64 0, .int .u8 0, .int .u64 0, .int .u8 0, .int .u64 0, .int .i64 0] 26 (0, 0)) := by
    rw [hW]
    refine (heap_alloc_old _ _ (by simp)).trans ?_
    have e := heap_alloc_new (w2.alloc (.cells #[.int .u8 12, .int .i64 1, .int .u8 4, .int .u64 0, .int .u8 1, .int .u64 2, .int .i64 2] 26)) (.cells #[.int .u8 12, .int .i64 1, .int .u8 4, .int .u64 0, .int .u8 1, .int .u64 2, .int .i64 1, .int .u8 13, .int .i64 0, .int .u8 0, .int .u64 0, .int .u8 0, .int .u64 0, .int .i64 7, .int .u8 23, .int .i64 0, .int .u8 0, .int .u64 0, .int .u8 0, .int .u64 0, .int .i64 0] 26)
    rw [World.size_alloc] at e
    exact e
  have hBox : W.heap[w2.heap.size + 1 + 1]? = some (.cells #[.int .i64 1, .slice (some ⟨w2.heap.size + 1, 0, none⟩) 3 3] 36 (0, 0)) := by
    rw [hW]
    exact heap_two _ _ _ _
  have hBelow : Below w.heap.size w W := by
    have hz1 : w.heap.size ≤ w1.heap.size := hb1.size
    rw [hW]
    exact below_al (below_al (below_al (below_then hb2 (below_al (below_al hb1 (by omega)) (by simp; omega)) (by simp; omega)) (by omega)) (by simp; omega)) (by simp; omega)
  clear hW hc1 hc2 hf1 hf2
  have hB1 := lt_of_heap hBox
  have s0 : w1.heap.size < W.heap.size := lt_of_heap hSet
  have s1 : w1.heap.size + 1 < W.heap.size := lt_of_heap hOdd
  have s2 : w2.heap.size < W.heap.size := lt_of_heap hSkip
  have s3 : w2.heap.size + 1 < W.heap.size := lt_of_heap hRow
  have s4 : w2.heap.size + 1 + 1 < W.heap.size := lt_of_heap hBox
  have hcode : CodeAt W (w2.heap.size + 1) 0 blockB := by
    have c := cells_at hRow
    refine ⟨s3, ?_, ?_, ?_, ?_, ?_, ?_, ?_⟩ <;> (intro k hk; have hk : k < 3 := hk; rcases (show k = 0 ∨ k = 1 ∨ k = 2 by omega) with rfl | rfl | rfl <;> exact c _)
  clear hnum hb1 hb2 hz2_0
  have cs2 := cells_at hSet
  have HSet := Lib.hid hSet
  have HOdd := Lib.hid hOdd
  have HSkip := Lib.hid hSkip
  have HBox := Lib.hid hBox
  clear hSet hOdd hSkip hBox hRow
  go_wp2_with (first
    | (go_at_call 49; refine (steps_B _ _ (hcode.below hB11 s3)).mono ?_; rintro e w12 ⟨rfl, hb12⟩; have hB12 : Below W.heap.size W w12 := (below_then hb12 hB11 hS11); have hS12 : W.heap.size ≤ w12.heap.size := hB12.size)
    | (go_at_call 48; have hr5 := wrow_below hn10 (below_al (o := .cells #[.int .u8 23, .int .i64 0, .int .i64 0] 102) (Below.refl _ _) (Nat.le_refl _)); have hr6 := wrow_new1 w10 102; refine (ways_same _ _ [⟨23, 0, 0⟩] _ hr5 hr6 (by simp)).mono ?_; rintro e w11 ⟨rfl, hb11⟩; have hB11 : Below W.heap.size W w11 := (below_then hb11 (below_al hB10 hS10) (by simp; omega)); have hS11 : W.heap.size ≤ w11.heap.size := hB11.size; have cb11 := cells_at ((hB11.block _ s4).trans HBox.out))
    | (go_at_call 15; have hu10 := hB9; refine (ways_E _).mono ?_; rintro e w10 ⟨v10, rfl, hn10, hb10⟩; have hB10 : Below W.heap.size W w10 := (below_then hb10 hB9 hS9); have hS10 : W.heap.size ≤ w10.heap.size := hB10.size)
    | (go_at_call 13; have hx9 := code_X w8; refine (may_X _ _ hx9).mono ?_; rintro e w9 ⟨rfl, hb9⟩; have hB9 : Below W.heap.size W w9 := (below_then hb9 (below_al hB8 hS8) (by simp; omega)); have hS9 : W.heap.size ≤ w9.heap.size := hB9.size)
    | (go_at_call 48; have hr3 := wrow_below hn7 (below_al (o := .cells #[.int .u8 13, .int .i64 7, .int .i64 2, .int .u8 23, .int .i64 0, .int .i64 2] 102) (Below.refl _ _) (Nat.le_refl _)); have hr4 := wrow_new2 w7 102; refine (ways_same _ _ listB _ hr3 hr4 (by simp [listB])).mono ?_; rintro e w8 ⟨rfl, hb8⟩; have hB8 : Below W.heap.size W w8 := (below_then hb8 (below_al hB7 hS7) (by simp; omega)); have hS8 : W.heap.size ≤ w8.heap.size := hB8.size; have ck8 := cells_at ((hB8.block _ s2).trans HSkip.out); have cs8 := cells_at ((hB8.block _ s0).trans HSet.out))
    | (go_at_call 15; refine (ways_B _ _ (hcode.below hB6 s3)).mono ?_; rintro e w7 ⟨v7, rfl, hn7, hb7⟩; have hB7 : Below W.heap.size W w7 := (below_then hb7 hB6 hS6); have hS7 : W.heap.size ≤ w7.heap.size := hB7.size)
    | (go_at_call 10; have hu6 := hB5; refine (may_odd _).mono ?_; rintro e w6 ⟨rfl, hb6⟩; have hB6 : Below W.heap.size W w6 := (below_then hb6 hB5 hS5); have hS6 : W.heap.size ≤ w6.heap.size := hB6.size; have cb6 := cells_at ((hB6.block _ s4).trans HBox.out))
    | (go_at_call 47; have hr1 := nrow_below hn4 (below_al (o := .cells #[.int .u8 1, .int .i64 3] 99) (Below.refl _ _) (Nat.le_refl _)); have hr2 := nrow_new w4 99; refine (names_same _ _ [(1, 3)] _ hr1 hr2 (by simp)).mono ?_; rintro e w5 ⟨rfl, hb5⟩; have hB5 : Below W.heap.size W w5 := (below_then hb5 (below_al hB4 hS4) (by simp; omega)); have hS5 : W.heap.size ≤ w5.heap.size := hB5.size; have co5 := cells_at ((hB5.block _ s1).trans HOdd.out))
    | (go_at_call 12; refine (names_set _).mono ?_; rintro e w4 ⟨v4, rfl, hn4, hb4⟩; have hB4 : Below W.heap.size W w4 := (below_then hb4 hB3 hS3); have hS4 : W.heap.size ≤ w4.heap.size := hB4.size)
    | (go_at_call 10; refine (may_set _).mono ?_; rintro e w3 ⟨rfl, hb3⟩; have hB3 : Below W.heap.size W w3 := (hb3); have hS3 : W.heap.size ≤ w3.heap.size := hB3.size; have cs3 := cells_at ((hB3.block _ s0).trans HSet.out)))
  go_ret
  exact ⟨rfl, hBelow.trans (hB12.mono hBelow.size)⟩
end Go.Proofs.Ytkgednfofhlfdaa
