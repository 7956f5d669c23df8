/- The law's examples: awake. -/
import Derived.Test.YtkgednfofhlfdaaIo
namespace Go.Proofs.Ytkgednfofhlfdaa
open Go.RowKit Go.Shelf Go.Sort

def insSet : Ins := ⟨1, 3, 1, 5, 0, 0, 0⟩
def insOdd : Ins := ⟨1, 3, 1, 5, 0, 0, 1⟩
def insSkip (n : Int) : Ins := ⟨12, 1, 4, 0, 1, 2, n⟩
def blockB : List Ins := [insSkip 1, ⟨13, 0, 0, 0, 0, 0, 7⟩, ⟨23, 0, 0, 0, 0, 0, 0⟩]

theorem waysB : waysMap blockB = updM (updM (fun _ => none) (13, 7) 2) (23, 0) 2 := by kernel_rfl

theorem heap_two (w : World) (a b c : Obj) : (((w.alloc a).alloc b).alloc c).heap[w.heap.size + 1 + 1]? = some c := by
  have e := heap_alloc_new ((w.alloc a).alloc b) c
  rw [World.size_alloc, World.size_alloc] at e
  exact e


theorem may_set (V : World) : Calls Try.prog 10 #[.agg #[.int .u8 1, .int .i64 3, .int .u8 1, .int .u64 5, .int .u8 0, .int .u64 0, .int .i64 0]] V fun e w' => e = .returned (.bool true) ∧ Below V.heap.size V w' := by
  have h := may_any insSet V (by decide)
  rw [show insSet.may = true by kernel_rfl] at h
  exact h
theorem may_odd (V : World) : Calls Try.prog 10 #[.agg #[.int .u8 1, .int .i64 3, .int .u8 1, .int .u64 5, .int .u8 0, .int .u64 0, .int .i64 1]] V fun e w' => e = .returned (.bool false) ∧ Below V.heap.size V w' := by
  have h := may_any insOdd V (by decide)
  rw [show insOdd.may = false by kernel_rfl] at h
  exact h
theorem names_set (V : World) : Calls Try.prog 12 #[.agg #[.int .u8 1, .int .i64 3, .int .u8 1, .int .u64 5, .int .u8 0, .int .u64 0, .int .i64 0]] V fun e w' => ∃ v, e = .returned v ∧ NRow w' v [(1, 3)] ∧ Below V.heap.size V w' := by
  have h := names_any insSet V (by decide) (by decide) (by decide)
  rw [show insSet.names = [(1, 3)] by kernel_rfl] at h
  exact h.mono fun e w' ⟨v, he, hn, hb⟩ => ⟨v, he, nrow_of hn, hb⟩

theorem fitB : ∀ k (h : k < blockB.length), blockB[k].Fit := fun k hk => by
  have h := List.getElem_mem hk
  generalize blockB[k] = x at h
  simp only [blockB, List.mem_cons, List.not_mem_nil, or_false] at h
  rcases h with rfl | rfl | rfl <;> constructor <;> decide
theorem mayB : mayBlk 1 blockB = true := by kernel_rfl
def listB : List Wy := [⟨13, 7, 2⟩, ⟨23, 0, 2⟩]
theorem memB (x : Wy) : x ∈ listB ↔ waysMap blockB (x.op, x.n) = some x.s := by
  obtain ⟨a, b, c⟩ := x
  rw [waysB]
  unfold listB updM
  simp only [List.mem_cons, Wy.mk.injEq, List.not_mem_nil, or_false, Prod.mk.injEq]
  by_cases h1 : a = 23 ∧ b = 0
  · obtain ⟨rfl, rfl⟩ := h1
    simp
    omega
  · rw [if_neg h1]
    by_cases h2 : a = 13 ∧ b = 7
    · obtain ⟨rfl, rfl⟩ := h2
      simp
      omega
    · rw [if_neg h2]
      simp
      omega
theorem pairB : listB.Pairwise ltKey := by
  unfold listB
  simp [ltKey]
theorem ways_B (V : World) (g : Nat) (hc : CodeAt V g 0 blockB) : Calls Try.prog 15 #[.agg #[.int .i64 1, .slice (some ⟨g, 0, none⟩) 3 3]] V fun e w' => ∃ v, e = .returned v ∧ WRow w' v listB ∧ Below V.heap.size V w' := by
  refine (ways_any (.slice (some ⟨g, 0, none⟩) 3 3) blockB V 1 ⟨_, 3, rfl, Or.inr ⟨g, 0, rfl, hc⟩⟩ fitB mayB).mono ?_
  rintro e w' ⟨r, he, g', cp, d, rfl, hrow, hg, hb⟩
  refine ⟨_, he, ?_, hb⟩
  have h := wrow_of (cp := cp) hrow
  rw [ways_list hrow memB pairB] at h
  exact h
theorem ways_E (V : World) : Calls Try.prog 15 #[.agg #[.int .i64 1, .slice none 0 0]] V fun e w' => ∃ v, e = .returned v ∧ WRow w' v [⟨23, 0, 0⟩] ∧ Below V.heap.size V w' := by
  refine (ways_any (.slice none 0 0) [] V 1 ⟨none, 0, rfl, Or.inl rfl⟩ (fun k hk => by simp at hk) (by kernel_rfl)).mono ?_
  rintro e w' ⟨r, he, g', cp, d, rfl, hrow, hg, hb⟩
  refine ⟨_, he, ?_, hb⟩
  have h := wrow_of (cp := cp) hrow
  have hl : d.toList = [⟨23, 0, 0⟩] := ways_list hrow (fun x => by
    obtain ⟨a, b, c⟩ := x
    rw [waysMap_nil]
    unfold updM
    simp only [List.mem_cons, Wy.mk.injEq, List.not_mem_nil, or_false, Prod.mk.injEq]
    by_cases h1 : a = 23 ∧ b = 0
    · obtain ⟨rfl, rfl⟩ := h1
      simp
      omega
    · rw [if_neg h1]
      simp
      omega) (by simp)
  rw [hl] at h
  exact h
theorem steps_B (V : World) (g : Nat) (hc : CodeAt V g 0 blockB) : Calls Try.prog 49 #[.agg #[.int .i64 1, .slice (some ⟨g, 0, none⟩) 3 3]] V fun e w' => e = .returned (.int .i64 2) ∧ Below V.heap.size V w' := by
  refine (steps_any (.slice (some ⟨g, 0, none⟩) 3 3) blockB V 1 ⟨_, 3, rfl, Or.inr ⟨g, 0, rfl, hc⟩⟩ fitB mayB).mono ?_
  rintro e w' ⟨⟨d, W, g', hrow, he⟩, hb⟩
  rw [ways_list hrow memB pairB] at he
  exact ⟨he, hb⟩
def blockX : List Ins := [insSkip 2, insSet]
theorem fitX : ∀ k (h : k < blockX.length), blockX[k].Fit := fun k hk => by
  have h := List.getElem_mem hk
  generalize blockX[k] = x at h
  simp only [blockX, List.mem_cons, List.not_mem_nil, or_false] at h
  rcases h with rfl | rfl <;> constructor <;> decide
theorem may_X (V : World) (g : Nat) (hc : CodeAt V g 0 blockX) : Calls Try.prog 13 #[.agg #[.int .i64 1, .slice (some ⟨g, 0, none⟩) 2 2]] V fun e w' => e = .returned (.bool false) ∧ Below V.heap.size V w' := by
  have h := mayBlock_any (.slice (some ⟨g, 0, none⟩) 2 2) blockX V 1 ⟨_, 2, rfl, Or.inr ⟨g, 0, rfl, hc⟩⟩ fitX (by decide)
  rw [show mayBlk 1 blockX = false by kernel_rfl] at h
  exact h
theorem code_X (V : World) : CodeAt (V.alloc (.cells #[.int .u8 12, .int .i64 1, .int .u8 4, .int .u64 0, .int .u8 1, .int .u64 2, .int .i64 2, .int .u8 1, .int .i64 3, .int .u8 1, .int .u64 5, .int .u8 0, .int .u64 0, .int .i64 0] 26)) V.heap.size 0 blockX := by
  have c := cells_at (heap_alloc_new V (.cells #[.int .u8 12, .int .i64 1, .int .u8 4, .int .u64 0, .int .u8 1, .int .u64 2, .int .i64 2, .int .u8 1, .int .i64 3, .int .u8 1, .int .u64 5, .int .u8 0, .int .u64 0, .int .i64 0] 26))
  refine ⟨by simp, ?_, ?_, ?_, ?_, ?_, ?_, ?_⟩ <;> (intro k hk; have hk : k < 2 := hk; rcases (show k = 0 ∨ k = 1 by omega) with rfl | rfl <;> exact c _)
theorem nrow_new (V : World) (t : TypeId) : NRow (V.alloc (.cells #[.int .u8 1, .int .i64 3] t)) (.slice (some ⟨V.heap.size, 0, none⟩) 1 1) [(1, 3)] := by
  have c := cells_at (heap_alloc_new V (.cells #[.int .u8 1, .int .i64 3] t))
  refine ⟨_, 1, rfl, fun i hi => ⟨_, 0, rfl, by simp, ?_⟩⟩
  have hi : i < 1 := hi
  obtain rfl : i = 0 := by omega
  exact ⟨c 0, c 1⟩
theorem wrow_new2 (V : World) (t : TypeId) : WRow (V.alloc (.cells #[.int .u8 13, .int .i64 7, .int .i64 2, .int .u8 23, .int .i64 0, .int .i64 2] t)) (.slice (some ⟨V.heap.size, 0, none⟩) 2 2) listB := by
  have c := cells_at (heap_alloc_new V (.cells #[.int .u8 13, .int .i64 7, .int .i64 2, .int .u8 23, .int .i64 0, .int .i64 2] t))
  refine ⟨_, 2, rfl, fun i hi => ⟨_, 0, rfl, by simp, ?_⟩⟩
  have hi : i < 2 := hi
  rcases (show i = 0 ∨ i = 1 by omega) with rfl | rfl
  · exact ⟨c 0, c 1, c 2⟩
  · exact ⟨c 3, c 4, c 5⟩
theorem wrow_new1 (V : World) (t : TypeId) : WRow (V.alloc (.cells #[.int .u8 23, .int .i64 0, .int .i64 0] t)) (.slice (some ⟨V.heap.size, 0, none⟩) 1 1) [⟨23, 0, 0⟩] := by
  have c := cells_at (heap_alloc_new V (.cells #[.int .u8 23, .int .i64 0, .int .i64 0] t))
  refine ⟨_, 1, rfl, fun i hi => ⟨_, 0, rfl, by simp, ?_⟩⟩
  have hi : i < 1 := hi
  obtain rfl : i = 0 := by omega
  exact ⟨c 0, c 1, c 2⟩

end Go.Proofs.Ytkgednfofhlfdaa
