/- instr.Ways' comparison: cmp.Compare, cmp.Or, the closure; and the sort by it. -/
import Derived.Test.YtkgednfofhlfdaaIh
import Derived.Test.YtkgednfofhlfdaaShelf
import Derived.Shelf.SlSortCmp.NoneTotal
namespace Go.Proofs.Ytkgednfofhlfdaa
open Go.RowKit Go.Shelf Go.Sort

def cmpI (a b : Int) : Int := if a < b then -1 else if b < a then 1 else 0

theorem cmpInt_any (a b : Int) (w : World) : Calls Try.prog 59 #[.int .i64 a, .int .i64 b] w fun e w' => e = .returned (.int .i64 (cmpI a b)) ∧ w' = w := by
  unfold cmpI
  by_cases h1 : a < b
  · go_enter Try.func59, Try.ntmps59
    go_wp2
    go_ret
    exact ⟨rfl, rfl⟩
  · by_cases h2 : b < a
    · go_enter Try.func59, Try.ntmps59
      go_wp2
      go_ret
      exact ⟨rfl, rfl⟩
    · go_enter Try.func59, Try.ntmps59
      go_wp2
      go_ret
      exact ⟨rfl, rfl⟩

theorem cmpU8_any (a b : Int) (w : World) : Calls Try.prog 58 #[.int .u8 a, .int .u8 b] w fun e w' => e = .returned (.int .i64 (cmpI a b)) ∧ w' = w := by
  unfold cmpI
  by_cases h1 : a < b
  · go_enter Try.func58, Try.ntmps58
    go_wp2
    go_ret
    exact ⟨rfl, rfl⟩
  · by_cases h2 : b < a
    · go_enter Try.func58, Try.ntmps58
      go_wp2
      go_ret
      exact ⟨rfl, rfl⟩
    · go_enter Try.func58, Try.ntmps58
      go_wp2
      go_ret
      exact ⟨rfl, rfl⟩

def orI (a b : Int) : Int := if a = 0 then b else a

theorem or_two (a b : Int) (g : Nat) (w : World) (h0 : w.cell? ⟨g, 0, none⟩ = some (.int .i64 a)) (h1 : w.cell? ⟨g, 1, none⟩ = some (.int .i64 b)) :
    Calls Try.prog 57 #[.slice (some ⟨g, 0, none⟩) 2 2] w fun e w' => e = .returned (.int .i64 (orI a b)) ∧ w' = w := by
  unfold orI
  by_cases ha : a = 0
  · subst ha
    by_cases hb : b = 0
    · subst hb
      go_enter Try.func57, Try.ntmps57
      go_wp2
      refine wp_loop_rounds 3 ?_
      rw [rounds_succ]
      go_wp2
      rw [rounds_succ]
      go_wp2
      rw [rounds_succ]
      go_wp2
      go_ret
      exact ⟨rfl, rfl⟩
    · have hb' : (b != 0) = true := by simpa using hb
      go_enter Try.func57, Try.ntmps57
      go_wp2
      refine wp_loop_rounds 3 ?_
      rw [rounds_succ]
      go_wp2
      rw [rounds_succ]
      go_wp2
      go_ret
      exact ⟨rfl, rfl⟩
  · have ha' : (a != 0) = true := by simpa using ha
    go_enter Try.func57, Try.ntmps57
    go_wp2
    refine wp_loop_rounds 3 ?_
    rw [rounds_succ]
    go_wp2
    go_ret
    exact ⟨rfl, rfl⟩

/-- A way: its Op, its number, its steps. -/
structure Wy where
  op : Int
  n : Int
  s : Int
  deriving Inhabited

def Wy.cells (x : Wy) : List Value := [.int .u8 x.op, .int .i64 x.n, .int .i64 x.s]
def cmpWy (x y : Wy) : Int := orI (cmpI x.op y.op) (cmpI x.n y.n)

set_option maxRecDepth 100000 in
set_option maxHeartbeats 1000000 in
theorem cmpWy_any (x y : Wy) (w : World) : Calls Try.prog 56 #[.agg #[.int .u8 x.op, .int .i64 x.n, .int .i64 x.s], .agg #[.int .u8 y.op, .int .i64 y.n, .int .i64 y.s]] w fun e w' =>
    e = .returned (.int .i64 (cmpWy x y)) ∧ ∃ q os', w' = grow (w.drewN q) os' := by
  obtain ⟨a1, a2, a3⟩ := x
  obtain ⟨b1, b2, b3⟩ := y
  have h1 := fun W => cmpU8_any a1 b1 W
  have h2 := fun W => cmpInt_any a2 b2 W
  have h3 := fun g W => or_two (cmpI a1 b1) (cmpI a2 b2) g W
  unfold cmpWy
  dsimp only
  generalize cmpI a1 b1 = c1 at *
  generalize cmpI a2 b2 = c2 at *
  generalize orI c1 c2 = c3 at *
  go_enter Try.func56, Try.ntmps56
  go_wp2_with fail
  refine wp_region_still_tail 10 (by kernel_rfl) (by kernel_rfl) ?_
  obtain ⟨W0, hW0⟩ : ∃ W0, W0 = ((w.alloc (.cells #[.int .u8 a1, .int .i64 a2, .int .i64 a3] 47)).alloc (.cells #[.int .u8 b1, .int .i64 b2, .int .i64 b3] 47)).drew := ⟨_, rfl⟩
  change wpStill _ _ ((w.alloc (.cells #[.int .u8 a1, .int .i64 a2, .int .i64 a3] 47)).alloc (.cells #[.int .u8 b1, .int .i64 b2, .int .i64 b3] 47)).drew (fun a' => wpList _ _ _ _ a' ((w.alloc (.cells #[.int .u8 a1, .int .i64 a2, .int .i64 a3] 47)).alloc (.cells #[.int .u8 b1, .int .i64 b2, .int .i64 b3] 47)).drew) _ _
  rw [← hW0]
  have hA : W0.heap[w.heap.size]? = some (.cells #[.int .u8 a1, .int .i64 a2, .int .i64 a3] 47 (0, 0)) := by rw [hW0]; exact (heap_alloc_old _ _ (by simp)).trans (heap_alloc_new _ _)
  have hB : W0.heap[w.heap.size + 1]? = some (.cells #[.int .u8 b1, .int .i64 b2, .int .i64 b3] 47 (0, 0)) := by
    rw [hW0]
    have := heap_alloc_new (w.alloc (.cells #[.int .u8 a1, .int .i64 a2, .int .i64 a3] 47)) (.cells #[.int .u8 b1, .int .i64 b2, .int .i64 b3] 47)
    rw [World.size_alloc] at this
    exact this
  have hg : W0 = grow (w.drewN 1) #[.cells #[.int .u8 a1, .int .i64 a2, .int .i64 a3] 47, .cells #[.int .u8 b1, .int .i64 b2, .int .i64 b3] 47] := by
    rw [hW0, alloc_eq_grow, alloc_eq_grow, grow_grow]; rfl
  have HG := Lib.hid hg
  have cA := cells_at hA
  have cB := cells_at hB
  clear hW0 hA hB hg
  simp only [List.take_succ_cons, List.take_zero, List.drop_succ_cons, List.drop_zero]
  iterate 4 still_step
  still_call (h1 _)
  iterate 4 still_step
  still_call (h2 _)
  refine wpStill_nil ?_
  clear h1 h2
  go_wp2_with (go_at_call 57; refine (h3 _ _ (by simp [World.cell?_alloc_new]) (by simp [World.cell?_alloc_new])).mono ?_; rintro e w' ⟨rfl, rfl⟩)
  go_ret
  have e : ∀ X : Obj, W0.alloc X = grow (w.drewN 1) (#[.cells #[.int .u8 a1, .int .i64 a2, .int .i64 a3] 47, .cells #[.int .u8 b1, .int .i64 b2, .int .i64 b3] 47] ++ #[X]) := fun X => by
    rw [HG.out, alloc_eq_grow, grow_grow]
  exact ⟨rfl, 1, _, e _⟩

theorem ltWy (x y : Wy) : ltOf cmpWy x y = decide (x.op < y.op ∨ (x.op = y.op ∧ x.n < y.n)) := by
  unfold ltOf cmpWy orI cmpI
  by_cases h1 : x.op < y.op
  · simp [h1]
  · by_cases h2 : y.op < x.op
    · have : ¬ x.op = y.op := by omega
      simp [h1, h2, this]
    · have e : x.op = y.op := by omega
      by_cases h3 : x.n < y.n
      · simp [e, h3]
      · by_cases h4 : y.n < x.n <;> simp [e, h3, h4]

theorem swoWy : SWO (ltOf cmpWy) where
  irrefl x := by rw [ltWy]; simp
  trans x y z h1 h2 := by rw [ltWy] at *; simp at *; omega
  ntrans x y z h1 h2 := by rw [ltWy] at *; simp at *; omega

theorem cmpLaysWy (blk off size : Nat) (w : World) : CmpLays Try.prog 56 #[] Wy.cells 3 cmpWy blk off size w :=
  fun _ _ _ _ x y => cmpWy_any x y _

theorem sortWy_any (blk off cap : Nat) (d : Array Wy) (w : World) (hH : HoldsK Wy.cells 3 w blk off d) (hblk : blk < w.heap.size) (hsz : d.size < 4611686018427387904) :
    Calls Try.prog 55 #[.slice (some ⟨blk, off, none⟩) d.size cap, .func (.func 56) #[] #[]] w fun e w' => e = .returned (.tuple #[]) ∧ ∃ d' n os, PermIn 0 d.size d d' ∧ SortedIn (ltOf cmpWy) 0 d.size d' ∧ w' = sortWorldK Wy.cells 3 w blk off n d' os := by
  have eg : ∀ args w, (callFunc 56 args).run Try.prog w = .ok (.enter 56 args) w := enters_of Try.func56 (by kernel_rfl) rfl
  have h := AnyQ.slices_SortFunc Try.sortWay 3 Try.isAgg47 Try.sizeOf47 Wy.cells (fun _ => rfl) (fun x v hv => by simp [Wy.cells] at hv; rcases hv with rfl | rfl | rfl <;> rfl) cmpWy swoWy 56 #[] blk off cap d w eg (cmpLaysWy blk off d.size w) hH hblk hsz
  exact h
end Go.Proofs.Ytkgednfofhlfdaa
