/- instr.of, shape.target, shape.number, May. -/
import Derived.Test.YtkgednfofhlfdaaIb
import Derived.Deep.QuietTactic
namespace Go.Proofs.Ytkgednfofhlfdaa
open Go.RowKit

theorem shp_index (w : World) : ∀ k : Nat, k < 24 → (Instr.index 151 (.agg shapesArr) (.int .u8 k)).run Try.prog w = .ok (shpOf k).v w
  | 0, _ => by kernel_rfl
  | 1, _ => by kernel_rfl
  | 2, _ => by kernel_rfl
  | 3, _ => by kernel_rfl
  | 4, _ => by kernel_rfl
  | 5, _ => by kernel_rfl
  | 6, _ => by kernel_rfl
  | 7, _ => by kernel_rfl
  | 8, _ => by kernel_rfl
  | 9, _ => by kernel_rfl
  | 10, _ => by kernel_rfl
  | 11, _ => by kernel_rfl
  | 12, _ => by kernel_rfl
  | 13, _ => by kernel_rfl
  | 14, _ => by kernel_rfl
  | 15, _ => by kernel_rfl
  | 16, _ => by kernel_rfl
  | 17, _ => by kernel_rfl
  | 18, _ => by kernel_rfl
  | 19, _ => by kernel_rfl
  | 20, _ => by kernel_rfl
  | 21, _ => by kernel_rfl
  | 22, _ => by kernel_rfl
  | 23, _ => by kernel_rfl
  | n + 24, h => by omega

theorem Fk.one (f : Fk) : f.v.oneCell' = true := by cases f <;> rfl
theorem Shp.one (s : Shp) : ∀ v ∈ s.cells.toArray.toList, v.oneCell' = true := by
  intro v hv
  simp [Shp.cells] at hv
  rcases hv with rfl | rfl | rfl | rfl | rfl | rfl | rfl <;> first | rfl | exact Fk.one _

theorem shp_info (s : Shp) : (Try.prog.info? 92).map (·.size) = some s.cells.toArray.size := by kernel_rfl

set_option maxHeartbeats 1000000 in
theorem of_any (k : Nat) (h0 : 1 ≤ k) (h1 : k ≤ 23) (w : World) : Calls Try.prog 43 #[.int .u8 (k : Int)] w fun e w' => e = .returned (.tuple #[(shpOf k).v, .bool true]) ∧ Below w.heap.size w w' := by
  have hx := fun w => shp_index w k (by omega)
  generalize hsk : shpOf k = s at hx ⊢
  clear hsk
  go_enter Try.func43, Try.ntmps43
  go_wp2_with (first | (go_at_call 85; refine (shapes_any _).mono ?_; rintro e w1 ⟨rfl, hb1⟩; have hg1 := (hb1.block w.heap.size (by simp)).trans (heap_alloc_new _ _)) | (refine wpList_store_row rfl 92 (.tmp 2) (.tmp 13) rfl w.heap.size rfl _ _ s.cells.toArray hg1 rfl rfl s.one (shp_info s) ?_))
  have hg2 := setRow_heap _ _ _ s.cells.toArray _ _ hg1
  refine bodyPost_ret (v := .tuple #[s.v, .bool true]) ?_ rfl ⟨rfl, ?_⟩
  · have hr := run_loadVar_row (P := Try.prog) _ _ 92 92 s.cells.toArray (0, 0) _ hg2 Try.underlying92 rfl (shp_info s)
    simp [results, Try.results43, asAddr, hr]
    rfl
  · exact (((Below.refl _ _).alloc (Nat.le_refl _) _).trans (hb1.mono (by simp))).setRowB (Nat.le_refl _) _

/-- A shape's two tests. -/
def Shp.target (s : Shp) (n : Int) : Bool := if s.fto = true then isId n else if s.ftest = true then decide (1 ≤ n) && decide (n ≤ 4) else n == 0
def Shp.number (s : Shp) (n : Int) : Bool := if 0 < s.names then isId n else decide (s.least ≤ n) && decide (n ≤ s.most)

theorem target_any (s : Shp) (n : Int) (w : World) : Calls Try.prog 44 #[.agg s.cells.toArray, .int .i64 n] w fun e w' => e = .returned (.bool (s.target n)) ∧ Below w.heap.size w w' := by
  obtain ⟨st, stt, sa, sb, sn, sl, sm⟩ := s
  have hid := id_any n
  unfold Shp.target Shp.cells
  generalize isId n = bi at hid ⊢
  have hsa := Fk.one sa
  have hsb := Fk.one sb
  generalize sa.v = va at *
  generalize sb.v = vb at *
  cases st
  · cases stt
    · go_enter Try.func44, Try.ntmps44
      go_wp2
      go_ret
      exact ⟨by simp, (Below.refl _ _).alloc (Nat.le_refl _) _⟩
    · by_cases h : 1 ≤ n
      · go_enter Try.func44, Try.ntmps44
        go_wp2
        go_ret
        exact ⟨by simp [h], (Below.refl _ _).alloc (Nat.le_refl _) _⟩
      · go_enter Try.func44, Try.ntmps44
        go_wp2
        go_ret
        exact ⟨by simp; omega, (Below.refl _ _).alloc (Nat.le_refl _) _⟩
  · go_enter Try.func44, Try.ntmps44
    go_wp2_with (go_at_call 51; refine (hid _).mono ?_; rintro e w' ⟨rfl, rfl⟩)
    go_ret
    exact ⟨by simp, (Below.refl _ _).alloc (Nat.le_refl _) _⟩

theorem number_any (s : Shp) (n : Int) (w : World) : Calls Try.prog 45 #[.agg s.cells.toArray, .int .i64 n] w fun e w' => e = .returned (.bool (s.number n)) ∧ Below w.heap.size w w' := by
  obtain ⟨st, stt, sa, sb, sn, sl, sm⟩ := s
  have hid := id_any n
  unfold Shp.number Shp.cells
  generalize isId n = bi at hid ⊢
  have hsa := Fk.one sa
  have hsb := Fk.one sb
  generalize sa.v = va at *
  generalize sb.v = vb at *
  by_cases hn : 0 < sn
  · go_enter Try.func45, Try.ntmps45
    go_wp2_with (go_at_call 51; refine (hid _).mono ?_; rintro e w' ⟨rfl, rfl⟩)
    go_ret
    exact ⟨by simp [hn], (Below.refl _ _).alloc (Nat.le_refl _) _⟩
  · by_cases h : sl ≤ n
    · go_enter Try.func45, Try.ntmps45
      go_wp2
      go_ret
      exact ⟨by simp [hn, h], (Below.refl _ _).alloc (Nat.le_refl _) _⟩
    · go_enter Try.func45, Try.ntmps45
      go_wp2
      go_ret
      exact ⟨by simp [hn]; omega, (Below.refl _ _).alloc (Nat.le_refl _) _⟩
end Go.Proofs.Ytkgednfofhlfdaa
