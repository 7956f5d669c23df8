/- instr.Ways' first closure. -/
import Derived.Test.YtkgednfofhlfdaaIh
namespace Go.Proofs.Ytkgednfofhlfdaa
open Go.RowKit Go.Shelf

theorem zero_int (w : World) : (zeroValue 3).run Try.prog w = .ok (.int .i64 0) w := by kernel_rfl

def cntAfter {V : Type} (o : Option V) (c : Nat) : Nat := if o.isSome then c else c + 1
/-- The way's number of steps so far, with these. -/
def bestOf (o : Option Int) (s : Int) : Int := if o.getD 0 < s then s else o.getD 0

set_option maxRecDepth 100000 in
set_option maxHeartbeats 1000000 in
theorem ends_any (op n steps : Int) (g b cnt : Nat) (m : Int × Int → Option Int) (w : World) (hok : wayOk (op, n)) (hst : 0 ≤ steps ∧ steps ≤ 1000) (hm : ∀ p v, m p = some v → 0 ≤ v ∧ v ≤ 1000)
    (hg : w.cell? ⟨g, 0, none⟩ = some (.map (some b))) (hmap : IsMapOf Try.prog 47 wayK wayOk i64V w b cnt m) (hcnt : cnt < 1000000) :
    Calls Try.prog 53 #[.agg #[.int .u8 op, .int .i64 n, .int .i64 0], .int .i64 steps, .pointer (some ⟨g, 0, none⟩)] w fun e w' =>
      e = .returned (.tuple #[]) ∧ IsMapOf Try.prog 47 wayK wayOk i64V w' b (cntAfter (m (op, n)) cnt) (updM m (op, n) (bestOf (m (op, n)) steps)) ∧ Fr (fun k => k = b) w w' := by
  have hgl := block_lt_of_cell hg
  go_enter Try.func53, Try.ntmps53
  go_wp2_with fail
  refine wp_region_still_tail 7 (by kernel_rfl) (by kernel_rfl) ?_
  obtain ⟨W, hW⟩ : ∃ W, W = (w.alloc (.cells #[.int .u8 op, .int .i64 n, .int .i64 0] 47)).drew := ⟨_, rfl⟩
  change wpStill _ _ (w.alloc (.cells #[.int .u8 op, .int .i64 n, .int .i64 0] 47)).drew (fun a' => wpList _ _ _ _ a' (w.alloc (.cells #[.int .u8 op, .int .i64 n, .int .i64 0] 47)).drew) _ _
  rw [← hW]
  have hfr : Fr (fun k => k = b) w W := by rw [hW]; exact ((Fr.refl _ w).alloc _).drew
  have hbl := mapT_lt hmap
  have hmW : IsMapOf Try.prog 47 wayK wayOk i64V W b cnt m := mapT_keep hmap (by rw [hW]; exact heap_alloc_old _ _ hbl)
  have hg' : W.cell? ⟨g, 0, none⟩ = some (.map (some b)) := by rw [hW]; exact ((Below.refl w.heap.size w).alloc (Nat.le_refl _) _).cell (p := ⟨g, 0, none⟩) hgl |>.trans hg
  have k0 : W.cell? ⟨w.heap.size, 0, none⟩ = some (.int .u8 op) := by rw [hW]; simp [World.cell?_alloc_new]
  have k1 : W.cell? ⟨w.heap.size, 1, none⟩ = some (.int .i64 n) := by rw [hW]; simp [World.cell?_alloc_new]
  have k2 : W.cell? ⟨w.heap.size, 2, none⟩ = some (.int .i64 0) := by rw [hW]; simp [World.cell?_alloc_new]
  clear hW
  have hlk : (Instr.lookup 106 (.map (some b)) (.agg #[.int .u8 op, .int .i64 n, .int .i64 0]) false).run Try.prog W = .ok (.int .i64 ((m (op, n)).getD 0)) W := by
    have h := mapT_run_lookup wayEnc 106 3 Try.underlying106 (zero_int W) b cnt m hmW (op, n) hok
    have e : ((m (op, n)).map i64V).getD (.int .i64 0) = .int .i64 ((m (op, n)).getD 0) := by cases m (op, n) <;> rfl
    rw [e] at h
    exact h
  have hbd : 0 ≤ (m (op, n)).getD 0 ∧ (m (op, n)).getD 0 ≤ 1000 := by
    cases h : m (op, n) with
    | none => simp
    | some v => exact hm _ _ h
  obtain ⟨b0, hb0⟩ : ∃ b0, b0 = (m (op, n)).getD 0 := ⟨_, rfl⟩
  rw [← hb0] at hlk hbd
  have HB := Lib.hid hb0
  clear hb0
  simp only [List.take_succ_cons, List.take_zero, List.drop_succ_cons, List.drop_zero]
  repeat still_step
  refine wpStill_nil ?_
  refine wpList_mapT_update wayEnc rfl (.tmp 5) (.tmp 6) (.tmp 11) 106 3 rfl Try.underlying106 b cnt m rfl hmW (by unfold maxLen; omega) (op, n) (if b0 < steps then steps else b0) rfl rfl hok ?_
  intro w' hm' hgr' hsz'
  have e := HB.out
  rw [e] at hm'
  have hm2 : IsMapOf Try.prog 47 wayK wayOk i64V w' b (cntAfter (m (op, n)) cnt) (updM m (op, n) (bestOf (m (op, n)) steps)) := hm'
  clear hlk hm' e
  go_wp2_with fail
  all_goals (go_end0; exact ⟨rfl, hm2, hfr.grown hgr' (fun j _ hj => by simpa using hj)⟩)
end Go.Proofs.Ytkgednfofhlfdaa
