/- instr.May: the contract. -/
import Derived.Test.YtkgednfofhlfdaaId
namespace Go.Proofs.Ytkgednfofhlfdaa
open Go.RowKit Go.Shelf

theorem of_none (op : Int) (h : op < 1 ∨ 23 < op) (w : World) : Calls Try.prog 43 #[.int .u8 op] w fun e w' => e = .returned (.tuple #[(shpOf 0).v, .bool false]) ∧ Below w.heap.size w w' := by
  rcases h with h | h
  · go_enter Try.func43, Try.ntmps43
    go_wp2
    refine bodyPost_ret (v := .tuple #[(shpOf 0).v, .bool false]) ?_ rfl ⟨rfl, ?_⟩
    · simp [results, Try.results43, go_sem, shpOf, Shp.v, Shp.cells, Fk.v]
    · exact (Below.refl _ _).alloc (Nat.le_refl _) _
  · have h' : ¬ op < 1 := by omega
    go_enter Try.func43, Try.ntmps43
    go_wp2
    refine bodyPost_ret (v := .tuple #[(shpOf 0).v, .bool false]) ?_ rfl ⟨rfl, ?_⟩
    · simp [results, Try.results43, go_sem, shpOf, Shp.v, Shp.cells, Fk.v]
    · exact (Below.refl _ _).alloc (Nat.le_refl _) _

set_option maxHeartbeats 1000000 in
theorem may_none (op dst ak an bk bn n : Int) (h : op < 1 ∨ 23 < op) (w : World) : Calls Try.prog 10 #[.agg #[.int .u8 op, .int .i64 dst, .int .u8 ak, .int .u64 an, .int .u8 bk, .int .u64 bn, .int .i64 n]] w fun e w' => e = .returned (.bool false) ∧ Below w.heap.size w w' := by
  have hof := fun w => of_none op h w
  simp only [shpOf, Shp.v, Shp.cells, Fk.v] at hof
  clear h
  go_enter Try.func10, Try.ntmps10
  go_wp2_with (go_at_call 43; refine (hof _).mono ?_; rintro e w1 ⟨rfl, hb1⟩; obtain ⟨hc1, hf1⟩ := bcell hb1; have hz1 : w.heap.size < w1.heap.size := (by have := hb1.size; simp at this; omega))
  go_ret
  exact ⟨by simp, by repeat (first | exact Below.refl _ _ | refine below_al ?_ (by first | omega | (simp; omega) | simp) | refine below_then (by assumption) ?_ (by first | omega | (simp; omega) | simp))⟩

theorem may_any (i : Ins) (w : World) (h0 : 0 ≤ i.op) : Calls Try.prog 10 #[i.v] w fun e w' => e = .returned (.bool i.may) ∧ Below w.heap.size w w' := by
  by_cases h : 1 ≤ i.op ∧ i.op ≤ 23
  · obtain ⟨h1, h2⟩ := h
    obtain ⟨k, hk⟩ := Int.eq_ofNat_of_zero_le h0
    have hk1 : 1 ≤ k := by omega
    have hk2 : k ≤ 23 := by omega
    have hf := shp_fk k hk1 hk2
    have hof := fun w => of_any k hk1 hk2 w
    have hs : i.shape = shpOf k := by unfold Ins.shape; rw [hk]; rfl
    have hm : i.may = (i.shape.target i.dst && i.shape.a.test i.ak i.an && i.shape.b.test i.bk i.bn && i.shape.number i.n) := by
      simp [Ins.may, Ins.isOp, h1, h2]
    rw [hm, hs]
    have e := may_walk i.op i.dst i.ak i.an i.bk i.bn i.n (shpOf k) (shpOf k).a.g (shpOf k).b.g _ _ _ _ w (Fk.v_eq hf.1) (Fk.v_eq hf.2) (Fk.enters hf.1) (Fk.enters hf.2)
      (by rw [hk]; exact hof) (target_any _ _) (fun w => Fk.calls hf.1 _ _ w) (fun w => Fk.calls hf.2 _ _ w) (number_any _ _)
    exact e
  · have hm : i.may = false := by
      have : i.isOp = false := by unfold Ins.isOp; simp; omega
      simp [Ins.may, this]
    rw [hm]
    exact may_none _ _ _ _ _ _ _ (by omega) w
end Go.Proofs.Ytkgednfofhlfdaa
