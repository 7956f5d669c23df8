/- InstrElse: where the instruction may not be. -/
import Derived.Test.YtkgednfofhlfdaaIs
import Derived.Test.YtkgednfofhlfdaaOpI
namespace Go.Proofs.Ytkgednfofhlfdaa
open Go.RowKit Go.Shelf

set_option maxRecDepth 100000 in
theorem else_not (i k : Ins) (w : World) (hi : i.Fit) (hm : i.may = false) : Calls Try.prog 3 #[i.v, k.v] w fun e w' => e = .returned (.bool true) ∧ Below w.heap.size w w' := by
  have hmi := fun V => may_any i V hi.op.1
  rw [hm] at hmi
  obtain ⟨op, dst, ak, an, bk, bn, n⟩ := i
  obtain ⟨kop, kdst, kak, kan, kbk, kbn, kn⟩ := k
  have hmi : ∀ V, Calls Try.prog 10 #[.agg #[.int .u8 op, .int .i64 dst, .int .u8 ak, .int .u64 an, .int .u8 bk, .int .u64 bn, .int .i64 n]] V fun e w' => e = .returned (.bool false) ∧ Below V.heap.size V w' := hmi
  show Calls Try.prog 3 #[.agg #[.int .u8 op, .int .i64 dst, .int .u8 ak, .int .u64 an, .int .u8 bk, .int .u64 bn, .int .i64 n], .agg #[.int .u8 kop, .int .i64 kdst, .int .u8 kak, .int .u64 kan, .int .u8 kbk, .int .u64 kbn, .int .i64 kn]] w _
  clear hm hi
  go_enter Try.func3, Try.ntmps3
  go_wp2_with (first
    | (go_at_call 10; refine (hmi _).mono ?_; rintro e w1 ⟨rfl, hb1⟩)
    | (go_at_call 11; refine (awake_any _).mono ?_; rintro e w2 ⟨rfl, hb2⟩))
  go_ret
  exact ⟨rfl, below_then hb2 (below_then hb1 (by repeat (first | exact Below.refl _ _ | refine below_al ?_ (by first | omega | (simp; omega) | simp) | refine below_then (by assumption) ?_ (by first | omega | (simp; omega) | simp))) (by simp; omega)) (by have := hb1.size; simp at this ⊢; omega)⟩
end Go.Proofs.Ytkgednfofhlfdaa
