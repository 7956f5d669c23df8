/- instr.May. -/
import Derived.Test.YtkgednfofhlfdaaIc
import Derived.Shelf.Abstract
namespace Go.Proofs.Ytkgednfofhlfdaa
open Go.RowKit Go.Shelf

structure Ins where
  op : Int
  dst : Int
  ak : Int
  an : Int
  bk : Int
  bn : Int
  n : Int

def Ins.cells (i : Ins) : List Value := [.int .u8 i.op, .int .i64 i.dst, .int .u8 i.ak, .int .u64 i.an, .int .u8 i.bk, .int .u64 i.bn, .int .i64 i.n]
def Ins.v (i : Ins) : Value := .agg i.cells.toArray

/-- What an operand's test says. -/
def Fk.test (f : Fk) (k n : Int) : Bool := match f with | .nil => false | .no => opNone k n | .any => opAny k n | .field => opField k n

def Fk.g : Fk → Nat | .nil => 0 | .no => 100 | .any => 101 | .field => 50

theorem Fk.v_eq {f : Fk} (h : f ≠ .nil) : f.v = .func (.func f.g) #[] #[] := by cases f <;> first | rfl | exact absurd rfl h
theorem Fk.enters {f : Fk} (h : f ≠ .nil) : ∀ args w, (callFunc f.g args).run Try.prog w = .ok (.enter f.g args) w := by
  cases f
  · exact absurd rfl h
  · exact enters_of Try.func100 (by kernel_rfl) rfl
  · exact enters_of Try.func101 (by kernel_rfl) rfl
  · exact enters_of Try.func50 (by kernel_rfl) rfl
theorem Fk.calls {f : Fk} (h : f ≠ .nil) (k n : Int) (w : World) : Calls Try.prog f.g #[.agg #[.int .u8 k, .int .u64 n]] w fun e w' => e = .returned (.bool (f.test k n)) ∧ Below w.heap.size w w' := by
  cases f
  · exact absurd rfl h
  · exact none_any k n w
  · exact any_any k n w
  · exact (field_any k n w).mono fun e w' ⟨he, hw⟩ => ⟨he, hw ▸ (Below.refl _ _).alloc (Nat.le_refl _) _⟩

theorem shp_fk : ∀ k : Nat, 1 ≤ k → k ≤ 23 → (shpOf k).a ≠ .nil ∧ (shpOf k).b ≠ .nil := by
  intro k h0 h1
  have : k = 1 ∨ k = 2 ∨ k = 3 ∨ k = 4 ∨ k = 5 ∨ k = 6 ∨ k = 7 ∨ k = 8 ∨ k = 9 ∨ k = 10 ∨ k = 11 ∨ k = 12 ∨ k = 13 ∨ k = 14 ∨ k = 15 ∨ k = 16 ∨ k = 17 ∨ k = 18 ∨ k = 19 ∨ k = 20 ∨ k = 21 ∨ k = 22 ∨ k = 23 := by omega
  rcases this with rfl | rfl | rfl | rfl | rfl | rfl | rfl | rfl | rfl | rfl | rfl | rfl | rfl | rfl | rfl | rfl | rfl | rfl | rfl | rfl | rfl | rfl | rfl <;> exact ⟨(by intro h; cases h), (by intro h; cases h)⟩

def Ins.shape (i : Ins) : Shp := shpOf i.op.toNat
def Ins.isOp (i : Ins) : Bool := decide (1 ≤ i.op) && decide (i.op ≤ 23)
def Ins.may (i : Ins) : Bool := i.isOp && i.shape.target i.dst && i.shape.a.test i.ak i.an && i.shape.b.test i.bk i.bn && i.shape.number i.n

set_option maxHeartbeats 2000000 in
theorem may_walk (op dst ak an bk bn n : Int) (s : Shp) (ga gb : Nat) (bt ba bb bm : Bool) (w : World)
    (ha : s.a.v = .func (.func ga) #[] #[]) (hb : s.b.v = .func (.func gb) #[] #[])
    (ea : ∀ args w, (callFunc ga args).run Try.prog w = .ok (.enter ga args) w) (eb : ∀ args w, (callFunc gb args).run Try.prog w = .ok (.enter gb args) w)
    (hof : ∀ w, Calls Try.prog 43 #[.int .u8 op] w fun e w' => e = .returned (.tuple #[s.v, .bool true]) ∧ Below w.heap.size w w')
    (ht : ∀ w, Calls Try.prog 44 #[.agg s.cells.toArray, .int .i64 dst] w fun e w' => e = .returned (.bool bt) ∧ Below w.heap.size w w')
    (hca : ∀ w, Calls Try.prog ga #[.agg #[.int .u8 ak, .int .u64 an]] w fun e w' => e = .returned (.bool ba) ∧ Below w.heap.size w w')
    (hcb : ∀ w, Calls Try.prog gb #[.agg #[.int .u8 bk, .int .u64 bn]] w fun e w' => e = .returned (.bool bb) ∧ Below w.heap.size w w')
    (hm : ∀ w, Calls Try.prog 45 #[.agg s.cells.toArray, .int .i64 n] w fun e w' => e = .returned (.bool bm) ∧ Below w.heap.size w w') :
    Calls Try.prog 10 #[.agg #[.int .u8 op, .int .i64 dst, .int .u8 ak, .int .u64 an, .int .u8 bk, .int .u64 bn, .int .i64 n]] w fun e w' => e = .returned (.bool (bt && ba && bb && bm)) ∧ Below w.heap.size w w' := by
  have hsc : s.cells = [.bool s.fto, .bool s.ftest, .func (.func ga) #[] #[], .func (.func gb) #[] #[], .int .u8 s.names, .int .i64 s.least, .int .i64 s.most] := by rw [← ha, ← hb]; rfl
  have hsv : s.v = .agg #[.bool s.fto, .bool s.ftest, .func (.func ga) #[] #[], .func (.func gb) #[] #[], .int .u8 s.names, .int .i64 s.least, .int .i64 s.most] := by rw [Shp.v, hsc]
  rw [hsv] at hof
  rw [hsc] at ht hm
  clear hsv hsc ha hb
  cases bt
  · go_enter Try.func10, Try.ntmps10
    go_wp2_with (first | (go_at_call 43; refine (hof _).mono ?_; rintro e w1 ⟨rfl, hb1⟩; obtain ⟨hc1, hf1⟩ := bcell hb1; have hz1_0 : w.heap.size < w1.heap.size := (by have := hb1.size; (try simp at this); omega)) | (go_at_call 44; refine (ht _).mono ?_; rintro e w2 ⟨rfl, hb2⟩; obtain ⟨hc2, hf2⟩ := bcell hb2; have hz2_0 : w.heap.size < w2.heap.size := (by have := hb2.size; (try simp at this); omega); have hz2_1 : w1.heap.size < w2.heap.size := (by have := hb2.size; (try simp at this); omega)))
    go_ret
    exact ⟨by simp, by repeat (first | exact Below.refl _ _ | refine below_al ?_ (by first | omega | (simp; omega) | simp) | refine below_then (by assumption) ?_ (by first | omega | (simp; omega) | simp))⟩
  cases ba
  · clear eb hcb hm
    go_enter Try.func10, Try.ntmps10
    go_wp2_with (first | (go_at_call 43; refine (hof _).mono ?_; rintro e w1 ⟨rfl, hb1⟩; obtain ⟨hc1, hf1⟩ := bcell hb1; have hz1_0 : w.heap.size < w1.heap.size := (by have := hb1.size; (try simp at this); omega)) | (go_at_call 44; refine (ht _).mono ?_; rintro e w2 ⟨rfl, hb2⟩; obtain ⟨hc2, hf2⟩ := bcell hb2; have hz2_0 : w.heap.size < w2.heap.size := (by have := hb2.size; (try simp at this); omega); have hz2_1 : w1.heap.size < w2.heap.size := (by have := hb2.size; (try simp at this); omega)) | (go_at_fn ga; refine (hca _).mono ?_; rintro e w3 ⟨rfl, hb3⟩; obtain ⟨hc3, hf3⟩ := bcell hb3; have hz3_0 : w.heap.size < w3.heap.size := (by have := hb3.size; (try simp at this); omega); have hz3_1 : w1.heap.size < w3.heap.size := (by have := hb3.size; (try simp at this); omega)))
    go_ret
    exact ⟨by simp, by repeat (first | exact Below.refl _ _ | refine below_al ?_ (by first | omega | (simp; omega) | simp) | refine below_then (by assumption) ?_ (by first | omega | (simp; omega) | simp))⟩
  cases bb
  · clear hm
    go_enter Try.func10, Try.ntmps10
    go_wp2_with (first | (go_at_call 43; refine (hof _).mono ?_; rintro e w1 ⟨rfl, hb1⟩; obtain ⟨hc1, hf1⟩ := bcell hb1; have hz1_0 : w.heap.size < w1.heap.size := (by have := hb1.size; (try simp at this); omega)) | (go_at_call 44; refine (ht _).mono ?_; rintro e w2 ⟨rfl, hb2⟩; obtain ⟨hc2, hf2⟩ := bcell hb2; have hz2_0 : w.heap.size < w2.heap.size := (by have := hb2.size; (try simp at this); omega); have hz2_1 : w1.heap.size < w2.heap.size := (by have := hb2.size; (try simp at this); omega)) | (go_at_fn ga; refine (hca _).mono ?_; rintro e w3 ⟨rfl, hb3⟩; obtain ⟨hc3, hf3⟩ := bcell hb3; have hz3_0 : w.heap.size < w3.heap.size := (by have := hb3.size; (try simp at this); omega); have hz3_1 : w1.heap.size < w3.heap.size := (by have := hb3.size; (try simp at this); omega)) | (go_at_fn gb; refine (hcb _).mono ?_; rintro e w4 ⟨rfl, hb4⟩; obtain ⟨hc4, hf4⟩ := bcell hb4; have hz4_0 : w.heap.size < w4.heap.size := (by have := hb4.size; (try simp at this); omega); have hz4_1 : w1.heap.size < w4.heap.size := (by have := hb4.size; (try simp at this); omega)))
    go_ret
    exact ⟨by simp, by repeat (first | exact Below.refl _ _ | refine below_al ?_ (by first | omega | (simp; omega) | simp) | refine below_then (by assumption) ?_ (by first | omega | (simp; omega) | simp))⟩
  · go_enter Try.func10, Try.ntmps10
    go_wp2_with (first | (go_at_call 43; refine (hof _).mono ?_; rintro e w1 ⟨rfl, hb1⟩; obtain ⟨hc1, hf1⟩ := bcell hb1; have hz1_0 : w.heap.size < w1.heap.size := (by have := hb1.size; (try simp at this); omega)) | (go_at_call 44; refine (ht _).mono ?_; rintro e w2 ⟨rfl, hb2⟩; obtain ⟨hc2, hf2⟩ := bcell hb2; have hz2_0 : w.heap.size < w2.heap.size := (by have := hb2.size; (try simp at this); omega); have hz2_1 : w1.heap.size < w2.heap.size := (by have := hb2.size; (try simp at this); omega)) | (go_at_fn ga; refine (hca _).mono ?_; rintro e w3 ⟨rfl, hb3⟩; obtain ⟨hc3, hf3⟩ := bcell hb3; have hz3_0 : w.heap.size < w3.heap.size := (by have := hb3.size; (try simp at this); omega); have hz3_1 : w1.heap.size < w3.heap.size := (by have := hb3.size; (try simp at this); omega)) | (go_at_fn gb; refine (hcb _).mono ?_; rintro e w4 ⟨rfl, hb4⟩; obtain ⟨hc4, hf4⟩ := bcell hb4; have hz4_0 : w.heap.size < w4.heap.size := (by have := hb4.size; (try simp at this); omega); have hz4_1 : w1.heap.size < w4.heap.size := (by have := hb4.size; (try simp at this); omega)) | (go_at_call 45; refine (hm _).mono ?_; rintro e w5 ⟨rfl, hb5⟩; obtain ⟨hc5, hf5⟩ := bcell hb5; have hz5_0 : w.heap.size < w5.heap.size := (by have := hb5.size; (try simp at this); omega); have hz5_1 : w1.heap.size < w5.heap.size := (by have := hb5.size; (try simp at this); omega)))
    go_ret
    exact ⟨by simp, by repeat (first | exact Below.refl _ _ | refine below_al ?_ (by first | omega | (simp; omega) | simp) | refine below_then (by assumption) ?_ (by first | omega | (simp; omega) | simp))⟩
end Go.Proofs.Ytkgednfofhlfdaa
