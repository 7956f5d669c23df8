/- The contracts of the small functions of package instr. -/
import Derived.Test.YtkgednfofhlfdaaProg
import Derived.Test.YtkgednfofhlfdaaLib
import Derived.WalkKit
import Derived.KernelRfl
import Derived.BigQuiet
import Derived.WalkSpells
import Derived.WalkLawsBesides
import Derived.Laws.EntriesVeiled
namespace Go.Proofs.Ytkgednfofhlfdaa
open Go.RowKit

def isId (n : Int) : Bool := decide (1 ≤ n) && decide (n ≤ 65534)

theorem id_any (n : Int) (w : World) : Calls Try.prog 51 #[.int .i64 n] w fun e w' => e = .returned (.bool (isId n)) ∧ w = w' := by
  by_cases h : 1 ≤ n
  · go_enter Try.func51, Try.ntmps51
    go_wp2
    go_ret
    exact ⟨by simp [isId, h], rfl⟩
  · go_enter Try.func51, Try.ntmps51
    go_wp2
    go_ret
    exact ⟨by simp [isId]; omega, rfl⟩

/-- An operand's kind and number. -/
def opNone (k n : Int) : Bool := k == 0 && n == 0
def opField (k n : Int) : Bool := k == 2 && (decide (1 ≤ n) && decide (n ≤ 65534))
def opAny (k n : Int) : Bool := if k = 1 then true else if k = 3 then decide (n < 4) else if k = 4 ∨ k = 5 then n == 0 else opField k n

def opBox (k n : Int) : Obj := .cells #[.int .u8 k, .int .u64 n] 96

theorem none_any (k n : Int) (w : World) : Calls Try.prog 100 #[.agg #[.int .u8 k, .int .u64 n]] w fun e w' => e = .returned (.bool (opNone k n)) ∧ Below w.heap.size w w' := by
  go_enter Try.func100, Try.ntmps100
  go_wp2
  all_goals (go_ret; exact ⟨by simp_all [opNone], (Below.refl _ _).alloc (Nat.le_refl _) _⟩)

theorem field_any (k n : Int) (w : World) : Calls Try.prog 50 #[.agg #[.int .u8 k, .int .u64 n]] w fun e w' => e = .returned (.bool (opField k n)) ∧ w.alloc (opBox k n) = w' := by
  by_cases h : k = 2
  · subst h
    by_cases h1 : 1 ≤ n
    · go_enter Try.func50, Try.ntmps50
      go_wp2
      go_ret
      exact ⟨by simp [opField, h1], rfl⟩
    · go_enter Try.func50, Try.ntmps50
      go_wp2
      go_ret
      exact ⟨by simp [opField]; omega, rfl⟩
  · have h' : (k == 2) = false := by simpa using h
    go_enter Try.func50, Try.ntmps50
    go_wp2
    go_ret
    exact ⟨by simp [opField, h], rfl⟩

theorem any_any (k n : Int) (w : World) : Calls Try.prog 101 #[.agg #[.int .u8 k, .int .u64 n]] w fun e w' => e = .returned (.bool (opAny k n)) ∧ Below w.heap.size w w' := by
  have hf := fun w => field_any k n w
  unfold opAny
  generalize opField k n = bf at hf ⊢
  by_cases h1 : k = 1
  · subst h1
    go_enter Try.func101, Try.ntmps101
    go_wp2
    go_ret
    exact ⟨by simp, (Below.refl _ _).alloc (Nat.le_refl _) _⟩
  by_cases h3 : k = 3
  · subst h3
    go_enter Try.func101, Try.ntmps101
    go_wp2
    go_ret
    exact ⟨by simp, (Below.refl _ _).alloc (Nat.le_refl _) _⟩
  by_cases h4 : k = 4
  · subst h4
    go_enter Try.func101, Try.ntmps101
    go_wp2
    go_ret
    exact ⟨by simp, (Below.refl _ _).alloc (Nat.le_refl _) _⟩
  by_cases h5 : k = 5
  · subst h5
    go_enter Try.func101, Try.ntmps101
    go_wp2
    go_ret
    exact ⟨by simp, (Below.refl _ _).alloc (Nat.le_refl _) _⟩
  have e1 : (k == 1) = false := by simpa using h1
  have e3 : (k == 3) = false := by simpa using h3
  have e4 : (k == 4) = false := by simpa using h4
  have e5 : (k == 5) = false := by simpa using h5
  go_enter Try.func101, Try.ntmps101
  go_wp2_with (go_at_call 50; refine (hf _).mono ?_; rintro e w' ⟨rfl, rfl⟩)
  go_ret
  exact ⟨by simp [h1, h3, h4, h5], (((Below.refl _ _).alloc (Nat.le_refl _) _).alloc (by simp) _)⟩

end Go.Proofs.Ytkgednfofhlfdaa
