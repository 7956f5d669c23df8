/- The law's ends, told, one(ISkip). -/
import Derived.Test.YtkgednfofhlfdaaIq
import Derived.Test.YtkgednfofhlfdaaJa
import Derived.BigQuiet
import Derived.Deep.QuietTactic
namespace Go.Proofs.Ytkgednfofhlfdaa
set_option linter.unusedSimpArgs false
set_option linter.unusedVariables false
open Go.RowKit Go.Shelf Go.Sort

theorem ret_int {k : IntKind} {a b : Int} (h : a = b) : Ending.returned (.int k a) = .returned (.int k b) := by rw [h]

def endT (i : Ins) : Value := match endOf i with
  | some q => .tuple #[.int .u8 q.1, .int .i64 q.2, .bool true]
  | none => .tuple #[.int .u8 0, .int .i64 0, .bool false]

set_option maxRecDepth 100000 in
theorem endsL_any (i : Ins) (w : World) : Calls Try.prog 60 #[i.v] w fun e w' => e = .returned (endT i) ∧ Below w.heap.size w w' := by
  obtain ⟨op, dst, ak, an, bk, bn, n⟩ := i
  show Calls Try.prog 60 #[.agg #[.int .u8 op, .int .i64 dst, .int .u8 ak, .int .u64 an, .int .u8 bk, .int .u64 bn, .int .i64 n]] w _
  by_cases h1 : op = 13
  · subst h1
    go_enter Try.func60, Try.ntmps60
    go_wp2
    go_quiet (fail)
    go_wp2
    go_ret3
    exact ⟨rfl, below_drN (by repeat (first | exact Below.refl _ _ | refine below_al ?_ (by first | omega | (simp; omega) | simp) | refine below_then (by assumption) ?_ (by first | omega | (simp; omega) | simp)))⟩
  by_cases h2 : op = 14
  · subst h2
    go_enter Try.func60, Try.ntmps60
    go_wp2
    go_quiet (fail)
    go_wp2
    go_ret3
    exact ⟨rfl, below_drN (by repeat (first | exact Below.refl _ _ | refine below_al ?_ (by first | omega | (simp; omega) | simp) | refine below_then (by assumption) ?_ (by first | omega | (simp; omega) | simp)))⟩
  by_cases h3 : op = 23
  · subst h3
    go_enter Try.func60, Try.ntmps60
    go_wp2
    go_ret3
    exact ⟨rfl, (by repeat (first | exact Below.refl _ _ | refine below_al ?_ (by first | omega | (simp; omega) | simp) | refine below_then (by assumption) ?_ (by first | omega | (simp; omega) | simp)))⟩
  by_cases h4 : op = 22
  · subst h4
    go_enter Try.func60, Try.ntmps60
    go_wp2
    go_ret3
    exact ⟨rfl, (by repeat (first | exact Below.refl _ _ | refine below_al ?_ (by first | omega | (simp; omega) | simp) | refine below_then (by assumption) ?_ (by first | omega | (simp; omega) | simp)))⟩
  have b1 : (op == 13) = false := by simpa using h1
  have b2 : (op == 14) = false := by simpa using h2
  have b3 : (op == 23) = false := by simpa using h3
  have b4 : (op == 22) = false := by simpa using h4
  have hE : endT ⟨op, dst, ak, an, bk, bn, n⟩ = .tuple #[.int .u8 0, .int .i64 0, .bool false] := by simp [endT, endOf, h1, h2, h3, h4]
  have HE := Lib.hid hE
  clear hE h1 h2 h3 h4
  go_enter Try.func60, Try.ntmps60
  go_wp2
  go_ret3
  exact ⟨by rw [HE.out]; rfl, (by repeat (first | exact Below.refl _ _ | refine below_al ?_ (by first | omega | (simp; omega) | simp) | refine below_then (by assumption) ?_ (by first | omega | (simp; omega) | simp)))⟩

def toldF (L : List Wy) (op n : Int) : Int := match L with
  | [] => -1
  | x :: r => if x.op = op ∧ x.n = n then x.s else toldF r op n

theorem toldF_drop {L : List Wy} {k : Nat} (h : k < L.length) (op n : Int) : toldF (L.drop k) op n = if L[k].op = op ∧ L[k].n = n then L[k].s else toldF (L.drop (k + 1)) op n := by
  rw [List.drop_eq_getElem_cons h, toldF]

set_option maxRecDepth 100000 in
set_option maxHeartbeats 1000000 in
theorem told_any (v : Value) (L : List Wy) (op n : Int) (w : World) (hv : WRow w v L) (hn : L.length ≤ 1000000) :
    Calls Try.prog 17 #[v, .int .u8 op, .int .i64 n] w fun e w' => e = .returned (.int .i64 (toldF L op n)) ∧ Below w.heap.size w w' := by
  obtain ⟨a, ca, rfl, h1⟩ := hv
  have H1 := Lib.hid h1
  clear h1
  go_enter Try.func17, Try.ntmps17
  go_wp2
  go_loopw [7] (fun i wr => ∃ k : Nat, k ≤ L.length ∧ i = .int .i64 k ∧ toldF (L.drop k) op n = toldF L op n ∧ Below w.heap.size w wr) (fun i _ => L.length - (intOf i).toNat)
  case atStart => exact ⟨0, by omega, rfl, rfl, Below.refl _ _⟩
  case round =>
    obtain ⟨k, hk, rfl, ht, hb⟩ := hrel
    by_cases hlt : k < L.length
    · obtain ⟨g, off, rfl, hg, q0, q1, q2⟩ := H1.out k hlt
      have Q0 := (hb.cell (p := ⟨g, off + k * 3, none⟩) hg).trans q0
      have Q1 := (hb.cell (p := ⟨g, off + k * 3 + 1, none⟩) hg).trans q1
      have Q2 := (hb.cell (p := ⟨g, off + k * 3 + 2, none⟩) hg).trans q2
      clear q0 q1 q2
      rw [toldF_drop hlt] at ht
      generalize L[k].op = x at *
      generalize L[k].n = y at *
      generalize L[k].s = z at *
      have HT := Lib.hid ht
      clear ht
      by_cases e1 : x = op
      · subst e1
        by_cases e2 : y = n
        · subst e2
          go_wp2
          go_ret
          exact ⟨ret_int (by have := HT.out; simp at this; exact this), hb⟩
        · have b2 : (y == n) = false := by simpa using e2
          have HE := Lib.hid e2
          clear e2
          go_wp2
          go_roundw
          case rel => exact ⟨k + 1, by omega, by simp, by have := HT.out; rw [if_neg (fun h => HE.out h.2)] at this; exact this, hb⟩
          case measure => simp [intOf]; omega
      · have b1 : (x == op) = false := by simpa using e1
        have HE := Lib.hid e1
        clear e1
        go_wp2
        go_roundw
        case rel => exact ⟨k + 1, by omega, by simp, by have := HT.out; rw [if_neg (fun h => HE.out h.1)] at this; exact this, hb⟩
        case measure => simp [intOf]; omega
    · have hke : k = L.length := by omega
      subst hke
      rw [List.drop_length] at ht
      have HT := Lib.hid ht
      clear ht
      go_wp2
      go_ret
      exact ⟨ret_int HT.out, hb⟩
end Go.Proofs.Ytkgednfofhlfdaa
