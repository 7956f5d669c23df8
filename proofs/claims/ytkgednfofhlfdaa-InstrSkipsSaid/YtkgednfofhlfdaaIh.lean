/- instr.end, and the two closures of instr.Ways. -/
import Derived.Test.YtkgednfofhlfdaaIg
import Derived.Test.YtkgednfofhlfdaaMap
import Derived.StillTailTactics
import Derived.DeepKeys4
import Derived.MapViews
import Derived.Lib.SmallJoins
namespace Go.Proofs.Ytkgednfofhlfdaa
open Go.RowKit Go.Shelf

/-- Where a run ends by an instruction. -/
def endOf (i : Ins) : Option (Int × Int) := if i.op = 13 ∨ i.op = 14 then some (i.op, i.n) else if i.op = 23 ∨ i.op = 22 then some (23, 0) else none

def wayV (op n steps : Int) : Value := .agg #[.int .u8 op, .int .i64 n, .int .i64 steps]
def wayK (p : Int × Int) : Value := .agg #[.int .u8 p.1, .int .i64 p.2, .int .i64 0]
def wayOk (p : Int × Int) : Prop := (0 ≤ p.1 ∧ p.1 ≤ 255) ∧ (-9223372036854775808 ≤ p.2 ∧ p.2 ≤ 9223372036854775807)
def i64V (n : Int) : Value := .int .i64 n

theorem laidOut : laidOutB Try.prog = true := by kernel_rfl
theorem row_way : (47 : TypeId) < Try.prog.types.size := of_decide_eq_true (by kernel_rfl)
theorem wide_way : (match Try.prog.underlying 47 with | some (.array _ _) | some (.struct _) => true | _ => false) = true := by rw [Try.underlying47]
theorem deep_way : Try.prog.keyTypeAt (Try.prog.types.size + 1) 47 = true := by kernel_rfl
theorem cells_way : Try.prog.cellsOf 47 = 3 := by kernel_rfl

set_option maxRecDepth 100000 in
theorem wayKeyed : Maps.Keyed Try.prog 47 := Maps.Keyed.of_law (deep_law_laid laidOut (m := 2) (by omega) row_way (by kernel_rfl) wide_way)

set_option maxRecDepth 100000 in
theorem wayEnc : KeyEnc Try.prog 47 wayK wayOk where
  keyed := wayKeyed
  some := by
    rintro ⟨a, b⟩ ⟨⟨h1, h2⟩, h3, h4⟩
    simp only at h1 h2 h3 h4
    have wa : (Lit.int .u8 a).wf = true := WalkArith.wf_u8 (by omega)
    have wb : (Lit.int .i64 b).wf = true := WalkArith.wf_i64 (by omega)
    have w0 : (Lit.int .i64 0).wf = true := by decide
    have hd := Joins.shut_agg3 (H := Unit) (enc := fun _ => ()) (P := Try.prog) (w := default) (base := 0) (spare := fun _ => true) (held := true) (t := 47) (v0 := .int .u8 a) (v1 := .int .i64 b) (v2 := .int .i64 0) (y0 := (.lit (.int .u8 a), [])) (y1 := (.lit (.int .i64 b), [])) (y2 := (.lit (.int .i64 0), [])) Try.underlying47 (by kernel_rfl) cells_way
      ⟨1, by simp [DataW.trod, Try.underlying5, wa]⟩ ⟨1, by simp [DataW.trod, Try.underlying3, wb]⟩ ⟨1, by simp [DataW.trod, Try.underlying3, w0]⟩
    exact ⟨_, (keyOf_asKey deep_way wide_way (by simp [Value.formed, Try.underlying47, cells_way]) hd).1⟩
  inj := by
    rintro ⟨a, b⟩ ⟨c, d⟩ _ _ h
    simpa [wayK] using h

theorem end_close (a b : Int) (bo : Bool) (tm : Array Value) (W : World) (g : Nat) (h2 : tm[2]?.getD undef = .pointer (some ⟨g, 0, none⟩)) (h3 : tm[3]?.getD undef = .bool bo) (c0 : W.cell? ⟨g, 0, none⟩ = some (.int .u8 a)) (c1 : W.cell? ⟨g, 1, none⟩ = some (.int .i64 b)) (c2 : W.cell? ⟨g, 2, none⟩ = some (.int .i64 0)) :
    (results Try.f54 tm).run Try.prog W = .ok (.tuple #[wayK (a, b), .bool bo]) W := by
  simp [results, Try.results54, go_sem, h2, h3, c0, c1, c2, wayK]

set_option maxHeartbeats 1000000 in
theorem end_any (i : Ins) (w : World) : Calls Try.prog 54 #[.agg #[.int .u8 i.op, .int .i64 i.dst, .int .u8 i.ak, .int .u64 i.an, .int .u8 i.bk, .int .u64 i.bn, .int .i64 i.n]] w fun e w' =>
    e = .returned (.tuple #[wayK ((endOf i).getD (0, 0)), .bool (endOf i).isSome]) ∧ Below w.heap.size w w' := by
  obtain ⟨op, dst, ak, an, bk, bn, n⟩ := i
  dsimp only
  by_cases h1 : op = 13
  · subst h1
    have hne : endOf ⟨13, dst, ak, an, bk, bn, n⟩ = some (13, n) := by simp [endOf]
    rw [hne]
    clear hne
    go_enter Try.func54, Try.ntmps54
    go_wp2
    refine bodyPost_ret (end_close 13 n true _ _ _ rfl rfl (by simp [World.cell?_alloc_new]) (by simp [World.cell?_alloc_new]) (by simp [World.cell?_alloc_new])) rfl ⟨rfl, (by repeat (first | exact Below.refl _ _ | refine below_al ?_ (by first | omega | (simp; omega) | simp) | refine below_then (by assumption) ?_ (by first | omega | (simp; omega) | simp)))⟩
  by_cases h2 : op = 14
  · subst h2
    have hne : endOf ⟨14, dst, ak, an, bk, bn, n⟩ = some (14, n) := by simp [endOf]
    rw [hne]
    clear hne
    go_enter Try.func54, Try.ntmps54
    go_wp2
    refine bodyPost_ret (end_close 14 n true _ _ _ rfl rfl (by simp [World.cell?_alloc_new]) (by simp [World.cell?_alloc_new]) (by simp [World.cell?_alloc_new])) rfl ⟨rfl, (by repeat (first | exact Below.refl _ _ | refine below_al ?_ (by first | omega | (simp; omega) | simp) | refine below_then (by assumption) ?_ (by first | omega | (simp; omega) | simp)))⟩
  by_cases h3 : op = 23
  · subst h3
    have hne : endOf ⟨23, dst, ak, an, bk, bn, n⟩ = some (23, 0) := by simp [endOf]
    rw [hne]
    clear hne
    go_enter Try.func54, Try.ntmps54
    go_wp2
    refine bodyPost_ret (end_close 23 0 true _ _ _ rfl rfl (by simp [World.cell?_alloc_new]) (by simp [World.cell?_alloc_new]) (by simp [World.cell?_alloc_new])) rfl ⟨rfl, (by repeat (first | exact Below.refl _ _ | refine below_al ?_ (by first | omega | (simp; omega) | simp) | refine below_then (by assumption) ?_ (by first | omega | (simp; omega) | simp)))⟩
  by_cases h4 : op = 22
  · subst h4
    have hne : endOf ⟨22, dst, ak, an, bk, bn, n⟩ = some (23, 0) := by simp [endOf]
    rw [hne]
    clear hne
    go_enter Try.func54, Try.ntmps54
    go_wp2
    refine bodyPost_ret (end_close 23 0 true _ _ _ rfl rfl (by simp [World.cell?_alloc_new]) (by simp [World.cell?_alloc_new]) (by simp [World.cell?_alloc_new])) rfl ⟨rfl, (by repeat (first | exact Below.refl _ _ | refine below_al ?_ (by first | omega | (simp; omega) | simp) | refine below_then (by assumption) ?_ (by first | omega | (simp; omega) | simp)))⟩
  have e1 : (op == 13) = false := by simpa using h1
  have e2 : (op == 14) = false := by simpa using h2
  have e3 : (op == 23) = false := by simpa using h3
  have e4 : (op == 22) = false := by simpa using h4
  have hne : endOf ⟨op, dst, ak, an, bk, bn, n⟩ = none := by simp [endOf, h1, h2, h3, h4]
  rw [hne]
  clear hne h1 h2 h3 h4
  go_enter Try.func54, Try.ntmps54
  go_wp2
  refine bodyPost_ret (end_close 0 0 false _ _ _ rfl rfl (by simp [World.cell?_alloc_new]) (by simp [World.cell?_alloc_new]) (by simp [World.cell?_alloc_new])) rfl ⟨rfl, (by repeat (first | exact Below.refl _ _ | refine below_al ?_ (by first | omega | (simp; omega) | simp) | refine below_then (by assumption) ?_ (by first | omega | (simp; omega) | simp)))⟩
end Go.Proofs.Ytkgednfofhlfdaa
