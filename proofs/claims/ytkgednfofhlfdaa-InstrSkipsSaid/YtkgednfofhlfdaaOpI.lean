/- An instruction, and a block, that came in, opened. -/
import Derived.Test.YtkgednfofhlfdaaIf
import Derived.Test.YtkgednfofhlfdaaIg
import Derived.Test.YtkgednfofhlfdaaTr
import Derived.ChangeArms
import Derived.ChangeShapes
import Derived.WideShapes
import Derived.ProofKit
namespace Go.Proofs.Ytkgednfofhlfdaa
set_option linter.unusedSimpArgs false
set_option linter.unusedVariables false
open Go.RowKit Go.WideShapes

theorem wf_u8 {n : Int} (h : (Lit.int .u8 n).wf = true) : 0 ≤ n ∧ n ≤ 255 := by
  have h : (decide ((0 : Int) ≤ n) && decide (n ≤ (255 : Int))) = true := h
  simpa using h
theorem wf_u64 {n : Int} (h : (Lit.int .u64 n).wf = true) : 0 ≤ n ∧ n ≤ 18446744073709551615 := by
  have h : (decide ((0 : Int) ≤ n) && decide (n ≤ (18446744073709551615 : Int))) = true := h
  simpa using h
theorem wf_i64 {n : Int} (h : (Lit.int .i64 n).wf = true) : -9223372036854775808 ≤ n ∧ n ≤ 9223372036854775807 := by
  have h : (decide ((-9223372036854775808 : Int) ≤ n) && decide (n ≤ (9223372036854775807 : Int))) = true := h
  simpa using h
theorem at_some {α : Type} {l : List α} {n i : Nat} (h : l.length = n) (hi : i < n) : ∃ y, l[i]? = some y := ⟨l[i]'(by omega), List.getElem?_eq_getElem _⟩

section
variable {H : Type} {enc : TypeId × Value → H} {w : World} {base : Nat} {spare : Nat → Bool} {held : Bool} {fuel : Nat} {cs : List Value} {x : DataW H × List MemPlace}
theorem list2 {α : Type} {l : List α} (h : l.length = 2) : ∃ a0 a1, l = [a0, a1] := by
  match l, h with
  | [a0, a1], _ => exact ⟨a0, a1, rfl⟩
theorem list7 {α : Type} {l : List α} (h : l.length = 7) : ∃ a0 a1 a2 a3 a4 a5 a6, l = [a0, a1, a2, a3, a4, a5, a6] := by
  match l, h with
  | [a0, a1, a2, a3, a4, a5, a6], _ => exact ⟨a0, a1, a2, a3, a4, a5, a6, rfl⟩
theorem cells_Arg : Try.prog.cellsOf 24 = 2 := by kernel_rfl
theorem trod_Arg (h : DataW.trod enc Try.prog w base spare held fuel 24 cs = some x) :
    ∃ (k : Int) (n : Int), cs = [.int .u8 k, .int .u64 n] ∧ (Lit.int .u8 k).wf = true ∧ (Lit.int .u64 n).wf = true := by
  obtain ⟨xs, n, rfl, _, hl, hx, hf⟩ := DataW.trod_struct Try.underlying24 h
  rw [cells_Arg] at hl
  obtain ⟨c0, c1, rfl⟩ := list2 hl
  have hx : xs.length = 2 := hx
  obtain ⟨y0, hy0⟩ := at_some hx (show 0 < 2 by decide)
  have f0 : DataW.trod enc Try.prog w base spare held n 5 [c0] = some y0 := by
    have h0 : DataW.trod enc Try.prog w base spare held n 5 (([_, _].drop 0).take (Try.prog.cellsOf 5)) = some y0 := (hf 0 _ rfl).trans hy0
    have hc : Try.prog.cellsOf 5 = 1 := by kernel_rfl
    rw [hc] at h0
    exact h0
  obtain ⟨k, e0, _, w0⟩ := DataW.trod_int Try.underlying5 f0
  simp only [List.cons.injEq, and_true] at e0
  subst e0
  obtain ⟨y1, hy1⟩ := at_some hx (show 1 < 2 by decide)
  have f1 : DataW.trod enc Try.prog w base spare held n 22 [c1] = some y1 := by
    have h0 : DataW.trod enc Try.prog w base spare held n 22 (([_, _].drop 1).take (Try.prog.cellsOf 22)) = some y1 := (hf 1 _ rfl).trans hy1
    have hc : Try.prog.cellsOf 22 = 1 := by kernel_rfl
    rw [hc] at h0
    exact h0
  obtain ⟨n, e1, _, w1⟩ := DataW.trod_int Try.underlying22 f1
  simp only [List.cons.injEq, and_true] at e1
  subst e1
  exact ⟨k, n, rfl, w0, w1⟩

theorem cells_Instr : Try.prog.cellsOf 26 = 7 := by kernel_rfl
theorem trod_Instr (h : DataW.trod enc Try.prog w base spare held fuel 26 cs = some x) :
    ∃ (op : Int) (dst : Int) (ak : Int) (an : Int) (bk : Int) (bn : Int) (n : Int), cs = [.int .u8 op, .int .i64 dst, .int .u8 ak, .int .u64 an, .int .u8 bk, .int .u64 bn, .int .i64 n] ∧ (Lit.int .u8 op).wf = true ∧ (Lit.int .i64 dst).wf = true ∧ (Lit.int .u8 ak).wf = true ∧ (Lit.int .u64 an).wf = true ∧ (Lit.int .u8 bk).wf = true ∧ (Lit.int .u64 bn).wf = true ∧ (Lit.int .i64 n).wf = true := by
  obtain ⟨xs, n, rfl, _, hl, hx, hf⟩ := DataW.trod_struct Try.underlying26 h
  rw [cells_Instr] at hl
  obtain ⟨c0, c1, c2, c3, c4, c5, c6, rfl⟩ := list7 hl
  have hx : xs.length = 5 := hx
  obtain ⟨y0, hy0⟩ := at_some hx (show 0 < 5 by decide)
  have f0 : DataW.trod enc Try.prog w base spare held n 5 [c0] = some y0 := by
    have h0 : DataW.trod enc Try.prog w base spare held n 5 (([_, _, _, _, _, _, _].drop 0).take (Try.prog.cellsOf 5)) = some y0 := (hf 0 _ rfl).trans hy0
    have hc : Try.prog.cellsOf 5 = 1 := by kernel_rfl
    rw [hc] at h0
    exact h0
  obtain ⟨op, e0, _, w0⟩ := DataW.trod_int Try.underlying5 f0
  simp only [List.cons.injEq, and_true] at e0
  subst e0
  obtain ⟨y1, hy1⟩ := at_some hx (show 1 < 5 by decide)
  have f1 : DataW.trod enc Try.prog w base spare held n 3 [c1] = some y1 := by
    have h0 : DataW.trod enc Try.prog w base spare held n 3 (([_, _, _, _, _, _, _].drop 1).take (Try.prog.cellsOf 3)) = some y1 := (hf 1 _ rfl).trans hy1
    have hc : Try.prog.cellsOf 3 = 1 := by kernel_rfl
    rw [hc] at h0
    exact h0
  obtain ⟨dst, e1, _, w1⟩ := DataW.trod_int Try.underlying3 f1
  simp only [List.cons.injEq, and_true] at e1
  subst e1
  obtain ⟨y2, hy2⟩ := at_some hx (show 2 < 5 by decide)
  have f2 : DataW.trod enc Try.prog w base spare held n 24 [c2, c3] = some y2 := by
    have h0 : DataW.trod enc Try.prog w base spare held n 24 (([_, _, _, _, _, _, _].drop 2).take (Try.prog.cellsOf 24)) = some y2 := (hf 2 _ rfl).trans hy2
    have hc : Try.prog.cellsOf 24 = 2 := cells_Arg
    rw [hc] at h0
    exact h0
  obtain ⟨ak, an, e2, w2_0, w2_1⟩ := trod_Arg f2
  simp only [List.cons.injEq, and_true] at e2
  obtain ⟨rfl, rfl⟩ := e2
  obtain ⟨y3, hy3⟩ := at_some hx (show 3 < 5 by decide)
  have f3 : DataW.trod enc Try.prog w base spare held n 24 [c4, c5] = some y3 := by
    have h0 : DataW.trod enc Try.prog w base spare held n 24 (([_, _, _, _, _, _, _].drop 4).take (Try.prog.cellsOf 24)) = some y3 := (hf 3 _ rfl).trans hy3
    have hc : Try.prog.cellsOf 24 = 2 := cells_Arg
    rw [hc] at h0
    exact h0
  obtain ⟨bk, bn, e3, w3_0, w3_1⟩ := trod_Arg f3
  simp only [List.cons.injEq, and_true] at e3
  obtain ⟨rfl, rfl⟩ := e3
  obtain ⟨y4, hy4⟩ := at_some hx (show 4 < 5 by decide)
  have f4 : DataW.trod enc Try.prog w base spare held n 3 [c6] = some y4 := by
    have h0 : DataW.trod enc Try.prog w base spare held n 3 (([_, _, _, _, _, _, _].drop 6).take (Try.prog.cellsOf 3)) = some y4 := (hf 4 _ rfl).trans hy4
    have hc : Try.prog.cellsOf 3 = 1 := by kernel_rfl
    rw [hc] at h0
    exact h0
  obtain ⟨n, e4, _, w4⟩ := DataW.trod_int Try.underlying3 f4
  simp only [List.cons.injEq, and_true] at e4
  subst e4
  exact ⟨op, dst, ak, an, bk, bn, n, rfl, w0, w1, w2_0, w2_1, w3_0, w3_1, w4⟩

theorem cells_Block : Try.prog.cellsOf 36 = 2 := by kernel_rfl
theorem trod_Block (h : DataW.trod enc Try.prog w base spare held fuel 36 cs = some x) :
    ∃ (id : Int) (code : Value), cs = [.int .i64 id, code] ∧ (Lit.int .i64 id).wf = true ∧ (∃ n y, DataW.trod enc Try.prog w base spare held n 34 [code] = some y) := by
  obtain ⟨xs, n, rfl, _, hl, hx, hf⟩ := DataW.trod_struct Try.underlying36 h
  rw [cells_Block] at hl
  obtain ⟨c0, c1, rfl⟩ := list2 hl
  have hx : xs.length = 2 := hx
  obtain ⟨y0, hy0⟩ := at_some hx (show 0 < 2 by decide)
  have f0 : DataW.trod enc Try.prog w base spare held n 3 [c0] = some y0 := by
    have h0 : DataW.trod enc Try.prog w base spare held n 3 (([_, _].drop 0).take (Try.prog.cellsOf 3)) = some y0 := (hf 0 _ rfl).trans hy0
    have hc : Try.prog.cellsOf 3 = 1 := by kernel_rfl
    rw [hc] at h0
    exact h0
  obtain ⟨id, e0, _, w0⟩ := DataW.trod_int Try.underlying3 f0
  simp only [List.cons.injEq, and_true] at e0
  subst e0
  obtain ⟨y1, hy1⟩ := at_some hx (show 1 < 2 by decide)
  have f1 : DataW.trod enc Try.prog w base spare held n 34 [c1] = some y1 := by
    have h0 : DataW.trod enc Try.prog w base spare held n 34 (([_, _].drop 1).take (Try.prog.cellsOf 34)) = some y1 := (hf 1 _ rfl).trans hy1
    have hc : Try.prog.cellsOf 34 = 1 := by kernel_rfl
    rw [hc] at h0
    exact h0
  exact ⟨id, c1, rfl, w0, ⟨n, y1, f1⟩⟩


theorem open_ins (h : DataW.trod enc Try.prog w base spare held fuel 26 cs = some x) : ∃ i : Ins, i.Fit ∧ cs = i.cells := by
  obtain ⟨op, dst, ak, an, bk, bn, n, rfl, w0, w1, w2, w3, w4, w5, w6⟩ := trod_Instr h
  exact ⟨⟨op, dst, ak, an, bk, bn, n⟩, ⟨wf_u8 w0, wf_i64 w1, wf_u8 w2, (wf_u64 w3).1, wf_u8 w4, (wf_u64 w5).1, wf_i64 w6⟩, rfl⟩

set_option maxRecDepth 100000 in
/-- An instruction that came in. -/
theorem ins_arg {r : Reach} {b0 : Nat} {v : Value} {d : DataW H} {ps : List MemPlace} (hv : Value.okWide Try.prog w r b0 26 v) (h : DataW.Trod enc Try.prog w base spare held 26 v d ps) : ∃ i : Ins, i.Fit ∧ v = i.v := by
  obtain ⟨cs, rfl, _⟩ := okWide_struct Try.underlying26 hv
  obtain ⟨f, h⟩ := h
  obtain ⟨i, hi, e⟩ := open_ins h
  refine ⟨i, hi, ?_⟩
  have e : cs.toList = i.cells := e
  unfold Ins.v
  rw [← e]

/-- Code that came in. -/
theorem code_arg {v : Value} (h : ∃ n y, DataW.trod enc Try.prog w base spare held n 34 [v] = some y) :
    ∃ (ca : Option Addr) (cap : Nat) (l : List Ins), v = .slice ca l.length cap ∧ l.length ≤ cap ∧ cap ≤ maxLen ∧ CodeV w (.slice ca l.length cap) l ∧ ∀ k (h : k < l.length), l[k].Fit := by
  obtain ⟨n, y, h⟩ := h
  rcases open_slice Try.underlying34 cells_Instr (by decide) h with rfl | ⟨a, len, cap, rfl, h1, h2, h3⟩
  · exact ⟨none, 0, [], rfl, Nat.le_refl _, by decide, ⟨none, 0, rfl, Or.inl rfl⟩, fun k hk => absurd hk (by simp)⟩
  · rcases h3 with rfl | ⟨blk, off, rfl, hlt, hel⟩
    · exact ⟨some a, cap, [], rfl, Nat.zero_le _, h2, ⟨some a, cap, rfl, Or.inl rfl⟩, fun k hk => absurd hk (by simp)⟩
    · have hi : ∀ k, k < len → ∃ i : Ins, i.Fit ∧ ∀ j, j < 7 → w.cell? ⟨blk, off + k * 7 + j, none⟩ = i.cells[j]? := fun k hk => by
        obtain ⟨cs, ⟨n, y, hr⟩, _, hat⟩ := hel k hk
        obtain ⟨i, hf, rfl⟩ := open_ins hr
        exact ⟨i, hf, hat⟩
      have hch := Classical.axiomOfChoice (r := fun (k : Fin len) (i : Ins) => i.Fit ∧ ∀ j, j < 7 → w.cell? ⟨blk, off + k.1 * 7 + j, none⟩ = i.cells[j]?) (fun k => hi k.1 k.2)
      obtain ⟨f, hf⟩ := hch
      have hlen : (List.ofFn f).length = len := by simp
      refine ⟨some ⟨blk, off, none⟩, cap, List.ofFn f, by rw [hlen], by rw [hlen]; exact h1, h2, ⟨_, cap, rfl, Or.inr ⟨blk, off, rfl, ?_⟩⟩, fun k hk => ?_⟩
      · have g : ∀ k (hk : k < (List.ofFn f).length) j, j < 7 → w.cell? ⟨blk, off + k * 7 + j, none⟩ = ((List.ofFn f)[k]).cells[j]? := fun k hk j hj => by
          rw [List.getElem_ofFn]
          exact (hf ⟨k, by simpa using hk⟩).2 j hj
        exact ⟨hlt, fun k hk => g k hk 0 (by decide), fun k hk => g k hk 1 (by decide), fun k hk => g k hk 2 (by decide), fun k hk => g k hk 3 (by decide), fun k hk => g k hk 4 (by decide), fun k hk => g k hk 5 (by decide), fun k hk => g k hk 6 (by decide)⟩
      · rw [List.getElem_ofFn]
        exact (hf ⟨k, by simpa using hk⟩).1

set_option maxRecDepth 100000 in
/-- A block that came in. -/
theorem block_arg {r : Reach} {b0 : Nat} {v : Value} {d : DataW H} {ps : List MemPlace} (hv : Value.okWide Try.prog w r b0 36 v) (h : DataW.Trod enc Try.prog w base spare held 36 v d ps) :
    ∃ (id : Int) (ca : Option Addr) (cap : Nat) (l : List Ins), v = .agg #[.int .i64 id, .slice ca l.length cap] ∧ l.length ≤ cap ∧ cap ≤ maxLen ∧ CodeV w (.slice ca l.length cap) l ∧ ∀ k (h : k < l.length), l[k].Fit := by
  obtain ⟨cs, rfl, _⟩ := okWide_struct Try.underlying36 hv
  obtain ⟨f, h⟩ := h
  obtain ⟨id, code, e, _, hc⟩ := trod_Block h
  obtain ⟨ca, cap, l, rfl, h1, h2, h3, h4⟩ := code_arg hc
  refine ⟨id, ca, cap, l, ?_, h1, h2, h3, h4⟩
  have e : cs.toList = [.int .i64 id, .slice ca l.length cap] := e
  rw [show cs = cs.toList.toArray from rfl, e]
end
end Go.Proofs.Ytkgednfofhlfdaa
