/- A slice of structs that came in, opened, over any program. -/
import Derived.ChangeArms
import Derived.ChangeShapes
import Derived.ChangeOld
import Derived.WideShapes
import Derived.DataReads
import Derived.ProofKit
import Derived.RowKit
namespace Go.Proofs.Ytkgednfofhlfdaa
set_option linter.unusedSimpArgs false
set_option linter.unusedVariables false
open Go.RowKit Go.WideShapes

section
variable {P : Program} {H : Type} {enc : TypeId × Value → H} {w : World} {base : Nat} {spare : Nat → Bool} {held : Bool} {fuel : Nat} {x : DataW H × List MemPlace}

theorem cell_none {w : World} {a : Addr} {u : Value} (h : w.cell? a = some u) : a.spot = none ∧ a.block < w.heap.size := by
  unfold World.cell? at h
  split at h
  · rename_i hb
    refine ⟨?_, (Array.getElem?_eq_some_iff.1 hb).1⟩
    split at h
    · cases h
    · rename_i hs
      simpa using hs
  · cases h

/-- Element i of a slice that came in: its cells, each read. -/
structure Elem (P : Program) (enc : TypeId × Value → H) (w : World) (base : Nat) (spare : Nat → Bool) (held : Bool) (e c blk off : Nat) (i : Nat) (cs : List Value) : Prop where
  read : ∃ n y, DataW.trod enc P w base spare held n e cs = some y
  len : cs.length = c
  at_ : ∀ j, j < c → w.cell? ⟨blk, off + i * c + j, none⟩ = cs[j]?

theorem open_slice {t e c : Nat} {v : Value} (ht : P.underlying t = some (.slice e)) (hc : P.cellsOf e = c) (h0 : 0 < c) (h : DataW.trod enc P w base spare held fuel t [v] = some x) :
    v = .slice none 0 0 ∨ ∃ a len cap, v = .slice (some a) len cap ∧ len ≤ cap ∧ cap ≤ maxLen ∧ (len = 0 ∨ ∃ blk off, a = ⟨blk, off, none⟩ ∧ blk < w.heap.size ∧ ∀ i, i < len → ∃ cs, Elem P enc w base spare held e c blk off i cs) := by
  rcases DataW.trod_slice ht h with ⟨h1, _⟩ | ⟨a, len, cap, elems, rest, n, rfl, h1, _, hb, hl, hm, hel, helt, _⟩
  · left
    simpa using h1
  · right
    simp only [List.cons.injEq, and_true] at h1
    refine ⟨a, len, cap, h1, hl, hm, ?_⟩
    rcases Nat.eq_zero_or_pos len with h2 | h2
    · exact Or.inl h2
    · right
      have key : ∀ i, i < len → ∃ cs y, w.cells? base (a.add (i * c)) c = some cs ∧ DataW.trod enc P w base spare held n e cs = some y := fun i hi => by
        have := helt i hi
        rw [hc, List.getElem?_eq_getElem (by omega)] at this
        obtain ⟨cs, h3, h4⟩ := Option.bind_eq_some_iff.1 this
        exact ⟨cs, _, h3, h4⟩
      obtain ⟨cs0, y0, g0, _⟩ := key 0 h2
      obtain ⟨_, l0, c0⟩ := World.cells?_some g0
      have c00 := c0 0 h0
      rw [List.getElem?_eq_getElem (by omega)] at c00
      have ha : ((a.add (0 * c)).add 0) = a := by simp [Addr.add]
      rw [ha] at c00
      obtain ⟨hs, hlt⟩ := cell_none c00
      obtain ⟨blk, off, sp⟩ := a
      simp only at hs hlt
      subst hs
      refine ⟨blk, off, rfl, hlt, fun i hi => ?_⟩
      obtain ⟨cs, y, g, hr⟩ := key i hi
      obtain ⟨_, l1, c1⟩ := World.cells?_some g
      refine ⟨cs, ⟨n, y, hr⟩, l1, fun j hj => ?_⟩
      have := c1 j hj
      have e : ((⟨blk, off, none⟩ : Addr).add (i * c)).add j = ⟨blk, off + i * c + j, none⟩ := by
        unfold Addr.add
        by_cases h1 : i * c = 0 <;> by_cases h2 : j = 0 <;> simp_all <;> omega
      rw [e] at this
      exact this
end
end Go.Proofs.Ytkgednfofhlfdaa
