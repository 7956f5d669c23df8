/- instr.Ways: what its loops compute, in plain Lean. -/
import Derived.Test.YtkgednfofhlfdaaIi
namespace Go.Proofs.Ytkgednfofhlfdaa
open Go.RowKit Go.Shelf

def mxI (a b : Int) : Int := if a < b then b else a
def updF (f : Nat → Int) (j : Nat) (v : Int) : Nat → Int := fun i => if i = j then v else f i

/-- One round of Ways' second loop, at instruction x in place k. -/
def wstep (x : Ins) (k : Nat) (c : Nat → Int) (m : Int × Int → Option Int) : (Nat → Int) × (Int × Int → Option Int) :=
  if c k + 1 < 1 then (c, m) else
  match endOf x with
  | some p => (c, updM m p (bestOf (m p) (c k + 1)))
  | none => if x.op = 12 then (updF (updF c (k + 1) (mxI (c (k + 1)) (c k + 1))) (k + 1 + x.n.toNat) (mxI (updF c (k + 1) (mxI (c (k + 1)) (c k + 1)) (k + 1 + x.n.toNat)) (c k + 1)), m)
    else (updF c (k + 1) (mxI (c (k + 1)) (c k + 1)), m)

def waysAt (l : List Ins) : Nat → (Nat → Int) × (Int × Int → Option Int)
  | 0 => (fun i => if i = 0 then 0 else -1, fun _ => none)
  | k + 1 => match l[k]? with
    | some x => wstep x k (waysAt l k).1 (waysAt l k).2
    | none => waysAt l k

/-- All ends, with the most steps of each. -/
def waysMap (l : List Ins) : Int × Int → Option Int :=
  if 0 ≤ (waysAt l l.length).1 l.length then updM (waysAt l l.length).2 (23, 0) (bestOf ((waysAt l l.length).2 (23, 0)) ((waysAt l l.length).1 l.length)) else (waysAt l l.length).2

structure WInv (k : Nat) (c : Nat → Int) (m : Int × Int → Option Int) : Prop where
  lo : ∀ i, -1 ≤ c i
  hi : ∀ i, c i ≤ k
  m : ∀ p v, m p = some v → 0 ≤ v ∧ v ≤ k

theorem wstep_inv {x : Ins} {k : Nat} {c : Nat → Int} {m : Int × Int → Option Int} (h : WInv k c m) : WInv (k + 1) (wstep x k c m).1 (wstep x k c m).2 := by
  have h1 := h.lo
  have h2 := h.hi
  have h3 := h.m
  have hk := h1 k
  have hk2 := h2 k
  have up : WInv (k + 1) c m := ⟨h1, fun i => by have := h2 i; omega, fun p v hp => by have := h3 p v hp; omega⟩
  have hmx : ∀ i, -1 ≤ mxI (c i) (c k + 1) ∧ mxI (c i) (c k + 1) ≤ (k + 1 : Nat) := fun i => by
    have := h1 i; have := h2 i
    unfold mxI
    split <;> omega
  have hu : ∀ (d : Nat → Int) (j : Nat), (∀ i, -1 ≤ d i ∧ d i ≤ (k + 1 : Nat)) → ∀ v : Int, (-1 ≤ v ∧ v ≤ ((k + 1 : Nat) : Int)) → ∀ i, -1 ≤ updF d j v i ∧ updF d j v i ≤ (k + 1 : Nat) := fun d j hd v hv i => by
    unfold updF
    split
    · exact hv
    · exact hd i
  have hc : ∀ i, -1 ≤ c i ∧ c i ≤ (k + 1 : Nat) := fun i => ⟨up.lo i, up.hi i⟩
  unfold wstep
  split
  · exact up
  · split
    · rename_i p _
      refine ⟨up.lo, up.hi, fun q v hq => ?_⟩
      unfold updM at hq
      dsimp only at hq
      split at hq
      · cases hq
        unfold bestOf
        cases hm : m p with
        | none => simp; omega
        | some u =>
          have := h3 p u hm
          simp
          split <;> omega
      · exact up.m q v hq
    · have d1 := hu c (k + 1) hc _ (hmx (k + 1))
      split
      · have d2 : ∀ j, -1 ≤ mxI (updF c (k + 1) (mxI (c (k + 1)) (c k + 1)) j) (c k + 1) ∧ mxI (updF c (k + 1) (mxI (c (k + 1)) (c k + 1)) j) (c k + 1) ≤ (k + 1 : Nat) := fun j => by
          have h4 := d1 j
          generalize updF c (k + 1) (mxI (c (k + 1)) (c k + 1)) j = u at *
          unfold mxI
          split <;> omega
        have d3 := hu _ (k + 1 + x.n.toNat) d1 _ (d2 (k + 1 + x.n.toNat))
        exact ⟨fun i => (d3 i).1, fun i => (d3 i).2, up.m⟩
      · exact ⟨fun i => (d1 i).1, fun i => (d1 i).2, up.m⟩

theorem waysAt_inv (l : List Ins) : ∀ k, WInv k (waysAt l k).1 (waysAt l k).2
  | 0 => ⟨fun i => by simp only [waysAt]; split <;> omega, fun i => by simp only [waysAt]; split <;> omega, fun p v h => by simp [waysAt] at h⟩
  | k + 1 => by
    have h := waysAt_inv l k
    unfold waysAt
    split
    · exact wstep_inv h
    · exact ⟨h.lo, fun i => by have := h.hi i; omega, fun p v hp => by have := h.m p v hp; omega⟩

theorem waysAt_succ {l : List Ins} {k : Nat} (h : k < l.length) : waysAt l (k + 1) = wstep l[k] k (waysAt l k).1 (waysAt l k).2 := by
  rw [waysAt]
  simp [List.getElem?_eq_getElem h]

/-- Some end is there, or a run goes on. -/
theorem waysAt_some (l : List Ins) : ∀ k, k ≤ l.length → (∃ p v, (waysAt l k).2 p = some v) ∨ 0 ≤ (waysAt l k).1 k
  | 0, _ => Or.inr (by simp [waysAt])
  | k + 1, h => by
    have ih := waysAt_some l k (by omega)
    rw [waysAt_succ (by omega)]
    generalize (waysAt l k).1 = c at *
    generalize (waysAt l k).2 = m at *
    generalize hx : l[k] = x
    clear hx
    unfold wstep
    split
    · rcases ih with ⟨p, v, h⟩ | h
      · exact Or.inl ⟨p, v, h⟩
      · omega
    · rename_i hn
      split
      · rename_i p _
        exact Or.inl ⟨p, bestOf (m p) (c k + 1), by simp [updM]⟩
      · have hm : 0 ≤ mxI (c (k + 1)) (c k + 1) := by unfold mxI; split <;> omega
        refine Or.inr ?_
        split
        · dsimp only
          unfold updF
          (try dsimp only)
          split
          · unfold mxI at *; split <;> omega
          · rw [if_pos rfl]; exact hm
        · dsimp only
          unfold updF
          (try dsimp only)
          rw [if_pos rfl]; exact hm

theorem waysMap_some (l : List Ins) : ∃ p v, waysMap l p = some v := by
  unfold waysMap
  split
  · exact ⟨(23, 0), _, by unfold updM; rw [if_pos rfl]⟩
  · rcases waysAt_some l l.length (Nat.le_refl _) with h | h
    · exact h
    · omega
end Go.Proofs.Ytkgednfofhlfdaa
