/- Owned rows as the sort's rows; what a sort leaves. -/
import Derived.Test.YtkgednfofhlfdaaIj
import Derived.Laws.AppendOwn
namespace Go.Proofs.Ytkgednfofhlfdaa
open Go.RowKit Go.Shelf Go.Sort
variable {α : Type} [Inhabited α]

theorem flat_get (enc : α → List Value) (k : Nat) (hk : 0 < k) (hl : ∀ x, (enc x).length = k) : ∀ (l : List α) (t : Nat), t < l.length * k → (l.flatMap enc)[t]? = some ((enc l.toArray[t / k]!)[t % k]!)
  | [], t, h => by simp at h
  | x :: r, t, h => by
    rw [List.flatMap_cons]
    by_cases ht : t < k
    · rw [List.getElem?_append_left (by rw [hl]; exact ht), Nat.div_eq_of_lt ht, Nat.mod_eq_of_lt ht]
      have : t < (enc x).length := by rw [hl]; exact ht
      simp [this]
    · have ht : k ≤ t := by omega
      rw [List.getElem?_append_right (by rw [hl]; exact ht), hl]
      have h2 : t - k < r.length * k := by
        rw [List.length_cons, Nat.succ_mul] at h
        omega
      rw [flat_get enc k hk hl r (t - k) h2]
      have e1 : t / k = (t - k) / k + 1 := by
        rw [show t = (t - k) + k by omega, Nat.add_div_right _ hk]
        simp
      have e2 : t % k = (t - k) % k := by
        conv => lhs; rw [show t = (t - k) + k by omega, Nat.add_mod_right]
      rw [e1, e2]
      simp

theorem holdsK_own {enc : α → List Value} {k : Nat} {w : World} {base : Nat} {e : TypeId} {g cap : Nat} {l : List α} (hk : 0 < k) (hl : ∀ x, (enc x).length = k) (h : w.ownsRow base e k (.slice (some ⟨g, 0, none⟩) l.length cap) l.length (l.flatMap enc)) :
    HoldsK enc k w g 0 l.toArray := by
  intro j hj
  rw [size_flatK] at hj
  have hj : j < l.length * k := by simpa using hj
  rw [Nat.zero_add]
  refine ⟨?_, h.frozenAt j⟩
  rw [h.cellAt j hj, flat_get enc k hk hl l j hj, get_flatK _ _ _ _ (by simpa using hj)]
  rfl

theorem below_sort {enc : α → List Value} {k : Nat} {a w : World} {B blk off m : Nat} {d : Array α} {os : Array Obj} (h : Below B a w) (hb : B ≤ blk) (hlt : blk < w.heap.size) : Below B a (sortWorldK enc k w blk off m d os) := by
  refine h.trans ⟨rfl, rfl, rfl, by unfold sortWorldK; rw [size_grow]; unfold putRowK putRow mapBlock; simp [Sort.ahead], fun j hj => ?_⟩
  have hjw : j < w.heap.size := by omega
  unfold sortWorldK
  rw [heap_grow_old _ _ (by unfold putRowK putRow mapBlock; simpa [Sort.ahead] using hjw)]
  unfold putRowK putRow mapBlock
  simp only [Sort.ahead]
  rw [Array.getElem?_modify, if_neg (by omega)]
end Go.Proofs.Ytkgednfofhlfdaa
