/- Small laws on worlds, frames and appends that all texts of this seat use. No program stands in them. -/
import Derived.WalkKit
import Derived.KernelRfl
import Derived.Lib.Hide
import Derived.Maps.AppendAt
import Derived.Deep.Draws
import Derived.Laws.MakeOwn
namespace Go.Proofs.Ytkgednfofhlfdaa
open Go.RowKit

/-- Where the walk is to stand still: the law behind it is then applied in the open. -/
theorem stopAt {p : Prop} (h : Hid p) : p := h
theorem hidIn {p : Prop} (h : p) : Hid p := h

/-- After a call that only makes memory: each old cell reads as it did. -/
theorem bcell {W w1 : World} (hb : Below W.heap.size W w1) : (∀ b o, b < W.heap.size → w1.cell? ⟨b, o, none⟩ = W.cell? ⟨b, o, none⟩) ∧ (∀ b o, b < W.heap.size → w1.frozen? ⟨b, o, none⟩ = W.frozen? ⟨b, o, none⟩) :=
  ⟨fun b o h => hb.cell (p := ⟨b, o, none⟩) h, fun b o h => hb.frozen (p := ⟨b, o, none⟩) h⟩
/-- A callee that only makes memory, behind what was done before. -/
theorem below_then {B : Nat} {a w w' : World} (k : Below w.heap.size w w') (h : Below B a w) (hB : B ≤ w.heap.size) : Below B a w' := h.trans (k.mono hB)
theorem below_al {B : Nat} {a w : World} {o : Obj} (h : Below B a w) (hB : B ≤ w.heap.size) : Below B a (w.alloc o) := h.alloc hB o
theorem _root_.Go.RowKit.Below.setRowB {B : Nat} {a w : World} (h : Below B a w) {g : Nat} (hg : B ≤ g) (cs : Array Value) : Below B a (w.setRow g cs) :=
  h.trans ⟨rfl, rfl, rfl, by simp [World.setRow], fun k hk => by
    simp only [World.setRow, Array.getElem?_modify]
    rw [if_neg (by omega)]⟩
theorem below_dr {B : Nat} {a w : World} (h : Below B a w) : Below B a w.drew := h.drew
theorem below_drN {B : Nat} {a w : World} {n : Nat} (h : Below B a w) : Below B a (w.drewN n) := ⟨h.os, h.tape, h.output, h.size, h.block⟩

/-- w' is w but for new blocks and the blocks of S. -/
structure Fr (S : Nat → Prop) (w w' : World) : Prop where
  os : w'.os = w.os
  tape : w'.tape = w.tape
  output : w'.output = w.output
  size : w.heap.size ≤ w'.heap.size
  block : ∀ k, k < w.heap.size → ¬ S k → w'.heap[k]? = w.heap[k]?

namespace Fr
variable {S S' : Nat → Prop} {a w w' : World}
theorem refl (S : Nat → Prop) (w : World) : Fr S w w := ⟨rfl, rfl, rfl, Nat.le_refl _, fun _ _ _ => rfl⟩
theorem of_below (h : Below w.heap.size w w') : Fr S w w' := ⟨h.os, h.tape, h.output, h.size, fun k hk _ => h.block k hk⟩
theorem below (h : Fr S w w') (hS : ∀ k, k < w.heap.size → ¬ S k) : Below w.heap.size w w' := ⟨h.os, h.tape, h.output, h.size, fun k hk => h.block k hk (hS k hk)⟩
theorem trans (h : Fr S a w) (k : Fr S' w w') (hs : ∀ j, j < a.heap.size → S' j → S j) : Fr S a w' :=
  ⟨k.os.trans h.os, k.tape.trans h.tape, k.output.trans h.output, Nat.le_trans h.size k.size, fun i hi hn => (k.block i (Nat.lt_of_lt_of_le hi h.size) (fun hk => hn (hs i hi hk))).trans (h.block i hi hn)⟩
theorem mono (h : Fr S w w') (hs : ∀ j, j < w.heap.size → S j → S' j) : Fr S' w w' := ⟨h.os, h.tape, h.output, h.size, fun k hk hn => h.block k hk (fun hs' => hn (hs k hk hs'))⟩
theorem then_below (h : Fr S a w) (k : Below w.heap.size w w') : Fr S a w' := h.trans (of_below (S := fun _ => False) k) (fun _ _ h => h.elim)
theorem alloc (h : Fr S a w) (o : Obj) : Fr S a (w.alloc o) := h.then_below ((Below.refl _ _).alloc (Nat.le_refl _) o)
theorem drew (h : Fr S a w) : Fr S a w.drew := ⟨h.os, h.tape, h.output, h.size, h.block⟩
theorem drewN (h : Fr S a w) (n : Nat) : Fr S a (w.drewN n) := ⟨h.os, h.tape, h.output, h.size, h.block⟩
theorem setCell (h : Fr S a w) {p : Addr} (hp : p.block < a.heap.size → S p.block) (u : Value) : Fr S a (w.setCell p u) :=
  ⟨h.os, h.tape, h.output, by simp [World.setCell]; exact h.size, fun k hk hn => by
    by_cases e : k = p.block
    · subst e; exact absurd (hp hk) hn
    · exact (Below.heap_setCell w p u k e).trans (h.block k hk hn)⟩
theorem setRow (h : Fr S a w) {g : Nat} (hp : g < a.heap.size → S g) (cs : Array Value) : Fr S a (w.setRow g cs) :=
  ⟨h.os, h.tape, h.output, by simp [World.setRow]; exact h.size, fun k hk hn => by
    by_cases e : k = g
    · subst e; exact absurd (hp hk) hn
    · exact (setRow_other w g k cs e).trans (h.block k hk hn)⟩
theorem grown {row : Option Nat} (h : Fr S a w) (k : w.grownBy w' row) (hr : ∀ j, j < a.heap.size → some j = row → S j) : Fr S a w' :=
  ⟨k.os.trans h.os, k.tape.trans h.tape, k.output.trans h.output, Nat.le_trans h.size k.size, fun i hi hn => (k.block i (Nat.lt_of_lt_of_le hi h.size) (fun hk => hn (hr i hi hk))).trans (h.block i hi hn)⟩
theorem cell (h : Fr S w w') {p : Addr} (hp : p.block < w.heap.size) (hn : ¬ S p.block) : w'.cell? p = w.cell? p := World.cell?_of_block (h.block p.block hp hn)
theorem frozen (h : Fr S w w') {p : Addr} (hp : p.block < w.heap.size) (hn : ¬ S p.block) : w'.frozen? p = w.frozen? p := World.frozen?_of_block (h.block p.block hp hn)
end Fr

/-- A block's cells, one by one: for the walk. -/
theorem cells_at {w : World} {g : Nat} {cs : Array Value} {t : TypeId} (h : w.heap[g]? = some (.cells cs t (0, 0))) : ∀ j, w.cell? ⟨g, j, none⟩ = cs[j]? := fun j => cell_of_row w g j cs t (0, 0) h
theorem free_at {w : World} {g : Nat} {cs : Array Value} {t : TypeId} (h : w.heap[g]? = some (.cells cs t (0, 0))) : ∀ j, w.frozen? ⟨g, j, none⟩ = false := fun j => frozen_of_row w g j cs t h

theorem lt_of_heap {w : World} {g : Nat} {o : Obj} (h : w.heap[g]? = some o) : g < w.heap.size := (Array.getElem?_eq_some_iff.1 h).1

/-- A block that was just made holds what was put in. -/
theorem cells_new (w : World) (news : List Value) (t : TypeId) : ∀ j u, news[j]? = some u → (w.alloc (.cells news.toArray t)).cell? ((⟨w.heap.size, 0, none⟩ : Addr).add j) = some u := by
  intro j u hj
  have hadd : (⟨w.heap.size, 0, none⟩ : Addr).add j = ⟨w.heap.size, j, none⟩ := by unfold Addr.add; split <;> simp_all
  rw [hadd]
  unfold World.cell?
  rw [heap_alloc_new]
  simpa using hj

/-- 'append(s, x)' of one element that was just laid in a block of its own. -/
theorem wpList_append_fresh {P : Program} {ops : Array Oper} {rest : List Oper} {o : Oper} {a : Act} {Q : Exit → Act → World → Prop} (w : World) (hgd : o.guard = none) (s x : Operand) (t : TypeId)
    (ho : o.op = .call { callee := .builtin .append, args := #[s, x], argTypes := #[t, t] })
    (base : Nat) (e : TypeId) (i : TypeInfo) (z : Value) (size bytes : Nat) (ht : P.underlying t = some (.slice e)) (hi : P.info? e = some i) (hz : i.zero = some z)
    (hsize : i.size = size) (hby : i.bytes = bytes) (hzs : z.cells.size = size) (hsz : 0 < size)
    (v : Value) (n : Nat) (xs : List Value) (hs : a.eval s = v) (hown : w.ownsRow base e size v n xs)
    (g : Nat) (news : List Value) (hx : a.eval x = .slice (some ⟨g, 0, none⟩) 1 1) (hg : w.heap.size = g) (hl : news.length = size) (h1 : ∀ u ∈ news, u.oneCell' = true)
    (h31 : n < 4294967296) (hb16 : bytes ≤ 16384) (hbase : base ≤ w.heap.size)
    (h : ∀ v' w', w'.ownsRow base e size v' (n + 1) (xs ++ news) → w.grownBy w' v.ownBlock → (v'.ownBlock = v.ownBlock ∨ ∃ k, v'.ownBlock = some k ∧ w.heap.size ≤ k) → v' ≠ .slice none 0 0 → wpList P ops Q rest (a.put o.dst v') w') :
    wpList P ops Q (o :: rest) a (w.alloc (.cells news.toArray e)) := by
  subst hg
  have hbyt : (n + 1) * bytes ≤ 140737488355328 := Nat.le_trans (Nat.mul_le_mul (show n + 1 ≤ 4294967296 by omega) hb16) (by decide)
  refine wpList_append_own_at _ hgd s x t ho base e i z size bytes ht hi hz hsize hby hzs hsz v n xs hs (hown.alloc _) ⟨w.heap.size, 0, none⟩ 1 1 news hx (by rw [hl]; omega) (cells_new w news e) h1 (by unfold maxLen; omega) hbyt (by simp; omega) ?_
  intro v' w' ho' hg' hn' hl'
  refine h v' w' ho' ((World.grownBy_alloc _ _ _).trans hg') ?_ ?_
  · rcases hl' with h | h
    · exact .inl h
    · exact .inr ⟨_, h, by simp⟩
  · intro hv
    have := (hn'.1 hv).2
    omega

/-- A row of n cells, told by a function. -/
def rowA (f : Nat → Value) (n : Nat) : Array Value := ((List.range n).map f).toArray
theorem rowA_size (f : Nat → Value) (n : Nat) : (rowA f n).size = n := by simp [rowA]
theorem rowA_get (f : Nat → Value) (n j : Nat) (h : j < n) : (rowA f n)[j]? = some (f j) := by simp [rowA, h]
theorem rowA_congr {f g : Nat → Value} {n : Nat} (h : ∀ j, j < n → f j = g j) : rowA f n = rowA g n := by
  unfold rowA
  congr 1
  exact List.map_congr_left fun j hj => h j (List.mem_range.1 hj)
theorem rowA_set (f : Nat → Value) (n j : Nat) (v : Value) (h : j < n) : (rowA f n).setIfInBounds j v = rowA (fun i => if i = j then v else f i) n := by
  apply Array.ext_getElem?
  intro i
  rw [Array.getElem?_setIfInBounds, rowA_size]
  by_cases e : j = i
  · subst e
    rw [if_pos rfl, if_pos h, rowA_get _ _ _ h]
    simp
  · rw [if_neg e]
    by_cases hi : i < n
    · rw [rowA_get _ _ _ hi, rowA_get _ _ _ hi, if_neg (Ne.symm e)]
    · rw [Array.getElem?_eq_none (by rw [rowA_size]; omega), Array.getElem?_eq_none (by rw [rowA_size]; omega)]
theorem row_setCell {w : World} {g n t j : Nat} {f : Nat → Value} {v : Value} (h : w.heap[g]? = some (.cells (rowA f n) t (0, 0))) (hj : j < n) :
    (w.setCell ⟨g, j, none⟩ v).heap[g]? = some (.cells (rowA (fun i => if i = j then v else f i) n) t (0, 0)) := by
  rw [heap_setCell_same w g j _ t v h, rowA_set f n j v hj]
theorem row_cell {w : World} {g n t : Nat} {f : Nat → Value} (h : w.heap[g]? = some (.cells (rowA f n) t (0, 0))) {j : Nat} (hj : j < n) : w.cell? ⟨g, j, none⟩ = some (f j) := (cells_at h j).trans (rowA_get f n j hj)
theorem madeCells_row (z : Value) (n : Nat) : madeCells #[z] n = rowA (fun _ => z) n := by
  apply Array.ext_getElem?
  intro i
  by_cases hi : i < n
  · rw [rowA_get _ _ _ hi]; simp [madeCells, hi, Nat.mod_one]
  · rw [Array.getElem?_eq_none (by rw [size_madeCells]; omega), Array.getElem?_eq_none (by rw [rowA_size]; omega)]
end Go.Proofs.Ytkgednfofhlfdaa
