/- InstrSkips: what its runs and its ways come to, in plain Lean. -/
import Derived.Test.YtkgednfofhlfdaaJc
namespace Go.Proofs.Ytkgednfofhlfdaa
set_option linter.unusedSimpArgs false
set_option linter.unusedVariables false
open Go.RowKit Go.Shelf Go.Sort

/-- A run without picks is straight; so is any run where no skip stands. -/
theorem runF_straight (l : List Ins) (p : Nat → Bool) : ∀ (f k s : Nat), l.length < f + k → (∀ j (h : j < l.length), k ≤ j → l[j].op = 12 → p (s + (j - k)) = false) →
    (runF l p f k s).1 = (endS (l.drop k) s).1 ∧ ((runF l p f k s).2 : Int) = (endS (l.drop k) s).2
  | 0, k, s, hf, _ => by
    have : l.drop k = [] := List.drop_eq_nil_of_le (by omega)
    rw [this]
    exact ⟨rfl, rfl⟩
  | f + 1, k, s, hf, hp => by
    by_cases hk : k < l.length
    · rw [List.drop_eq_getElem_cons hk, endS]
      cases he : endOf l[k] with
      | some q =>
        rw [runF_end hk he]
        exact ⟨rfl, by push_cast; rfl⟩
      | none =>
        rw [runF_on hk he (fun h => by have := hp k hk (Nat.le_refl _) h.1; simp at this; rw [this] at h; exact absurd h.2 (by decide))]
        have := runF_straight l p f (k + 1) (s + 1) (by omega) (fun j h hj ho => by
          have := hp j h (by omega) ho
          rw [show s + 1 + (j - (k + 1)) = s + (j - k) by omega]
          exact this)
        dsimp only
        push_cast at this
        exact this
    · have hd : l.drop k = [] := List.drop_eq_nil_of_le (by omega)
      have hn : l[k]? = none := List.getElem?_eq_none (by omega)
      rw [hd, runF, hn]
      exact ⟨rfl, rfl⟩

/-- The run that passes over at the skip. -/
theorem runF_pick (pre post : List Ins) (x : Ins) (hx : x.op = 12) (hp : noSkip pre) (hq : noSkip post) (hn : 1 ≤ x.n) (hn2 : x.n ≤ post.length) (p : Nat → Bool) (hpk : p pre.length = true) :
    (runF (pre ++ x :: post) p ((pre ++ x :: post).length + 1) 0 0).1 = (if goesOn pre = true then endS (post.drop x.n.toNat) (pre.length + 1) else endS (pre ++ x :: post) 0).1 ∧
    ((runF (pre ++ x :: post) p ((pre ++ x :: post).length + 1) 0 0).2 : Int) = (if goesOn pre = true then endS (post.drop x.n.toNat) (pre.length + 1) else endS (pre ++ x :: post) 0).2 := by
  have hex : endOf x = none := by unfold endOf; rw [hx]; simp
  generalize hl : pre ++ x :: post = l
  have hlen : l.length = pre.length + 1 + post.length := by rw [← hl]; simp; omega
  have gpre : ∀ j (h : j < pre.length), l[j]'(by omega) = pre[j] := fun j h => by simp only [← hl]; exact List.getElem_append_left h
  have gx : l[pre.length]'(by omega) = x := by simp only [← hl]; rw [List.getElem_append_right (by omega)]; simp
  have gpost : l.drop (pre.length + 1) = post := by rw [← hl]; simp
  have main : ∀ (i k f : Nat), k + i = pre.length → l.length < f + k →
      (runF l p f k k).1 = (if goesOn ((l.drop k).take i) = true then endS (post.drop x.n.toNat) (pre.length + 1) else endS (l.drop k) k).1 ∧
      ((runF l p f k k).2 : Int) = (if goesOn ((l.drop k).take i) = true then endS (post.drop x.n.toNat) (pre.length + 1) else endS (l.drop k) k).2 := by
    intro i
    induction i with
    | zero =>
      intro k f hk hf
      obtain rfl : k = pre.length := by omega
      obtain ⟨f, rfl⟩ : ∃ g, f = g + 1 := ⟨f - 1, by omega⟩
      rw [List.take_zero, if_pos (by rfl), runF_skip (by omega) (by rw [gx]; exact hex) (by rw [gx]; exact hx) hpk, gx]
      have := runF_straight l p f (pre.length + 1 + x.n.toNat) (pre.length + 1) (by omega) (fun j h hj ho => by
        exfalso
        have hm : l[j] ∈ post := by
          rw [← gpost]
          have : l[j] = (l.drop (pre.length + 1))[j - (pre.length + 1)]'(by rw [List.length_drop]; omega) := by
            rw [List.getElem_drop]
            congr 1
            omega
          rw [this]
          exact List.getElem_mem _
        exact hq _ hm ho)
      rw [← List.drop_drop, gpost] at this
      push_cast at this
      exact this
    | succ i ih =>
      intro k f hk hf
      have hkl : k < l.length := by omega
      obtain ⟨f, rfl⟩ : ∃ g, f = g + 1 := ⟨f - 1, by omega⟩
      have hop : l[k].op ≠ 12 := by
        rw [gpre k (by omega)]
        exact hp _ (List.getElem_mem _)
      rw [List.drop_eq_getElem_cons hkl, List.take_succ_cons, endS]
      cases he : endOf l[k] with
      | some q =>
        rw [runF_end hkl he]
        have : goesOn (l[k] :: (l.drop (k + 1)).take i) = false := by unfold goesOn; rw [List.all_cons, he]; rfl
        rw [this, if_neg (by decide)]
        exact ⟨rfl, by push_cast; rfl⟩
      | none =>
        rw [runF_on hkl he (fun h => hop h.1)]
        have : goesOn (l[k] :: (l.drop (k + 1)).take i) = goesOn ((l.drop (k + 1)).take i) := by unfold goesOn; rw [List.all_cons, he]; rfl
        rw [this]
        have := ih (k + 1) f (by omega) (by omega)
        push_cast at this
        exact this
  have := main pre.length 0 (l.length + 1) (by omega) (by omega)
  have hpre : (l.drop 0).take pre.length = pre := by rw [← hl]; simp
  rw [hpre, List.drop_zero] at this
  exact this

/-- Two rows of ways with the same members have the same length. -/
theorem told_mem {L : List Wy} (hnd : (L.map fun x => (x.op, x.n)).Nodup) {x : Wy} (h : x ∈ L) : toldF L x.op x.n = x.s := by
  induction L with
  | nil => cases h
  | cons y L ih =>
    rw [List.map_cons, List.nodup_cons] at hnd
    unfold toldF
    rcases List.mem_cons.1 h with rfl | h
    · rw [if_pos ⟨rfl, rfl⟩]
    · rw [if_neg, ih hnd.2 h]
      intro e
      apply hnd.1
      rw [List.mem_map]
      exact ⟨x, h, by rw [e.1, e.2]⟩

theorem ways_two {L : List Wy} {m : Int × Int → Option Int} (hmem : ∀ x, x ∈ L ↔ m (x.op, x.n) = some x.s) (hnd : (L.map fun x => (x.op, x.n)).Nodup) (q0 q1 : (Int × Int) × Int) (h0 : 0 ≤ q0.2) (h1 : 0 ≤ q1.2) (hm : m = put (put (fun _ => none) q0) q1) :
    (q1.1 = q0.1 ∧ ∃ s, L = [⟨q0.1.1, q0.1.2, s⟩] ∧ s = max q1.2 q0.2) ∨ (q1.1 ≠ q0.1 ∧ L.length = 2 ∧ toldF L q1.1.1 q1.1.2 = q1.2 ∧ toldF L q0.1.1 q0.1.2 = q0.2) := by
  have hnd' : L.Nodup := List.Pairwise.of_map _ (fun a b h e => h (by rw [e])) hnd
  by_cases e : q1.1 = q0.1
  · refine Or.inl ⟨e, max q1.2 q0.2, ?_, rfl⟩
    have hmx : ∀ x : Wy, x ∈ L ↔ x ∈ [(⟨q0.1.1, q0.1.2, max q1.2 q0.2⟩ : Wy)] := by
      intro x
      rw [hmem, hm]
      obtain ⟨a, b, c⟩ := x
      unfold put updM bestOf
      dsimp only
      rw [e]
      by_cases h : (a, b) = q0.1
      · simp only [h, if_pos, Option.getD_none, Option.getD_some, List.mem_singleton, Wy.mk.injEq, Option.some.injEq]
        rw [← h]
        have : (if (if (0 : Int) < q0.2 then q0.2 else 0) < q1.2 then q1.2 else if 0 < q0.2 then q0.2 else 0) = max q1.2 q0.2 := by
          rw [Int.max_def]
          split <;> split <;> (try split) <;> omega
        rw [this]
        simp [eq_comm]
      · simp only [if_neg h, List.mem_singleton, Wy.mk.injEq]
        constructor
        · intro h2; cases h2
        · rintro ⟨rfl, rfl, _⟩; exact absurd rfl h
    have hp := (List.perm_ext_iff_of_nodup hnd' (by simp)).2 hmx
    exact List.perm_singleton.1 hp
  · refine Or.inr ⟨e, ?_⟩
    have e' : ¬ q0.1 = q1.1 := fun h => e h.symm
    have hmx : ∀ x : Wy, x ∈ L ↔ x ∈ [(⟨q1.1.1, q1.1.2, q1.2⟩ : Wy), ⟨q0.1.1, q0.1.2, q0.2⟩] := by
      intro x
      rw [hmem, hm]
      obtain ⟨a, b, c⟩ := x
      unfold put updM bestOf
      dsimp only
      by_cases h : (a, b) = q1.1
      · simp only [h, if_pos, if_neg e, Option.getD_none, List.mem_cons, Wy.mk.injEq, Option.some.injEq, List.not_mem_nil, or_false]
        have : (if (0 : Int) < q1.2 then q1.2 else 0) = q1.2 := by split <;> omega
        rw [this]
        have ha : a = q1.1.1 := by rw [← h]
        have hb : b = q1.1.2 := by rw [← h]
        constructor
        · intro h2; exact Or.inl ⟨ha, hb, h2.symm⟩
        · rintro (⟨_, _, h2⟩ | ⟨h2, h3, _⟩)
          · exact h2.symm
          · exact absurd (Prod.ext (ha.symm.trans h2) (hb.symm.trans h3)) e
      · rw [if_neg h]
        by_cases h3 : (a, b) = q0.1
        · simp only [h3, if_pos, Option.getD_none, List.mem_cons, Wy.mk.injEq, Option.some.injEq, List.not_mem_nil, or_false]
          have : (if (0 : Int) < q0.2 then q0.2 else 0) = q0.2 := by split <;> omega
          rw [this]
          have ha : a = q0.1.1 := by rw [← h3]
          have hb : b = q0.1.2 := by rw [← h3]
          constructor
          · intro h2; exact Or.inr ⟨ha, hb, h2.symm⟩
          · rintro (⟨h2, h4, _⟩ | ⟨_, _, h2⟩)
            · exact absurd (Prod.ext (ha.symm.trans h2) (hb.symm.trans h4)) e'
            · exact h2.symm
        · rw [if_neg h3]
          simp only [List.mem_cons, Wy.mk.injEq, List.not_mem_nil, or_false]
          constructor
          · intro h2; cases h2
          · rintro (⟨rfl, rfl, _⟩ | ⟨rfl, rfl, _⟩)
            · exact absurd rfl h
            · exact absurd rfl h3
    have hnd2 : [(⟨q1.1.1, q1.1.2, q1.2⟩ : Wy), ⟨q0.1.1, q0.1.2, q0.2⟩].Nodup := by
      simp only [List.nodup_cons, List.mem_singleton, Wy.mk.injEq, List.not_mem_nil, not_false_eq_true, List.nodup_nil, and_true]
      rintro ⟨h1, h2, _⟩
      exact e (Prod.ext h1 h2)
    have hp := (List.perm_ext_iff_of_nodup hnd' hnd2).2 hmx
    refine ⟨by have := hp.length_eq; simpa using this, ?_, ?_⟩
    · exact told_mem hnd (x := ⟨q1.1.1, q1.1.2, q1.2⟩) ((hmx _).2 (by simp))
    · exact told_mem hnd (x := ⟨q0.1.1, q0.1.2, q0.2⟩) ((hmx _).2 (by simp))

/-- May the block be, with a skip put in? -/
theorem may_skipIns (n : Int) : (⟨12, 1, 1, 5, 4, 0, n⟩ : Ins).may = (decide (1 ≤ n) && decide (n ≤ 32)) := by
  unfold Ins.may Ins.isOp Ins.shape
  simp [shpOf, Shp.target, Shp.number, Fk.test, opAny]

theorem okFrom_app (n : Nat) : ∀ (a b : List Ins) (k : Nat), okFrom n k (a ++ b) = (okFrom n k a && okFrom n (k + a.length) b)
  | [], b, k => by simp [okFrom]
  | x :: a, b, k => by
    rw [List.cons_append, okFrom, okFrom, okFrom_app n a b (k + 1), Bool.and_assoc, List.length_cons, show k + 1 + a.length = k + (a.length + 1) by omega]
theorem okFrom_plain (n : Nat) : ∀ (a : List Ins) (k : Nat), noSkip a → okFrom n k a = a.all (·.may)
  | [], k, _ => rfl
  | x :: a, k, h => by
    have hx : x.op ≠ 12 := h x List.mem_cons_self
    have e : (x.op == 12) = false := by simpa using hx
    rw [okFrom, okFrom_plain n a (k + 1) (fun y hy => h y (List.mem_cons_of_mem _ hy)), List.all_cons]
    unfold okOne
    rw [e]
    simp

theorem mayBlk_skip (id n : Int) (l : List Ins) (k : Nat) (hk : k ≤ l.length) (hl : l.length ≤ 31) (hm : mayBlk id l = true) (hs : noSkip l) :
    mayBlk id (l.take k ++ ⟨12, 1, 1, 5, 4, 0, n⟩ :: l.drop k) = (decide (1 ≤ n) && decide (n ≤ (l.length : Int) - k)) := by
  unfold mayBlk at hm ⊢
  simp only [Bool.and_eq_true, decide_eq_true_eq] at hm
  obtain ⟨⟨h1, _⟩, h3⟩ := hm
  have hlen : (l.take k ++ (⟨12, 1, 1, 5, 4, 0, n⟩ : Ins) :: l.drop k).length = l.length + 1 := by simp; omega
  have hst : noSkip (l.take k) := fun x hx => hs x (List.mem_of_mem_take hx)
  have hsd : noSkip (l.drop k) := fun x hx => hs x (List.mem_of_mem_drop hx)
  have hall : l.all (·.may) = true := by rw [← okFrom_plain l.length l 0 hs]; exact h3
  have hat : (l.take k).all (·.may) = true := List.all_eq_true.2 fun x hx => List.all_eq_true.1 hall x (List.mem_of_mem_take hx)
  have had : (l.drop k).all (·.may) = true := List.all_eq_true.2 fun x hx => List.all_eq_true.1 hall x (List.mem_of_mem_drop hx)
  rw [hlen, okFrom_app, okFrom_plain _ _ _ hst, hat, okFrom, okFrom_plain _ _ _ hsd, had, h1]
  have hk2 : (l.take k).length = k := by rw [List.length_take, Nat.min_eq_left hk]
  rw [hk2]
  unfold okOne
  rw [may_skipIns]
  simp only [Bool.true_and, Bool.and_true, Nat.zero_add, beq_self_eq_true]
  have : decide (l.length + 1 ≤ 32) = true := by simpa using hl
  rw [this, Bool.true_and]
  rw [Bool.eq_iff_iff]
  simp
  omega
end Go.Proofs.Ytkgednfofhlfdaa
