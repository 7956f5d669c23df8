/- What InstrElse says, in plain Lean. -/
import Derived.Test.YtkgednfofhlfdaaIf
namespace Go.Proofs.Ytkgednfofhlfdaa
open Go.RowKit Go.Shelf

theorem may_parts {i : Ins} (h : i.may = true) : i.isOp = true ∧ i.shape.target i.dst = true ∧ i.shape.a.test i.ak i.an = true ∧ i.shape.b.test i.bk i.bn = true ∧ i.shape.number i.n = true := by
  unfold Ins.may at h
  simp only [Bool.and_eq_true] at h
  exact ⟨h.1.1.1.1, h.1.1.1.2, h.1.1.2, h.1.2, h.2⟩

theorem fk_zero {f : Fk} (h : f.test 0 0 = true) {a b : Int} (hne : ¬ (a = 0 ∧ b = 0)) : f.test a b = false := by
  cases f
  · simp [Fk.test] at h
  · simp only [Fk.test, opNone]
    rw [Bool.eq_false_iff]
    intro h2
    simp at h2
    exact hne h2
  · exact absurd h (by decide)
  · exact absurd h (by decide)

theorem else_dst {i : Ins} (h : i.may = true) (h0 : i.dst = 0) {d : Int} (hd : d ≠ 0) : (⟨i.op, d, i.ak, i.an, i.bk, i.bn, i.n⟩ : Ins).may = false := by
  obtain ⟨_, ht, _⟩ := may_parts h
  rw [h0] at ht
  have : i.shape.target d = false := by
    unfold Shp.target at ht ⊢
    split at ht
    · exact absurd ht (by decide)
    · rename_i h1
      rw [if_neg h1]
      split at ht
      · exact absurd ht (by decide)
      · rename_i h2
        rw [if_neg h2]
        simpa using hd
  unfold Ins.may Ins.shape
  unfold Ins.shape at this
  simp [this]

theorem else_a {i : Ins} (h : i.may = true) (h0 : i.ak = 0 ∧ i.an = 0) {a b : Int} (hd : ¬ (a = 0 ∧ b = 0)) : (⟨i.op, i.dst, a, b, i.bk, i.bn, i.n⟩ : Ins).may = false := by
  obtain ⟨_, _, ht, _⟩ := may_parts h
  rw [h0.1, h0.2] at ht
  have := fk_zero ht hd
  unfold Ins.may Ins.shape
  unfold Ins.shape at this
  simp [this]

theorem else_b {i : Ins} (h : i.may = true) (h0 : i.bk = 0 ∧ i.bn = 0) {a b : Int} (hd : ¬ (a = 0 ∧ b = 0)) : (⟨i.op, i.dst, i.ak, i.an, a, b, i.n⟩ : Ins).may = false := by
  obtain ⟨_, _, _, ht, _⟩ := may_parts h
  rw [h0.1, h0.2] at ht
  have := fk_zero ht hd
  unfold Ins.may Ins.shape
  unfold Ins.shape at this
  simp [this]

theorem num_shape : ∀ k : Nat, 1 ≤ k → k ≤ 23 → ¬ (k = 9 ∨ k = 10 ∨ k = 11 ∨ k = 21) → (shpOf k).number 0 = true → ∀ d : Int, d ≠ 0 → (shpOf k).number d = false := by
  intro k h0 h1 hk hn d hd
  have : k = 1 ∨ k = 2 ∨ k = 3 ∨ k = 4 ∨ k = 5 ∨ k = 6 ∨ k = 7 ∨ k = 8 ∨ k = 12 ∨ k = 13 ∨ k = 14 ∨ k = 15 ∨ k = 16 ∨ k = 17 ∨ k = 18 ∨ k = 19 ∨ k = 20 ∨ k = 22 ∨ k = 23 := by omega
  rcases this with rfl | rfl | rfl | rfl | rfl | rfl | rfl | rfl | rfl | rfl | rfl | rfl | rfl | rfl | rfl | rfl | rfl | rfl | rfl <;>
    first
    | (exfalso; revert hn; decide)
    | (simp only [shpOf, Shp.number]; simp; omega)

theorem else_n {i : Ins} (h : i.may = true) (h0 : i.n = 0) (ho : ¬ (i.op = 9 ∨ i.op = 10 ∨ i.op = 11 ∨ i.op = 21)) {d : Int} (hd : d ≠ 0) : (⟨i.op, i.dst, i.ak, i.an, i.bk, i.bn, d⟩ : Ins).may = false := by
  obtain ⟨hop, _, _, _, ht⟩ := may_parts h
  rw [h0] at ht
  unfold Ins.isOp at hop
  simp at hop
  have := num_shape i.op.toNat (by omega) (by omega) (by omega) ht d hd
  unfold Ins.may Ins.shape
  simp [this]

/-- What a name of a valid instruction is. -/
structure NameOk (i : Ins) (p : Int × Int) (last : Bool) : Prop where
  id : 1 ≤ p.2 ∧ p.2 ≤ 65534
  kind : 1 ≤ p.1 ∧ p.1 ≤ 6
  field : p.1 = 1 → p.2 = i.dst ∨ p.2 = i.an ∨ p.2 = i.bn
  other : p.1 ≠ 1 → p.2 = i.n ∧ last = true

def others (l : List (Int × Int)) : Nat := (l.filter fun p => decide (p.1 ≠ 1)).length

theorem shp_names : ∀ k : Nat, 1 ≤ k → k ≤ 23 → ((shpOf k).names = 0 ∨ (2 ≤ (shpOf k).names ∧ (shpOf k).names ≤ 6)) := by
  intro k h0 h1
  have : k = 1 ∨ k = 2 ∨ k = 3 ∨ k = 4 ∨ k = 5 ∨ k = 6 ∨ k = 7 ∨ k = 8 ∨ k = 9 ∨ k = 10 ∨ k = 11 ∨ k = 12 ∨ k = 13 ∨ k = 14 ∨ k = 15 ∨ k = 16 ∨ k = 17 ∨ k = 18 ∨ k = 19 ∨ k = 20 ∨ k = 21 ∨ k = 22 ∨ k = 23 := by omega
  rcases this with rfl | rfl | rfl | rfl | rfl | rfl | rfl | rfl | rfl | rfl | rfl | rfl | rfl | rfl | rfl | rfl | rfl | rfl | rfl | rfl | rfl | rfl | rfl <;> simp [shpOf]

theorem isId_iff {n : Int} (h : isId n = true) : 1 ≤ n ∧ n ≤ 65534 := by
  unfold isId at h
  simpa using h

theorem mem_fld {k n : Int} {p : Int × Int} (h : p ∈ fldNames k n) : p = (1, n) ∧ 1 ≤ n ∧ n ≤ 65534 := by
  unfold fldNames at h
  split at h
  · rename_i ho
    unfold opField at ho
    simp at ho h
    exact ⟨h, ho.2⟩
  · simp at h

/-- All names ahead of the last part are fields. -/
theorem names_front {i : Ins} (h : i.may = true) {p : Int × Int} (hp : p ∈ i.shape.toNames i.dst ++ (fldNames i.ak i.an ++ fldNames i.bk i.bn)) :
    p.1 = 1 ∧ (1 ≤ p.2 ∧ p.2 ≤ 65534) ∧ (p.2 = i.dst ∨ p.2 = i.an ∨ p.2 = i.bn) := by
  obtain ⟨_, ht, _⟩ := may_parts h
  rcases List.mem_append.1 hp with hp | hp
  · unfold Shp.toNames at hp
    split at hp
    · rename_i hf
      unfold Shp.target at ht
      rw [if_pos hf] at ht
      simp at hp
      subst hp
      exact ⟨rfl, isId_iff ht, Or.inl rfl⟩
    · simp at hp
  · rcases List.mem_append.1 hp with hp | hp
    · obtain ⟨rfl, h2⟩ := mem_fld hp
      exact ⟨rfl, h2, Or.inr (Or.inl rfl)⟩
    · obtain ⟨rfl, h2⟩ := mem_fld hp
      exact ⟨rfl, h2, Or.inr (Or.inr rfl)⟩

theorem names_ok {i : Ins} (h : i.may = true) (k : Nat) (hk : k < i.names.length) : NameOk i i.names[k] (k + 1 == i.names.length) := by
  obtain ⟨hop, _, _, _, hn⟩ := may_parts h
  unfold Ins.isOp at hop
  simp at hop
  have hs := shp_names i.op.toNat (by omega) (by omega)
  have hs : i.shape.names = 0 ∨ (2 ≤ i.shape.names ∧ i.shape.names ≤ 6) := hs
  have hN : i.names = i.shape.toNames i.dst ++ (fldNames i.ak i.an ++ fldNames i.bk i.bn) ++ i.shape.nNames i.n := by unfold Ins.names; rw [if_pos h]
  generalize hF : i.shape.toNames i.dst ++ (fldNames i.ak i.an ++ fldNames i.bk i.bn) = F at hN
  have hfront : ∀ p ∈ F, p.1 = 1 ∧ (1 ≤ p.2 ∧ p.2 ≤ 65534) ∧ (p.2 = i.dst ∨ p.2 = i.an ∨ p.2 = i.bn) := fun p hp => names_front h (by rw [hF]; exact hp)
  by_cases hkF : k < F.length
  · have e : i.names[k] = F[k] := by simp only [hN]; exact List.getElem_append_left hkF
    rw [e]
    obtain ⟨h1, h2, h3⟩ := hfront F[k] (List.getElem_mem hkF)
    exact ⟨h2, by omega, fun _ => h3, fun hc => absurd h1 hc⟩
  · have hlen : i.names.length = F.length + (i.shape.nNames i.n).length := by rw [hN, List.length_append]
    have hpos : 0 < i.shape.names := by
      rcases hs with hs | hs
      · exfalso
        have : (i.shape.nNames i.n).length = 0 := by unfold Shp.nNames; rw [if_neg (by omega)]; rfl
        omega
      · omega
    have hnn : i.shape.nNames i.n = [(i.shape.names, i.n)] := by unfold Shp.nNames; rw [if_pos hpos]
    rw [hnn] at hN hlen
    have hkl : k = F.length := by simp at hlen; omega
    subst hkl
    have e : i.names[F.length] = (i.shape.names, i.n) := by simp only [hN]; simp
    rw [e]
    unfold Shp.number at hn
    rw [if_pos hpos] at hn
    refine ⟨isId_iff hn, by dsimp only; omega, fun hc => ?_, fun _ => ⟨rfl, by rw [hlen]; simp⟩⟩
    dsimp only at hc
    omega

theorem names_others {i : Ins} (h : i.may = true) : others i.names ≤ 1 := by
  unfold others
  have hN : i.names = i.shape.toNames i.dst ++ (fldNames i.ak i.an ++ fldNames i.bk i.bn) ++ i.shape.nNames i.n := by unfold Ins.names; rw [if_pos h]
  rw [hN, List.filter_append, List.length_append]
  have e0 : (i.shape.toNames i.dst ++ (fldNames i.ak i.an ++ fldNames i.bk i.bn)).filter (fun p => decide (p.1 ≠ 1)) = [] := by
    rw [List.filter_eq_nil_iff]
    intro p hp
    simp [(names_front h hp).1]
  rw [e0]
  have : (i.shape.nNames i.n).length ≤ 1 := by unfold Shp.nNames; split <;> simp
  have := List.length_filter_le (fun p : Int × Int => decide (p.1 ≠ 1)) (i.shape.nNames i.n)
  simp
  simp at this
  omega

theorem others_take {l : List (Int × Int)} {k : Nat} (h : k < l.length) : others (l.take (k + 1)) = others (l.take k) + (if l[k].1 = 1 then 0 else 1) := by
  unfold others
  rw [List.take_succ_eq_append_getElem h, List.filter_append, List.length_append]
  by_cases hk : l[k].1 = 1 <;> simp [hk]

theorem names_len (i : Ins) : i.names.length ≤ 4 := by
  have h1 : (i.shape.toNames i.dst).length ≤ 1 := by unfold Shp.toNames; split <;> simp
  have h2 : (fldNames i.ak i.an).length ≤ 1 := by unfold fldNames; split <;> simp
  have h3 : (fldNames i.bk i.bn).length ≤ 1 := by unfold fldNames; split <;> simp
  have h4 : (i.shape.nNames i.n).length ≤ 1 := by unfold Shp.nNames; split <;> simp
  unfold Ins.names
  split
  · simp only [List.length_append]; omega
  · simp
end Go.Proofs.Ytkgednfofhlfdaa
