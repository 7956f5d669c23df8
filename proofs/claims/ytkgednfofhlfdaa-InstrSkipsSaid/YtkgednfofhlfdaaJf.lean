/- InstrSkips: the other cases, and all. -/
import Derived.Test.YtkgednfofhlfdaaJe
namespace Go.Proofs.Ytkgednfofhlfdaa
set_option linter.unusedSimpArgs false
set_option linter.unusedVariables false
open Go.RowKit Go.Shelf Go.Sort

set_option maxRecDepth 100000 in
set_option maxHeartbeats 2000000 in
theorem skips_long (id at_ n : Int) (ca : Option Addr) (ccap m : Nat) (w : World) (hm : 300 < m) (hm2 : m ≤ 9223372036854775807) :
    Calls Try.prog 4 #[.agg #[.int .i64 id, .slice ca m ccap], .int .i64 at_, .int .i64 n] w fun e w' => e = .returned (.bool true) ∧ Below w.heap.size w w' := by
  go_enter Try.func4, Try.ntmps4
  go_wp2_with (go_at_call 11; refine (awake_any _).mono ?_; rintro e w1 ⟨rfl, hb1⟩)
  go_ret
  exact ⟨rfl, below_then hb1 (below_al (Below.refl _ _) (Nat.le_refl _)) (by simp)⟩

set_option maxRecDepth 100000 in
set_option maxHeartbeats 2000000 in
theorem skips_bad (id at_ n : Int) (ca : Option Addr) (ccap : Nat) (l : List Ins) (w : World) (hv : CodeV w (.slice ca l.length ccap) l) (hfit : ∀ k (h : k < l.length), l[k].Fit) (hl : l.length ≤ 300) (hm : mayBlk id l = false ∨ 32 ≤ l.length) :
    Calls Try.prog 4 #[.agg #[.int .i64 id, .slice ca l.length ccap], .int .i64 at_, .int .i64 n] w fun e w' => e = .returned (.bool true) ∧ Below w.heap.size w w' := by
  have hmb := fun V hb => mayBlock_any (.slice ca l.length ccap) l V id (codeV_below (w' := V) hv hb) hfit (by omega)
  clear hv hfit
  cases hmm : mayBlk id l with
  | false =>
    rw [hmm] at hmb
    have HMB := Lib.hid hmb
    clear hmb hmm hm
    go_enter Try.func4, Try.ntmps4
    go_wp2_with (first
      | (go_at_call 13; have hbX : Below w.heap.size w w1 := (below_then hb1 (below_al (Below.refl _ _) (Nat.le_refl _)) (by simp)); refine (HMB.out _ hbX).mono ?_; rintro e w2 ⟨rfl, hb2⟩; obtain ⟨hc2, hf2⟩ := bcell hb2; have hz2 : w.heap.size < w2.heap.size := (by have := hb2.size; (try simp at this); omega))
      | (go_at_call 11; refine (awake_any _).mono ?_; rintro e w1 ⟨rfl, hb1⟩; obtain ⟨hc1, hf1⟩ := bcell hb1; have hz1 : w.heap.size < w1.heap.size := (by have := hb1.size; simp at this; omega)))
    go_ret
    exact ⟨rfl, below_then hb2 hbX hbX.size⟩
  | true =>
    have h32 : 32 ≤ l.length := by
      rcases hm with h | h
      · rw [hmm] at h; cases h
      · exact h
    rw [hmm] at hmb
    have HMB := Lib.hid hmb
    clear hmb hmm hm
    go_enter Try.func4, Try.ntmps4
    go_wp2_with (first
      | (go_at_call 13; have hbX : Below w.heap.size w w1 := (below_then hb1 (below_al (Below.refl _ _) (Nat.le_refl _)) (by simp)); refine (HMB.out _ hbX).mono ?_; rintro e w2 ⟨rfl, hb2⟩; obtain ⟨hc2, hf2⟩ := bcell hb2; have hz2 : w.heap.size < w2.heap.size := (by have := hb2.size; (try simp at this); omega))
      | (go_at_call 11; refine (awake_any _).mono ?_; rintro e w1 ⟨rfl, hb1⟩; obtain ⟨hc1, hf1⟩ := bcell hb1; have hz1 : w.heap.size < w1.heap.size := (by have := hb1.size; simp at this; omega)))
    go_ret
    exact ⟨rfl, below_then hb2 hbX hbX.size⟩

set_option maxRecDepth 100000 in
set_option maxHeartbeats 2000000 in
theorem skips_has (id at_ n : Int) (ca : Option Addr) (ccap : Nat) (l : List Ins) (w : World) (hv : CodeV w (.slice ca l.length ccap) l) (hfit : ∀ k (h : k < l.length), l[k].Fit) (hl : l.length ≤ 31) (hm : mayBlk id l = true) (hs : ¬ noSkip l) :
    Calls Try.prog 4 #[.agg #[.int .i64 id, .slice ca l.length ccap], .int .i64 at_, .int .i64 n] w fun e w' => e = .returned (.bool true) ∧ Below w.heap.size w w' := by
  have hmb := fun V hb => mayBlock_any (.slice ca l.length ccap) l V id (codeV_below (w' := V) hv hb) hfit (by omega)
  rw [hm] at hmb
  have hex : ∃ j, ∃ h : j < l.length, l[j].op = 12 := by
    apply Classical.byContradiction
    intro hn
    apply hs
    intro x hx ho
    obtain ⟨j, hj, rfl⟩ := List.getElem_of_mem hx
    exact hn ⟨j, hj, ho⟩
  have HC := Lib.hid (codeV_or hv)
  have HMB := Lib.hid hmb
  have HX := Lib.hid hex
  clear hv hmb hm hs hex hfit
  go_enter Try.func4, Try.ntmps4
  go_upto_region 5 with (first
    | (go_at_call 13; have hbX : Below w.heap.size w w1 := (below_then hb1 (below_al (Below.refl _ _) (Nat.le_refl _)) (by simp)); refine (HMB.out _ hbX).mono ?_; rintro e w2 ⟨rfl, hb2⟩; obtain ⟨hc2, hf2⟩ := bcell hb2; have hz2 : w.heap.size < w2.heap.size := (by have := hb2.size; (try simp at this); omega))
    | (go_at_call 11; refine (awake_any _).mono ?_; rintro e w1 ⟨rfl, hb1⟩; obtain ⟨hc1, hf1⟩ := bcell hb1; have hz1 : w.heap.size < w1.heap.size := (by have := hb1.size; simp at this; omega)))
  have hbF : Below w.heap.size w w2 := below_then hb2 hbX hbX.size
  go_wp2
  go_loop [7] (fun i => ∃ k : Nat, k ≤ l.length ∧ i = .int .i64 k ∧ ∃ j, ∃ h : j < l.length, k ≤ j ∧ l[j].op = 12) (fun i => l.length - (intOf i).toNat)
  case atStart =>
    obtain ⟨j, hj, ho⟩ := HX.out
    exact ⟨0, by omega, rfl, j, hj, by omega, ho⟩
  case round =>
    obtain ⟨k, hk, rfl, j, hj, hkj, hjo⟩ := hrel
    have hlt : k < l.length := by omega
    rcases HC.out with h | ⟨blk, off, rfl, hc⟩
    · subst h; simp at hlt
    have hwb := hc.lt
    have q0 := hc.c0 k hlt
    have Q0 : w2.cell? ⟨blk, off + k * 7, none⟩ = some (.int .u8 l[k].op) := (hc2 _ _ (by omega)).trans ((hc1 _ _ (by simp; omega)).trans ((World.cell?_alloc_lt _ _ _ (by simpa using hwb)).trans q0))
    by_cases ho : l[k].op = 12
    · rw [ho] at Q0
      clear hc q0 ho
      go_wp2
      go_ret
      exact ⟨rfl, hbF⟩
    · have b12 : (l[k].op == 12) = false := by simpa using ho
      have hkj2 : k + 1 ≤ j := by
        rcases Nat.lt_or_ge k j with h | h
        · exact h
        · exfalso
          obtain rfl : k = j := by omega
          exact ho hjo
      clear hc q0 ho
      have HJO := Lib.hid hjo
      clear hjo
      generalize l[k].op = op at *
      go_wp2
      go_round
      case rel => exact ⟨k + 1, by omega, by simp, j, hj, hkj2, HJO.out⟩
      case measure => simp [intOf]; omega

theorem skips_any (id at_ n : Int) (ca : Option Addr) (ccap : Nat) (l : List Ins) (w : World) (hcap : l.length ≤ ccap) (hm : ccap ≤ 9223372036854775807) (hn64 : -9223372036854775808 ≤ n ∧ n ≤ 9223372036854775807)
    (hv : CodeV w (.slice ca l.length ccap) l) (hfit : ∀ k (h : k < l.length), l[k].Fit) :
    Calls Try.prog 4 #[.agg #[.int .i64 id, .slice ca l.length ccap], .int .i64 at_, .int .i64 n] w fun e w' => e = .returned (.bool true) ∧ Below w.heap.size w w' := by
  by_cases h1 : 300 < l.length
  · exact skips_long id at_ n ca ccap l.length w h1 (by omega)
  by_cases h2 : 32 ≤ l.length
  · exact skips_bad id at_ n ca ccap l w hv hfit (by omega) (Or.inr h2)
  cases h3 : mayBlk id l with
  | false => exact skips_bad id at_ n ca ccap l w hv hfit (by omega) (Or.inl h3)
  | true =>
    by_cases h4 : noSkip l
    · exact skips_main id at_ n ca ccap l w hcap hn64 hv hfit (by omega) h3 h4
    · exact skips_has id at_ n ca ccap l w hv hfit (by omega) h3 h4
end Go.Proofs.Ytkgednfofhlfdaa
