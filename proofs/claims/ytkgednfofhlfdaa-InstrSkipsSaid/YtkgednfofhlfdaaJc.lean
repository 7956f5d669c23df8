/- The law's run. -/
import Derived.Test.YtkgednfofhlfdaaJb
namespace Go.Proofs.Ytkgednfofhlfdaa
set_option linter.unusedSimpArgs false
set_option linter.unusedVariables false
open Go.RowKit Go.Shelf Go.Sort

def runF (l : List Ins) (p : Nat → Bool) : Nat → Nat → Nat → (Int × Int) × Nat
  | 0, _, s => ((23, 0), s)
  | f + 1, k, s => match l[k]? with
    | none => ((23, 0), s)
    | some x => match endOf x with
      | some q => (q, s + 1)
      | none => runF l p f (if x.op = 12 ∧ p s = true then k + 1 + x.n.toNat else k + 1) (s + 1)

def skipOk (l : List Ins) : Prop := ∀ k (h : k < l.length), l[k].op = 12 → 0 ≤ l[k].n ∧ (k : Int) + 1 + l[k].n ≤ l.length

structure Picks (w : World) (a : Option Addr) (n : Nat) (p : Nat → Bool) : Prop where
  at_ : ∀ s, s < n → ∃ g off, a = some ⟨g, off, none⟩ ∧ g < w.heap.size ∧ w.cell? ⟨g, off + s, none⟩ = some (.bool (p s))
  out : ∀ s, n ≤ s → p s = false

def runV (r : (Int × Int) × Nat) : Value := .tuple #[.int .u8 r.1.1, .int .i64 r.1.2, .int .i64 r.2]

theorem ret_run {R r : (Int × Int) × Nat} (h : R = r) : Ending.returned (runV r) = .returned (runV R) := by rw [h]

theorem runF_end {l : List Ins} {p : Nat → Bool} {f k s : Nat} (h : k < l.length) {q : Int × Int} (he : endOf l[k] = some q) : runF l p (f + 1) k s = (q, s + 1) := by
  rw [runF, List.getElem?_eq_getElem h]
  simp only [he]
theorem runF_skip {l : List Ins} {p : Nat → Bool} {f k s : Nat} (h : k < l.length) (he : endOf l[k] = none) (ho : l[k].op = 12) (hp : p s = true) : runF l p (f + 1) k s = runF l p f (k + 1 + l[k].n.toNat) (s + 1) := by
  rw [runF, List.getElem?_eq_getElem h]
  simp only [he, ho, hp, and_self, if_pos]
theorem runF_on {l : List Ins} {p : Nat → Bool} {f k s : Nat} (h : k < l.length) (he : endOf l[k] = none) (hp : ¬ (l[k].op = 12 ∧ p s = true)) : runF l p (f + 1) k s = runF l p f (k + 1) (s + 1) := by
  rw [runF, List.getElem?_eq_getElem h]
  simp only [he, if_neg hp]

set_option maxRecDepth 100000 in
set_option maxHeartbeats 2000000 in
theorem run_any (v : Value) (l : List Ins) (a : Option Addr) (n cap : Nat) (p : Nat → Bool) (w : World) (hv : CodeV w v l) (hn : l.length ≤ 1000) (hs : skipOk l) (hp : Picks w a n p) (hpn : n ≤ 1000) :
    Calls Try.prog 16 #[v, .slice a n cap] w fun e w' => e = .returned (runV (runF l p (l.length + 1) 0 0)) ∧ Below w.heap.size w w' := by
  obtain ⟨ca, ccap, rfl, hc⟩ := hv
  have HC := Lib.hid hc
  have HS := Lib.hid hs
  have HA := Lib.hid hp.at_
  have HO := Lib.hid hp.out
  clear hc hs hp
  generalize hRR : runF l p (l.length + 1) 0 0 = R
  have HRR := Lib.hid hRR
  clear hRR
  go_enter Try.func16, Try.ntmps16
  go_wp2
  go_loopw [7, 8] (fun st i wr => ∃ f k s : Nat, k ≤ l.length ∧ s ≤ k ∧ l.length < f + k ∧ st = .int .i64 s ∧ i = .int .i64 k ∧ runF l p f k s = R ∧ Below w.heap.size w wr) (fun _ i _ => l.length - (intOf i).toNat)
  case atStart => exact ⟨l.length + 1, 0, 0, by omega, by omega, by omega, rfl, rfl, HRR.out, Below.refl _ _⟩
  case round =>
    obtain ⟨f, k, s, hk, hsk, hf, rfl, rfl, hr, hb⟩ := hrel
    by_cases hlt : k < l.length
    · obtain ⟨f, rfl⟩ : ∃ g, f = g + 1 := ⟨f - 1, by omega⟩
      rcases HC.out with h | ⟨blk, off, rfl, hc⟩
      · subst h; simp at hlt
      have Q0 := (hb.cell (p := ⟨blk, off + k * 7, none⟩) hc.lt).trans (hc.c0 k hlt)
      have Q1 := (hb.cell (p := ⟨blk, off + k * 7 + 1, none⟩) hc.lt).trans (hc.c1 k hlt)
      have Q2 := (hb.cell (p := ⟨blk, off + k * 7 + 2, none⟩) hc.lt).trans (hc.c2 k hlt)
      have Q3 := (hb.cell (p := ⟨blk, off + k * 7 + 3, none⟩) hc.lt).trans (hc.c3 k hlt)
      have Q4 := (hb.cell (p := ⟨blk, off + k * 7 + 4, none⟩) hc.lt).trans (hc.c4 k hlt)
      have Q5 := (hb.cell (p := ⟨blk, off + k * 7 + 5, none⟩) hc.lt).trans (hc.c5 k hlt)
      have Q6 := (hb.cell (p := ⟨blk, off + k * 7 + 6, none⟩) hc.lt).trans (hc.c6 k hlt)
      have hsk12 := HS.out k hlt
      have E1 := Lib.hid (fun q => runF_end (l := l) (p := p) (f := f) (s := s) hlt (q := q))
      have E2 := Lib.hid (runF_skip (l := l) (p := p) (f := f) (s := s) hlt)
      have E3 := Lib.hid (runF_on (l := l) (p := p) (f := f) (s := s) hlt)
      have HR := Lib.hid hr
      have hends := fun V => endsL_any l[k] V
      have HB := Lib.hid hc.lt
      clear hc hr
      generalize l[k] = x at *
      obtain ⟨op, dst, ak, an, bk, bn, nn⟩ := x
      dsimp only at *
      have hends : ∀ V, Calls Try.prog 60 #[.agg #[.int .u8 op, .int .i64 dst, .int .u8 ak, .int .u64 an, .int .u8 bk, .int .u64 bn, .int .i64 nn]] V fun e w' => e = .returned (endT ⟨op, dst, ak, an, bk, bn, nn⟩) ∧ Below V.heap.size V w' := hends
      unfold endT at hends
      cases he : endOf ⟨op, dst, ak, an, bk, bn, nn⟩ with
      | some q =>
        rw [he] at hends
        obtain ⟨qo, qn⟩ := q
        dsimp only at hends
        have he1 := E1.out _ he
        have HE := Lib.hid (HR.out.symm.trans he1)
        clear he he1 hsk12
        go_wp2_with (go_at_call 60; refine (hends _).mono ?_; rintro e w1 ⟨rfl, hb1⟩)
        go_ret3
        exact ⟨ret_run (r := ((qo, qn), s + 1)) HE.out, below_then hb1 (below_al hb (by have := hb.size; omega)) (by have := hb.size; simp; omega)⟩
      | none =>
        rw [he] at hends
        dsimp only at hends
        have HN := Lib.hid he
        clear he
        by_cases ho : op = 12
        · subst ho
          obtain ⟨hn0, hn1⟩ := hsk12 rfl
          obtain ⟨nn, rfl⟩ : ∃ m : Nat, nn = m := ⟨nn.toNat, by omega⟩
          by_cases hsn : s < n
          · obtain ⟨g, po, rfl, hg, qp⟩ := HA.out s hsn
            have QP := (hb.cell (p := ⟨g, po + s, none⟩) hg).trans qp
            clear qp hsk12
            have hw1 : wr.heap.size ≥ w.heap.size := hb.size
            cases hps : p s with
            | true =>
              rw [hps] at QP
              have HX := Lib.hid ((E2.out HN.out rfl hps).symm.trans HR.out)
              clear hps
              go_wp2_with (go_at_call 60; refine (hends _).mono ?_; rintro e w1 ⟨rfl, hb1⟩; obtain ⟨hc1, hf1⟩ := bcell hb1; have hzz : wr.heap.size < w1.heap.size := (by have := hb1.size; simp at this; omega); have hg1 : g < wr.heap.size := (by omega))
              go_roundw
              case rel => exact ⟨f, k + 1 + nn, s + 1, by omega, by omega, by omega, by simp, by simp, by simpa using HX.out, below_then hb1 (below_al hb (by omega)) (by simp; omega)⟩
              case measure => simp [intOf]; omega
            | false =>
              rw [hps] at QP
              have HX := Lib.hid ((E3.out HN.out (by simp [hps])).symm.trans HR.out)
              clear hps
              go_wp2_with (go_at_call 60; refine (hends _).mono ?_; rintro e w1 ⟨rfl, hb1⟩; obtain ⟨hc1, hf1⟩ := bcell hb1; have hzz : wr.heap.size < w1.heap.size := (by have := hb1.size; simp at this; omega); have hg1 : g < wr.heap.size := (by omega))
              go_roundw
              case rel => exact ⟨f, k + 1, s + 1, by omega, by omega, by omega, by simp, by simp, by simpa using HX.out, below_then hb1 (below_al hb (by omega)) (by simp; omega)⟩
              case measure => simp [intOf]; omega
          · have hps := HO.out s (by omega)
            have HX := Lib.hid ((E3.out HN.out (by simp [hps])).symm.trans HR.out)
            clear hps hsk12
            have hw1 : wr.heap.size ≥ w.heap.size := hb.size
            go_wp2_with (go_at_call 60; refine (hends _).mono ?_; rintro e w1 ⟨rfl, hb1⟩; obtain ⟨hc1, hf1⟩ := bcell hb1; have hzz : wr.heap.size < w1.heap.size := (by have := hb1.size; simp at this; omega))
            go_roundw
            case rel => exact ⟨f, k + 1, s + 1, by omega, by omega, by omega, by simp, by simp, by simpa using HX.out, below_then hb1 (below_al hb (by omega)) (by simp; omega)⟩
            case measure => simp [intOf]; omega
        · have HX := Lib.hid ((E3.out HN.out (fun h => ho h.1)).symm.trans HR.out)
          have b1 : (op == 12) = false := by simpa using ho
          clear ho hsk12
          have hw1 : wr.heap.size ≥ w.heap.size := hb.size
          go_wp2_with (go_at_call 60; refine (hends _).mono ?_; rintro e w1 ⟨rfl, hb1⟩; obtain ⟨hc1, hf1⟩ := bcell hb1; have hzz : wr.heap.size < w1.heap.size := (by have := hb1.size; simp at this; omega))
          go_roundw
          case rel => exact ⟨f, k + 1, s + 1, by omega, by omega, by omega, by simp, by simp, by simpa using HX.out, below_then hb1 (below_al hb (by omega)) (by simp; omega)⟩
          case measure => simp [intOf]; omega
    · have hke : k = l.length := by omega
      subst hke
      have hR : runF l p f l.length s = ((23, 0), s) := by
        cases f with
        | zero => rfl
        | succ f => rw [runF, List.getElem?_eq_none (Nat.le_refl _)]
      have HE := Lib.hid (hr.symm.trans hR)
      clear hr hR
      go_wp2
      go_ret3
      exact ⟨ret_run (r := ((23, 0), s)) HE.out, hb⟩
end Go.Proofs.Ytkgednfofhlfdaa
