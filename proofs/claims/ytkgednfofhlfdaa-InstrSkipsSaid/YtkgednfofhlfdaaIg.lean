/- instr.MayBlock: the contract. -/
import Derived.Test.YtkgednfofhlfdaaIe
import Derived.Deep.DeepCutAuto
import Derived.Lib.Hide
namespace Go.Proofs.Ytkgednfofhlfdaa
open Go.RowKit Go.Shelf

def codeCells (l : List Ins) : List Value := l.flatMap Ins.cells

/-- Instructions in a row of cells. -/
structure CodeAt (w : World) (blk off : Nat) (l : List Ins) : Prop where
  lt : blk < w.heap.size
  c0 : ∀ k, (h : k < l.length) → w.cell? ⟨blk, off + k * 7, none⟩ = some (.int .u8 l[k].op)
  c1 : ∀ k, (h : k < l.length) → w.cell? ⟨blk, off + k * 7 + 1, none⟩ = some (.int .i64 l[k].dst)
  c2 : ∀ k, (h : k < l.length) → w.cell? ⟨blk, off + k * 7 + 2, none⟩ = some (.int .u8 l[k].ak)
  c3 : ∀ k, (h : k < l.length) → w.cell? ⟨blk, off + k * 7 + 3, none⟩ = some (.int .u64 l[k].an)
  c4 : ∀ k, (h : k < l.length) → w.cell? ⟨blk, off + k * 7 + 4, none⟩ = some (.int .u8 l[k].bk)
  c5 : ∀ k, (h : k < l.length) → w.cell? ⟨blk, off + k * 7 + 5, none⟩ = some (.int .u64 l[k].bn)
  c6 : ∀ k, (h : k < l.length) → w.cell? ⟨blk, off + k * 7 + 6, none⟩ = some (.int .i64 l[k].n)

theorem CodeAt.below {w w' : World} {blk off : Nat} {l : List Ins} (h : CodeAt w blk off l) {B : Nat} (hb : Below B w w') (hB : blk < B) : CodeAt w' blk off l :=
  ⟨Nat.lt_of_lt_of_le h.lt hb.size, fun k hk => (hb.cell (p := ⟨blk, _, none⟩) hB).trans (h.c0 k hk), fun k hk => (hb.cell (p := ⟨blk, _, none⟩) hB).trans (h.c1 k hk), fun k hk => (hb.cell (p := ⟨blk, _, none⟩) hB).trans (h.c2 k hk), fun k hk => (hb.cell (p := ⟨blk, _, none⟩) hB).trans (h.c3 k hk), fun k hk => (hb.cell (p := ⟨blk, _, none⟩) hB).trans (h.c4 k hk), fun k hk => (hb.cell (p := ⟨blk, _, none⟩) hB).trans (h.c5 k hk), fun k hk => (hb.cell (p := ⟨blk, _, none⟩) hB).trans (h.c6 k hk)⟩

/-- The instruction at a place goes: it may be, and a skip stays within. -/
def okOne (len at_ : Nat) (i : Ins) : Bool := i.may && !(i.op == 12 && decide ((len : Int) - at_ - 1 < i.n))
def okFrom (len : Nat) : Nat → List Ins → Bool
  | _, [] => true
  | a, i :: r => okOne len a i && okFrom len (a + 1) r

/-- Numbers that the kinds hold. -/
structure Ins.Fit (i : Ins) : Prop where
  op : 0 ≤ i.op ∧ i.op ≤ 255
  dst : -9223372036854775808 ≤ i.dst ∧ i.dst ≤ 9223372036854775807
  ak : 0 ≤ i.ak ∧ i.ak ≤ 255
  an : 0 ≤ i.an
  bk : 0 ≤ i.bk ∧ i.bk ≤ 255
  bn : 0 ≤ i.bn
  n : -9223372036854775808 ≤ i.n ∧ i.n ≤ 9223372036854775807

set_option maxRecDepth 100000 in
set_option maxHeartbeats 4000000 in
theorem mayBlock_loop (blk off cap : Nat) (l : List Ins) (w : World) (id : Int) (hl : l.length ≤ 32) (hid : isId id = true) (hfit : ∀ k (h : k < l.length), l[k].Fit) (hc : CodeAt w blk off l) :
    Calls Try.prog 13 #[.agg #[.int .i64 id, .slice (some ⟨blk, off, none⟩) l.length cap]] w fun e w' => e = .returned (.bool (okFrom l.length 0 l)) ∧ Below w.heap.size w w' := by
  have hidc := fun w => id_any id w
  rw [hid] at hidc
  have HD := Lib.hid hid
  clear hid
  have hcl := hc.lt
  go_enter Try.func13, Try.ntmps13
  go_wp2_with (go_at_call 51; refine (hidc _).mono ?_; rintro e w' ⟨rfl, rfl⟩)
  go_loopw [18] (fun i wr => ∃ k : Nat, k ≤ l.length ∧ i = .int .i64 k ∧ okFrom l.length 0 l = okFrom l.length k (l.drop k) ∧ Below (w.heap.size + 1) (w.alloc (.cells #[.int .i64 id, .slice (some ⟨blk, off, none⟩) l.length cap] 36)) wr) (fun i _ => l.length - (intOf i).toNat)
  case atStart => exact ⟨0, by omega, rfl, rfl, Below.refl _ _⟩
  case round =>
    obtain ⟨k, hk, rfl, hok, hbr⟩ := hrel
    have HO := Lib.hid hok
    clear hok
    have hbs : w.heap.size + 1 ≤ wr.heap.size := by have := hbr.size; simpa using this
    have hws : w.heap.size < wr.heap.size := by omega
    have hB := cells_at ((hbr.block w.heap.size (by omega)).trans (heap_alloc_new _ _))
    by_cases hlt : k < l.length
    · have hcr := (hc.below (w' := w.alloc _) ((Below.refl w.heap.size w).alloc (Nat.le_refl _) _) hcl).below hbr (by omega)
      have h0 := hcr.c0 k hlt
      have h1 := hcr.c1 k hlt
      have h2 := hcr.c2 k hlt
      have h3 := hcr.c3 k hlt
      have h4 := hcr.c4 k hlt
      have h5 := hcr.c5 k hlt
      have h6 := hcr.c6 k hlt
      clear hcr
      have hfk := hfit k hlt
      have hdr : l.drop k = l[k] :: l.drop (k + 1) := List.drop_eq_getElem_cons hlt
      have HDR := Lib.hid hdr
      clear hdr
      generalize l[k] = x at *
      have hmay : ∀ w, Calls Try.prog 10 #[.agg #[.int .u8 x.op, .int .i64 x.dst, .int .u8 x.ak, .int .u64 x.an, .int .u8 x.bk, .int .u64 x.bn, .int .i64 x.n]] w fun e w' => e = .returned (.bool x.may) ∧ Below w.heap.size w w' := fun w => may_any x w hfk.op.1
      have hfn := hfk.n
      by_cases hm : x.may = true
      · rw [hm] at hmay
        have HM := Lib.hid hm
        clear hm
        by_cases ho : x.op = 12
        · have ho' : (x.op == 12) = true := by simpa using ho
          have HOp := Lib.hid ho
          clear ho
          by_cases hn : (l.length : Int) - k - 1 < x.n
          · have HN := Lib.hid hn
            go_wp2_with (go_at_call 10; refine (hmay _).mono ?_; rintro e w1 ⟨rfl, hb1⟩; obtain ⟨hc1, hf1⟩ := bcell hb1; have hz1_0 : wr.heap.size < w1.heap.size := (by have := hb1.size; (try simp at this); omega))
            go_ret
            exact ⟨by rw [HO.out, HDR.out]; simp [okFrom, okOne, HM.out, HOp.out]; intro h; exact absurd HN.out (by omega), (below_al (Below.refl _ _) (Nat.le_refl _)).trans ((hbr.trans ((below_then hb1 (below_al (Below.refl _ _) (Nat.le_refl _)) (by simp)).mono hbs)).mono (by omega))⟩
          · have HN := Lib.hid hn
            go_wp2_with (go_at_call 10; refine (hmay _).mono ?_; rintro e w1 ⟨rfl, hb1⟩; obtain ⟨hc1, hf1⟩ := bcell hb1; have hz1_0 : wr.heap.size < w1.heap.size := (by have := hb1.size; (try simp at this); omega))
            go_roundw
            case rel => exact ⟨k + 1, by omega, by simp, by rw [HO.out, HDR.out]; simp [okFrom, okOne, HM.out, HOp.out]; intro _; have := HN.out; omega, hbr.trans ((below_then hb1 (below_al (Below.refl _ _) (Nat.le_refl _)) (by simp)).mono hbs)⟩
            case measure => simp [intOf]; omega
        · have ho' : (x.op == 12) = false := by simpa using ho
          have HOp := Lib.hid ho'
          clear ho
          go_wp2_with (go_at_call 10; refine (hmay _).mono ?_; rintro e w1 ⟨rfl, hb1⟩; obtain ⟨hc1, hf1⟩ := bcell hb1; have hz1_0 : wr.heap.size < w1.heap.size := (by have := hb1.size; (try simp at this); omega))
          go_roundw
          case rel => exact ⟨k + 1, by omega, by simp, by rw [HO.out, HDR.out]; simp [okFrom, okOne, HM.out, HOp.out], hbr.trans ((below_then hb1 (below_al (Below.refl _ _) (Nat.le_refl _)) (by simp)).mono hbs)⟩
          case measure => simp [intOf]; omega
      · have hm : x.may = false := by simpa using hm
        rw [hm] at hmay
        have HM := Lib.hid hm
        clear hm
        go_wp2_with (go_at_call 10; refine (hmay _).mono ?_; rintro e w1 ⟨rfl, hb1⟩; obtain ⟨hc1, hf1⟩ := bcell hb1; have hz1_0 : wr.heap.size < w1.heap.size := (by have := hb1.size; (try simp at this); omega))
        go_ret
        exact ⟨by rw [HO.out, HDR.out]; simp [okFrom, okOne, HM.out], (below_al (Below.refl _ _) (Nat.le_refl _)).trans ((hbr.trans ((below_then hb1 (below_al (Below.refl _ _) (Nat.le_refl _)) (by simp)).mono hbs)).mono (by omega))⟩
    · have hke : k = l.length := by omega
      have HE := Lib.hid hke
      clear hke
      go_wp2
      go_ret
      exact ⟨by rw [HO.out, HE.out]; simp [okFrom], (below_al (Below.refl _ _) (Nat.le_refl _)).trans (hbr.mono (by omega))⟩

/-- A slice of instructions, nil and empty too. -/
def CodeV (w : World) (v : Value) (l : List Ins) : Prop := ∃ a cap, v = .slice a l.length cap ∧ (l = [] ∨ ∃ blk off, a = some ⟨blk, off, none⟩ ∧ CodeAt w blk off l)

def mayBlk (id : Int) (l : List Ins) : Bool := isId id && decide (l.length ≤ 32) && okFrom l.length 0 l

theorem mayBlock_bad (a : Option Addr) (n cap : Nat) (w : World) (id : Int) (h : isId id = false ∨ 32 < n) (hn : n ≤ 9223372036854775807) :
    Calls Try.prog 13 #[.agg #[.int .i64 id, .slice a n cap]] w fun e w' => e = .returned (.bool false) ∧ Below w.heap.size w w' := by
  have hidc := fun w => id_any id w
  by_cases hi : isId id = true
  · have h32 : 32 < n := by rcases h with h | h; rw [hi] at h; cases h; exact h
    rw [hi] at hidc
    clear hi h
    go_enter Try.func13, Try.ntmps13
    go_wp2_with (go_at_call 51; refine (hidc _).mono ?_; rintro e w' ⟨rfl, rfl⟩)
    go_ret
    exact ⟨rfl, below_al (Below.refl _ _) (Nat.le_refl _)⟩
  · have hi : isId id = false := by simpa using hi
    rw [hi] at hidc
    clear hi h
    go_enter Try.func13, Try.ntmps13
    go_wp2_with (go_at_call 51; refine (hidc _).mono ?_; rintro e w' ⟨rfl, rfl⟩)
    go_ret
    exact ⟨rfl, below_al (Below.refl _ _) (Nat.le_refl _)⟩

theorem mayBlock_nil (a : Option Addr) (cap : Nat) (w : World) (id : Int) (hi : isId id = true) :
    Calls Try.prog 13 #[.agg #[.int .i64 id, .slice a 0 cap]] w fun e w' => e = .returned (.bool true) ∧ Below w.heap.size w w' := by
  have hidc := fun w => id_any id w
  rw [hi] at hidc
  clear hi
  go_enter Try.func13, Try.ntmps13
  go_wp2_with (go_at_call 51; refine (hidc _).mono ?_; rintro e w' ⟨rfl, rfl⟩)
  refine wp_loop_rounds 1 ?_
  rw [rounds_succ]
  go_wp2
  go_ret
  exact ⟨rfl, below_al (Below.refl _ _) (Nat.le_refl _)⟩

theorem mayBlock_any (v : Value) (l : List Ins) (w : World) (id : Int) (hv : CodeV w v l) (hfit : ∀ k (h : k < l.length), l[k].Fit) (hn : l.length ≤ 9223372036854775807) :
    Calls Try.prog 13 #[.agg #[.int .i64 id, v]] w fun e w' => e = .returned (.bool (mayBlk id l)) ∧ Below w.heap.size w w' := by
  obtain ⟨a, cap, rfl, h⟩ := hv
  by_cases hi : isId id = true
  · by_cases hl : l.length ≤ 32
    · rcases h with rfl | ⟨blk, off, rfl, hc⟩
      · have : mayBlk id [] = true := by simp [mayBlk, hi, okFrom]
        rw [this]
        exact mayBlock_nil a cap w id hi
      · have : mayBlk id l = okFrom l.length 0 l := by simp [mayBlk, hi, hl]
        rw [this]
        exact mayBlock_loop blk off cap l w id hl hi hfit hc
    · have : mayBlk id l = false := by simp [mayBlk, hl]
      rw [this]
      exact mayBlock_bad a l.length cap w id (Or.inr (by omega)) hn
  · have hi : isId id = false := by simpa using hi
    have : mayBlk id l = false := by simp [mayBlk, hi]
    rw [this]
    exact mayBlock_bad a l.length cap w id (Or.inl hi) hn
end Go.Proofs.Ytkgednfofhlfdaa
