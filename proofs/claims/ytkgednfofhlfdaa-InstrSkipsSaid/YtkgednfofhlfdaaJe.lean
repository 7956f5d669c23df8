/- InstrSkips: the walk. -/
import Derived.Test.YtkgednfofhlfdaaJc
import Derived.Test.YtkgednfofhlfdaaWd
import Derived.Test.YtkgednfofhlfdaaWLast
import Derived.Test.YtkgednfofhlfdaaOpI
import Derived.Test.YtkgednfofhlfdaaJd
import Derived.Deep.CutBlock
import Derived.Deep.DeepCutAuto
namespace Go.Proofs.Ytkgednfofhlfdaa
set_option linter.unusedSimpArgs false
set_option linter.unusedVariables false
open Go.RowKit Go.Shelf Go.Sort
open Go.Proofs.YtkgednfofhlfdaaW.PrintLast

theorem codeV_or {w : World} {ca : Option Addr} {cap : Nat} {l : List Ins} (h : CodeV w (.slice ca l.length cap) l) : l = [] ∨ ∃ blk off, ca = some ⟨blk, off, none⟩ ∧ CodeAt w blk off l := by
  obtain ⟨a, c, e, h⟩ := h
  simp only [Value.slice.injEq, true_and] at e
  obtain ⟨rfl, _⟩ := e
  exact h

theorem two_one (a b : Value) (ha : a.oneCell' = true) (hb : b.oneCell' = true) : #[a, b].all (·.oneCell') = true := by simp [ha, hb]

def codes (l : List Ins) : List Value := l.flatMap Ins.cells
theorem codes_len : ∀ (l : List Ins), (codes l).length = l.length * 7
  | [] => rfl
  | x :: l => by
    have := codes_len l
    unfold codes at this ⊢
    rw [List.flatMap_cons, List.length_append, this]
    simp [Ins.cells]
    omega
theorem codes_get : ∀ (l : List Ins) (k : Nat) (h : k < l.length) (j : Nat), j < 7 → (codes l)[k * 7 + j]? = (l[k]).cells[j]?
  | x :: l, 0, _, j, hj => by
    unfold codes
    rw [List.flatMap_cons, List.getElem?_append_left (by simp [Ins.cells]; omega)]
    simp
  | x :: l, k + 1, h, j, hj => by
    have := codes_get l k (by simpa using h) j hj
    unfold codes at this ⊢
    rw [List.flatMap_cons, List.getElem?_append_right (by simp [Ins.cells]; omega), show (k + 1) * 7 + j - x.cells.length = k * 7 + j by simp [Ins.cells]; omega, this]
    simp
theorem codes_one (l : List Ins) : ∀ u ∈ codes l, u.oneCell' = true := by
  intro u hu
  unfold codes at hu
  obtain ⟨x, _, hx⟩ := List.mem_flatMap.1 hu
  simp [Ins.cells] at hx
  rcases hx with rfl | rfl | rfl | rfl | rfl | rfl | rfl <;> rfl
def skipIns (n : Int) : Ins := ⟨12, 1, 1, 5, 4, 0, n⟩

theorem codeAt_cells {w : World} {blk off : Nat} {l : List Ins} (h : CodeAt w blk off l) (j : Nat) (u : Value) (hu : (codes l)[j]? = some u) : w.cell? ⟨blk, off + j, none⟩ = some u := by
  have hj : j < l.length * 7 := by rw [← codes_len]; exact (List.getElem?_eq_some_iff.1 hu).1
  obtain ⟨k, i, rfl, hi⟩ : ∃ k i, j = k * 7 + i ∧ i < 7 := ⟨j / 7, j % 7, by omega, Nat.mod_lt _ (by decide)⟩
  have hk : k < l.length := by omega
  rw [codes_get l k hk i hi] at hu
  rcases (show i = 0 ∨ i = 1 ∨ i = 2 ∨ i = 3 ∨ i = 4 ∨ i = 5 ∨ i = 6 by omega) with rfl | rfl | rfl | rfl | rfl | rfl | rfl <;> simp [Ins.cells] at hu <;> subst hu
  · exact h.c0 k hk
  · exact h.c1 k hk
  · exact h.c2 k hk
  · exact h.c3 k hk
  · exact h.c4 k hk
  · exact h.c5 k hk
  · exact h.c6 k hk

theorem reads_code {w W : World} {ca : Option Addr} {l : List Ins} (h : l = [] ∨ ∃ blk off, ca = some ⟨blk, off, none⟩ ∧ CodeAt w blk off l) (hb : Below w.heap.size w W) (hz : w.heap.size ≤ W.heap.size) : Reads W W.heap.size 7 ca l.length (codes l) := by
  refine ⟨codes_len l, fun hn => ?_⟩
  rcases h with rfl | ⟨blk, off, rfl, hc⟩
  · simp at hn
  · have hlt := hc.lt
    refine ⟨_, rfl, by simp; omega, fun j u hu => ?_⟩
    have e : (⟨blk, off, none⟩ : Addr).add j = ⟨blk, off + j, none⟩ := by unfold Addr.add; split <;> simp_all
    rw [e]
    exact (hb.cell (p := ⟨blk, off + j, none⟩) hlt).trans (codeAt_cells hc j u hu)
theorem codes_take (l : List Ins) (k : Nat) (hk : k ≤ l.length) : (codes l).take (k * 7) = codes (l.take k) := by
  have h : codes l = codes (l.take k) ++ codes (l.drop k) := by unfold codes; rw [← List.flatMap_append, List.take_append_drop]
  rw [h, List.take_left' (by rw [codes_len, List.length_take, Nat.min_eq_left hk])]
theorem codes_drop (l : List Ins) (k : Nat) (hk : k ≤ l.length) : (codes l).drop (k * 7) = codes (l.drop k) := by
  have h : codes l = codes (l.take k) ++ codes (l.drop k) := by unfold codes; rw [← List.flatMap_append, List.take_append_drop]
  rw [h, List.drop_left' (by rw [codes_len, List.length_take, Nat.min_eq_left hk])]
theorem reads_take {w W : World} {ca : Option Addr} {l : List Ins} (k : Nat) (hk : k ≤ l.length) (h : l = [] ∨ ∃ blk off, ca = some ⟨blk, off, none⟩ ∧ CodeAt w blk off l) (hb : Below w.heap.size w W) (hz : w.heap.size ≤ W.heap.size) : Reads W W.heap.size 7 ca k (codes (l.take k)) := by
  obtain ⟨h1, h2⟩ := reads_code h hb hz
  refine ⟨by rw [codes_len, List.length_take, Nat.min_eq_left hk], fun hn => ?_⟩
  obtain ⟨ad, ha, hlt, hc⟩ := h2 (by omega)
  refine ⟨ad, ha, hlt, fun j u hu => hc j u ?_⟩
  rw [← codes_take l k hk, List.getElem?_take] at hu
  split at hu
  · exact hu
  · cases hu
theorem reads_drop {w W : World} {ca : Option Addr} {cap : Nat} {l : List Ins} (k : Nat) (hk : k ≤ l.length) (hc : l.length ≤ cap) (h : l = [] ∨ ∃ blk off, ca = some ⟨blk, off, none⟩ ∧ CodeAt w blk off l) (hb : Below w.heap.size w W) (hz : w.heap.size ≤ W.heap.size) :
    Reads W W.heap.size 7 (if cap = k then ca else ca.map (·.add (k * 7))) (l.length - k) (codes (l.drop k)) := by
  rw [← codes_drop l k hk]
  exact (reads_code h hb hz).cut hk hc

theorem codeAt_own {w : World} {B g n cap : Nat} {l : List Ins} (h : w.ownsRow B 26 7 (.slice (some ⟨g, 0, none⟩) n cap) n (codes l)) (hl : g < w.heap.size) : CodeAt w g 0 l := by
  have c := h.cells (g := g) rfl
  have c : ∀ k (hk : k < l.length) (j : Nat) (u : Value), j < 7 → (l[k]).cells[j]? = some u → w.cell? ⟨g, 0 + k * 7 + j, none⟩ = some u := fun k hk j u hj hu => by
    have := c (k * 7 + j) u ((codes_get l k hk j hj).trans hu)
    have e : (⟨g, 0, none⟩ : Addr).add (k * 7 + j) = ⟨g, 0 + k * 7 + j, none⟩ := by unfold Addr.add; split <;> simp_all
    rw [e] at this
    exact this
  exact ⟨hl, fun k hk => c k hk 0 _ (by decide) rfl, fun k hk => c k hk 1 _ (by decide) rfl, fun k hk => c k hk 2 _ (by decide) rfl, fun k hk => c k hk 3 _ (by decide) rfl, fun k hk => c k hk 4 _ (by decide) rfl, fun k hk => c k hk 5 _ (by decide) rfl, fun k hk => c k hk 6 _ (by decide) rfl⟩

structure SkipSt (id n : Int) (l : List Ins) (k : Nat) (W w : World) (gx g cp : Nat) : Prop where
  below : Below W.heap.size W w
  box : Blk w gx 36 #[.int .i64 id, .slice (some ⟨g, 0, none⟩) (l.length + 1) cp]
  new : W.heap.size ≤ gx
  code : CodeAt w g 0 (l.take k ++ skipIns n :: l.drop k)

theorem codes_app (a b : List Ins) : codes (a ++ b) = codes a ++ codes b := by unfold codes; rw [List.flatMap_append]
theorem skipSt_mk {id n : Int} {l lt ld : List Ins} {k : Nat} {W w : World} {gx g cp : Nat} {O : Option Nat} {c z : Array Value} (hk : k ≤ l.length) (ht : l.take k = lt) (hd : l.drop k = ld)
    (h : St W.heap.size 26 7 36 c z W w (some (.slice (some ⟨g, 0, none⟩) (l.length + 1) cp, l.length + 1, codes lt ++ codes [skipIns n] ++ codes ld)) O (some gx)) (hz : z.size = 2) :
    SkipSt id n l k W (w.setRow gx #[.int .i64 id, .slice (some ⟨g, 0, none⟩) (l.length + 1) cp]) gx g cp := by
  subst ht
  subst hd
  have hown := h.row _ _ _ rfl
  obtain ⟨hb, hB⟩ := h.x _ rfl
  have hne : g ≠ gx := fun e => own_blk_ne hown hb (by decide) (by simp [Value.ownBlock, e])
  rw [← codes_app, ← codes_app] at hown
  have hlt : g < w.heap.size := by
    obtain ⟨g', cp', e, _, hl⟩ := hown.form (by omega)
    simp at e
    omega
  have hc := codeAt_own hown hlt
  have other : ∀ j, (w.setRow gx #[.int .i64 id, .slice (some ⟨g, 0, none⟩) (l.length + 1) cp]).cell? ⟨g, j, none⟩ = w.cell? ⟨g, j, none⟩ := fun j => World.cell?_of_block (a := ⟨g, j, none⟩) (setRow_other w gx g _ hne)
  rw [List.append_assoc, List.singleton_append] at hc
  exact ⟨h.below.setRowB hB _, setRow_heap _ _ _ _ _ _ hb, hB, ⟨by simpa [World.setRow] using hc.lt, fun j hj => (other _).trans (hc.c0 j hj), fun j hj => (other _).trans (hc.c1 j hj), fun j hj => (other _).trans (hc.c2 j hj), fun j hj => (other _).trans (hc.c3 j hj), fun j hj => (other _).trans (hc.c4 j hj), fun j hj => (other _).trans (hc.c5 j hj), fun j hj => (other _).trans (hc.c6 j hj)⟩⟩

theorem info_bool : (Try.prog.info? 4).map (fun i => (i.zero, i.size, i.bytes)) = some (some (.bool false), 1, 1) := by kernel_rfl
theorem made_at (k : Nat) : (madeCells #[Value.bool false] (k + 1))[k]? = some (.bool false) := by
  rw [madeCells_row, rowA_get _ _ _ (by omega)]

theorem fit_skip {l : List Ins} {n : Int} (hfit : ∀ k (h : k < l.length), l[k].Fit) (hn : -9223372036854775808 ≤ n ∧ n ≤ 9223372036854775807) (k : Nat) :
    ∀ j (h : j < (l.take k ++ skipIns n :: l.drop k).length), (l.take k ++ skipIns n :: l.drop k)[j].Fit := by
  have hl : ∀ x ∈ l, x.Fit := fun x hx => by
    obtain ⟨i, hi, rfl⟩ := List.getElem_of_mem hx
    exact hfit i hi
  intro j h
  rcases List.mem_append.1 (List.getElem_mem h) with hm | hm
  · exact hl _ (List.mem_of_mem_take hm)
  · rcases List.mem_cons.1 hm with hm | hm
    · rw [hm]
      exact ⟨by simp [skipIns], by simp [skipIns], by simp [skipIns], by simp [skipIns], by simp [skipIns], by simp [skipIns], hn⟩
    · exact hl _ (List.mem_of_mem_drop hm)

/-- How the ways are, by the two runs. -/
def WaysBy (o1 m1 s1 o0 m0 s0 M : Int) (x : List Ins) : Prop :=
  waysMap x = put (put (fun _ => none) ((o0, m0), s0)) ((o1, m1), s1) ∧ 0 ≤ s1 ∧ 0 ≤ s0 ∧ ((o1 = o0 ∧ m1 = m0) → M = max s1 s0)

theorem skips_fin (id n : Int) (l : List Ins) (k : Nat) (hk : k ≤ l.length) (hl : l.length ≤ 31) (hs : noSkip l) (h1 : 1 ≤ n) (h2 : n ≤ (l.length : Int) - k) :
    ∃ (o1 m1 : Int) (s1 : Nat) (o0 m0 : Int) (s0 : Nat) (M : Int), runF (l.take k ++ skipIns n :: l.drop k) (fun s => decide (s = k)) ((l.take k ++ skipIns n :: l.drop k).length + 1) 0 0 = ((o1, m1), s1) ∧
      runF (l.take k ++ skipIns n :: l.drop k) (fun _ => false) ((l.take k ++ skipIns n :: l.drop k).length + 1) 0 0 = ((o0, m0), s0) ∧ s1 ≤ 1000 ∧ s0 ≤ 1000 ∧ (s1 : Int) ≤ M ∧ (s0 : Int) ≤ M ∧ max (s1 : Int) s0 = M ∧ WaysBy o1 m1 s1 o0 m0 s0 M (l.take k ++ skipIns n :: l.drop k) := by
  have hpre : noSkip (l.take k) := fun x hx => hs x (List.mem_of_mem_take hx)
  have hpost : noSkip (l.drop k) := fun x hx => hs x (List.mem_of_mem_drop hx)
  have hpl : (l.take k).length = k := by rw [List.length_take, Nat.min_eq_left hk]
  have hn2 : (skipIns n).n ≤ ((l.drop k).length : Int) := by show n ≤ _; rw [List.length_drop]; omega
  have hw := ways_skip (l.take k) (l.drop k) (skipIns n) rfl hpre hpost h1 hn2
  have hp1 := runF_pick (l.take k) (l.drop k) (skipIns n) rfl hpre hpost h1 hn2 (fun s => decide (s = k)) (by simp [hpl])
  have hp0 := runF_straight (l.take k ++ skipIns n :: l.drop k) (fun _ => false) ((l.take k ++ skipIns n :: l.drop k).length + 1) 0 0 (by omega) (fun _ _ _ _ => rfl)
  rw [List.drop_zero] at hp0
  have hlen : (l.take k ++ skipIns n :: l.drop k).length = l.length + 1 := by simp; omega
  have hg0 := endS_ge (l.take k ++ skipIns n :: l.drop k) 0
  have hg1 := endS_ge ((l.drop k).drop (skipIns n).n.toNat) ((l.take k).length + 1)
  have hd : ((l.drop k).drop (skipIns n).n.toNat).length ≤ l.length := by rw [List.length_drop, List.length_drop]; omega
  generalize runF (l.take k ++ skipIns n :: l.drop k) (fun s => decide (s = k)) ((l.take k ++ skipIns n :: l.drop k).length + 1) 0 0 = R1 at *
  generalize runF (l.take k ++ skipIns n :: l.drop k) (fun _ => false) ((l.take k ++ skipIns n :: l.drop k).length + 1) 0 0 = R0 at *
  obtain ⟨⟨o1, m1⟩, s1⟩ := R1
  obtain ⟨⟨o0, m0⟩, s0⟩ := R0
  dsimp only at hp1 hp0
  have hq0 : endS (l.take k ++ skipIns n :: l.drop k) 0 = ((o0, m0), (s0 : Int)) := by
    have a := hp0.1
    have b := hp0.2
    push_cast at a b
    exact Prod.ext a.symm b.symm
  have hq1 : (if goesOn (l.take k) = true then endS ((l.drop k).drop (skipIns n).n.toNat) ((l.take k).length + 1) else endS (l.take k ++ skipIns n :: l.drop k) 0) = ((o1, m1), (s1 : Int)) := Prod.ext hp1.1.symm hp1.2.symm
  have hb1 : (s1 : Int) ≤ 200 := by
    rw [hp1.2]
    split
    · omega
    · omega
  have hb0 : (s0 : Int) ≤ 200 := by rw [hq0] at hg0; simp at hg0; omega
  rw [hq1, hq0] at hw
  exact ⟨o1, m1, s1, o0, m0, s0, max s1 s0, rfl, rfl, by omega, by omega, by omega, by omega, rfl, hw, by omega, by omega, fun _ => rfl⟩

theorem ways_contract {wx : World} {v : Value} {x : List Ins} {id o1 m1 s1 o0 m0 s0 M : Int} (hv : CodeV wx v x) (hfit : ∀ k (h : k < x.length), x[k].Fit) (hm : mayBlk id x = true) (h : WaysBy o1 m1 s1 o0 m0 s0 M x) (V : World) (hb : Below wx.heap.size wx V) :
    Calls Try.prog 15 #[.agg #[.int .i64 id, v]] V fun e w' => ∃ (g cp : Nat) (L : List Wy) (nL : Nat), e = .returned (.slice (some ⟨g, 0, none⟩) nL cp) ∧ nL = L.length ∧ WRow w' (.slice (some ⟨g, 0, none⟩) nL cp) L ∧
      ((o1 = o0 ∧ m1 = m0 ∧ L = [⟨o0, m0, M⟩]) ∨ (¬ (o1 = o0 ∧ m1 = m0) ∧ L.length = 2 ∧ toldF L o1 m1 = s1 ∧ toldF L o0 m0 = s0)) ∧ Below V.heap.size V w' := by
  refine (ways_any v x V id (codeV_below hv hb) hfit hm).mono ?_
  rintro e w' ⟨r, rfl, g, cp, d, rfl, hrow, _, hbl⟩
  obtain ⟨h1, h2, h3, h4⟩ := h
  refine ⟨g, cp, d.toList, d.size, rfl, by simp, wrow_of (cp := cp) hrow, ?_, hbl⟩
  rcases ways_two hrow.mem hrow.nodup _ _ h3 h2 h1 with ⟨he, s, hL, hs⟩ | ⟨he, hL, ha, hb⟩
  · simp only [Prod.mk.injEq] at he
    refine Or.inl ⟨he.1, he.2, ?_⟩
    rw [hL, hs, h4 he]
  · refine Or.inr ⟨fun h => he (by rw [h.1, h.2]), hL, ha, hb⟩

theorem made_true (w : World) (k : Nat) : Blk (w.alloc (.cells ((madeCells #[.bool false] (k + 1)).setIfInBounds k (.bool true)) 4)) w.heap.size 4 (rowA (fun i => .bool (decide (i = k))) (k + 1)) := by
  refine (heap_alloc_new _ _).trans (congrArg (fun c => some (Obj.cells c 4 (0, 0))) ?_)
  rw [madeCells_row, rowA_set _ _ _ _ (by omega)]
  refine rowA_congr fun j _ => ?_
  by_cases h : j = k <;> simp [h]

theorem skipOk_of {id : Int} {x : List Ins} (hm : mayBlk id x = true) : skipOk x := by
  unfold mayBlk at hm
  simp only [Bool.and_eq_true] at hm
  intro k hk ho
  have h := okFrom_at hm.2 hk
  unfold okOne at h
  simp only [Bool.and_eq_true, ho, beq_self_eq_true, Bool.true_and, Bool.not_eq_true', decide_eq_false_iff_not] at h
  have := skip_n h.1 ho
  omega

def runT (o m : Int) (s : Nat) : Value := .tuple #[.int .u8 o, .int .i64 m, .int .i64 s]
theorem run1_contract {wx Y : World} {v : Value} {x : List Ins} {k g2 : Nat} {o m : Int} {s : Nat} (hv : CodeV wx v x) (hr : runF x (fun s => decide (s = k)) (x.length + 1) 0 0 = ((o, m), s)) (hl : x.length ≤ 32) (hs : skipOk x) (hb : Below wx.heap.size wx Y)
    (hY : Blk Y g2 4 (rowA (fun i => .bool (decide (i = k))) (k + 1))) (hk : k ≤ 100 := by omega) :
    Calls Try.prog 16 #[v, .slice (some ⟨g2, 0, none⟩) (k + 1) (k + 1)] Y fun e w' => e = .returned (.tuple #[.int .u8 o, .int .i64 m, .int .i64 s]) ∧ Below Y.heap.size Y w' := by
  have h := run_any v x (some ⟨g2, 0, none⟩) (k + 1) (k + 1) (fun s => decide (s = k)) Y (codeV_below hv hb) (by omega) hs ⟨fun s hs => ⟨g2, 0, rfl, hY.lt, by
    rw [Nat.zero_add, hY.cell, rowA_get _ _ _ hs]⟩, fun s hs => by simp; omega⟩ (by omega)
  rw [hr] at h
  exact h
theorem run0_contract {wx : World} {v : Value} {x : List Ins} {o m : Int} {s : Nat} (hv : CodeV wx v x) (hr : runF x (fun _ => false) (x.length + 1) 0 0 = ((o, m), s)) (hl : x.length ≤ 32) (hs : skipOk x) (V : World) (hb : Below wx.heap.size wx V) :
    Calls Try.prog 16 #[v, .slice none 0 0] V fun e w' => e = .returned (.tuple #[.int .u8 o, .int .i64 m, .int .i64 s]) ∧ Below V.heap.size V w' := by
  have h := run_any v x none 0 0 (fun _ => false) V (codeV_below hv hb) (by omega) hs ⟨fun s hs => absurd hs (by omega), fun _ _ => rfl⟩ (by omega)
  rw [hr] at h
  exact h
theorem told_contract {w7 : World} {L : List Wy} {o m M : Int} {g2 cp2 nL : Nat} (hrow : WRow w7 (.slice (some ⟨g2, 0, none⟩) nL cp2) L) (hn : nL = L.length) (ht : toldF L o m = M) (hl : L.length ≤ 100) (V : World) (hb : Below w7.heap.size w7 V) :
    Calls Try.prog 17 #[.slice (some ⟨g2, 0, none⟩) nL cp2, .int .u8 o, .int .i64 m] V fun e w' => e = .returned (.int .i64 M) ∧ Below V.heap.size V w' := by
  rw [← ht]
  exact told_any _ L o m V (wrow_below hrow hb) (by omega)
theorem wrow_head {w : World} {g cp : Nat} {x : Wy} (h : WRow w (.slice (some ⟨g, 0, none⟩) 1 cp) [x]) : g < w.heap.size ∧ w.cell? ⟨g, 2, none⟩ = some (.int .i64 x.s) := by
  obtain ⟨a, c, e, h⟩ := h
  obtain ⟨g', off', ha, hl, _, _, hs⟩ := h 0 (by simp)
  simp only [Value.slice.injEq, List.length_cons, List.length_nil] at e
  rw [ha] at e
  simp at e
  obtain ⟨⟨rfl, rfl⟩, _⟩ := e
  exact ⟨hl, by simpa using hs⟩

theorem info_ins : (Try.prog.info? 26).map (fun i => (i.zero, i.size, i.bytes)) = some (some (.agg #[.int .u8 0, .int .i64 0, .int .u8 0, .int .u64 0, .int .u8 0, .int .u64 0, .int .i64 0]), 7, 56) := by kernel_rfl

theorem place_k (at_ : Int) (n : Nat) (hn : n ≤ 31) : ∃ k : Nat, k ≤ n ∧ wrap64 ((IntKind.u64.wrap at_).tmod ((n : Int) + 1)) = k := by
  have h0 : 0 ≤ IntKind.u64.wrap at_ := by
    show 0 ≤ at_ % _
    exact Int.emod_nonneg _ (by decide)
  generalize IntKind.u64.wrap at_ = a at *
  rw [Int.tmod_eq_emod_of_nonneg h0]
  have h1 := Int.emod_nonneg a (show (n : Int) + 1 ≠ 0 by omega)
  have h2 := Int.emod_lt_of_pos a (show (0 : Int) < n + 1 by omega)
  refine ⟨(a % ((n : Int) + 1)).toNat, by omega, ?_⟩
  unfold wrap64
  omega

theorem cell_close7 (tm : Array Value) (W : World) {g : Nat} {a : Int} {cs : Array Value} (h2 : tm[2]?.getD undef = .pointer (some ⟨g, 0, none⟩)) (h : Blk W g 26 cs)
    (he : cs = #[.int .u8 12, .int .i64 1, .int .u8 1, .int .u64 5, .int .u8 4, .int .u64 0, .int .i64 a] := by rfl) :
    (results Try.f14 tm).run Try.prog W = .ok (.agg #[.int .u8 12, .int .i64 1, .int .u8 1, .int .u64 5, .int .u8 4, .int .u64 0, .int .i64 a]) W := by
  subst he
  have c := fun i => h.cell i
  have c0 := c 0
  have c1 := c 1
  have c2 := c 2
  have c3 := c 3
  have c4 := c 4
  have c5 := c 5
  have c6 := c 6
  simp at c0 c1 c2 c3 c4 c5 c6
  simp [results, Try.results14, go_sem, h2, c0, c1, c2, c3, c4, c5, c6]

set_option maxRecDepth 100000 in
set_option maxHeartbeats 2000000 in
theorem one_skip (w : World) : Calls Try.prog 14 #[.int .u8 12] w fun e w' => e = .returned (.agg #[.int .u8 12, .int .i64 1, .int .u8 1, .int .u64 5, .int .u8 4, .int .u64 0, .int .i64 1]) ∧ Below w.heap.size w w' := by
  have hnum := num_any
  go_enter Try.func14, Try.ntmps14
  go_wp2_with (go_at_call 46; refine (hnum _ _).mono ?_; rintro e w1 ⟨rfl, hb1⟩; obtain ⟨hc1, hf1⟩ := bcell hb1; have hz1 : w.heap.size + 1 < w1.heap.size := (by have := hb1.size; simp at this; omega))
  have hB0 : Blk w1 w.heap.size 26 #[.int .u8 0, .int .i64 0, .int .u8 0, .int .u64 0, .int .u8 0, .int .u64 0, .int .i64 0] :=
    (hb1.block _ (by simp; omega)).trans ((heap_alloc_old _ _ (by simp)).trans (heap_alloc_new _ _))
  have hz0 : w.heap.size ≠ w.heap.size + 1 := by omega
  have a1 := hB0.far (p := ⟨w.heap.size + 1, 1, none⟩) hz0 (.int .i64 1)
  have a2 := a1.far (p := ⟨w.heap.size + 1, 2, none⟩) hz0 (.int .u8 1)
  have a3 := a2.far (p := ⟨w.heap.size + 1, 3, none⟩) hz0 (.int .u64 5)
  have a4 := a3.far (p := ⟨w.heap.size + 1, 4, none⟩) hz0 (.int .u8 4)
  have a5 := a4.far (p := ⟨w.heap.size + 1, 5, none⟩) hz0 (.int .u64 0)
  have a6 := a5.far (p := ⟨w.heap.size + 1, 6, none⟩) hz0 (.int .i64 1)
  have b0 := a6.set_ 0 (.int .u8 12)
  have b1 := b0.set_ 1 (.int .i64 1)
  have b2 := b1.set_ 2 (.int .u8 1)
  have b3 := b2.set_ 3 (.int .u64 5)
  have b4 := b3.set_ 4 (.int .u8 4)
  have b5 := b4.set_ 5 (.int .u64 0)
  have b6 := b5.set_ 6 (.int .i64 1)
  refine bodyPost_ret (v := .agg #[.int .u8 12, .int .i64 1, .int .u8 1, .int .u64 5, .int .u8 4, .int .u64 0, .int .i64 1]) (cell_close7 _ _ rfl b6) rfl ⟨rfl, ?_⟩
  have hbb : Below w.heap.size w w1 := below_then hb1 (below_al (below_al (Below.refl _ _) (Nat.le_refl _)) (by simp)) (by simp; try omega)
  exact (((((((((((((hbb.setCell (p := ⟨w.heap.size + 1, 1, none⟩) (by simp) _).setCell (p := ⟨w.heap.size + 1, 2, none⟩) (by simp) _).setCell (p := ⟨w.heap.size + 1, 3, none⟩) (by simp) _).setCell (p := ⟨w.heap.size + 1, 4, none⟩) (by simp) _).setCell (p := ⟨w.heap.size + 1, 5, none⟩) (by simp) _).setCell (p := ⟨w.heap.size + 1, 6, none⟩) (by simp) _).setCell (p := ⟨w.heap.size, 0, none⟩) (by simp) _).setCell (p := ⟨w.heap.size, 1, none⟩) (by simp) _).setCell (p := ⟨w.heap.size, 2, none⟩) (by simp) _).setCell (p := ⟨w.heap.size, 3, none⟩) (by simp) _).setCell (p := ⟨w.heap.size, 4, none⟩) (by simp) _).setCell (p := ⟨w.heap.size, 5, none⟩) (by simp) _).setCell (p := ⟨w.heap.size, 6, none⟩) (by simp) _)

set_option maxRecDepth 100000 in
set_option maxHeartbeats 8000000 in
theorem skips_main (id at_ n : Int) (ca : Option Addr) (ccap : Nat) (l : List Ins) (w : World) (hcap : l.length ≤ ccap) (hn64 : -9223372036854775808 ≤ n ∧ n ≤ 9223372036854775807) (hv : CodeV w (.slice ca l.length ccap) l) (hfit : ∀ k (h : k < l.length), l[k].Fit) (hl : l.length ≤ 31) (hm : mayBlk id l = true) (hs : noSkip l) :
    Calls Try.prog 4 #[.agg #[.int .i64 id, .slice ca l.length ccap], .int .i64 at_, .int .i64 n] w fun e w' => e = .returned (.bool true) ∧ Below w.heap.size w w' := by
  have hmb := fun V hb => mayBlock_any (.slice ca l.length ccap) l V id (codeV_below (w' := V) hv hb) hfit (by omega)
  rw [hm] at hmb
  have HC := Lib.hid (codeV_or hv)
  have HMB := Lib.hid hmb
  have HS := Lib.hid hs
  have HMY := Lib.hid hm
  clear hv hmb hm hs
  go_enter Try.func4, Try.ntmps4
  go_upto_region 5 with (first
    | (go_at_call 13; go_loud (have hbX : Below w.heap.size w w1 := (below_then hb1 (below_al (Below.refl _ _) (Nat.le_refl _)) (by simp)); refine (HMB.out _ hbX).mono ?_); rintro e w2 ⟨rfl, hb2⟩; obtain ⟨hc2, hf2⟩ := bcell hb2; have hz2 : w.heap.size < w2.heap.size := (by have := hb2.size; (try simp at this); omega))
    | (go_at_call 11; refine (awake_any _).mono ?_; rintro e w1 ⟨rfl, hb1⟩; obtain ⟨hc1, hf1⟩ := bcell hb1; have hz1 : w.heap.size < w1.heap.size := (by have := hb1.size; simp at this; omega)))
  go_wp2
  go_loop [7] (fun i => ∃ k : Nat, k ≤ l.length ∧ i = .int .i64 k) (fun i => l.length - (intOf i).toNat)
  case atStart => exact ⟨0, by omega, rfl⟩
  case round =>
    obtain ⟨k, hk, rfl⟩ := hrel
    by_cases hlt : k < l.length
    · rcases HC.out with h | ⟨blk, off, rfl, hc⟩
      · subst h; simp at hlt
      have hwb := hc.lt
      have q0 := hc.c0 k hlt
      have b12 : (l[k].op == 12) = false := by have := HS.out l[k] (List.getElem_mem _); simpa using this
      have Q0 : w2.cell? ⟨blk, off + k * 7, none⟩ = some (.int .u8 l[k].op) := (hc2 _ _ (by omega)).trans ((hc1 _ _ (by simp; omega)).trans ((World.cell?_alloc_lt _ _ _ (by simpa using hwb)).trans q0))
      clear hc q0
      generalize l[k].op = op at *
      go_wp2
      go_round
      case rel => exact ⟨k + 1, by omega, by simp⟩
      case measure => simp [intOf]; omega
    · have hke : k = l.length := by omega
      subst hke
      go_upto_region 12 with (go_at_call 14; refine (one_skip _).mono ?_; rintro e w3 ⟨rfl, hb3⟩; obtain ⟨hc3, hf3⟩ := bcell hb3; have hz3 : w.heap.size < w3.heap.size := (by have := hb3.size; (try simp at this); omega))
      go_wp2
      obtain ⟨W, hW⟩ : ∃ W, W = w3.alloc (.cells #[.int .u8 12, .int .i64 1, .int .u8 1, .int .u64 5, .int .u8 4, .int .u64 0, .int .i64 n] 26) := ⟨_, rfl⟩
      rw [← hW]
      have hSk : Blk W w3.heap.size 26 #[.int .u8 12, .int .i64 1, .int .u8 1, .int .u64 5, .int .u8 4, .int .u64 0, .int .i64 n] := by rw [hW]; exact Blk.new _ _ _
      have hbW : Below w.heap.size w W := by
        rw [hW]
        exact below_al (below_then hb3 (below_then hb2 (below_then hb1 (below_al (Below.refl _ _) (Nat.le_refl _)) (by simp)) (by omega)) (by omega)) (by omega)
      have hBx : Blk W w.heap.size 36 #[.int .i64 id, .slice ca l.length ccap] := by
        rw [hW]
        refine Blk.alloc ?_ _
        have k0 : Blk w1 w.heap.size 36 #[.int .i64 id, .slice ca l.length ccap] := (hb1.block _ (by simp)).trans (heap_alloc_new _ _)
        exact Blk.below (Blk.below k0 hb2 (by omega)) hb3 (by omega)
      have hz9 : w3.heap.size < W.heap.size := hSk.lt
      have hzb : w.heap.size < W.heap.size := hBx.lt
      have qb0 : W.cell? ⟨w.heap.size, 0, none⟩ = some (.int .i64 id) := by simpa using hBx.cell 0
      have qb1 : W.cell? ⟨w.heap.size, 1, none⟩ = some (.slice ca l.length ccap) := by simpa using hBx.cell 1
      have qs0 : W.cell? ⟨w3.heap.size, 0, none⟩ = some (.int .u8 12) := by simpa using hSk.cell 0
      have qs1 : W.cell? ⟨w3.heap.size, 1, none⟩ = some (.int .i64 1) := by simpa using hSk.cell 1
      have qs2 : W.cell? ⟨w3.heap.size, 2, none⟩ = some (.int .u8 1) := by simpa using hSk.cell 2
      have qs3 : W.cell? ⟨w3.heap.size, 3, none⟩ = some (.int .u64 5) := by simpa using hSk.cell 3
      have qs4 : W.cell? ⟨w3.heap.size, 4, none⟩ = some (.int .u8 4) := by simpa using hSk.cell 4
      have qs5 : W.cell? ⟨w3.heap.size, 5, none⟩ = some (.int .u64 0) := by simpa using hSk.cell 5
      have qs6 : W.cell? ⟨w3.heap.size, 6, none⟩ = some (.int .i64 n) := by simpa using hSk.cell 6
      obtain ⟨k, hk, ek⟩ := place_k at_ l.length hl
      rw [ek]
      obtain ⟨i0, hi, hi0, hi1, hi2⟩ := info_parts info_ins
      have HR0 := reads_take (w := w) (W := W) (ca := ca) (l := l) k hk HC.out hbW (Nat.le_of_lt hzb)
      have HR1 := reads_drop (w := w) (W := W) (ca := ca) (cap := ccap) (l := l) k hk hcap HC.out hbW (Nat.le_of_lt hzb)
      have hlt0 : (0 : Int) ≤ k := by omega
      have hlt1 : (k : Int) ≤ ccap := by omega
      have hlt2 : (k : Int) ≤ l.length := by omega
      generalize hT : l.take k = lt at HR0
      generalize hD : l.drop k = ld at HR1
      have HTT := Lib.hid hT
      have HDD := Lib.hid hD
      have HI := Lib.hid hi
      have HI0 := Lib.hid hi0
      have HI1 := Lib.hid hi1
      have HI2 := Lib.hid hi2
      clear hT hD hc1 hf1 hc2 hf2 hc3 hf3 hSk hBx ek hi hi0 hi1 hi2
      go_cut [10] (fun bx wx => ∃ gx g78 cp78 : Nat, bx = .pointer (some ⟨gx, 0, none⟩) ∧ SkipSt id n l k W wx gx g78 cp78)
      case first =>
        clear HMB HC
--[[
        have hR : St W.heap.size 26 7 36 (codes [skipIns n]).toArray #[.int .i64 0, .slice none 0 0] W W.drew none none none := St.start (Below.refl _ _).drew (Nat.le_refl _)
        refine start_ (n := 19) (S := fun w' => w'.cell? ⟨w.heap.size, 0, none⟩ = some (.int .i64 id) ∧ w'.cell? ⟨w.heap.size, 1, none⟩ = some (.slice ca l.length ccap) ∧ w'.cell? ⟨w3.heap.size, 0, none⟩ = some (.int .u8 12) ∧ w'.cell? ⟨w3.heap.size, 1, none⟩ = some (.int .i64 1) ∧ w'.cell? ⟨w3.heap.size, 2, none⟩ = some (.int .u8 1) ∧ w'.cell? ⟨w3.heap.size, 3, none⟩ = some (.int .u64 5) ∧ w'.cell? ⟨w3.heap.size, 4, none⟩ = some (.int .u8 4) ∧ w'.cell? ⟨w3.heap.size, 5, none⟩ = some (.int .u64 0) ∧ w'.cell? ⟨w3.heap.size, 6, none⟩ = some (.int .i64 n)) (ds := []) #[false, false, false, false, false, false, false, false, false, false, false, false, false, false, false, false, false, false, false] (by kernel_rfl) rfl rfl ⟨qb0, qb1, qs0, qs1, qs2, qs3, qs4, qs5, qs6⟩ (fun hHeld => ?_)
        generalize W.drew = w7 at *
        refine pure_ (i := 0) (N := some 63) (v := ?_) (a' := ?_) #[true, false, false, false, false, false, false, false, false, false, false, false, false, false, false, false, false, false, false] rfl rfl (by kernel_rfl) (fun _ _ _ h => h) (Or.inl ⟨by rfl, ?_⟩) ?_ ?_
        rotate_left
        · intro w'
          go_simp
          with_reducible rfl
        rotate_left
        · simp only [Act.put, List.setIfInBounds_toArray, List.set_cons_zero, List.set_cons_succ, i64_w, i32_w]
          rfl
        refine pure_ (i := 3) (N := some 66) (v := ?_) (a' := ?_) #[true, false, false, true, false, false, false, false, false, false, false, false, false, false, false, false, false, false, false] rfl rfl (by kernel_rfl) (fun _ _ _ h => h) (Or.inl ⟨by rfl, ?_⟩) ?_ ?_
        rotate_left
        · intro w'
          go_simp
          with_reducible rfl
        rotate_left
        · simp only [Act.put, List.setIfInBounds_toArray, List.set_cons_zero, List.set_cons_succ, i64_w, i32_w]
          rfl
        refine pure_ (i := 5) (N := some 68) (v := ?_) (a' := ?_) #[true, false, false, true, false, true, false, false, false, false, false, false, false, false, false, false, false, false, false] rfl rfl (by kernel_rfl) (fun _ _ _ h => h) (Or.inl ⟨by rfl, ?_⟩) ?_ ?_
        rotate_left
        · intro w'
          go_simp
          with_reducible rfl
        rotate_left
        · simp only [Act.put, List.setIfInBounds_toArray, List.set_cons_zero, List.set_cons_succ, i64_w, i32_w]
          rfl
        refine pure_ (i := 11) (N := some 74) (v := ?_) (a' := ?_) #[true, false, false, true, false, true, false, false, false, false, false, true, false, false, false, false, false, false, false] rfl rfl (by kernel_rfl) (fun _ _ _ h => h) (Or.inl ⟨by rfl, ?_⟩) ?_ ?_
        rotate_left
        · intro w'
          go_simp
          with_reducible rfl
        rotate_left
        · simp only [Act.put, List.setIfInBounds_toArray, List.set_cons_zero, List.set_cons_succ, i64_w, i32_w]
          rfl
        refine pure_ (i := 13) (N := some 76) (v := ?_) (a' := ?_) #[true, false, false, true, false, true, false, false, false, false, false, true, false, true, false, false, false, false, false] rfl rfl (by kernel_rfl) (fun _ _ _ h => h) (Or.inl ⟨by rfl, ?_⟩) ?_ ?_
        rotate_left
        · intro w'
          go_simp
          with_reducible rfl
        rotate_left
        · simp only [Act.put, List.setIfInBounds_toArray, List.set_cons_zero, List.set_cons_succ, i64_w, i32_w]
          rfl
        refine take_ (i := 1) (N := some 64) (v := ?_) (a' := ?_) #[true, true, false, true, false, true, false, false, false, false, false, true, false, true, false, false, false, false, false] rfl rfl (by kernel_rfl) (fun _ _ _ h => h) (Or.inl ⟨by rfl, ?_⟩) hHeld ?_ ?_
        rotate_left
        · rintro w' ⟨s0, s1, s2, s3, s4, s5, s6, s7, s8⟩
          go_simp
          with_reducible rfl
        rotate_left
        · simp only [Act.put, List.setIfInBounds_toArray, List.set_cons_zero, List.set_cons_succ, i64_w, i32_w]
          rfl
        refine take_ (i := 4) (N := some 67) (v := ?_) (a' := ?_) #[true, true, false, true, true, true, false, false, false, false, false, true, false, true, false, false, false, false, false] rfl rfl (by kernel_rfl) (fun _ _ _ h => h) (Or.inl ⟨by rfl, ?_⟩) hHeld ?_ ?_
        rotate_left
        · rintro w' ⟨s0, s1, s2, s3, s4, s5, s6, s7, s8⟩
          go_simp
          with_reducible rfl
        rotate_left
        · simp only [Act.put, List.setIfInBounds_toArray, List.set_cons_zero, List.set_cons_succ, i64_w, i32_w]
          rfl
        refine pure_ (i := 6) (N := some 69) (v := ?_) (a' := ?_) #[true, true, false, true, true, true, true, false, false, false, false, true, false, true, false, false, false, false, false] rfl rfl (by kernel_rfl) (fun _ _ _ h => h) (Or.inl ⟨by rfl, ?_⟩) ?_ ?_
        rotate_left
        · intro w'
          go_simp
          with_reducible rfl
        rotate_left
        · simp only [Act.put, List.setIfInBounds_toArray, List.set_cons_zero, List.set_cons_succ, i64_w, i32_w]
          rfl
        refine take_ (i := 8) (N := some 71) (v := ?_) (a' := ?_) #[true, true, false, true, true, true, true, false, true, false, false, true, false, true, false, false, false, false, false] rfl rfl (by kernel_rfl) (fun _ _ _ h => h) (Or.inl ⟨by rfl, ?_⟩) hHeld ?_ ?_
        rotate_left
        · rintro w' ⟨s0, s1, s2, s3, s4, s5, s6, s7, s8⟩
          go_simp
          with_reducible rfl
        rotate_left
        · simp only [Act.put, List.setIfInBounds_toArray, List.set_cons_zero, List.set_cons_succ, i64_w, i32_w]
          rfl
        refine take_ (i := 12) (N := some 75) (v := ?_) (a' := ?_) #[true, true, false, true, true, true, true, false, true, false, false, true, true, true, false, false, false, false, false] rfl rfl (by kernel_rfl) (fun _ _ _ h => h) (Or.inl ⟨by rfl, ?_⟩) hHeld ?_ ?_
        rotate_left
        · rintro w' ⟨s0, s1, s2, s3, s4, s5, s6, s7, s8⟩
          go_simp
          with_reducible rfl
        rotate_left
        · simp only [Act.put, List.setIfInBounds_toArray, List.set_cons_zero, List.set_cons_succ, i64_w, i32_w]
          rfl
        refine pure_ (i := 14) (N := some 77) (v := ?_) (a' := ?_) #[true, true, false, true, true, true, true, false, true, false, false, true, true, true, true, false, false, false, false] rfl rfl (by kernel_rfl) (fun _ _ _ h => h) (Or.inl ⟨by rfl, ?_⟩) ?_ ?_
        rotate_left
        · intro w'
          go_simp
          with_reducible rfl
        rotate_left
        · simp only [Act.put, List.setIfInBounds_toArray, List.set_cons_zero, List.set_cons_succ, i64_w, i32_w]
          rfl
        refine join_ (σ := Nat × Value × Nat × Value × Nat × Nat × Nat) 1 #[true, true, true, true, true, true, true, true, true, true, true, true, true, true, true, true, true, true, false] (fun (s : Nat × Value × Nat × Value × Nat × Nat × Nat) => [(65, .slice (some ⟨s.1, 0, none⟩) 0 0), (70, s.2.1), (72, .slice (some ⟨s.2.2.1, 0, none⟩) 1 1), (73, s.2.2.2.1), (78, .slice (some ⟨s.2.2.2.2.1, 0, none⟩) (l.length + 1) s.2.2.2.2.2.1), (79, .agg #[.int .i64 id, .slice (some ⟨s.2.2.2.2.1, 0, none⟩) (l.length + 1) s.2.2.2.2.2.1]), (10, .pointer (some ⟨s.2.2.2.2.2.2, 0, none⟩))]) (fun (s : Nat × Value × Nat × Value × Nat × Nat × Nat) w' => St W.heap.size 26 7 36 (codes [skipIns n]).toArray #[.int .i64 0, .slice none 0 0] W w' (some (.slice (some ⟨s.2.2.2.2.1, 0, none⟩) (l.length + 1) s.2.2.2.2.2.1, (l.length + 1), (codes lt ++ codes [skipIns n] ++ codes ld))) (some s.2.2.1) (some s.2.2.2.2.2.2)) ?_ ?_
        rotate_left
        · intro hCont
          refine three_ (i := 2) (j := 9) (k := 17) (Ni := some 65) (Nj := some 72) (Nk := some 10) #[true, true, true, true, true, true, true, false, true, false, false, true, true, true, true, false, false, false, false] #[true, true, false, true, true, true, true, false, true, true, false, true, true, true, true, false, false, false, false] #[true, true, false, true, true, true, true, false, true, false, false, true, true, true, true, false, false, true, false] rfl rfl rfl rfl rfl rfl (by kernel_rfl) (by decide) (by decide) (by decide) (fun K hK => ?_) (fun K hK => ?_) (fun K hK => ?_)
          · skip
            refine value_ (w1 := ?_) (v := ?_) (by rfl) rfl ?_ ?_
            rotate_left 2
            · go_simp
              constructor
              · rfl
              · rfl
            refine St.arm_row hR ?_
            clear hR
            intro g65 w7 hR
            refine hK.out _ _ ⟨((hR.below).cell (p := ⟨w.heap.size, 0, none⟩) hzb).trans qb0, ((hR.below).cell (p := ⟨w.heap.size, 1, none⟩) hzb).trans qb1, ((hR.below).cell (p := ⟨w3.heap.size, 0, none⟩) hz9).trans qs0, ((hR.below).cell (p := ⟨w3.heap.size, 1, none⟩) hz9).trans qs1, ((hR.below).cell (p := ⟨w3.heap.size, 2, none⟩) hz9).trans qs2, ((hR.below).cell (p := ⟨w3.heap.size, 3, none⟩) hz9).trans qs3, ((hR.below).cell (p := ⟨w3.heap.size, 4, none⟩) hz9).trans qs4, ((hR.below).cell (p := ⟨w3.heap.size, 5, none⟩) hz9).trans qs5, ((hR.below).cell (p := ⟨w3.heap.size, 6, none⟩) hz9).trans qs6⟩ (fun hHeld => ?_)
            clear hK K
            refine norm_ (a' := ?_) ?_ ?_
            rotate_left
            · show Act.put _ (some 65) _ = _
              simp only [Act.put, List.setIfInBounds_toArray, List.set_cons_zero, List.set_cons_succ, i64_w, i32_w]
              rfl
            refine three_ (i := 7) (j := 9) (k := 17) (Ni := some 70) (Nj := some 72) (Nk := some 10) #[true, true, true, true, true, true, true, true, true, false, false, true, true, true, true, false, false, false, false] #[true, true, true, true, true, true, true, false, true, true, false, true, true, true, true, false, false, false, false] #[true, true, true, true, true, true, true, false, true, false, false, true, true, true, true, false, false, true, false] rfl rfl rfl rfl rfl rfl (by kernel_rfl) (by decide) (by decide) (by decide) (fun K hK => ?_) (fun K hK => ?_) (fun K hK => ?_)
            · skip
              refine step_append_any _ rfl (.tmp 65) (.tmp 69) 34 rfl W.heap.size 26 i0 (.agg #[.int .u8 0, .int .i64 0, .int .u8 0, .int .u64 0, .int .u8 0, .int .u64 0, .int .i64 0]) 7 56 Try.underlying34 HI.out HI0.out HI1.out HI2.out rfl (by decide) _ 0 [] rfl (hR.row _ _ _ rfl) _ ca k _ (codes lt) rfl ((HR0.below hR.below)) (codes_one _) (by unfold maxLen; omega) (by omega) hR.hB ?_
              intro v70 w7 ho hg hv
              rw [Nat.zero_add, List.nil_append] at ho
              replace hR := hR.grow (by decide) ho hg hv
              clear ho hg hv
              refine hK.out _ _ ⟨((hR.below).cell (p := ⟨w.heap.size, 0, none⟩) hzb).trans qb0, ((hR.below).cell (p := ⟨w.heap.size, 1, none⟩) hzb).trans qb1, ((hR.below).cell (p := ⟨w3.heap.size, 0, none⟩) hz9).trans qs0, ((hR.below).cell (p := ⟨w3.heap.size, 1, none⟩) hz9).trans qs1, ((hR.below).cell (p := ⟨w3.heap.size, 2, none⟩) hz9).trans qs2, ((hR.below).cell (p := ⟨w3.heap.size, 3, none⟩) hz9).trans qs3, ((hR.below).cell (p := ⟨w3.heap.size, 4, none⟩) hz9).trans qs4, ((hR.below).cell (p := ⟨w3.heap.size, 5, none⟩) hz9).trans qs5, ((hR.below).cell (p := ⟨w3.heap.size, 6, none⟩) hz9).trans qs6⟩ (fun hHeld => ?_)
              clear hK K
              refine norm_ (a' := ?_) ?_ ?_
              rotate_left
              · show Act.put _ (some 70) _ = _
                simp only [Act.put, List.setIfInBounds_toArray, List.set_cons_zero, List.set_cons_succ, i64_w, i32_w]
                rfl
              refine two_ (i := 9) (j := 17) (Ni := some 72) (Nj := some 10) #[true, true, true, true, true, true, true, true, true, true, false, true, true, true, true, false, false, false, false] #[true, true, true, true, true, true, true, true, true, false, false, true, true, true, true, false, false, true, false] rfl rfl rfl rfl (by kernel_rfl) (by decide) (by decide) (fun K hK => ?_) (fun K hK => ?_)
              · skip
                refine value_ (w1 := ?_) (v := ?_) (by rfl) rfl ?_ ?_
                rotate_left 2
                · go_simp
                  constructor
                  · rfl
                  · rfl
                refine St.arm_one hR ?_
                clear hR
                intro g72 w7 hR
                refine hK.out _ _ ⟨((hR.below).cell (p := ⟨w.heap.size, 0, none⟩) hzb).trans qb0, ((hR.below).cell (p := ⟨w.heap.size, 1, none⟩) hzb).trans qb1, ((hR.below).cell (p := ⟨w3.heap.size, 0, none⟩) hz9).trans qs0, ((hR.below).cell (p := ⟨w3.heap.size, 1, none⟩) hz9).trans qs1, ((hR.below).cell (p := ⟨w3.heap.size, 2, none⟩) hz9).trans qs2, ((hR.below).cell (p := ⟨w3.heap.size, 3, none⟩) hz9).trans qs3, ((hR.below).cell (p := ⟨w3.heap.size, 4, none⟩) hz9).trans qs4, ((hR.below).cell (p := ⟨w3.heap.size, 5, none⟩) hz9).trans qs5, ((hR.below).cell (p := ⟨w3.heap.size, 6, none⟩) hz9).trans qs6⟩ (fun hHeld => ?_)
                clear hK K
                refine norm_ (a' := ?_) ?_ ?_
                rotate_left
                · show Act.put _ (some 72) _ = _
                  simp only [Act.put, List.setIfInBounds_toArray, List.set_cons_zero, List.set_cons_succ, i64_w, i32_w]
                  rfl
                refine two_ (i := 10) (j := 17) (Ni := some 73) (Nj := some 10) #[true, true, true, true, true, true, true, true, true, true, true, true, true, true, true, false, false, false, false] #[true, true, true, true, true, true, true, true, true, true, false, true, true, true, true, false, false, true, false] rfl rfl rfl rfl (by kernel_rfl) (by decide) (by decide) (fun K hK => ?_) (fun K hK => ?_)
                · skip
                  refine step_append_any _ rfl (.tmp 70) (.tmp 72) 34 rfl W.heap.size 26 i0 (.agg #[.int .u8 0, .int .i64 0, .int .u8 0, .int .u64 0, .int .u8 0, .int .u64 0, .int .i64 0]) 7 56 Try.underlying34 HI.out HI0.out HI1.out HI2.out rfl (by decide) _ k (codes lt) rfl (hR.row _ _ _ rfl) _ _ 1 1 (codes [skipIns n]) rfl (hR.reads_one rfl) (codes_one _) (by unfold maxLen; omega) (by omega) hR.hB ?_
                  intro v73 w7 ho hg hv
                  skip
                  replace hR := hR.grow (by decide) ho hg hv
                  clear ho hg hv
                  refine hK.out _ _ ⟨((hR.below).cell (p := ⟨w.heap.size, 0, none⟩) hzb).trans qb0, ((hR.below).cell (p := ⟨w.heap.size, 1, none⟩) hzb).trans qb1, ((hR.below).cell (p := ⟨w3.heap.size, 0, none⟩) hz9).trans qs0, ((hR.below).cell (p := ⟨w3.heap.size, 1, none⟩) hz9).trans qs1, ((hR.below).cell (p := ⟨w3.heap.size, 2, none⟩) hz9).trans qs2, ((hR.below).cell (p := ⟨w3.heap.size, 3, none⟩) hz9).trans qs3, ((hR.below).cell (p := ⟨w3.heap.size, 4, none⟩) hz9).trans qs4, ((hR.below).cell (p := ⟨w3.heap.size, 5, none⟩) hz9).trans qs5, ((hR.below).cell (p := ⟨w3.heap.size, 6, none⟩) hz9).trans qs6⟩ (fun hHeld => ?_)
                  clear hK K
                  refine norm_ (a' := ?_) ?_ ?_
                  rotate_left
                  · show Act.put _ (some 73) _ = _
                    simp only [Act.put, List.setIfInBounds_toArray, List.set_cons_zero, List.set_cons_succ, i64_w, i32_w]
                    rfl
                  refine two_ (i := 15) (j := 17) (Ni := some 78) (Nj := some 10) #[true, true, true, true, true, true, true, true, true, true, true, true, true, true, true, true, false, false, false] #[true, true, true, true, true, true, true, true, true, true, true, true, true, true, true, false, false, true, false] rfl rfl rfl rfl (by kernel_rfl) (by decide) (by decide) (fun K hK => ?_) (fun K hK => ?_)
                  · skip
                    refine step_append_any _ rfl (.tmp 73) (.tmp 77) 34 rfl W.heap.size 26 i0 (.agg #[.int .u8 0, .int .i64 0, .int .u8 0, .int .u64 0, .int .u8 0, .int .u64 0, .int .i64 0]) 7 56 Try.underlying34 HI.out HI0.out HI1.out HI2.out rfl (by decide) _ (k + 1) (codes lt ++ codes [skipIns n]) rfl (hR.row _ _ _ rfl) _ _ (l.length - k) _ (codes ld) rfl ((HR1.below hR.below)) (codes_one _) (by unfold maxLen; omega) (by omega) hR.hB ?_
                    intro v78 w7 ho hg hv
                    rw [show k + 1 + (l.length - k) = l.length + 1 by omega] at ho
                    replace hR := hR.grow (by decide) ho hg hv
                    clear ho hg hv
                    obtain ⟨g78, cp78, rfl, hg78, hgl78⟩ := (hR.row _ _ _ rfl).form (by omega)
                    clear hg78 hgl78
                    refine hK.out _ _ ⟨((hR.below).cell (p := ⟨w.heap.size, 0, none⟩) hzb).trans qb0, ((hR.below).cell (p := ⟨w.heap.size, 1, none⟩) hzb).trans qb1, ((hR.below).cell (p := ⟨w3.heap.size, 0, none⟩) hz9).trans qs0, ((hR.below).cell (p := ⟨w3.heap.size, 1, none⟩) hz9).trans qs1, ((hR.below).cell (p := ⟨w3.heap.size, 2, none⟩) hz9).trans qs2, ((hR.below).cell (p := ⟨w3.heap.size, 3, none⟩) hz9).trans qs3, ((hR.below).cell (p := ⟨w3.heap.size, 4, none⟩) hz9).trans qs4, ((hR.below).cell (p := ⟨w3.heap.size, 5, none⟩) hz9).trans qs5, ((hR.below).cell (p := ⟨w3.heap.size, 6, none⟩) hz9).trans qs6⟩ (fun hHeld => ?_)
                    clear hK K
                    refine norm_ (a' := ?_) ?_ ?_
                    rotate_left
                    · show Act.put _ (some 78) _ = _
                      simp only [Act.put, List.setIfInBounds_toArray, List.set_cons_zero, List.set_cons_succ, i64_w, i32_w]
                      rfl
                    refine pure_ (i := 16) (N := some 79) (v := ?_) (a' := ?_) #[true, true, true, true, true, true, true, true, true, true, true, true, true, true, true, true, true, false, false] rfl rfl (by kernel_rfl) (fun _ _ _ h => h) (Or.inl ⟨by rfl, ?_⟩) ?_ ?_
                    rotate_left
                    · intro w'
                      go_simp
                      with_reducible rfl
                    rotate_left
                    · simp only [Act.put, List.setIfInBounds_toArray, List.set_cons_zero, List.set_cons_succ, i64_w, i32_w]
                      rfl
                    refine one_ (i := 17) (N := some 10) #[true, true, true, true, true, true, true, true, true, true, true, true, true, true, true, true, true, true, false] rfl rfl (by kernel_rfl) (by decide) (fun K hK => ?_)
                    refine value_ (w1 := ?_) (v := ?_) (by rfl) rfl ?_ ?_
                    rotate_left 2
                    · go_simp
                      constructor
                      · rfl
                      · rfl
                    refine St.arm_x hR ?_
                    clear hR
                    intro gx w7 hR
                    refine hK.out _ _ ⟨((hR.below).cell (p := ⟨w.heap.size, 0, none⟩) hzb).trans qb0, ((hR.below).cell (p := ⟨w.heap.size, 1, none⟩) hzb).trans qb1, ((hR.below).cell (p := ⟨w3.heap.size, 0, none⟩) hz9).trans qs0, ((hR.below).cell (p := ⟨w3.heap.size, 1, none⟩) hz9).trans qs1, ((hR.below).cell (p := ⟨w3.heap.size, 2, none⟩) hz9).trans qs2, ((hR.below).cell (p := ⟨w3.heap.size, 3, none⟩) hz9).trans qs3, ((hR.below).cell (p := ⟨w3.heap.size, 4, none⟩) hz9).trans qs4, ((hR.below).cell (p := ⟨w3.heap.size, 5, none⟩) hz9).trans qs5, ((hR.below).cell (p := ⟨w3.heap.size, 6, none⟩) hz9).trans qs6⟩ (fun hHeld => ?_)
                    clear hK K
                    refine norm_ (a' := ?_) ?_ ?_
                    rotate_left
                    · show Act.put _ (some 10) _ = _
                      simp only [Act.put, List.setIfInBounds_toArray, List.set_cons_zero, List.set_cons_succ, i64_w, i32_w]
                      rfl
                    exact norm_ (by first | (simp only [putAll, Act.put, List.setIfInBounds_toArray, List.set_cons_zero, List.set_cons_succ]; done) | (simp only [putAll, Act.put, List.setIfInBounds_toArray, List.set_cons_zero, List.set_cons_succ]; rfl)) (hCont (g65, v70, g72, v73, g78, cp78, gx) _ hR)
                  · skip
                    refine value_ (w1 := ?_) (v := ?_) (by rfl) rfl ?_ ?_
                    rotate_left 2
                    · go_simp
                      constructor
                      · rfl
                      · rfl
                    refine St.arm_x hR ?_
                    clear hR
                    intro gx w7 hR
                    refine hK.out _ _ ⟨((hR.below).cell (p := ⟨w.heap.size, 0, none⟩) hzb).trans qb0, ((hR.below).cell (p := ⟨w.heap.size, 1, none⟩) hzb).trans qb1, ((hR.below).cell (p := ⟨w3.heap.size, 0, none⟩) hz9).trans qs0, ((hR.below).cell (p := ⟨w3.heap.size, 1, none⟩) hz9).trans qs1, ((hR.below).cell (p := ⟨w3.heap.size, 2, none⟩) hz9).trans qs2, ((hR.below).cell (p := ⟨w3.heap.size, 3, none⟩) hz9).trans qs3, ((hR.below).cell (p := ⟨w3.heap.size, 4, none⟩) hz9).trans qs4, ((hR.below).cell (p := ⟨w3.heap.size, 5, none⟩) hz9).trans qs5, ((hR.below).cell (p := ⟨w3.heap.size, 6, none⟩) hz9).trans qs6⟩ (fun hHeld => ?_)
                    clear hK K
                    refine norm_ (a' := ?_) ?_ ?_
                    rotate_left
                    · show Act.put _ (some 10) _ = _
                      simp only [Act.put, List.setIfInBounds_toArray, List.set_cons_zero, List.set_cons_succ, i64_w, i32_w]
                      rfl
                    refine one_ (i := 15) (N := some 78) #[true, true, true, true, true, true, true, true, true, true, true, true, true, true, true, true, false, true, false] rfl rfl (by kernel_rfl) (by decide) (fun K hK => ?_)
                    refine step_append_any _ rfl (.tmp 73) (.tmp 77) 34 rfl W.heap.size 26 i0 (.agg #[.int .u8 0, .int .i64 0, .int .u8 0, .int .u64 0, .int .u8 0, .int .u64 0, .int .i64 0]) 7 56 Try.underlying34 HI.out HI0.out HI1.out HI2.out rfl (by decide) _ (k + 1) (codes lt ++ codes [skipIns n]) rfl (hR.row _ _ _ rfl) _ _ (l.length - k) _ (codes ld) rfl ((HR1.below hR.below)) (codes_one _) (by unfold maxLen; omega) (by omega) hR.hB ?_
                    intro v78 w7 ho hg hv
                    rw [show k + 1 + (l.length - k) = l.length + 1 by omega] at ho
                    replace hR := hR.grow (by decide) ho hg hv
                    clear ho hg hv
                    obtain ⟨g78, cp78, rfl, hg78, hgl78⟩ := (hR.row _ _ _ rfl).form (by omega)
                    clear hg78 hgl78
                    refine hK.out _ _ ⟨((hR.below).cell (p := ⟨w.heap.size, 0, none⟩) hzb).trans qb0, ((hR.below).cell (p := ⟨w.heap.size, 1, none⟩) hzb).trans qb1, ((hR.below).cell (p := ⟨w3.heap.size, 0, none⟩) hz9).trans qs0, ((hR.below).cell (p := ⟨w3.heap.size, 1, none⟩) hz9).trans qs1, ((hR.below).cell (p := ⟨w3.heap.size, 2, none⟩) hz9).trans qs2, ((hR.below).cell (p := ⟨w3.heap.size, 3, none⟩) hz9).trans qs3, ((hR.below).cell (p := ⟨w3.heap.size, 4, none⟩) hz9).trans qs4, ((hR.below).cell (p := ⟨w3.heap.size, 5, none⟩) hz9).trans qs5, ((hR.below).cell (p := ⟨w3.heap.size, 6, none⟩) hz9).trans qs6⟩ (fun hHeld => ?_)
                    clear hK K
                    refine norm_ (a' := ?_) ?_ ?_
                    rotate_left
                    · show Act.put _ (some 78) _ = _
                      simp only [Act.put, List.setIfInBounds_toArray, List.set_cons_zero, List.set_cons_succ, i64_w, i32_w]
                      rfl
                    refine pure_ (i := 16) (N := some 79) (v := ?_) (a' := ?_) #[true, true, true, true, true, true, true, true, true, true, true, true, true, true, true, true, true, true, false] rfl rfl (by kernel_rfl) (fun _ _ _ h => h) (Or.inl ⟨by rfl, ?_⟩) ?_ ?_
                    rotate_left
                    · intro w'
                      go_simp
                      with_reducible rfl
                    rotate_left
                    · simp only [Act.put, List.setIfInBounds_toArray, List.set_cons_zero, List.set_cons_succ, i64_w, i32_w]
                      rfl
                    exact norm_ (by first | (simp only [putAll, Act.put, List.setIfInBounds_toArray, List.set_cons_zero, List.set_cons_succ]; done) | (simp only [putAll, Act.put, List.setIfInBounds_toArray, List.set_cons_zero, List.set_cons_succ]; rfl)) (hCont (g65, v70, g72, v73, g78, cp78, gx) _ hR)
                · skip
                  refine value_ (w1 := ?_) (v := ?_) (by rfl) rfl ?_ ?_
                  rotate_left 2
                  · go_simp
                    constructor
                    · rfl
                    · rfl
                  refine St.arm_x hR ?_
                  clear hR
                  intro gx w7 hR
                  refine hK.out _ _ ⟨((hR.below).cell (p := ⟨w.heap.size, 0, none⟩) hzb).trans qb0, ((hR.below).cell (p := ⟨w.heap.size, 1, none⟩) hzb).trans qb1, ((hR.below).cell (p := ⟨w3.heap.size, 0, none⟩) hz9).trans qs0, ((hR.below).cell (p := ⟨w3.heap.size, 1, none⟩) hz9).trans qs1, ((hR.below).cell (p := ⟨w3.heap.size, 2, none⟩) hz9).trans qs2, ((hR.below).cell (p := ⟨w3.heap.size, 3, none⟩) hz9).trans qs3, ((hR.below).cell (p := ⟨w3.heap.size, 4, none⟩) hz9).trans qs4, ((hR.below).cell (p := ⟨w3.heap.size, 5, none⟩) hz9).trans qs5, ((hR.below).cell (p := ⟨w3.heap.size, 6, none⟩) hz9).trans qs6⟩ (fun hHeld => ?_)
                  clear hK K
                  refine norm_ (a' := ?_) ?_ ?_
                  rotate_left
                  · show Act.put _ (some 10) _ = _
                    simp only [Act.put, List.setIfInBounds_toArray, List.set_cons_zero, List.set_cons_succ, i64_w, i32_w]
                    rfl
                  refine one_ (i := 10) (N := some 73) #[true, true, true, true, true, true, true, true, true, true, true, true, true, true, true, false, false, true, false] rfl rfl (by kernel_rfl) (by decide) (fun K hK => ?_)
                  refine step_append_any _ rfl (.tmp 70) (.tmp 72) 34 rfl W.heap.size 26 i0 (.agg #[.int .u8 0, .int .i64 0, .int .u8 0, .int .u64 0, .int .u8 0, .int .u64 0, .int .i64 0]) 7 56 Try.underlying34 HI.out HI0.out HI1.out HI2.out rfl (by decide) _ k (codes lt) rfl (hR.row _ _ _ rfl) _ _ 1 1 (codes [skipIns n]) rfl (hR.reads_one rfl) (codes_one _) (by unfold maxLen; omega) (by omega) hR.hB ?_
                  intro v73 w7 ho hg hv
                  skip
                  replace hR := hR.grow (by decide) ho hg hv
                  clear ho hg hv
                  refine hK.out _ _ ⟨((hR.below).cell (p := ⟨w.heap.size, 0, none⟩) hzb).trans qb0, ((hR.below).cell (p := ⟨w.heap.size, 1, none⟩) hzb).trans qb1, ((hR.below).cell (p := ⟨w3.heap.size, 0, none⟩) hz9).trans qs0, ((hR.below).cell (p := ⟨w3.heap.size, 1, none⟩) hz9).trans qs1, ((hR.below).cell (p := ⟨w3.heap.size, 2, none⟩) hz9).trans qs2, ((hR.below).cell (p := ⟨w3.heap.size, 3, none⟩) hz9).trans qs3, ((hR.below).cell (p := ⟨w3.heap.size, 4, none⟩) hz9).trans qs4, ((hR.below).cell (p := ⟨w3.heap.size, 5, none⟩) hz9).trans qs5, ((hR.below).cell (p := ⟨w3.heap.size, 6, none⟩) hz9).trans qs6⟩ (fun hHeld => ?_)
                  clear hK K
                  refine norm_ (a' := ?_) ?_ ?_
                  rotate_left
                  · show Act.put _ (some 73) _ = _
                    simp only [Act.put, List.setIfInBounds_toArray, List.set_cons_zero, List.set_cons_succ, i64_w, i32_w]
                    rfl
                  refine one_ (i := 15) (N := some 78) #[true, true, true, true, true, true, true, true, true, true, true, true, true, true, true, true, false, true, false] rfl rfl (by kernel_rfl) (by decide) (fun K hK => ?_)
                  refine step_append_any _ rfl (.tmp 73) (.tmp 77) 34 rfl W.heap.size 26 i0 (.agg #[.int .u8 0, .int .i64 0, .int .u8 0, .int .u64 0, .int .u8 0, .int .u64 0, .int .i64 0]) 7 56 Try.underlying34 HI.out HI0.out HI1.out HI2.out rfl (by decide) _ (k + 1) (codes lt ++ codes [skipIns n]) rfl (hR.row _ _ _ rfl) _ _ (l.length - k) _ (codes ld) rfl ((HR1.below hR.below)) (codes_one _) (by unfold maxLen; omega) (by omega) hR.hB ?_
                  intro v78 w7 ho hg hv
                  rw [show k + 1 + (l.length - k) = l.length + 1 by omega] at ho
                  replace hR := hR.grow (by decide) ho hg hv
                  clear ho hg hv
                  obtain ⟨g78, cp78, rfl, hg78, hgl78⟩ := (hR.row _ _ _ rfl).form (by omega)
                  clear hg78 hgl78
                  refine hK.out _ _ ⟨((hR.below).cell (p := ⟨w.heap.size, 0, none⟩) hzb).trans qb0, ((hR.below).cell (p := ⟨w.heap.size, 1, none⟩) hzb).trans qb1, ((hR.below).cell (p := ⟨w3.heap.size, 0, none⟩) hz9).trans qs0, ((hR.below).cell (p := ⟨w3.heap.size, 1, none⟩) hz9).trans qs1, ((hR.below).cell (p := ⟨w3.heap.size, 2, none⟩) hz9).trans qs2, ((hR.below).cell (p := ⟨w3.heap.size, 3, none⟩) hz9).trans qs3, ((hR.below).cell (p := ⟨w3.heap.size, 4, none⟩) hz9).trans qs4, ((hR.below).cell (p := ⟨w3.heap.size, 5, none⟩) hz9).trans qs5, ((hR.below).cell (p := ⟨w3.heap.size, 6, none⟩) hz9).trans qs6⟩ (fun hHeld => ?_)
                  clear hK K
                  refine norm_ (a' := ?_) ?_ ?_
                  rotate_left
                  · show Act.put _ (some 78) _ = _
                    simp only [Act.put, List.setIfInBounds_toArray, List.set_cons_zero, List.set_cons_succ, i64_w, i32_w]
                    rfl
                  refine pure_ (i := 16) (N := some 79) (v := ?_) (a' := ?_) #[true, true, true, true, true, true, true, true, true, true, true, true, true, true, true, true, true, true, false] rfl rfl (by kernel_rfl) (fun _ _ _ h => h) (Or.inl ⟨by rfl, ?_⟩) ?_ ?_
                  rotate_left
                  · intro w'
                    go_simp
                    with_reducible rfl
                  rotate_left
                  · simp only [Act.put, List.setIfInBounds_toArray, List.set_cons_zero, List.set_cons_succ, i64_w, i32_w]
                    rfl
                  exact norm_ (by first | (simp only [putAll, Act.put, List.setIfInBounds_toArray, List.set_cons_zero, List.set_cons_succ]; done) | (simp only [putAll, Act.put, List.setIfInBounds_toArray, List.set_cons_zero, List.set_cons_succ]; rfl)) (hCont (g65, v70, g72, v73, g78, cp78, gx) _ hR)
              · skip
                refine value_ (w1 := ?_) (v := ?_) (by rfl) rfl ?_ ?_
                rotate_left 2
                · go_simp
                  constructor
                  · rfl
                  · rfl
                refine St.arm_x hR ?_
                clear hR
                intro gx w7 hR
                refine hK.out _ _ ⟨((hR.below).cell (p := ⟨w.heap.size, 0, none⟩) hzb).trans qb0, ((hR.below).cell (p := ⟨w.heap.size, 1, none⟩) hzb).trans qb1, ((hR.below).cell (p := ⟨w3.heap.size, 0, none⟩) hz9).trans qs0, ((hR.below).cell (p := ⟨w3.heap.size, 1, none⟩) hz9).trans qs1, ((hR.below).cell (p := ⟨w3.heap.size, 2, none⟩) hz9).trans qs2, ((hR.below).cell (p := ⟨w3.heap.size, 3, none⟩) hz9).trans qs3, ((hR.below).cell (p := ⟨w3.heap.size, 4, none⟩) hz9).trans qs4, ((hR.below).cell (p := ⟨w3.heap.size, 5, none⟩) hz9).trans qs5, ((hR.below).cell (p := ⟨w3.heap.size, 6, none⟩) hz9).trans qs6⟩ (fun hHeld => ?_)
                clear hK K
                refine norm_ (a' := ?_) ?_ ?_
                rotate_left
                · show Act.put _ (some 10) _ = _
                  simp only [Act.put, List.setIfInBounds_toArray, List.set_cons_zero, List.set_cons_succ, i64_w, i32_w]
                  rfl
                refine one_ (i := 9) (N := some 72) #[true, true, true, true, true, true, true, true, true, true, false, true, true, true, true, false, false, true, false] rfl rfl (by kernel_rfl) (by decide) (fun K hK => ?_)
                refine value_ (w1 := ?_) (v := ?_) (by rfl) rfl ?_ ?_
                rotate_left 2
                · go_simp
                  constructor
                  · rfl
                  · rfl
                refine St.arm_one hR ?_
                clear hR
                intro g72 w7 hR
                refine hK.out _ _ ⟨((hR.below).cell (p := ⟨w.heap.size, 0, none⟩) hzb).trans qb0, ((hR.below).cell (p := ⟨w.heap.size, 1, none⟩) hzb).trans qb1, ((hR.below).cell (p := ⟨w3.heap.size, 0, none⟩) hz9).trans qs0, ((hR.below).cell (p := ⟨w3.heap.size, 1, none⟩) hz9).trans qs1, ((hR.below).cell (p := ⟨w3.heap.size, 2, none⟩) hz9).trans qs2, ((hR.below).cell (p := ⟨w3.heap.size, 3, none⟩) hz9).trans qs3, ((hR.below).cell (p := ⟨w3.heap.size, 4, none⟩) hz9).trans qs4, ((hR.below).cell (p := ⟨w3.heap.size, 5, none⟩) hz9).trans qs5, ((hR.below).cell (p := ⟨w3.heap.size, 6, none⟩) hz9).trans qs6⟩ (fun hHeld => ?_)
                clear hK K
                refine norm_ (a' := ?_) ?_ ?_
                rotate_left
                · show Act.put _ (some 72) _ = _
                  simp only [Act.put, List.setIfInBounds_toArray, List.set_cons_zero, List.set_cons_succ, i64_w, i32_w]
                  rfl
                refine one_ (i := 10) (N := some 73) #[true, true, true, true, true, true, true, true, true, true, true, true, true, true, true, false, false, true, false] rfl rfl (by kernel_rfl) (by decide) (fun K hK => ?_)
                refine step_append_any _ rfl (.tmp 70) (.tmp 72) 34 rfl W.heap.size 26 i0 (.agg #[.int .u8 0, .int .i64 0, .int .u8 0, .int .u64 0, .int .u8 0, .int .u64 0, .int .i64 0]) 7 56 Try.underlying34 HI.out HI0.out HI1.out HI2.out rfl (by decide) _ k (codes lt) rfl (hR.row _ _ _ rfl) _ _ 1 1 (codes [skipIns n]) rfl (hR.reads_one rfl) (codes_one _) (by unfold maxLen; omega) (by omega) hR.hB ?_
                intro v73 w7 ho hg hv
                skip
                replace hR := hR.grow (by decide) ho hg hv
                clear ho hg hv
                refine hK.out _ _ ⟨((hR.below).cell (p := ⟨w.heap.size, 0, none⟩) hzb).trans qb0, ((hR.below).cell (p := ⟨w.heap.size, 1, none⟩) hzb).trans qb1, ((hR.below).cell (p := ⟨w3.heap.size, 0, none⟩) hz9).trans qs0, ((hR.below).cell (p := ⟨w3.heap.size, 1, none⟩) hz9).trans qs1, ((hR.below).cell (p := ⟨w3.heap.size, 2, none⟩) hz9).trans qs2, ((hR.below).cell (p := ⟨w3.heap.size, 3, none⟩) hz9).trans qs3, ((hR.below).cell (p := ⟨w3.heap.size, 4, none⟩) hz9).trans qs4, ((hR.below).cell (p := ⟨w3.heap.size, 5, none⟩) hz9).trans qs5, ((hR.below).cell (p := ⟨w3.heap.size, 6, none⟩) hz9).trans qs6⟩ (fun hHeld => ?_)
                clear hK K
                refine norm_ (a' := ?_) ?_ ?_
                rotate_left
                · show Act.put _ (some 73) _ = _
                  simp only [Act.put, List.setIfInBounds_toArray, List.set_cons_zero, List.set_cons_succ, i64_w, i32_w]
                  rfl
                refine one_ (i := 15) (N := some 78) #[true, true, true, true, true, true, true, true, true, true, true, true, true, true, true, true, false, true, false] rfl rfl (by kernel_rfl) (by decide) (fun K hK => ?_)
                refine step_append_any _ rfl (.tmp 73) (.tmp 77) 34 rfl W.heap.size 26 i0 (.agg #[.int .u8 0, .int .i64 0, .int .u8 0, .int .u64 0, .int .u8 0, .int .u64 0, .int .i64 0]) 7 56 Try.underlying34 HI.out HI0.out HI1.out HI2.out rfl (by decide) _ (k + 1) (codes lt ++ codes [skipIns n]) rfl (hR.row _ _ _ rfl) _ _ (l.length - k) _ (codes ld) rfl ((HR1.below hR.below)) (codes_one _) (by unfold maxLen; omega) (by omega) hR.hB ?_
                intro v78 w7 ho hg hv
                rw [show k + 1 + (l.length - k) = l.length + 1 by omega] at ho
                replace hR := hR.grow (by decide) ho hg hv
                clear ho hg hv
                obtain ⟨g78, cp78, rfl, hg78, hgl78⟩ := (hR.row _ _ _ rfl).form (by omega)
                clear hg78 hgl78
                refine hK.out _ _ ⟨((hR.below).cell (p := ⟨w.heap.size, 0, none⟩) hzb).trans qb0, ((hR.below).cell (p := ⟨w.heap.size, 1, none⟩) hzb).trans qb1, ((hR.below).cell (p := ⟨w3.heap.size, 0, none⟩) hz9).trans qs0, ((hR.below).cell (p := ⟨w3.heap.size, 1, none⟩) hz9).trans qs1, ((hR.below).cell (p := ⟨w3.heap.size, 2, none⟩) hz9).trans qs2, ((hR.below).cell (p := ⟨w3.heap.size, 3, none⟩) hz9).trans qs3, ((hR.below).cell (p := ⟨w3.heap.size, 4, none⟩) hz9).trans qs4, ((hR.below).cell (p := ⟨w3.heap.size, 5, none⟩) hz9).trans qs5, ((hR.below).cell (p := ⟨w3.heap.size, 6, none⟩) hz9).trans qs6⟩ (fun hHeld => ?_)
                clear hK K
                refine norm_ (a' := ?_) ?_ ?_
                rotate_left
                · show Act.put _ (some 78) _ = _
                  simp only [Act.put, List.setIfInBounds_toArray, List.set_cons_zero, List.set_cons_succ, i64_w, i32_w]
                  rfl
                refine pure_ (i := 16) (N := some 79) (v := ?_) (a' := ?_) #[true, true, true, true, true, true, true, true, true, true, true, true, true, true, true, true, true, true, false] rfl rfl (by kernel_rfl) (fun _ _ _ h => h) (Or.inl ⟨by rfl, ?_⟩) ?_ ?_
                rotate_left
                · intro w'
                  go_simp
                  with_reducible rfl
                rotate_left
                · simp only [Act.put, List.setIfInBounds_toArray, List.set_cons_zero, List.set_cons_succ, i64_w, i32_w]
                  rfl
                exact norm_ (by first | (simp only [putAll, Act.put, List.setIfInBounds_toArray, List.set_cons_zero, List.set_cons_succ]; done) | (simp only [putAll, Act.put, List.setIfInBounds_toArray, List.set_cons_zero, List.set_cons_succ]; rfl)) (hCont (g65, v70, g72, v73, g78, cp78, gx) _ hR)
            · skip
              refine value_ (w1 := ?_) (v := ?_) (by rfl) rfl ?_ ?_
              rotate_left 2
              · go_simp
                constructor
                · rfl
                · rfl
              refine St.arm_one hR ?_
              clear hR
              intro g72 w7 hR
              refine hK.out _ _ ⟨((hR.below).cell (p := ⟨w.heap.size, 0, none⟩) hzb).trans qb0, ((hR.below).cell (p := ⟨w.heap.size, 1, none⟩) hzb).trans qb1, ((hR.below).cell (p := ⟨w3.heap.size, 0, none⟩) hz9).trans qs0, ((hR.below).cell (p := ⟨w3.heap.size, 1, none⟩) hz9).trans qs1, ((hR.below).cell (p := ⟨w3.heap.size, 2, none⟩) hz9).trans qs2, ((hR.below).cell (p := ⟨w3.heap.size, 3, none⟩) hz9).trans qs3, ((hR.below).cell (p := ⟨w3.heap.size, 4, none⟩) hz9).trans qs4, ((hR.below).cell (p := ⟨w3.heap.size, 5, none⟩) hz9).trans qs5, ((hR.below).cell (p := ⟨w3.heap.size, 6, none⟩) hz9).trans qs6⟩ (fun hHeld => ?_)
              clear hK K
              refine norm_ (a' := ?_) ?_ ?_
              rotate_left
              · show Act.put _ (some 72) _ = _
                simp only [Act.put, List.setIfInBounds_toArray, List.set_cons_zero, List.set_cons_succ, i64_w, i32_w]
                rfl
              refine two_ (i := 7) (j := 17) (Ni := some 70) (Nj := some 10) #[true, true, true, true, true, true, true, true, true, true, false, true, true, true, true, false, false, false, false] #[true, true, true, true, true, true, true, false, true, true, false, true, true, true, true, false, false, true, false] rfl rfl rfl rfl (by kernel_rfl) (by decide) (by decide) (fun K hK => ?_) (fun K hK => ?_)
              · skip
                refine step_append_any _ rfl (.tmp 65) (.tmp 69) 34 rfl W.heap.size 26 i0 (.agg #[.int .u8 0, .int .i64 0, .int .u8 0, .int .u64 0, .int .u8 0, .int .u64 0, .int .i64 0]) 7 56 Try.underlying34 HI.out HI0.out HI1.out HI2.out rfl (by decide) _ 0 [] rfl (hR.row _ _ _ rfl) _ ca k _ (codes lt) rfl ((HR0.below hR.below)) (codes_one _) (by unfold maxLen; omega) (by omega) hR.hB ?_
                intro v70 w7 ho hg hv
                rw [Nat.zero_add, List.nil_append] at ho
                replace hR := hR.grow (by decide) ho hg hv
                clear ho hg hv
                refine hK.out _ _ ⟨((hR.below).cell (p := ⟨w.heap.size, 0, none⟩) hzb).trans qb0, ((hR.below).cell (p := ⟨w.heap.size, 1, none⟩) hzb).trans qb1, ((hR.below).cell (p := ⟨w3.heap.size, 0, none⟩) hz9).trans qs0, ((hR.below).cell (p := ⟨w3.heap.size, 1, none⟩) hz9).trans qs1, ((hR.below).cell (p := ⟨w3.heap.size, 2, none⟩) hz9).trans qs2, ((hR.below).cell (p := ⟨w3.heap.size, 3, none⟩) hz9).trans qs3, ((hR.below).cell (p := ⟨w3.heap.size, 4, none⟩) hz9).trans qs4, ((hR.below).cell (p := ⟨w3.heap.size, 5, none⟩) hz9).trans qs5, ((hR.below).cell (p := ⟨w3.heap.size, 6, none⟩) hz9).trans qs6⟩ (fun hHeld => ?_)
                clear hK K
                refine norm_ (a' := ?_) ?_ ?_
                rotate_left
                · show Act.put _ (some 70) _ = _
                  simp only [Act.put, List.setIfInBounds_toArray, List.set_cons_zero, List.set_cons_succ, i64_w, i32_w]
                  rfl
                refine two_ (i := 10) (j := 17) (Ni := some 73) (Nj := some 10) #[true, true, true, true, true, true, true, true, true, true, true, true, true, true, true, false, false, false, false] #[true, true, true, true, true, true, true, true, true, true, false, true, true, true, true, false, false, true, false] rfl rfl rfl rfl (by kernel_rfl) (by decide) (by decide) (fun K hK => ?_) (fun K hK => ?_)
                · skip
                  refine step_append_any _ rfl (.tmp 70) (.tmp 72) 34 rfl W.heap.size 26 i0 (.agg #[.int .u8 0, .int .i64 0, .int .u8 0, .int .u64 0, .int .u8 0, .int .u64 0, .int .i64 0]) 7 56 Try.underlying34 HI.out HI0.out HI1.out HI2.out rfl (by decide) _ k (codes lt) rfl (hR.row _ _ _ rfl) _ _ 1 1 (codes [skipIns n]) rfl (hR.reads_one rfl) (codes_one _) (by unfold maxLen; omega) (by omega) hR.hB ?_
                  intro v73 w7 ho hg hv
                  skip
                  replace hR := hR.grow (by decide) ho hg hv
                  clear ho hg hv
                  refine hK.out _ _ ⟨((hR.below).cell (p := ⟨w.heap.size, 0, none⟩) hzb).trans qb0, ((hR.below).cell (p := ⟨w.heap.size, 1, none⟩) hzb).trans qb1, ((hR.below).cell (p := ⟨w3.heap.size, 0, none⟩) hz9).trans qs0, ((hR.below).cell (p := ⟨w3.heap.size, 1, none⟩) hz9).trans qs1, ((hR.below).cell (p := ⟨w3.heap.size, 2, none⟩) hz9).trans qs2, ((hR.below).cell (p := ⟨w3.heap.size, 3, none⟩) hz9).trans qs3, ((hR.below).cell (p := ⟨w3.heap.size, 4, none⟩) hz9).trans qs4, ((hR.below).cell (p := ⟨w3.heap.size, 5, none⟩) hz9).trans qs5, ((hR.below).cell (p := ⟨w3.heap.size, 6, none⟩) hz9).trans qs6⟩ (fun hHeld => ?_)
                  clear hK K
                  refine norm_ (a' := ?_) ?_ ?_
                  rotate_left
                  · show Act.put _ (some 73) _ = _
                    simp only [Act.put, List.setIfInBounds_toArray, List.set_cons_zero, List.set_cons_succ, i64_w, i32_w]
                    rfl
                  refine two_ (i := 15) (j := 17) (Ni := some 78) (Nj := some 10) #[true, true, true, true, true, true, true, true, true, true, true, true, true, true, true, true, false, false, false] #[true, true, true, true, true, true, true, true, true, true, true, true, true, true, true, false, false, true, false] rfl rfl rfl rfl (by kernel_rfl) (by decide) (by decide) (fun K hK => ?_) (fun K hK => ?_)
                  · skip
                    refine step_append_any _ rfl (.tmp 73) (.tmp 77) 34 rfl W.heap.size 26 i0 (.agg #[.int .u8 0, .int .i64 0, .int .u8 0, .int .u64 0, .int .u8 0, .int .u64 0, .int .i64 0]) 7 56 Try.underlying34 HI.out HI0.out HI1.out HI2.out rfl (by decide) _ (k + 1) (codes lt ++ codes [skipIns n]) rfl (hR.row _ _ _ rfl) _ _ (l.length - k) _ (codes ld) rfl ((HR1.below hR.below)) (codes_one _) (by unfold maxLen; omega) (by omega) hR.hB ?_
                    intro v78 w7 ho hg hv
                    rw [show k + 1 + (l.length - k) = l.length + 1 by omega] at ho
                    replace hR := hR.grow (by decide) ho hg hv
                    clear ho hg hv
                    obtain ⟨g78, cp78, rfl, hg78, hgl78⟩ := (hR.row _ _ _ rfl).form (by omega)
                    clear hg78 hgl78
                    refine hK.out _ _ ⟨((hR.below).cell (p := ⟨w.heap.size, 0, none⟩) hzb).trans qb0, ((hR.below).cell (p := ⟨w.heap.size, 1, none⟩) hzb).trans qb1, ((hR.below).cell (p := ⟨w3.heap.size, 0, none⟩) hz9).trans qs0, ((hR.below).cell (p := ⟨w3.heap.size, 1, none⟩) hz9).trans qs1, ((hR.below).cell (p := ⟨w3.heap.size, 2, none⟩) hz9).trans qs2, ((hR.below).cell (p := ⟨w3.heap.size, 3, none⟩) hz9).trans qs3, ((hR.below).cell (p := ⟨w3.heap.size, 4, none⟩) hz9).trans qs4, ((hR.below).cell (p := ⟨w3.heap.size, 5, none⟩) hz9).trans qs5, ((hR.below).cell (p := ⟨w3.heap.size, 6, none⟩) hz9).trans qs6⟩ (fun hHeld => ?_)
                    clear hK K
                    refine norm_ (a' := ?_) ?_ ?_
                    rotate_left
                    · show Act.put _ (some 78) _ = _
                      simp only [Act.put, List.setIfInBounds_toArray, List.set_cons_zero, List.set_cons_succ, i64_w, i32_w]
                      rfl
                    refine pure_ (i := 16) (N := some 79) (v := ?_) (a' := ?_) #[true, true, true, true, true, true, true, true, true, true, true, true, true, true, true, true, true, false, false] rfl rfl (by kernel_rfl) (fun _ _ _ h => h) (Or.inl ⟨by rfl, ?_⟩) ?_ ?_
                    rotate_left
                    · intro w'
                      go_simp
                      with_reducible rfl
                    rotate_left
                    · simp only [Act.put, List.setIfInBounds_toArray, List.set_cons_zero, List.set_cons_succ, i64_w, i32_w]
                      rfl
                    refine one_ (i := 17) (N := some 10) #[true, true, true, true, true, true, true, true, true, true, true, true, true, true, true, true, true, true, false] rfl rfl (by kernel_rfl) (by decide) (fun K hK => ?_)
                    refine value_ (w1 := ?_) (v := ?_) (by rfl) rfl ?_ ?_
                    rotate_left 2
                    · go_simp
                      constructor
                      · rfl
                      · rfl
                    refine St.arm_x hR ?_
                    clear hR
                    intro gx w7 hR
                    refine hK.out _ _ ⟨((hR.below).cell (p := ⟨w.heap.size, 0, none⟩) hzb).trans qb0, ((hR.below).cell (p := ⟨w.heap.size, 1, none⟩) hzb).trans qb1, ((hR.below).cell (p := ⟨w3.heap.size, 0, none⟩) hz9).trans qs0, ((hR.below).cell (p := ⟨w3.heap.size, 1, none⟩) hz9).trans qs1, ((hR.below).cell (p := ⟨w3.heap.size, 2, none⟩) hz9).trans qs2, ((hR.below).cell (p := ⟨w3.heap.size, 3, none⟩) hz9).trans qs3, ((hR.below).cell (p := ⟨w3.heap.size, 4, none⟩) hz9).trans qs4, ((hR.below).cell (p := ⟨w3.heap.size, 5, none⟩) hz9).trans qs5, ((hR.below).cell (p := ⟨w3.heap.size, 6, none⟩) hz9).trans qs6⟩ (fun hHeld => ?_)
                    clear hK K
                    refine norm_ (a' := ?_) ?_ ?_
                    rotate_left
                    · show Act.put _ (some 10) _ = _
                      simp only [Act.put, List.setIfInBounds_toArray, List.set_cons_zero, List.set_cons_succ, i64_w, i32_w]
                      rfl
                    exact norm_ (by first | (simp only [putAll, Act.put, List.setIfInBounds_toArray, List.set_cons_zero, List.set_cons_succ]; done) | (simp only [putAll, Act.put, List.setIfInBounds_toArray, List.set_cons_zero, List.set_cons_succ]; rfl)) (hCont (g65, v70, g72, v73, g78, cp78, gx) _ hR)
                  · skip
                    refine value_ (w1 := ?_) (v := ?_) (by rfl) rfl ?_ ?_
                    rotate_left 2
                    · go_simp
                      constructor
                      · rfl
                      · rfl
                    refine St.arm_x hR ?_
                    clear hR
                    intro gx w7 hR
                    refine hK.out _ _ ⟨((hR.below).cell (p := ⟨w.heap.size, 0, none⟩) hzb).trans qb0, ((hR.below).cell (p := ⟨w.heap.size, 1, none⟩) hzb).trans qb1, ((hR.below).cell (p := ⟨w3.heap.size, 0, none⟩) hz9).trans qs0, ((hR.below).cell (p := ⟨w3.heap.size, 1, none⟩) hz9).trans qs1, ((hR.below).cell (p := ⟨w3.heap.size, 2, none⟩) hz9).trans qs2, ((hR.below).cell (p := ⟨w3.heap.size, 3, none⟩) hz9).trans qs3, ((hR.below).cell (p := ⟨w3.heap.size, 4, none⟩) hz9).trans qs4, ((hR.below).cell (p := ⟨w3.heap.size, 5, none⟩) hz9).trans qs5, ((hR.below).cell (p := ⟨w3.heap.size, 6, none⟩) hz9).trans qs6⟩ (fun hHeld => ?_)
                    clear hK K
                    refine norm_ (a' := ?_) ?_ ?_
                    rotate_left
                    · show Act.put _ (some 10) _ = _
                      simp only [Act.put, List.setIfInBounds_toArray, List.set_cons_zero, List.set_cons_succ, i64_w, i32_w]
                      rfl
                    refine one_ (i := 15) (N := some 78) #[true, true, true, true, true, true, true, true, true, true, true, true, true, true, true, true, false, true, false] rfl rfl (by kernel_rfl) (by decide) (fun K hK => ?_)
                    refine step_append_any _ rfl (.tmp 73) (.tmp 77) 34 rfl W.heap.size 26 i0 (.agg #[.int .u8 0, .int .i64 0, .int .u8 0, .int .u64 0, .int .u8 0, .int .u64 0, .int .i64 0]) 7 56 Try.underlying34 HI.out HI0.out HI1.out HI2.out rfl (by decide) _ (k + 1) (codes lt ++ codes [skipIns n]) rfl (hR.row _ _ _ rfl) _ _ (l.length - k) _ (codes ld) rfl ((HR1.below hR.below)) (codes_one _) (by unfold maxLen; omega) (by omega) hR.hB ?_
                    intro v78 w7 ho hg hv
                    rw [show k + 1 + (l.length - k) = l.length + 1 by omega] at ho
                    replace hR := hR.grow (by decide) ho hg hv
                    clear ho hg hv
                    obtain ⟨g78, cp78, rfl, hg78, hgl78⟩ := (hR.row _ _ _ rfl).form (by omega)
                    clear hg78 hgl78
                    refine hK.out _ _ ⟨((hR.below).cell (p := ⟨w.heap.size, 0, none⟩) hzb).trans qb0, ((hR.below).cell (p := ⟨w.heap.size, 1, none⟩) hzb).trans qb1, ((hR.below).cell (p := ⟨w3.heap.size, 0, none⟩) hz9).trans qs0, ((hR.below).cell (p := ⟨w3.heap.size, 1, none⟩) hz9).trans qs1, ((hR.below).cell (p := ⟨w3.heap.size, 2, none⟩) hz9).trans qs2, ((hR.below).cell (p := ⟨w3.heap.size, 3, none⟩) hz9).trans qs3, ((hR.below).cell (p := ⟨w3.heap.size, 4, none⟩) hz9).trans qs4, ((hR.below).cell (p := ⟨w3.heap.size, 5, none⟩) hz9).trans qs5, ((hR.below).cell (p := ⟨w3.heap.size, 6, none⟩) hz9).trans qs6⟩ (fun hHeld => ?_)
                    clear hK K
                    refine norm_ (a' := ?_) ?_ ?_
                    rotate_left
                    · show Act.put _ (some 78) _ = _
                      simp only [Act.put, List.setIfInBounds_toArray, List.set_cons_zero, List.set_cons_succ, i64_w, i32_w]
                      rfl
                    refine pure_ (i := 16) (N := some 79) (v := ?_) (a' := ?_) #[true, true, true, true, true, true, true, true, true, true, true, true, true, true, true, true, true, true, false] rfl rfl (by kernel_rfl) (fun _ _ _ h => h) (Or.inl ⟨by rfl, ?_⟩) ?_ ?_
                    rotate_left
                    · intro w'
                      go_simp
                      with_reducible rfl
                    rotate_left
                    · simp only [Act.put, List.setIfInBounds_toArray, List.set_cons_zero, List.set_cons_succ, i64_w, i32_w]
                      rfl
                    exact norm_ (by first | (simp only [putAll, Act.put, List.setIfInBounds_toArray, List.set_cons_zero, List.set_cons_succ]; done) | (simp only [putAll, Act.put, List.setIfInBounds_toArray, List.set_cons_zero, List.set_cons_succ]; rfl)) (hCont (g65, v70, g72, v73, g78, cp78, gx) _ hR)
                · skip
                  refine value_ (w1 := ?_) (v := ?_) (by rfl) rfl ?_ ?_
                  rotate_left 2
                  · go_simp
                    constructor
                    · rfl
                    · rfl
                  refine St.arm_x hR ?_
                  clear hR
                  intro gx w7 hR
                  refine hK.out _ _ ⟨((hR.below).cell (p := ⟨w.heap.size, 0, none⟩) hzb).trans qb0, ((hR.below).cell (p := ⟨w.heap.size, 1, none⟩) hzb).trans qb1, ((hR.below).cell (p := ⟨w3.heap.size, 0, none⟩) hz9).trans qs0, ((hR.below).cell (p := ⟨w3.heap.size, 1, none⟩) hz9).trans qs1, ((hR.below).cell (p := ⟨w3.heap.size, 2, none⟩) hz9).trans qs2, ((hR.below).cell (p := ⟨w3.heap.size, 3, none⟩) hz9).trans qs3, ((hR.below).cell (p := ⟨w3.heap.size, 4, none⟩) hz9).trans qs4, ((hR.below).cell (p := ⟨w3.heap.size, 5, none⟩) hz9).trans qs5, ((hR.below).cell (p := ⟨w3.heap.size, 6, none⟩) hz9).trans qs6⟩ (fun hHeld => ?_)
                  clear hK K
                  refine norm_ (a' := ?_) ?_ ?_
                  rotate_left
                  · show Act.put _ (some 10) _ = _
                    simp only [Act.put, List.setIfInBounds_toArray, List.set_cons_zero, List.set_cons_succ, i64_w, i32_w]
                    rfl
                  refine one_ (i := 10) (N := some 73) #[true, true, true, true, true, true, true, true, true, true, true, true, true, true, true, false, false, true, false] rfl rfl (by kernel_rfl) (by decide) (fun K hK => ?_)
                  refine step_append_any _ rfl (.tmp 70) (.tmp 72) 34 rfl W.heap.size 26 i0 (.agg #[.int .u8 0, .int .i64 0, .int .u8 0, .int .u64 0, .int .u8 0, .int .u64 0, .int .i64 0]) 7 56 Try.underlying34 HI.out HI0.out HI1.out HI2.out rfl (by decide) _ k (codes lt) rfl (hR.row _ _ _ rfl) _ _ 1 1 (codes [skipIns n]) rfl (hR.reads_one rfl) (codes_one _) (by unfold maxLen; omega) (by omega) hR.hB ?_
                  intro v73 w7 ho hg hv
                  skip
                  replace hR := hR.grow (by decide) ho hg hv
                  clear ho hg hv
                  refine hK.out _ _ ⟨((hR.below).cell (p := ⟨w.heap.size, 0, none⟩) hzb).trans qb0, ((hR.below).cell (p := ⟨w.heap.size, 1, none⟩) hzb).trans qb1, ((hR.below).cell (p := ⟨w3.heap.size, 0, none⟩) hz9).trans qs0, ((hR.below).cell (p := ⟨w3.heap.size, 1, none⟩) hz9).trans qs1, ((hR.below).cell (p := ⟨w3.heap.size, 2, none⟩) hz9).trans qs2, ((hR.below).cell (p := ⟨w3.heap.size, 3, none⟩) hz9).trans qs3, ((hR.below).cell (p := ⟨w3.heap.size, 4, none⟩) hz9).trans qs4, ((hR.below).cell (p := ⟨w3.heap.size, 5, none⟩) hz9).trans qs5, ((hR.below).cell (p := ⟨w3.heap.size, 6, none⟩) hz9).trans qs6⟩ (fun hHeld => ?_)
                  clear hK K
                  refine norm_ (a' := ?_) ?_ ?_
                  rotate_left
                  · show Act.put _ (some 73) _ = _
                    simp only [Act.put, List.setIfInBounds_toArray, List.set_cons_zero, List.set_cons_succ, i64_w, i32_w]
                    rfl
                  refine one_ (i := 15) (N := some 78) #[true, true, true, true, true, true, true, true, true, true, true, true, true, true, true, true, false, true, false] rfl rfl (by kernel_rfl) (by decide) (fun K hK => ?_)
                  refine step_append_any _ rfl (.tmp 73) (.tmp 77) 34 rfl W.heap.size 26 i0 (.agg #[.int .u8 0, .int .i64 0, .int .u8 0, .int .u64 0, .int .u8 0, .int .u64 0, .int .i64 0]) 7 56 Try.underlying34 HI.out HI0.out HI1.out HI2.out rfl (by decide) _ (k + 1) (codes lt ++ codes [skipIns n]) rfl (hR.row _ _ _ rfl) _ _ (l.length - k) _ (codes ld) rfl ((HR1.below hR.below)) (codes_one _) (by unfold maxLen; omega) (by omega) hR.hB ?_
                  intro v78 w7 ho hg hv
                  rw [show k + 1 + (l.length - k) = l.length + 1 by omega] at ho
                  replace hR := hR.grow (by decide) ho hg hv
                  clear ho hg hv
                  obtain ⟨g78, cp78, rfl, hg78, hgl78⟩ := (hR.row _ _ _ rfl).form (by omega)
                  clear hg78 hgl78
                  refine hK.out _ _ ⟨((hR.below).cell (p := ⟨w.heap.size, 0, none⟩) hzb).trans qb0, ((hR.below).cell (p := ⟨w.heap.size, 1, none⟩) hzb).trans qb1, ((hR.below).cell (p := ⟨w3.heap.size, 0, none⟩) hz9).trans qs0, ((hR.below).cell (p := ⟨w3.heap.size, 1, none⟩) hz9).trans qs1, ((hR.below).cell (p := ⟨w3.heap.size, 2, none⟩) hz9).trans qs2, ((hR.below).cell (p := ⟨w3.heap.size, 3, none⟩) hz9).trans qs3, ((hR.below).cell (p := ⟨w3.heap.size, 4, none⟩) hz9).trans qs4, ((hR.below).cell (p := ⟨w3.heap.size, 5, none⟩) hz9).trans qs5, ((hR.below).cell (p := ⟨w3.heap.size, 6, none⟩) hz9).trans qs6⟩ (fun hHeld => ?_)
                  clear hK K
                  refine norm_ (a' := ?_) ?_ ?_
                  rotate_left
                  · show Act.put _ (some 78) _ = _
                    simp only [Act.put, List.setIfInBounds_toArray, List.set_cons_zero, List.set_cons_succ, i64_w, i32_w]
                    rfl
                  refine pure_ (i := 16) (N := some 79) (v := ?_) (a' := ?_) #[true, true, true, true, true, true, true, true, true, true, true, true, true, true, true, true, true, true, false] rfl rfl (by kernel_rfl) (fun _ _ _ h => h) (Or.inl ⟨by rfl, ?_⟩) ?_ ?_
                  rotate_left
                  · intro w'
                    go_simp
                    with_reducible rfl
                  rotate_left
                  · simp only [Act.put, List.setIfInBounds_toArray, List.set_cons_zero, List.set_cons_succ, i64_w, i32_w]
                    rfl
                  exact norm_ (by first | (simp only [putAll, Act.put, List.setIfInBounds_toArray, List.set_cons_zero, List.set_cons_succ]; done) | (simp only [putAll, Act.put, List.setIfInBounds_toArray, List.set_cons_zero, List.set_cons_succ]; rfl)) (hCont (g65, v70, g72, v73, g78, cp78, gx) _ hR)
              · skip
                refine value_ (w1 := ?_) (v := ?_) (by rfl) rfl ?_ ?_
                rotate_left 2
                · go_simp
                  constructor
                  · rfl
                  · rfl
                refine St.arm_x hR ?_
                clear hR
                intro gx w7 hR
                refine hK.out _ _ ⟨((hR.below).cell (p := ⟨w.heap.size, 0, none⟩) hzb).trans qb0, ((hR.below).cell (p := ⟨w.heap.size, 1, none⟩) hzb).trans qb1, ((hR.below).cell (p := ⟨w3.heap.size, 0, none⟩) hz9).trans qs0, ((hR.below).cell (p := ⟨w3.heap.size, 1, none⟩) hz9).trans qs1, ((hR.below).cell (p := ⟨w3.heap.size, 2, none⟩) hz9).trans qs2, ((hR.below).cell (p := ⟨w3.heap.size, 3, none⟩) hz9).trans qs3, ((hR.below).cell (p := ⟨w3.heap.size, 4, none⟩) hz9).trans qs4, ((hR.below).cell (p := ⟨w3.heap.size, 5, none⟩) hz9).trans qs5, ((hR.below).cell (p := ⟨w3.heap.size, 6, none⟩) hz9).trans qs6⟩ (fun hHeld => ?_)
                clear hK K
                refine norm_ (a' := ?_) ?_ ?_
                rotate_left
                · show Act.put _ (some 10) _ = _
                  simp only [Act.put, List.setIfInBounds_toArray, List.set_cons_zero, List.set_cons_succ, i64_w, i32_w]
                  rfl
                refine one_ (i := 7) (N := some 70) #[true, true, true, true, true, true, true, true, true, true, false, true, true, true, true, false, false, true, false] rfl rfl (by kernel_rfl) (by decide) (fun K hK => ?_)
                refine step_append_any _ rfl (.tmp 65) (.tmp 69) 34 rfl W.heap.size 26 i0 (.agg #[.int .u8 0, .int .i64 0, .int .u8 0, .int .u64 0, .int .u8 0, .int .u64 0, .int .i64 0]) 7 56 Try.underlying34 HI.out HI0.out HI1.out HI2.out rfl (by decide) _ 0 [] rfl (hR.row _ _ _ rfl) _ ca k _ (codes lt) rfl ((HR0.below hR.below)) (codes_one _) (by unfold maxLen; omega) (by omega) hR.hB ?_
                intro v70 w7 ho hg hv
                rw [Nat.zero_add, List.nil_append] at ho
                replace hR := hR.grow (by decide) ho hg hv
                clear ho hg hv
                refine hK.out _ _ ⟨((hR.below).cell (p := ⟨w.heap.size, 0, none⟩) hzb).trans qb0, ((hR.below).cell (p := ⟨w.heap.size, 1, none⟩) hzb).trans qb1, ((hR.below).cell (p := ⟨w3.heap.size, 0, none⟩) hz9).trans qs0, ((hR.below).cell (p := ⟨w3.heap.size, 1, none⟩) hz9).trans qs1, ((hR.below).cell (p := ⟨w3.heap.size, 2, none⟩) hz9).trans qs2, ((hR.below).cell (p := ⟨w3.heap.size, 3, none⟩) hz9).trans qs3, ((hR.below).cell (p := ⟨w3.heap.size, 4, none⟩) hz9).trans qs4, ((hR.below).cell (p := ⟨w3.heap.size, 5, none⟩) hz9).trans qs5, ((hR.below).cell (p := ⟨w3.heap.size, 6, none⟩) hz9).trans qs6⟩ (fun hHeld => ?_)
                clear hK K
                refine norm_ (a' := ?_) ?_ ?_
                rotate_left
                · show Act.put _ (some 70) _ = _
                  simp only [Act.put, List.setIfInBounds_toArray, List.set_cons_zero, List.set_cons_succ, i64_w, i32_w]
                  rfl
                refine one_ (i := 10) (N := some 73) #[true, true, true, true, true, true, true, true, true, true, true, true, true, true, true, false, false, true, false] rfl rfl (by kernel_rfl) (by decide) (fun K hK => ?_)
                refine step_append_any _ rfl (.tmp 70) (.tmp 72) 34 rfl W.heap.size 26 i0 (.agg #[.int .u8 0, .int .i64 0, .int .u8 0, .int .u64 0, .int .u8 0, .int .u64 0, .int .i64 0]) 7 56 Try.underlying34 HI.out HI0.out HI1.out HI2.out rfl (by decide) _ k (codes lt) rfl (hR.row _ _ _ rfl) _ _ 1 1 (codes [skipIns n]) rfl (hR.reads_one rfl) (codes_one _) (by unfold maxLen; omega) (by omega) hR.hB ?_
                intro v73 w7 ho hg hv
                skip
                replace hR := hR.grow (by decide) ho hg hv
                clear ho hg hv
                refine hK.out _ _ ⟨((hR.below).cell (p := ⟨w.heap.size, 0, none⟩) hzb).trans qb0, ((hR.below).cell (p := ⟨w.heap.size, 1, none⟩) hzb).trans qb1, ((hR.below).cell (p := ⟨w3.heap.size, 0, none⟩) hz9).trans qs0, ((hR.below).cell (p := ⟨w3.heap.size, 1, none⟩) hz9).trans qs1, ((hR.below).cell (p := ⟨w3.heap.size, 2, none⟩) hz9).trans qs2, ((hR.below).cell (p := ⟨w3.heap.size, 3, none⟩) hz9).trans qs3, ((hR.below).cell (p := ⟨w3.heap.size, 4, none⟩) hz9).trans qs4, ((hR.below).cell (p := ⟨w3.heap.size, 5, none⟩) hz9).trans qs5, ((hR.below).cell (p := ⟨w3.heap.size, 6, none⟩) hz9).trans qs6⟩ (fun hHeld => ?_)
                clear hK K
                refine norm_ (a' := ?_) ?_ ?_
                rotate_left
                · show Act.put _ (some 73) _ = _
                  simp only [Act.put, List.setIfInBounds_toArray, List.set_cons_zero, List.set_cons_succ, i64_w, i32_w]
                  rfl
                refine one_ (i := 15) (N := some 78) #[true, true, true, true, true, true, true, true, true, true, true, true, true, true, true, true, false, true, false] rfl rfl (by kernel_rfl) (by decide) (fun K hK => ?_)
                refine step_append_any _ rfl (.tmp 73) (.tmp 77) 34 rfl W.heap.size 26 i0 (.agg #[.int .u8 0, .int .i64 0, .int .u8 0, .int .u64 0, .int .u8 0, .int .u64 0, .int .i64 0]) 7 56 Try.underlying34 HI.out HI0.out HI1.out HI2.out rfl (by decide) _ (k + 1) (codes lt ++ codes [skipIns n]) rfl (hR.row _ _ _ rfl) _ _ (l.length - k) _ (codes ld) rfl ((HR1.below hR.below)) (codes_one _) (by unfold maxLen; omega) (by omega) hR.hB ?_
                intro v78 w7 ho hg hv
                rw [show k + 1 + (l.length - k) = l.length + 1 by omega] at ho
                replace hR := hR.grow (by decide) ho hg hv
                clear ho hg hv
                obtain ⟨g78, cp78, rfl, hg78, hgl78⟩ := (hR.row _ _ _ rfl).form (by omega)
                clear hg78 hgl78
                refine hK.out _ _ ⟨((hR.below).cell (p := ⟨w.heap.size, 0, none⟩) hzb).trans qb0, ((hR.below).cell (p := ⟨w.heap.size, 1, none⟩) hzb).trans qb1, ((hR.below).cell (p := ⟨w3.heap.size, 0, none⟩) hz9).trans qs0, ((hR.below).cell (p := ⟨w3.heap.size, 1, none⟩) hz9).trans qs1, ((hR.below).cell (p := ⟨w3.heap.size, 2, none⟩) hz9).trans qs2, ((hR.below).cell (p := ⟨w3.heap.size, 3, none⟩) hz9).trans qs3, ((hR.below).cell (p := ⟨w3.heap.size, 4, none⟩) hz9).trans qs4, ((hR.below).cell (p := ⟨w3.heap.size, 5, none⟩) hz9).trans qs5, ((hR.below).cell (p := ⟨w3.heap.size, 6, none⟩) hz9).trans qs6⟩ (fun hHeld => ?_)
                clear hK K
                refine norm_ (a' := ?_) ?_ ?_
                rotate_left
                · show Act.put _ (some 78) _ = _
                  simp only [Act.put, List.setIfInBounds_toArray, List.set_cons_zero, List.set_cons_succ, i64_w, i32_w]
                  rfl
                refine pure_ (i := 16) (N := some 79) (v := ?_) (a' := ?_) #[true, true, true, true, true, true, true, true, true, true, true, true, true, true, true, true, true, true, false] rfl rfl (by kernel_rfl) (fun _ _ _ h => h) (Or.inl ⟨by rfl, ?_⟩) ?_ ?_
                rotate_left
                · intro w'
                  go_simp
                  with_reducible rfl
                rotate_left
                · simp only [Act.put, List.setIfInBounds_toArray, List.set_cons_zero, List.set_cons_succ, i64_w, i32_w]
                  rfl
                exact norm_ (by first | (simp only [putAll, Act.put, List.setIfInBounds_toArray, List.set_cons_zero, List.set_cons_succ]; done) | (simp only [putAll, Act.put, List.setIfInBounds_toArray, List.set_cons_zero, List.set_cons_succ]; rfl)) (hCont (g65, v70, g72, v73, g78, cp78, gx) _ hR)
            · skip
              refine value_ (w1 := ?_) (v := ?_) (by rfl) rfl ?_ ?_
              rotate_left 2
              · go_simp
                constructor
                · rfl
                · rfl
              refine St.arm_x hR ?_
              clear hR
              intro gx w7 hR
              refine hK.out _ _ ⟨((hR.below).cell (p := ⟨w.heap.size, 0, none⟩) hzb).trans qb0, ((hR.below).cell (p := ⟨w.heap.size, 1, none⟩) hzb).trans qb1, ((hR.below).cell (p := ⟨w3.heap.size, 0, none⟩) hz9).trans qs0, ((hR.below).cell (p := ⟨w3.heap.size, 1, none⟩) hz9).trans qs1, ((hR.below).cell (p := ⟨w3.heap.size, 2, none⟩) hz9).trans qs2, ((hR.below).cell (p := ⟨w3.heap.size, 3, none⟩) hz9).trans qs3, ((hR.below).cell (p := ⟨w3.heap.size, 4, none⟩) hz9).trans qs4, ((hR.below).cell (p := ⟨w3.heap.size, 5, none⟩) hz9).trans qs5, ((hR.below).cell (p := ⟨w3.heap.size, 6, none⟩) hz9).trans qs6⟩ (fun hHeld => ?_)
              clear hK K
              refine norm_ (a' := ?_) ?_ ?_
              rotate_left
              · show Act.put _ (some 10) _ = _
                simp only [Act.put, List.setIfInBounds_toArray, List.set_cons_zero, List.set_cons_succ, i64_w, i32_w]
                rfl
              refine two_ (i := 7) (j := 9) (Ni := some 70) (Nj := some 72) #[true, true, true, true, true, true, true, true, true, false, false, true, true, true, true, false, false, true, false] #[true, true, true, true, true, true, true, false, true, true, false, true, true, true, true, false, false, true, false] rfl rfl rfl rfl (by kernel_rfl) (by decide) (by decide) (fun K hK => ?_) (fun K hK => ?_)
              · skip
                refine step_append_any _ rfl (.tmp 65) (.tmp 69) 34 rfl W.heap.size 26 i0 (.agg #[.int .u8 0, .int .i64 0, .int .u8 0, .int .u64 0, .int .u8 0, .int .u64 0, .int .i64 0]) 7 56 Try.underlying34 HI.out HI0.out HI1.out HI2.out rfl (by decide) _ 0 [] rfl (hR.row _ _ _ rfl) _ ca k _ (codes lt) rfl ((HR0.below hR.below)) (codes_one _) (by unfold maxLen; omega) (by omega) hR.hB ?_
                intro v70 w7 ho hg hv
                rw [Nat.zero_add, List.nil_append] at ho
                replace hR := hR.grow (by decide) ho hg hv
                clear ho hg hv
                refine hK.out _ _ ⟨((hR.below).cell (p := ⟨w.heap.size, 0, none⟩) hzb).trans qb0, ((hR.below).cell (p := ⟨w.heap.size, 1, none⟩) hzb).trans qb1, ((hR.below).cell (p := ⟨w3.heap.size, 0, none⟩) hz9).trans qs0, ((hR.below).cell (p := ⟨w3.heap.size, 1, none⟩) hz9).trans qs1, ((hR.below).cell (p := ⟨w3.heap.size, 2, none⟩) hz9).trans qs2, ((hR.below).cell (p := ⟨w3.heap.size, 3, none⟩) hz9).trans qs3, ((hR.below).cell (p := ⟨w3.heap.size, 4, none⟩) hz9).trans qs4, ((hR.below).cell (p := ⟨w3.heap.size, 5, none⟩) hz9).trans qs5, ((hR.below).cell (p := ⟨w3.heap.size, 6, none⟩) hz9).trans qs6⟩ (fun hHeld => ?_)
                clear hK K
                refine norm_ (a' := ?_) ?_ ?_
                rotate_left
                · show Act.put _ (some 70) _ = _
                  simp only [Act.put, List.setIfInBounds_toArray, List.set_cons_zero, List.set_cons_succ, i64_w, i32_w]
                  rfl
                refine one_ (i := 9) (N := some 72) #[true, true, true, true, true, true, true, true, true, true, false, true, true, true, true, false, false, true, false] rfl rfl (by kernel_rfl) (by decide) (fun K hK => ?_)
                refine value_ (w1 := ?_) (v := ?_) (by rfl) rfl ?_ ?_
                rotate_left 2
                · go_simp
                  constructor
                  · rfl
                  · rfl
                refine St.arm_one hR ?_
                clear hR
                intro g72 w7 hR
                refine hK.out _ _ ⟨((hR.below).cell (p := ⟨w.heap.size, 0, none⟩) hzb).trans qb0, ((hR.below).cell (p := ⟨w.heap.size, 1, none⟩) hzb).trans qb1, ((hR.below).cell (p := ⟨w3.heap.size, 0, none⟩) hz9).trans qs0, ((hR.below).cell (p := ⟨w3.heap.size, 1, none⟩) hz9).trans qs1, ((hR.below).cell (p := ⟨w3.heap.size, 2, none⟩) hz9).trans qs2, ((hR.below).cell (p := ⟨w3.heap.size, 3, none⟩) hz9).trans qs3, ((hR.below).cell (p := ⟨w3.heap.size, 4, none⟩) hz9).trans qs4, ((hR.below).cell (p := ⟨w3.heap.size, 5, none⟩) hz9).trans qs5, ((hR.below).cell (p := ⟨w3.heap.size, 6, none⟩) hz9).trans qs6⟩ (fun hHeld => ?_)
                clear hK K
                refine norm_ (a' := ?_) ?_ ?_
                rotate_left
                · show Act.put _ (some 72) _ = _
                  simp only [Act.put, List.setIfInBounds_toArray, List.set_cons_zero, List.set_cons_succ, i64_w, i32_w]
                  rfl
                refine one_ (i := 10) (N := some 73) #[true, true, true, true, true, true, true, true, true, true, true, true, true, true, true, false, false, true, false] rfl rfl (by kernel_rfl) (by decide) (fun K hK => ?_)
                refine step_append_any _ rfl (.tmp 70) (.tmp 72) 34 rfl W.heap.size 26 i0 (.agg #[.int .u8 0, .int .i64 0, .int .u8 0, .int .u64 0, .int .u8 0, .int .u64 0, .int .i64 0]) 7 56 Try.underlying34 HI.out HI0.out HI1.out HI2.out rfl (by decide) _ k (codes lt) rfl (hR.row _ _ _ rfl) _ _ 1 1 (codes [skipIns n]) rfl (hR.reads_one rfl) (codes_one _) (by unfold maxLen; omega) (by omega) hR.hB ?_
                intro v73 w7 ho hg hv
                skip
                replace hR := hR.grow (by decide) ho hg hv
                clear ho hg hv
                refine hK.out _ _ ⟨((hR.below).cell (p := ⟨w.heap.size, 0, none⟩) hzb).trans qb0, ((hR.below).cell (p := ⟨w.heap.size, 1, none⟩) hzb).trans qb1, ((hR.below).cell (p := ⟨w3.heap.size, 0, none⟩) hz9).trans qs0, ((hR.below).cell (p := ⟨w3.heap.size, 1, none⟩) hz9).trans qs1, ((hR.below).cell (p := ⟨w3.heap.size, 2, none⟩) hz9).trans qs2, ((hR.below).cell (p := ⟨w3.heap.size, 3, none⟩) hz9).trans qs3, ((hR.below).cell (p := ⟨w3.heap.size, 4, none⟩) hz9).trans qs4, ((hR.below).cell (p := ⟨w3.heap.size, 5, none⟩) hz9).trans qs5, ((hR.below).cell (p := ⟨w3.heap.size, 6, none⟩) hz9).trans qs6⟩ (fun hHeld => ?_)
                clear hK K
                refine norm_ (a' := ?_) ?_ ?_
                rotate_left
                · show Act.put _ (some 73) _ = _
                  simp only [Act.put, List.setIfInBounds_toArray, List.set_cons_zero, List.set_cons_succ, i64_w, i32_w]
                  rfl
                refine one_ (i := 15) (N := some 78) #[true, true, true, true, true, true, true, true, true, true, true, true, true, true, true, true, false, true, false] rfl rfl (by kernel_rfl) (by decide) (fun K hK => ?_)
                refine step_append_any _ rfl (.tmp 73) (.tmp 77) 34 rfl W.heap.size 26 i0 (.agg #[.int .u8 0, .int .i64 0, .int .u8 0, .int .u64 0, .int .u8 0, .int .u64 0, .int .i64 0]) 7 56 Try.underlying34 HI.out HI0.out HI1.out HI2.out rfl (by decide) _ (k + 1) (codes lt ++ codes [skipIns n]) rfl (hR.row _ _ _ rfl) _ _ (l.length - k) _ (codes ld) rfl ((HR1.below hR.below)) (codes_one _) (by unfold maxLen; omega) (by omega) hR.hB ?_
                intro v78 w7 ho hg hv
                rw [show k + 1 + (l.length - k) = l.length + 1 by omega] at ho
                replace hR := hR.grow (by decide) ho hg hv
                clear ho hg hv
                obtain ⟨g78, cp78, rfl, hg78, hgl78⟩ := (hR.row _ _ _ rfl).form (by omega)
                clear hg78 hgl78
                refine hK.out _ _ ⟨((hR.below).cell (p := ⟨w.heap.size, 0, none⟩) hzb).trans qb0, ((hR.below).cell (p := ⟨w.heap.size, 1, none⟩) hzb).trans qb1, ((hR.below).cell (p := ⟨w3.heap.size, 0, none⟩) hz9).trans qs0, ((hR.below).cell (p := ⟨w3.heap.size, 1, none⟩) hz9).trans qs1, ((hR.below).cell (p := ⟨w3.heap.size, 2, none⟩) hz9).trans qs2, ((hR.below).cell (p := ⟨w3.heap.size, 3, none⟩) hz9).trans qs3, ((hR.below).cell (p := ⟨w3.heap.size, 4, none⟩) hz9).trans qs4, ((hR.below).cell (p := ⟨w3.heap.size, 5, none⟩) hz9).trans qs5, ((hR.below).cell (p := ⟨w3.heap.size, 6, none⟩) hz9).trans qs6⟩ (fun hHeld => ?_)
                clear hK K
                refine norm_ (a' := ?_) ?_ ?_
                rotate_left
                · show Act.put _ (some 78) _ = _
                  simp only [Act.put, List.setIfInBounds_toArray, List.set_cons_zero, List.set_cons_succ, i64_w, i32_w]
                  rfl
                refine pure_ (i := 16) (N := some 79) (v := ?_) (a' := ?_) #[true, true, true, true, true, true, true, true, true, true, true, true, true, true, true, true, true, true, false] rfl rfl (by kernel_rfl) (fun _ _ _ h => h) (Or.inl ⟨by rfl, ?_⟩) ?_ ?_
                rotate_left
                · intro w'
                  go_simp
                  with_reducible rfl
                rotate_left
                · simp only [Act.put, List.setIfInBounds_toArray, List.set_cons_zero, List.set_cons_succ, i64_w, i32_w]
                  rfl
                exact norm_ (by first | (simp only [putAll, Act.put, List.setIfInBounds_toArray, List.set_cons_zero, List.set_cons_succ]; done) | (simp only [putAll, Act.put, List.setIfInBounds_toArray, List.set_cons_zero, List.set_cons_succ]; rfl)) (hCont (g65, v70, g72, v73, g78, cp78, gx) _ hR)
              · skip
                refine value_ (w1 := ?_) (v := ?_) (by rfl) rfl ?_ ?_
                rotate_left 2
                · go_simp
                  constructor
                  · rfl
                  · rfl
                refine St.arm_one hR ?_
                clear hR
                intro g72 w7 hR
                refine hK.out _ _ ⟨((hR.below).cell (p := ⟨w.heap.size, 0, none⟩) hzb).trans qb0, ((hR.below).cell (p := ⟨w.heap.size, 1, none⟩) hzb).trans qb1, ((hR.below).cell (p := ⟨w3.heap.size, 0, none⟩) hz9).trans qs0, ((hR.below).cell (p := ⟨w3.heap.size, 1, none⟩) hz9).trans qs1, ((hR.below).cell (p := ⟨w3.heap.size, 2, none⟩) hz9).trans qs2, ((hR.below).cell (p := ⟨w3.heap.size, 3, none⟩) hz9).trans qs3, ((hR.below).cell (p := ⟨w3.heap.size, 4, none⟩) hz9).trans qs4, ((hR.below).cell (p := ⟨w3.heap.size, 5, none⟩) hz9).trans qs5, ((hR.below).cell (p := ⟨w3.heap.size, 6, none⟩) hz9).trans qs6⟩ (fun hHeld => ?_)
                clear hK K
                refine norm_ (a' := ?_) ?_ ?_
                rotate_left
                · show Act.put _ (some 72) _ = _
                  simp only [Act.put, List.setIfInBounds_toArray, List.set_cons_zero, List.set_cons_succ, i64_w, i32_w]
                  rfl
                refine one_ (i := 7) (N := some 70) #[true, true, true, true, true, true, true, true, true, true, false, true, true, true, true, false, false, true, false] rfl rfl (by kernel_rfl) (by decide) (fun K hK => ?_)
                refine step_append_any _ rfl (.tmp 65) (.tmp 69) 34 rfl W.heap.size 26 i0 (.agg #[.int .u8 0, .int .i64 0, .int .u8 0, .int .u64 0, .int .u8 0, .int .u64 0, .int .i64 0]) 7 56 Try.underlying34 HI.out HI0.out HI1.out HI2.out rfl (by decide) _ 0 [] rfl (hR.row _ _ _ rfl) _ ca k _ (codes lt) rfl ((HR0.below hR.below)) (codes_one _) (by unfold maxLen; omega) (by omega) hR.hB ?_
                intro v70 w7 ho hg hv
                rw [Nat.zero_add, List.nil_append] at ho
                replace hR := hR.grow (by decide) ho hg hv
                clear ho hg hv
                refine hK.out _ _ ⟨((hR.below).cell (p := ⟨w.heap.size, 0, none⟩) hzb).trans qb0, ((hR.below).cell (p := ⟨w.heap.size, 1, none⟩) hzb).trans qb1, ((hR.below).cell (p := ⟨w3.heap.size, 0, none⟩) hz9).trans qs0, ((hR.below).cell (p := ⟨w3.heap.size, 1, none⟩) hz9).trans qs1, ((hR.below).cell (p := ⟨w3.heap.size, 2, none⟩) hz9).trans qs2, ((hR.below).cell (p := ⟨w3.heap.size, 3, none⟩) hz9).trans qs3, ((hR.below).cell (p := ⟨w3.heap.size, 4, none⟩) hz9).trans qs4, ((hR.below).cell (p := ⟨w3.heap.size, 5, none⟩) hz9).trans qs5, ((hR.below).cell (p := ⟨w3.heap.size, 6, none⟩) hz9).trans qs6⟩ (fun hHeld => ?_)
                clear hK K
                refine norm_ (a' := ?_) ?_ ?_
                rotate_left
                · show Act.put _ (some 70) _ = _
                  simp only [Act.put, List.setIfInBounds_toArray, List.set_cons_zero, List.set_cons_succ, i64_w, i32_w]
                  rfl
                refine one_ (i := 10) (N := some 73) #[true, true, true, true, true, true, true, true, true, true, true, true, true, true, true, false, false, true, false] rfl rfl (by kernel_rfl) (by decide) (fun K hK => ?_)
                refine step_append_any _ rfl (.tmp 70) (.tmp 72) 34 rfl W.heap.size 26 i0 (.agg #[.int .u8 0, .int .i64 0, .int .u8 0, .int .u64 0, .int .u8 0, .int .u64 0, .int .i64 0]) 7 56 Try.underlying34 HI.out HI0.out HI1.out HI2.out rfl (by decide) _ k (codes lt) rfl (hR.row _ _ _ rfl) _ _ 1 1 (codes [skipIns n]) rfl (hR.reads_one rfl) (codes_one _) (by unfold maxLen; omega) (by omega) hR.hB ?_
                intro v73 w7 ho hg hv
                skip
                replace hR := hR.grow (by decide) ho hg hv
                clear ho hg hv
                refine hK.out _ _ ⟨((hR.below).cell (p := ⟨w.heap.size, 0, none⟩) hzb).trans qb0, ((hR.below).cell (p := ⟨w.heap.size, 1, none⟩) hzb).trans qb1, ((hR.below).cell (p := ⟨w3.heap.size, 0, none⟩) hz9).trans qs0, ((hR.below).cell (p := ⟨w3.heap.size, 1, none⟩) hz9).trans qs1, ((hR.below).cell (p := ⟨w3.heap.size, 2, none⟩) hz9).trans qs2, ((hR.below).cell (p := ⟨w3.heap.size, 3, none⟩) hz9).trans qs3, ((hR.below).cell (p := ⟨w3.heap.size, 4, none⟩) hz9).trans qs4, ((hR.below).cell (p := ⟨w3.heap.size, 5, none⟩) hz9).trans qs5, ((hR.below).cell (p := ⟨w3.heap.size, 6, none⟩) hz9).trans qs6⟩ (fun hHeld => ?_)
                clear hK K
                refine norm_ (a' := ?_) ?_ ?_
                rotate_left
                · show Act.put _ (some 73) _ = _
                  simp only [Act.put, List.setIfInBounds_toArray, List.set_cons_zero, List.set_cons_succ, i64_w, i32_w]
                  rfl
                refine one_ (i := 15) (N := some 78) #[true, true, true, true, true, true, true, true, true, true, true, true, true, true, true, true, false, true, false] rfl rfl (by kernel_rfl) (by decide) (fun K hK => ?_)
                refine step_append_any _ rfl (.tmp 73) (.tmp 77) 34 rfl W.heap.size 26 i0 (.agg #[.int .u8 0, .int .i64 0, .int .u8 0, .int .u64 0, .int .u8 0, .int .u64 0, .int .i64 0]) 7 56 Try.underlying34 HI.out HI0.out HI1.out HI2.out rfl (by decide) _ (k + 1) (codes lt ++ codes [skipIns n]) rfl (hR.row _ _ _ rfl) _ _ (l.length - k) _ (codes ld) rfl ((HR1.below hR.below)) (codes_one _) (by unfold maxLen; omega) (by omega) hR.hB ?_
                intro v78 w7 ho hg hv
                rw [show k + 1 + (l.length - k) = l.length + 1 by omega] at ho
                replace hR := hR.grow (by decide) ho hg hv
                clear ho hg hv
                obtain ⟨g78, cp78, rfl, hg78, hgl78⟩ := (hR.row _ _ _ rfl).form (by omega)
                clear hg78 hgl78
                refine hK.out _ _ ⟨((hR.below).cell (p := ⟨w.heap.size, 0, none⟩) hzb).trans qb0, ((hR.below).cell (p := ⟨w.heap.size, 1, none⟩) hzb).trans qb1, ((hR.below).cell (p := ⟨w3.heap.size, 0, none⟩) hz9).trans qs0, ((hR.below).cell (p := ⟨w3.heap.size, 1, none⟩) hz9).trans qs1, ((hR.below).cell (p := ⟨w3.heap.size, 2, none⟩) hz9).trans qs2, ((hR.below).cell (p := ⟨w3.heap.size, 3, none⟩) hz9).trans qs3, ((hR.below).cell (p := ⟨w3.heap.size, 4, none⟩) hz9).trans qs4, ((hR.below).cell (p := ⟨w3.heap.size, 5, none⟩) hz9).trans qs5, ((hR.below).cell (p := ⟨w3.heap.size, 6, none⟩) hz9).trans qs6⟩ (fun hHeld => ?_)
                clear hK K
                refine norm_ (a' := ?_) ?_ ?_
                rotate_left
                · show Act.put _ (some 78) _ = _
                  simp only [Act.put, List.setIfInBounds_toArray, List.set_cons_zero, List.set_cons_succ, i64_w, i32_w]
                  rfl
                refine pure_ (i := 16) (N := some 79) (v := ?_) (a' := ?_) #[true, true, true, true, true, true, true, true, true, true, true, true, true, true, true, true, true, true, false] rfl rfl (by kernel_rfl) (fun _ _ _ h => h) (Or.inl ⟨by rfl, ?_⟩) ?_ ?_
                rotate_left
                · intro w'
                  go_simp
                  with_reducible rfl
                rotate_left
                · simp only [Act.put, List.setIfInBounds_toArray, List.set_cons_zero, List.set_cons_succ, i64_w, i32_w]
                  rfl
                exact norm_ (by first | (simp only [putAll, Act.put, List.setIfInBounds_toArray, List.set_cons_zero, List.set_cons_succ]; done) | (simp only [putAll, Act.put, List.setIfInBounds_toArray, List.set_cons_zero, List.set_cons_succ]; rfl)) (hCont (g65, v70, g72, v73, g78, cp78, gx) _ hR)
          · skip
            refine value_ (w1 := ?_) (v := ?_) (by rfl) rfl ?_ ?_
            rotate_left 2
            · go_simp
              constructor
              · rfl
              · rfl
            refine St.arm_one hR ?_
            clear hR
            intro g72 w7 hR
            refine hK.out _ _ ⟨((hR.below).cell (p := ⟨w.heap.size, 0, none⟩) hzb).trans qb0, ((hR.below).cell (p := ⟨w.heap.size, 1, none⟩) hzb).trans qb1, ((hR.below).cell (p := ⟨w3.heap.size, 0, none⟩) hz9).trans qs0, ((hR.below).cell (p := ⟨w3.heap.size, 1, none⟩) hz9).trans qs1, ((hR.below).cell (p := ⟨w3.heap.size, 2, none⟩) hz9).trans qs2, ((hR.below).cell (p := ⟨w3.heap.size, 3, none⟩) hz9).trans qs3, ((hR.below).cell (p := ⟨w3.heap.size, 4, none⟩) hz9).trans qs4, ((hR.below).cell (p := ⟨w3.heap.size, 5, none⟩) hz9).trans qs5, ((hR.below).cell (p := ⟨w3.heap.size, 6, none⟩) hz9).trans qs6⟩ (fun hHeld => ?_)
            clear hK K
            refine norm_ (a' := ?_) ?_ ?_
            rotate_left
            · show Act.put _ (some 72) _ = _
              simp only [Act.put, List.setIfInBounds_toArray, List.set_cons_zero, List.set_cons_succ, i64_w, i32_w]
              rfl
            refine two_ (i := 2) (j := 17) (Ni := some 65) (Nj := some 10) #[true, true, true, true, true, true, true, false, true, true, false, true, true, true, true, false, false, false, false] #[true, true, false, true, true, true, true, false, true, true, false, true, true, true, true, false, false, true, false] rfl rfl rfl rfl (by kernel_rfl) (by decide) (by decide) (fun K hK => ?_) (fun K hK => ?_)
            · skip
              refine value_ (w1 := ?_) (v := ?_) (by rfl) rfl ?_ ?_
              rotate_left 2
              · go_simp
                constructor
                · rfl
                · rfl
              refine St.arm_row hR ?_
              clear hR
              intro g65 w7 hR
              refine hK.out _ _ ⟨((hR.below).cell (p := ⟨w.heap.size, 0, none⟩) hzb).trans qb0, ((hR.below).cell (p := ⟨w.heap.size, 1, none⟩) hzb).trans qb1, ((hR.below).cell (p := ⟨w3.heap.size, 0, none⟩) hz9).trans qs0, ((hR.below).cell (p := ⟨w3.heap.size, 1, none⟩) hz9).trans qs1, ((hR.below).cell (p := ⟨w3.heap.size, 2, none⟩) hz9).trans qs2, ((hR.below).cell (p := ⟨w3.heap.size, 3, none⟩) hz9).trans qs3, ((hR.below).cell (p := ⟨w3.heap.size, 4, none⟩) hz9).trans qs4, ((hR.below).cell (p := ⟨w3.heap.size, 5, none⟩) hz9).trans qs5, ((hR.below).cell (p := ⟨w3.heap.size, 6, none⟩) hz9).trans qs6⟩ (fun hHeld => ?_)
              clear hK K
              refine norm_ (a' := ?_) ?_ ?_
              rotate_left
              · show Act.put _ (some 65) _ = _
                simp only [Act.put, List.setIfInBounds_toArray, List.set_cons_zero, List.set_cons_succ, i64_w, i32_w]
                rfl
              refine two_ (i := 7) (j := 17) (Ni := some 70) (Nj := some 10) #[true, true, true, true, true, true, true, true, true, true, false, true, true, true, true, false, false, false, false] #[true, true, true, true, true, true, true, false, true, true, false, true, true, true, true, false, false, true, false] rfl rfl rfl rfl (by kernel_rfl) (by decide) (by decide) (fun K hK => ?_) (fun K hK => ?_)
              · skip
                refine step_append_any _ rfl (.tmp 65) (.tmp 69) 34 rfl W.heap.size 26 i0 (.agg #[.int .u8 0, .int .i64 0, .int .u8 0, .int .u64 0, .int .u8 0, .int .u64 0, .int .i64 0]) 7 56 Try.underlying34 HI.out HI0.out HI1.out HI2.out rfl (by decide) _ 0 [] rfl (hR.row _ _ _ rfl) _ ca k _ (codes lt) rfl ((HR0.below hR.below)) (codes_one _) (by unfold maxLen; omega) (by omega) hR.hB ?_
                intro v70 w7 ho hg hv
                rw [Nat.zero_add, List.nil_append] at ho
                replace hR := hR.grow (by decide) ho hg hv
                clear ho hg hv
                refine hK.out _ _ ⟨((hR.below).cell (p := ⟨w.heap.size, 0, none⟩) hzb).trans qb0, ((hR.below).cell (p := ⟨w.heap.size, 1, none⟩) hzb).trans qb1, ((hR.below).cell (p := ⟨w3.heap.size, 0, none⟩) hz9).trans qs0, ((hR.below).cell (p := ⟨w3.heap.size, 1, none⟩) hz9).trans qs1, ((hR.below).cell (p := ⟨w3.heap.size, 2, none⟩) hz9).trans qs2, ((hR.below).cell (p := ⟨w3.heap.size, 3, none⟩) hz9).trans qs3, ((hR.below).cell (p := ⟨w3.heap.size, 4, none⟩) hz9).trans qs4, ((hR.below).cell (p := ⟨w3.heap.size, 5, none⟩) hz9).trans qs5, ((hR.below).cell (p := ⟨w3.heap.size, 6, none⟩) hz9).trans qs6⟩ (fun hHeld => ?_)
                clear hK K
                refine norm_ (a' := ?_) ?_ ?_
                rotate_left
                · show Act.put _ (some 70) _ = _
                  simp only [Act.put, List.setIfInBounds_toArray, List.set_cons_zero, List.set_cons_succ, i64_w, i32_w]
                  rfl
                refine two_ (i := 10) (j := 17) (Ni := some 73) (Nj := some 10) #[true, true, true, true, true, true, true, true, true, true, true, true, true, true, true, false, false, false, false] #[true, true, true, true, true, true, true, true, true, true, false, true, true, true, true, false, false, true, false] rfl rfl rfl rfl (by kernel_rfl) (by decide) (by decide) (fun K hK => ?_) (fun K hK => ?_)
                · skip
                  refine step_append_any _ rfl (.tmp 70) (.tmp 72) 34 rfl W.heap.size 26 i0 (.agg #[.int .u8 0, .int .i64 0, .int .u8 0, .int .u64 0, .int .u8 0, .int .u64 0, .int .i64 0]) 7 56 Try.underlying34 HI.out HI0.out HI1.out HI2.out rfl (by decide) _ k (codes lt) rfl (hR.row _ _ _ rfl) _ _ 1 1 (codes [skipIns n]) rfl (hR.reads_one rfl) (codes_one _) (by unfold maxLen; omega) (by omega) hR.hB ?_
                  intro v73 w7 ho hg hv
                  skip
                  replace hR := hR.grow (by decide) ho hg hv
                  clear ho hg hv
                  refine hK.out _ _ ⟨((hR.below).cell (p := ⟨w.heap.size, 0, none⟩) hzb).trans qb0, ((hR.below).cell (p := ⟨w.heap.size, 1, none⟩) hzb).trans qb1, ((hR.below).cell (p := ⟨w3.heap.size, 0, none⟩) hz9).trans qs0, ((hR.below).cell (p := ⟨w3.heap.size, 1, none⟩) hz9).trans qs1, ((hR.below).cell (p := ⟨w3.heap.size, 2, none⟩) hz9).trans qs2, ((hR.below).cell (p := ⟨w3.heap.size, 3, none⟩) hz9).trans qs3, ((hR.below).cell (p := ⟨w3.heap.size, 4, none⟩) hz9).trans qs4, ((hR.below).cell (p := ⟨w3.heap.size, 5, none⟩) hz9).trans qs5, ((hR.below).cell (p := ⟨w3.heap.size, 6, none⟩) hz9).trans qs6⟩ (fun hHeld => ?_)
                  clear hK K
                  refine norm_ (a' := ?_) ?_ ?_
                  rotate_left
                  · show Act.put _ (some 73) _ = _
                    simp only [Act.put, List.setIfInBounds_toArray, List.set_cons_zero, List.set_cons_succ, i64_w, i32_w]
                    rfl
                  refine two_ (i := 15) (j := 17) (Ni := some 78) (Nj := some 10) #[true, true, true, true, true, true, true, true, true, true, true, true, true, true, true, true, false, false, false] #[true, true, true, true, true, true, true, true, true, true, true, true, true, true, true, false, false, true, false] rfl rfl rfl rfl (by kernel_rfl) (by decide) (by decide) (fun K hK => ?_) (fun K hK => ?_)
                  · skip
                    refine step_append_any _ rfl (.tmp 73) (.tmp 77) 34 rfl W.heap.size 26 i0 (.agg #[.int .u8 0, .int .i64 0, .int .u8 0, .int .u64 0, .int .u8 0, .int .u64 0, .int .i64 0]) 7 56 Try.underlying34 HI.out HI0.out HI1.out HI2.out rfl (by decide) _ (k + 1) (codes lt ++ codes [skipIns n]) rfl (hR.row _ _ _ rfl) _ _ (l.length - k) _ (codes ld) rfl ((HR1.below hR.below)) (codes_one _) (by unfold maxLen; omega) (by omega) hR.hB ?_
                    intro v78 w7 ho hg hv
                    rw [show k + 1 + (l.length - k) = l.length + 1 by omega] at ho
                    replace hR := hR.grow (by decide) ho hg hv
                    clear ho hg hv
                    obtain ⟨g78, cp78, rfl, hg78, hgl78⟩ := (hR.row _ _ _ rfl).form (by omega)
                    clear hg78 hgl78
                    refine hK.out _ _ ⟨((hR.below).cell (p := ⟨w.heap.size, 0, none⟩) hzb).trans qb0, ((hR.below).cell (p := ⟨w.heap.size, 1, none⟩) hzb).trans qb1, ((hR.below).cell (p := ⟨w3.heap.size, 0, none⟩) hz9).trans qs0, ((hR.below).cell (p := ⟨w3.heap.size, 1, none⟩) hz9).trans qs1, ((hR.below).cell (p := ⟨w3.heap.size, 2, none⟩) hz9).trans qs2, ((hR.below).cell (p := ⟨w3.heap.size, 3, none⟩) hz9).trans qs3, ((hR.below).cell (p := ⟨w3.heap.size, 4, none⟩) hz9).trans qs4, ((hR.below).cell (p := ⟨w3.heap.size, 5, none⟩) hz9).trans qs5, ((hR.below).cell (p := ⟨w3.heap.size, 6, none⟩) hz9).trans qs6⟩ (fun hHeld => ?_)
                    clear hK K
                    refine norm_ (a' := ?_) ?_ ?_
                    rotate_left
                    · show Act.put _ (some 78) _ = _
                      simp only [Act.put, List.setIfInBounds_toArray, List.set_cons_zero, List.set_cons_succ, i64_w, i32_w]
                      rfl
                    refine pure_ (i := 16) (N := some 79) (v := ?_) (a' := ?_) #[true, true, true, true, true, true, true, true, true, true, true, true, true, true, true, true, true, false, false] rfl rfl (by kernel_rfl) (fun _ _ _ h => h) (Or.inl ⟨by rfl, ?_⟩) ?_ ?_
                    rotate_left
                    · intro w'
                      go_simp
                      with_reducible rfl
                    rotate_left
                    · simp only [Act.put, List.setIfInBounds_toArray, List.set_cons_zero, List.set_cons_succ, i64_w, i32_w]
                      rfl
                    refine one_ (i := 17) (N := some 10) #[true, true, true, true, true, true, true, true, true, true, true, true, true, true, true, true, true, true, false] rfl rfl (by kernel_rfl) (by decide) (fun K hK => ?_)
                    refine value_ (w1 := ?_) (v := ?_) (by rfl) rfl ?_ ?_
                    rotate_left 2
                    · go_simp
                      constructor
                      · rfl
                      · rfl
                    refine St.arm_x hR ?_
                    clear hR
                    intro gx w7 hR
                    refine hK.out _ _ ⟨((hR.below).cell (p := ⟨w.heap.size, 0, none⟩) hzb).trans qb0, ((hR.below).cell (p := ⟨w.heap.size, 1, none⟩) hzb).trans qb1, ((hR.below).cell (p := ⟨w3.heap.size, 0, none⟩) hz9).trans qs0, ((hR.below).cell (p := ⟨w3.heap.size, 1, none⟩) hz9).trans qs1, ((hR.below).cell (p := ⟨w3.heap.size, 2, none⟩) hz9).trans qs2, ((hR.below).cell (p := ⟨w3.heap.size, 3, none⟩) hz9).trans qs3, ((hR.below).cell (p := ⟨w3.heap.size, 4, none⟩) hz9).trans qs4, ((hR.below).cell (p := ⟨w3.heap.size, 5, none⟩) hz9).trans qs5, ((hR.below).cell (p := ⟨w3.heap.size, 6, none⟩) hz9).trans qs6⟩ (fun hHeld => ?_)
                    clear hK K
                    refine norm_ (a' := ?_) ?_ ?_
                    rotate_left
                    · show Act.put _ (some 10) _ = _
                      simp only [Act.put, List.setIfInBounds_toArray, List.set_cons_zero, List.set_cons_succ, i64_w, i32_w]
                      rfl
                    exact norm_ (by first | (simp only [putAll, Act.put, List.setIfInBounds_toArray, List.set_cons_zero, List.set_cons_succ]; done) | (simp only [putAll, Act.put, List.setIfInBounds_toArray, List.set_cons_zero, List.set_cons_succ]; rfl)) (hCont (g65, v70, g72, v73, g78, cp78, gx) _ hR)
                  · skip
                    refine value_ (w1 := ?_) (v := ?_) (by rfl) rfl ?_ ?_
                    rotate_left 2
                    · go_simp
                      constructor
                      · rfl
                      · rfl
                    refine St.arm_x hR ?_
                    clear hR
                    intro gx w7 hR
                    refine hK.out _ _ ⟨((hR.below).cell (p := ⟨w.heap.size, 0, none⟩) hzb).trans qb0, ((hR.below).cell (p := ⟨w.heap.size, 1, none⟩) hzb).trans qb1, ((hR.below).cell (p := ⟨w3.heap.size, 0, none⟩) hz9).trans qs0, ((hR.below).cell (p := ⟨w3.heap.size, 1, none⟩) hz9).trans qs1, ((hR.below).cell (p := ⟨w3.heap.size, 2, none⟩) hz9).trans qs2, ((hR.below).cell (p := ⟨w3.heap.size, 3, none⟩) hz9).trans qs3, ((hR.below).cell (p := ⟨w3.heap.size, 4, none⟩) hz9).trans qs4, ((hR.below).cell (p := ⟨w3.heap.size, 5, none⟩) hz9).trans qs5, ((hR.below).cell (p := ⟨w3.heap.size, 6, none⟩) hz9).trans qs6⟩ (fun hHeld => ?_)
                    clear hK K
                    refine norm_ (a' := ?_) ?_ ?_
                    rotate_left
                    · show Act.put _ (some 10) _ = _
                      simp only [Act.put, List.setIfInBounds_toArray, List.set_cons_zero, List.set_cons_succ, i64_w, i32_w]
                      rfl
                    refine one_ (i := 15) (N := some 78) #[true, true, true, true, true, true, true, true, true, true, true, true, true, true, true, true, false, true, false] rfl rfl (by kernel_rfl) (by decide) (fun K hK => ?_)
                    refine step_append_any _ rfl (.tmp 73) (.tmp 77) 34 rfl W.heap.size 26 i0 (.agg #[.int .u8 0, .int .i64 0, .int .u8 0, .int .u64 0, .int .u8 0, .int .u64 0, .int .i64 0]) 7 56 Try.underlying34 HI.out HI0.out HI1.out HI2.out rfl (by decide) _ (k + 1) (codes lt ++ codes [skipIns n]) rfl (hR.row _ _ _ rfl) _ _ (l.length - k) _ (codes ld) rfl ((HR1.below hR.below)) (codes_one _) (by unfold maxLen; omega) (by omega) hR.hB ?_
                    intro v78 w7 ho hg hv
                    rw [show k + 1 + (l.length - k) = l.length + 1 by omega] at ho
                    replace hR := hR.grow (by decide) ho hg hv
                    clear ho hg hv
                    obtain ⟨g78, cp78, rfl, hg78, hgl78⟩ := (hR.row _ _ _ rfl).form (by omega)
                    clear hg78 hgl78
                    refine hK.out _ _ ⟨((hR.below).cell (p := ⟨w.heap.size, 0, none⟩) hzb).trans qb0, ((hR.below).cell (p := ⟨w.heap.size, 1, none⟩) hzb).trans qb1, ((hR.below).cell (p := ⟨w3.heap.size, 0, none⟩) hz9).trans qs0, ((hR.below).cell (p := ⟨w3.heap.size, 1, none⟩) hz9).trans qs1, ((hR.below).cell (p := ⟨w3.heap.size, 2, none⟩) hz9).trans qs2, ((hR.below).cell (p := ⟨w3.heap.size, 3, none⟩) hz9).trans qs3, ((hR.below).cell (p := ⟨w3.heap.size, 4, none⟩) hz9).trans qs4, ((hR.below).cell (p := ⟨w3.heap.size, 5, none⟩) hz9).trans qs5, ((hR.below).cell (p := ⟨w3.heap.size, 6, none⟩) hz9).trans qs6⟩ (fun hHeld => ?_)
                    clear hK K
                    refine norm_ (a' := ?_) ?_ ?_
                    rotate_left
                    · show Act.put _ (some 78) _ = _
                      simp only [Act.put, List.setIfInBounds_toArray, List.set_cons_zero, List.set_cons_succ, i64_w, i32_w]
                      rfl
                    refine pure_ (i := 16) (N := some 79) (v := ?_) (a' := ?_) #[true, true, true, true, true, true, true, true, true, true, true, true, true, true, true, true, true, true, false] rfl rfl (by kernel_rfl) (fun _ _ _ h => h) (Or.inl ⟨by rfl, ?_⟩) ?_ ?_
                    rotate_left
                    · intro w'
                      go_simp
                      with_reducible rfl
                    rotate_left
                    · simp only [Act.put, List.setIfInBounds_toArray, List.set_cons_zero, List.set_cons_succ, i64_w, i32_w]
                      rfl
                    exact norm_ (by first | (simp only [putAll, Act.put, List.setIfInBounds_toArray, List.set_cons_zero, List.set_cons_succ]; done) | (simp only [putAll, Act.put, List.setIfInBounds_toArray, List.set_cons_zero, List.set_cons_succ]; rfl)) (hCont (g65, v70, g72, v73, g78, cp78, gx) _ hR)
                · skip
                  refine value_ (w1 := ?_) (v := ?_) (by rfl) rfl ?_ ?_
                  rotate_left 2
                  · go_simp
                    constructor
                    · rfl
                    · rfl
                  refine St.arm_x hR ?_
                  clear hR
                  intro gx w7 hR
                  refine hK.out _ _ ⟨((hR.below).cell (p := ⟨w.heap.size, 0, none⟩) hzb).trans qb0, ((hR.below).cell (p := ⟨w.heap.size, 1, none⟩) hzb).trans qb1, ((hR.below).cell (p := ⟨w3.heap.size, 0, none⟩) hz9).trans qs0, ((hR.below).cell (p := ⟨w3.heap.size, 1, none⟩) hz9).trans qs1, ((hR.below).cell (p := ⟨w3.heap.size, 2, none⟩) hz9).trans qs2, ((hR.below).cell (p := ⟨w3.heap.size, 3, none⟩) hz9).trans qs3, ((hR.below).cell (p := ⟨w3.heap.size, 4, none⟩) hz9).trans qs4, ((hR.below).cell (p := ⟨w3.heap.size, 5, none⟩) hz9).trans qs5, ((hR.below).cell (p := ⟨w3.heap.size, 6, none⟩) hz9).trans qs6⟩ (fun hHeld => ?_)
                  clear hK K
                  refine norm_ (a' := ?_) ?_ ?_
                  rotate_left
                  · show Act.put _ (some 10) _ = _
                    simp only [Act.put, List.setIfInBounds_toArray, List.set_cons_zero, List.set_cons_succ, i64_w, i32_w]
                    rfl
                  refine one_ (i := 10) (N := some 73) #[true, true, true, true, true, true, true, true, true, true, true, true, true, true, true, false, false, true, false] rfl rfl (by kernel_rfl) (by decide) (fun K hK => ?_)
                  refine step_append_any _ rfl (.tmp 70) (.tmp 72) 34 rfl W.heap.size 26 i0 (.agg #[.int .u8 0, .int .i64 0, .int .u8 0, .int .u64 0, .int .u8 0, .int .u64 0, .int .i64 0]) 7 56 Try.underlying34 HI.out HI0.out HI1.out HI2.out rfl (by decide) _ k (codes lt) rfl (hR.row _ _ _ rfl) _ _ 1 1 (codes [skipIns n]) rfl (hR.reads_one rfl) (codes_one _) (by unfold maxLen; omega) (by omega) hR.hB ?_
                  intro v73 w7 ho hg hv
                  skip
                  replace hR := hR.grow (by decide) ho hg hv
                  clear ho hg hv
                  refine hK.out _ _ ⟨((hR.below).cell (p := ⟨w.heap.size, 0, none⟩) hzb).trans qb0, ((hR.below).cell (p := ⟨w.heap.size, 1, none⟩) hzb).trans qb1, ((hR.below).cell (p := ⟨w3.heap.size, 0, none⟩) hz9).trans qs0, ((hR.below).cell (p := ⟨w3.heap.size, 1, none⟩) hz9).trans qs1, ((hR.below).cell (p := ⟨w3.heap.size, 2, none⟩) hz9).trans qs2, ((hR.below).cell (p := ⟨w3.heap.size, 3, none⟩) hz9).trans qs3, ((hR.below).cell (p := ⟨w3.heap.size, 4, none⟩) hz9).trans qs4, ((hR.below).cell (p := ⟨w3.heap.size, 5, none⟩) hz9).trans qs5, ((hR.below).cell (p := ⟨w3.heap.size, 6, none⟩) hz9).trans qs6⟩ (fun hHeld => ?_)
                  clear hK K
                  refine norm_ (a' := ?_) ?_ ?_
                  rotate_left
                  · show Act.put _ (some 73) _ = _
                    simp only [Act.put, List.setIfInBounds_toArray, List.set_cons_zero, List.set_cons_succ, i64_w, i32_w]
                    rfl
                  refine one_ (i := 15) (N := some 78) #[true, true, true, true, true, true, true, true, true, true, true, true, true, true, true, true, false, true, false] rfl rfl (by kernel_rfl) (by decide) (fun K hK => ?_)
                  refine step_append_any _ rfl (.tmp 73) (.tmp 77) 34 rfl W.heap.size 26 i0 (.agg #[.int .u8 0, .int .i64 0, .int .u8 0, .int .u64 0, .int .u8 0, .int .u64 0, .int .i64 0]) 7 56 Try.underlying34 HI.out HI0.out HI1.out HI2.out rfl (by decide) _ (k + 1) (codes lt ++ codes [skipIns n]) rfl (hR.row _ _ _ rfl) _ _ (l.length - k) _ (codes ld) rfl ((HR1.below hR.below)) (codes_one _) (by unfold maxLen; omega) (by omega) hR.hB ?_
                  intro v78 w7 ho hg hv
                  rw [show k + 1 + (l.length - k) = l.length + 1 by omega] at ho
                  replace hR := hR.grow (by decide) ho hg hv
                  clear ho hg hv
                  obtain ⟨g78, cp78, rfl, hg78, hgl78⟩ := (hR.row _ _ _ rfl).form (by omega)
                  clear hg78 hgl78
                  refine hK.out _ _ ⟨((hR.below).cell (p := ⟨w.heap.size, 0, none⟩) hzb).trans qb0, ((hR.below).cell (p := ⟨w.heap.size, 1, none⟩) hzb).trans qb1, ((hR.below).cell (p := ⟨w3.heap.size, 0, none⟩) hz9).trans qs0, ((hR.below).cell (p := ⟨w3.heap.size, 1, none⟩) hz9).trans qs1, ((hR.below).cell (p := ⟨w3.heap.size, 2, none⟩) hz9).trans qs2, ((hR.below).cell (p := ⟨w3.heap.size, 3, none⟩) hz9).trans qs3, ((hR.below).cell (p := ⟨w3.heap.size, 4, none⟩) hz9).trans qs4, ((hR.below).cell (p := ⟨w3.heap.size, 5, none⟩) hz9).trans qs5, ((hR.below).cell (p := ⟨w3.heap.size, 6, none⟩) hz9).trans qs6⟩ (fun hHeld => ?_)
                  clear hK K
                  refine norm_ (a' := ?_) ?_ ?_
                  rotate_left
                  · show Act.put _ (some 78) _ = _
                    simp only [Act.put, List.setIfInBounds_toArray, List.set_cons_zero, List.set_cons_succ, i64_w, i32_w]
                    rfl
                  refine pure_ (i := 16) (N := some 79) (v := ?_) (a' := ?_) #[true, true, true, true, true, true, true, true, true, true, true, true, true, true, true, true, true, true, false] rfl rfl (by kernel_rfl) (fun _ _ _ h => h) (Or.inl ⟨by rfl, ?_⟩) ?_ ?_
                  rotate_left
                  · intro w'
                    go_simp
                    with_reducible rfl
                  rotate_left
                  · simp only [Act.put, List.setIfInBounds_toArray, List.set_cons_zero, List.set_cons_succ, i64_w, i32_w]
                    rfl
                  exact norm_ (by first | (simp only [putAll, Act.put, List.setIfInBounds_toArray, List.set_cons_zero, List.set_cons_succ]; done) | (simp only [putAll, Act.put, List.setIfInBounds_toArray, List.set_cons_zero, List.set_cons_succ]; rfl)) (hCont (g65, v70, g72, v73, g78, cp78, gx) _ hR)
              · skip
                refine value_ (w1 := ?_) (v := ?_) (by rfl) rfl ?_ ?_
                rotate_left 2
                · go_simp
                  constructor
                  · rfl
                  · rfl
                refine St.arm_x hR ?_
                clear hR
                intro gx w7 hR
                refine hK.out _ _ ⟨((hR.below).cell (p := ⟨w.heap.size, 0, none⟩) hzb).trans qb0, ((hR.below).cell (p := ⟨w.heap.size, 1, none⟩) hzb).trans qb1, ((hR.below).cell (p := ⟨w3.heap.size, 0, none⟩) hz9).trans qs0, ((hR.below).cell (p := ⟨w3.heap.size, 1, none⟩) hz9).trans qs1, ((hR.below).cell (p := ⟨w3.heap.size, 2, none⟩) hz9).trans qs2, ((hR.below).cell (p := ⟨w3.heap.size, 3, none⟩) hz9).trans qs3, ((hR.below).cell (p := ⟨w3.heap.size, 4, none⟩) hz9).trans qs4, ((hR.below).cell (p := ⟨w3.heap.size, 5, none⟩) hz9).trans qs5, ((hR.below).cell (p := ⟨w3.heap.size, 6, none⟩) hz9).trans qs6⟩ (fun hHeld => ?_)
                clear hK K
                refine norm_ (a' := ?_) ?_ ?_
                rotate_left
                · show Act.put _ (some 10) _ = _
                  simp only [Act.put, List.setIfInBounds_toArray, List.set_cons_zero, List.set_cons_succ, i64_w, i32_w]
                  rfl
                refine one_ (i := 7) (N := some 70) #[true, true, true, true, true, true, true, true, true, true, false, true, true, true, true, false, false, true, false] rfl rfl (by kernel_rfl) (by decide) (fun K hK => ?_)
                refine step_append_any _ rfl (.tmp 65) (.tmp 69) 34 rfl W.heap.size 26 i0 (.agg #[.int .u8 0, .int .i64 0, .int .u8 0, .int .u64 0, .int .u8 0, .int .u64 0, .int .i64 0]) 7 56 Try.underlying34 HI.out HI0.out HI1.out HI2.out rfl (by decide) _ 0 [] rfl (hR.row _ _ _ rfl) _ ca k _ (codes lt) rfl ((HR0.below hR.below)) (codes_one _) (by unfold maxLen; omega) (by omega) hR.hB ?_
                intro v70 w7 ho hg hv
                rw [Nat.zero_add, List.nil_append] at ho
                replace hR := hR.grow (by decide) ho hg hv
                clear ho hg hv
                refine hK.out _ _ ⟨((hR.below).cell (p := ⟨w.heap.size, 0, none⟩) hzb).trans qb0, ((hR.below).cell (p := ⟨w.heap.size, 1, none⟩) hzb).trans qb1, ((hR.below).cell (p := ⟨w3.heap.size, 0, none⟩) hz9).trans qs0, ((hR.below).cell (p := ⟨w3.heap.size, 1, none⟩) hz9).trans qs1, ((hR.below).cell (p := ⟨w3.heap.size, 2, none⟩) hz9).trans qs2, ((hR.below).cell (p := ⟨w3.heap.size, 3, none⟩) hz9).trans qs3, ((hR.below).cell (p := ⟨w3.heap.size, 4, none⟩) hz9).trans qs4, ((hR.below).cell (p := ⟨w3.heap.size, 5, none⟩) hz9).trans qs5, ((hR.below).cell (p := ⟨w3.heap.size, 6, none⟩) hz9).trans qs6⟩ (fun hHeld => ?_)
                clear hK K
                refine norm_ (a' := ?_) ?_ ?_
                rotate_left
                · show Act.put _ (some 70) _ = _
                  simp only [Act.put, List.setIfInBounds_toArray, List.set_cons_zero, List.set_cons_succ, i64_w, i32_w]
                  rfl
                refine one_ (i := 10) (N := some 73) #[true, true, true, true, true, true, true, true, true, true, true, true, true, true, true, false, false, true, false] rfl rfl (by kernel_rfl) (by decide) (fun K hK => ?_)
                refine step_append_any _ rfl (.tmp 70) (.tmp 72) 34 rfl W.heap.size 26 i0 (.agg #[.int .u8 0, .int .i64 0, .int .u8 0, .int .u64 0, .int .u8 0, .int .u64 0, .int .i64 0]) 7 56 Try.underlying34 HI.out HI0.out HI1.out HI2.out rfl (by decide) _ k (codes lt) rfl (hR.row _ _ _ rfl) _ _ 1 1 (codes [skipIns n]) rfl (hR.reads_one rfl) (codes_one _) (by unfold maxLen; omega) (by omega) hR.hB ?_
                intro v73 w7 ho hg hv
                skip
                replace hR := hR.grow (by decide) ho hg hv
                clear ho hg hv
                refine hK.out _ _ ⟨((hR.below).cell (p := ⟨w.heap.size, 0, none⟩) hzb).trans qb0, ((hR.below).cell (p := ⟨w.heap.size, 1, none⟩) hzb).trans qb1, ((hR.below).cell (p := ⟨w3.heap.size, 0, none⟩) hz9).trans qs0, ((hR.below).cell (p := ⟨w3.heap.size, 1, none⟩) hz9).trans qs1, ((hR.below).cell (p := ⟨w3.heap.size, 2, none⟩) hz9).trans qs2, ((hR.below).cell (p := ⟨w3.heap.size, 3, none⟩) hz9).trans qs3, ((hR.below).cell (p := ⟨w3.heap.size, 4, none⟩) hz9).trans qs4, ((hR.below).cell (p := ⟨w3.heap.size, 5, none⟩) hz9).trans qs5, ((hR.below).cell (p := ⟨w3.heap.size, 6, none⟩) hz9).trans qs6⟩ (fun hHeld => ?_)
                clear hK K
                refine norm_ (a' := ?_) ?_ ?_
                rotate_left
                · show Act.put _ (some 73) _ = _
                  simp only [Act.put, List.setIfInBounds_toArray, List.set_cons_zero, List.set_cons_succ, i64_w, i32_w]
                  rfl
                refine one_ (i := 15) (N := some 78) #[true, true, true, true, true, true, true, true, true, true, true, true, true, true, true, true, false, true, false] rfl rfl (by kernel_rfl) (by decide) (fun K hK => ?_)
                refine step_append_any _ rfl (.tmp 73) (.tmp 77) 34 rfl W.heap.size 26 i0 (.agg #[.int .u8 0, .int .i64 0, .int .u8 0, .int .u64 0, .int .u8 0, .int .u64 0, .int .i64 0]) 7 56 Try.underlying34 HI.out HI0.out HI1.out HI2.out rfl (by decide) _ (k + 1) (codes lt ++ codes [skipIns n]) rfl (hR.row _ _ _ rfl) _ _ (l.length - k) _ (codes ld) rfl ((HR1.below hR.below)) (codes_one _) (by unfold maxLen; omega) (by omega) hR.hB ?_
                intro v78 w7 ho hg hv
                rw [show k + 1 + (l.length - k) = l.length + 1 by omega] at ho
                replace hR := hR.grow (by decide) ho hg hv
                clear ho hg hv
                obtain ⟨g78, cp78, rfl, hg78, hgl78⟩ := (hR.row _ _ _ rfl).form (by omega)
                clear hg78 hgl78
                refine hK.out _ _ ⟨((hR.below).cell (p := ⟨w.heap.size, 0, none⟩) hzb).trans qb0, ((hR.below).cell (p := ⟨w.heap.size, 1, none⟩) hzb).trans qb1, ((hR.below).cell (p := ⟨w3.heap.size, 0, none⟩) hz9).trans qs0, ((hR.below).cell (p := ⟨w3.heap.size, 1, none⟩) hz9).trans qs1, ((hR.below).cell (p := ⟨w3.heap.size, 2, none⟩) hz9).trans qs2, ((hR.below).cell (p := ⟨w3.heap.size, 3, none⟩) hz9).trans qs3, ((hR.below).cell (p := ⟨w3.heap.size, 4, none⟩) hz9).trans qs4, ((hR.below).cell (p := ⟨w3.heap.size, 5, none⟩) hz9).trans qs5, ((hR.below).cell (p := ⟨w3.heap.size, 6, none⟩) hz9).trans qs6⟩ (fun hHeld => ?_)
                clear hK K
                refine norm_ (a' := ?_) ?_ ?_
                rotate_left
                · show Act.put _ (some 78) _ = _
                  simp only [Act.put, List.setIfInBounds_toArray, List.set_cons_zero, List.set_cons_succ, i64_w, i32_w]
                  rfl
                refine pure_ (i := 16) (N := some 79) (v := ?_) (a' := ?_) #[true, true, true, true, true, true, true, true, true, true, true, true, true, true, true, true, true, true, false] rfl rfl (by kernel_rfl) (fun _ _ _ h => h) (Or.inl ⟨by rfl, ?_⟩) ?_ ?_
                rotate_left
                · intro w'
                  go_simp
                  with_reducible rfl
                rotate_left
                · simp only [Act.put, List.setIfInBounds_toArray, List.set_cons_zero, List.set_cons_succ, i64_w, i32_w]
                  rfl
                exact norm_ (by first | (simp only [putAll, Act.put, List.setIfInBounds_toArray, List.set_cons_zero, List.set_cons_succ]; done) | (simp only [putAll, Act.put, List.setIfInBounds_toArray, List.set_cons_zero, List.set_cons_succ]; rfl)) (hCont (g65, v70, g72, v73, g78, cp78, gx) _ hR)
            · skip
              refine value_ (w1 := ?_) (v := ?_) (by rfl) rfl ?_ ?_
              rotate_left 2
              · go_simp
                constructor
                · rfl
                · rfl
              refine St.arm_x hR ?_
              clear hR
              intro gx w7 hR
              refine hK.out _ _ ⟨((hR.below).cell (p := ⟨w.heap.size, 0, none⟩) hzb).trans qb0, ((hR.below).cell (p := ⟨w.heap.size, 1, none⟩) hzb).trans qb1, ((hR.below).cell (p := ⟨w3.heap.size, 0, none⟩) hz9).trans qs0, ((hR.below).cell (p := ⟨w3.heap.size, 1, none⟩) hz9).trans qs1, ((hR.below).cell (p := ⟨w3.heap.size, 2, none⟩) hz9).trans qs2, ((hR.below).cell (p := ⟨w3.heap.size, 3, none⟩) hz9).trans qs3, ((hR.below).cell (p := ⟨w3.heap.size, 4, none⟩) hz9).trans qs4, ((hR.below).cell (p := ⟨w3.heap.size, 5, none⟩) hz9).trans qs5, ((hR.below).cell (p := ⟨w3.heap.size, 6, none⟩) hz9).trans qs6⟩ (fun hHeld => ?_)
              clear hK K
              refine norm_ (a' := ?_) ?_ ?_
              rotate_left
              · show Act.put _ (some 10) _ = _
                simp only [Act.put, List.setIfInBounds_toArray, List.set_cons_zero, List.set_cons_succ, i64_w, i32_w]
                rfl
              refine one_ (i := 2) (N := some 65) #[true, true, true, true, true, true, true, false, true, true, false, true, true, true, true, false, false, true, false] rfl rfl (by kernel_rfl) (by decide) (fun K hK => ?_)
              refine value_ (w1 := ?_) (v := ?_) (by rfl) rfl ?_ ?_
              rotate_left 2
              · go_simp
                constructor
                · rfl
                · rfl
              refine St.arm_row hR ?_
              clear hR
              intro g65 w7 hR
              refine hK.out _ _ ⟨((hR.below).cell (p := ⟨w.heap.size, 0, none⟩) hzb).trans qb0, ((hR.below).cell (p := ⟨w.heap.size, 1, none⟩) hzb).trans qb1, ((hR.below).cell (p := ⟨w3.heap.size, 0, none⟩) hz9).trans qs0, ((hR.below).cell (p := ⟨w3.heap.size, 1, none⟩) hz9).trans qs1, ((hR.below).cell (p := ⟨w3.heap.size, 2, none⟩) hz9).trans qs2, ((hR.below).cell (p := ⟨w3.heap.size, 3, none⟩) hz9).trans qs3, ((hR.below).cell (p := ⟨w3.heap.size, 4, none⟩) hz9).trans qs4, ((hR.below).cell (p := ⟨w3.heap.size, 5, none⟩) hz9).trans qs5, ((hR.below).cell (p := ⟨w3.heap.size, 6, none⟩) hz9).trans qs6⟩ (fun hHeld => ?_)
              clear hK K
              refine norm_ (a' := ?_) ?_ ?_
              rotate_left
              · show Act.put _ (some 65) _ = _
                simp only [Act.put, List.setIfInBounds_toArray, List.set_cons_zero, List.set_cons_succ, i64_w, i32_w]
                rfl
              refine one_ (i := 7) (N := some 70) #[true, true, true, true, true, true, true, true, true, true, false, true, true, true, true, false, false, true, false] rfl rfl (by kernel_rfl) (by decide) (fun K hK => ?_)
              refine step_append_any _ rfl (.tmp 65) (.tmp 69) 34 rfl W.heap.size 26 i0 (.agg #[.int .u8 0, .int .i64 0, .int .u8 0, .int .u64 0, .int .u8 0, .int .u64 0, .int .i64 0]) 7 56 Try.underlying34 HI.out HI0.out HI1.out HI2.out rfl (by decide) _ 0 [] rfl (hR.row _ _ _ rfl) _ ca k _ (codes lt) rfl ((HR0.below hR.below)) (codes_one _) (by unfold maxLen; omega) (by omega) hR.hB ?_
              intro v70 w7 ho hg hv
              rw [Nat.zero_add, List.nil_append] at ho
              replace hR := hR.grow (by decide) ho hg hv
              clear ho hg hv
              refine hK.out _ _ ⟨((hR.below).cell (p := ⟨w.heap.size, 0, none⟩) hzb).trans qb0, ((hR.below).cell (p := ⟨w.heap.size, 1, none⟩) hzb).trans qb1, ((hR.below).cell (p := ⟨w3.heap.size, 0, none⟩) hz9).trans qs0, ((hR.below).cell (p := ⟨w3.heap.size, 1, none⟩) hz9).trans qs1, ((hR.below).cell (p := ⟨w3.heap.size, 2, none⟩) hz9).trans qs2, ((hR.below).cell (p := ⟨w3.heap.size, 3, none⟩) hz9).trans qs3, ((hR.below).cell (p := ⟨w3.heap.size, 4, none⟩) hz9).trans qs4, ((hR.below).cell (p := ⟨w3.heap.size, 5, none⟩) hz9).trans qs5, ((hR.below).cell (p := ⟨w3.heap.size, 6, none⟩) hz9).trans qs6⟩ (fun hHeld => ?_)
              clear hK K
              refine norm_ (a' := ?_) ?_ ?_
              rotate_left
              · show Act.put _ (some 70) _ = _
                simp only [Act.put, List.setIfInBounds_toArray, List.set_cons_zero, List.set_cons_succ, i64_w, i32_w]
                rfl
              refine one_ (i := 10) (N := some 73) #[true, true, true, true, true, true, true, true, true, true, true, true, true, true, true, false, false, true, false] rfl rfl (by kernel_rfl) (by decide) (fun K hK => ?_)
              refine step_append_any _ rfl (.tmp 70) (.tmp 72) 34 rfl W.heap.size 26 i0 (.agg #[.int .u8 0, .int .i64 0, .int .u8 0, .int .u64 0, .int .u8 0, .int .u64 0, .int .i64 0]) 7 56 Try.underlying34 HI.out HI0.out HI1.out HI2.out rfl (by decide) _ k (codes lt) rfl (hR.row _ _ _ rfl) _ _ 1 1 (codes [skipIns n]) rfl (hR.reads_one rfl) (codes_one _) (by unfold maxLen; omega) (by omega) hR.hB ?_
              intro v73 w7 ho hg hv
              skip
              replace hR := hR.grow (by decide) ho hg hv
              clear ho hg hv
              refine hK.out _ _ ⟨((hR.below).cell (p := ⟨w.heap.size, 0, none⟩) hzb).trans qb0, ((hR.below).cell (p := ⟨w.heap.size, 1, none⟩) hzb).trans qb1, ((hR.below).cell (p := ⟨w3.heap.size, 0, none⟩) hz9).trans qs0, ((hR.below).cell (p := ⟨w3.heap.size, 1, none⟩) hz9).trans qs1, ((hR.below).cell (p := ⟨w3.heap.size, 2, none⟩) hz9).trans qs2, ((hR.below).cell (p := ⟨w3.heap.size, 3, none⟩) hz9).trans qs3, ((hR.below).cell (p := ⟨w3.heap.size, 4, none⟩) hz9).trans qs4, ((hR.below).cell (p := ⟨w3.heap.size, 5, none⟩) hz9).trans qs5, ((hR.below).cell (p := ⟨w3.heap.size, 6, none⟩) hz9).trans qs6⟩ (fun hHeld => ?_)
              clear hK K
              refine norm_ (a' := ?_) ?_ ?_
              rotate_left
              · show Act.put _ (some 73) _ = _
                simp only [Act.put, List.setIfInBounds_toArray, List.set_cons_zero, List.set_cons_succ, i64_w, i32_w]
                rfl
              refine one_ (i := 15) (N := some 78) #[true, true, true, true, true, true, true, true, true, true, true, true, true, true, true, true, false, true, false] rfl rfl (by kernel_rfl) (by decide) (fun K hK => ?_)
              refine step_append_any _ rfl (.tmp 73) (.tmp 77) 34 rfl W.heap.size 26 i0 (.agg #[.int .u8 0, .int .i64 0, .int .u8 0, .int .u64 0, .int .u8 0, .int .u64 0, .int .i64 0]) 7 56 Try.underlying34 HI.out HI0.out HI1.out HI2.out rfl (by decide) _ (k + 1) (codes lt ++ codes [skipIns n]) rfl (hR.row _ _ _ rfl) _ _ (l.length - k) _ (codes ld) rfl ((HR1.below hR.below)) (codes_one _) (by unfold maxLen; omega) (by omega) hR.hB ?_
              intro v78 w7 ho hg hv
              rw [show k + 1 + (l.length - k) = l.length + 1 by omega] at ho
              replace hR := hR.grow (by decide) ho hg hv
              clear ho hg hv
              obtain ⟨g78, cp78, rfl, hg78, hgl78⟩ := (hR.row _ _ _ rfl).form (by omega)
              clear hg78 hgl78
              refine hK.out _ _ ⟨((hR.below).cell (p := ⟨w.heap.size, 0, none⟩) hzb).trans qb0, ((hR.below).cell (p := ⟨w.heap.size, 1, none⟩) hzb).trans qb1, ((hR.below).cell (p := ⟨w3.heap.size, 0, none⟩) hz9).trans qs0, ((hR.below).cell (p := ⟨w3.heap.size, 1, none⟩) hz9).trans qs1, ((hR.below).cell (p := ⟨w3.heap.size, 2, none⟩) hz9).trans qs2, ((hR.below).cell (p := ⟨w3.heap.size, 3, none⟩) hz9).trans qs3, ((hR.below).cell (p := ⟨w3.heap.size, 4, none⟩) hz9).trans qs4, ((hR.below).cell (p := ⟨w3.heap.size, 5, none⟩) hz9).trans qs5, ((hR.below).cell (p := ⟨w3.heap.size, 6, none⟩) hz9).trans qs6⟩ (fun hHeld => ?_)
              clear hK K
              refine norm_ (a' := ?_) ?_ ?_
              rotate_left
              · show Act.put _ (some 78) _ = _
                simp only [Act.put, List.setIfInBounds_toArray, List.set_cons_zero, List.set_cons_succ, i64_w, i32_w]
                rfl
              refine pure_ (i := 16) (N := some 79) (v := ?_) (a' := ?_) #[true, true, true, true, true, true, true, true, true, true, true, true, true, true, true, true, true, true, false] rfl rfl (by kernel_rfl) (fun _ _ _ h => h) (Or.inl ⟨by rfl, ?_⟩) ?_ ?_
              rotate_left
              · intro w'
                go_simp
                with_reducible rfl
              rotate_left
              · simp only [Act.put, List.setIfInBounds_toArray, List.set_cons_zero, List.set_cons_succ, i64_w, i32_w]
                rfl
              exact norm_ (by first | (simp only [putAll, Act.put, List.setIfInBounds_toArray, List.set_cons_zero, List.set_cons_succ]; done) | (simp only [putAll, Act.put, List.setIfInBounds_toArray, List.set_cons_zero, List.set_cons_succ]; rfl)) (hCont (g65, v70, g72, v73, g78, cp78, gx) _ hR)
          · skip
            refine value_ (w1 := ?_) (v := ?_) (by rfl) rfl ?_ ?_
            rotate_left 2
            · go_simp
              constructor
              · rfl
              · rfl
            refine St.arm_x hR ?_
            clear hR
            intro gx w7 hR
            refine hK.out _ _ ⟨((hR.below).cell (p := ⟨w.heap.size, 0, none⟩) hzb).trans qb0, ((hR.below).cell (p := ⟨w.heap.size, 1, none⟩) hzb).trans qb1, ((hR.below).cell (p := ⟨w3.heap.size, 0, none⟩) hz9).trans qs0, ((hR.below).cell (p := ⟨w3.heap.size, 1, none⟩) hz9).trans qs1, ((hR.below).cell (p := ⟨w3.heap.size, 2, none⟩) hz9).trans qs2, ((hR.below).cell (p := ⟨w3.heap.size, 3, none⟩) hz9).trans qs3, ((hR.below).cell (p := ⟨w3.heap.size, 4, none⟩) hz9).trans qs4, ((hR.below).cell (p := ⟨w3.heap.size, 5, none⟩) hz9).trans qs5, ((hR.below).cell (p := ⟨w3.heap.size, 6, none⟩) hz9).trans qs6⟩ (fun hHeld => ?_)
            clear hK K
            refine norm_ (a' := ?_) ?_ ?_
            rotate_left
            · show Act.put _ (some 10) _ = _
              simp only [Act.put, List.setIfInBounds_toArray, List.set_cons_zero, List.set_cons_succ, i64_w, i32_w]
              rfl
            refine two_ (i := 2) (j := 9) (Ni := some 65) (Nj := some 72) #[true, true, true, true, true, true, true, false, true, false, false, true, true, true, true, false, false, true, false] #[true, true, false, true, true, true, true, false, true, true, false, true, true, true, true, false, false, true, false] rfl rfl rfl rfl (by kernel_rfl) (by decide) (by decide) (fun K hK => ?_) (fun K hK => ?_)
            · skip
              refine value_ (w1 := ?_) (v := ?_) (by rfl) rfl ?_ ?_
              rotate_left 2
              · go_simp
                constructor
                · rfl
                · rfl
              refine St.arm_row hR ?_
              clear hR
              intro g65 w7 hR
              refine hK.out _ _ ⟨((hR.below).cell (p := ⟨w.heap.size, 0, none⟩) hzb).trans qb0, ((hR.below).cell (p := ⟨w.heap.size, 1, none⟩) hzb).trans qb1, ((hR.below).cell (p := ⟨w3.heap.size, 0, none⟩) hz9).trans qs0, ((hR.below).cell (p := ⟨w3.heap.size, 1, none⟩) hz9).trans qs1, ((hR.below).cell (p := ⟨w3.heap.size, 2, none⟩) hz9).trans qs2, ((hR.below).cell (p := ⟨w3.heap.size, 3, none⟩) hz9).trans qs3, ((hR.below).cell (p := ⟨w3.heap.size, 4, none⟩) hz9).trans qs4, ((hR.below).cell (p := ⟨w3.heap.size, 5, none⟩) hz9).trans qs5, ((hR.below).cell (p := ⟨w3.heap.size, 6, none⟩) hz9).trans qs6⟩ (fun hHeld => ?_)
              clear hK K
              refine norm_ (a' := ?_) ?_ ?_
              rotate_left
              · show Act.put _ (some 65) _ = _
                simp only [Act.put, List.setIfInBounds_toArray, List.set_cons_zero, List.set_cons_succ, i64_w, i32_w]
                rfl
              refine two_ (i := 7) (j := 9) (Ni := some 70) (Nj := some 72) #[true, true, true, true, true, true, true, true, true, false, false, true, true, true, true, false, false, true, false] #[true, true, true, true, true, true, true, false, true, true, false, true, true, true, true, false, false, true, false] rfl rfl rfl rfl (by kernel_rfl) (by decide) (by decide) (fun K hK => ?_) (fun K hK => ?_)
              · skip
                refine step_append_any _ rfl (.tmp 65) (.tmp 69) 34 rfl W.heap.size 26 i0 (.agg #[.int .u8 0, .int .i64 0, .int .u8 0, .int .u64 0, .int .u8 0, .int .u64 0, .int .i64 0]) 7 56 Try.underlying34 HI.out HI0.out HI1.out HI2.out rfl (by decide) _ 0 [] rfl (hR.row _ _ _ rfl) _ ca k _ (codes lt) rfl ((HR0.below hR.below)) (codes_one _) (by unfold maxLen; omega) (by omega) hR.hB ?_
                intro v70 w7 ho hg hv
                rw [Nat.zero_add, List.nil_append] at ho
                replace hR := hR.grow (by decide) ho hg hv
                clear ho hg hv
                refine hK.out _ _ ⟨((hR.below).cell (p := ⟨w.heap.size, 0, none⟩) hzb).trans qb0, ((hR.below).cell (p := ⟨w.heap.size, 1, none⟩) hzb).trans qb1, ((hR.below).cell (p := ⟨w3.heap.size, 0, none⟩) hz9).trans qs0, ((hR.below).cell (p := ⟨w3.heap.size, 1, none⟩) hz9).trans qs1, ((hR.below).cell (p := ⟨w3.heap.size, 2, none⟩) hz9).trans qs2, ((hR.below).cell (p := ⟨w3.heap.size, 3, none⟩) hz9).trans qs3, ((hR.below).cell (p := ⟨w3.heap.size, 4, none⟩) hz9).trans qs4, ((hR.below).cell (p := ⟨w3.heap.size, 5, none⟩) hz9).trans qs5, ((hR.below).cell (p := ⟨w3.heap.size, 6, none⟩) hz9).trans qs6⟩ (fun hHeld => ?_)
                clear hK K
                refine norm_ (a' := ?_) ?_ ?_
                rotate_left
                · show Act.put _ (some 70) _ = _
                  simp only [Act.put, List.setIfInBounds_toArray, List.set_cons_zero, List.set_cons_succ, i64_w, i32_w]
                  rfl
                refine one_ (i := 9) (N := some 72) #[true, true, true, true, true, true, true, true, true, true, false, true, true, true, true, false, false, true, false] rfl rfl (by kernel_rfl) (by decide) (fun K hK => ?_)
                refine value_ (w1 := ?_) (v := ?_) (by rfl) rfl ?_ ?_
                rotate_left 2
                · go_simp
                  constructor
                  · rfl
                  · rfl
                refine St.arm_one hR ?_
                clear hR
                intro g72 w7 hR
                refine hK.out _ _ ⟨((hR.below).cell (p := ⟨w.heap.size, 0, none⟩) hzb).trans qb0, ((hR.below).cell (p := ⟨w.heap.size, 1, none⟩) hzb).trans qb1, ((hR.below).cell (p := ⟨w3.heap.size, 0, none⟩) hz9).trans qs0, ((hR.below).cell (p := ⟨w3.heap.size, 1, none⟩) hz9).trans qs1, ((hR.below).cell (p := ⟨w3.heap.size, 2, none⟩) hz9).trans qs2, ((hR.below).cell (p := ⟨w3.heap.size, 3, none⟩) hz9).trans qs3, ((hR.below).cell (p := ⟨w3.heap.size, 4, none⟩) hz9).trans qs4, ((hR.below).cell (p := ⟨w3.heap.size, 5, none⟩) hz9).trans qs5, ((hR.below).cell (p := ⟨w3.heap.size, 6, none⟩) hz9).trans qs6⟩ (fun hHeld => ?_)
                clear hK K
                refine norm_ (a' := ?_) ?_ ?_
                rotate_left
                · show Act.put _ (some 72) _ = _
                  simp only [Act.put, List.setIfInBounds_toArray, List.set_cons_zero, List.set_cons_succ, i64_w, i32_w]
                  rfl
                refine one_ (i := 10) (N := some 73) #[true, true, true, true, true, true, true, true, true, true, true, true, true, true, true, false, false, true, false] rfl rfl (by kernel_rfl) (by decide) (fun K hK => ?_)
                refine step_append_any _ rfl (.tmp 70) (.tmp 72) 34 rfl W.heap.size 26 i0 (.agg #[.int .u8 0, .int .i64 0, .int .u8 0, .int .u64 0, .int .u8 0, .int .u64 0, .int .i64 0]) 7 56 Try.underlying34 HI.out HI0.out HI1.out HI2.out rfl (by decide) _ k (codes lt) rfl (hR.row _ _ _ rfl) _ _ 1 1 (codes [skipIns n]) rfl (hR.reads_one rfl) (codes_one _) (by unfold maxLen; omega) (by omega) hR.hB ?_
                intro v73 w7 ho hg hv
                skip
                replace hR := hR.grow (by decide) ho hg hv
                clear ho hg hv
                refine hK.out _ _ ⟨((hR.below).cell (p := ⟨w.heap.size, 0, none⟩) hzb).trans qb0, ((hR.below).cell (p := ⟨w.heap.size, 1, none⟩) hzb).trans qb1, ((hR.below).cell (p := ⟨w3.heap.size, 0, none⟩) hz9).trans qs0, ((hR.below).cell (p := ⟨w3.heap.size, 1, none⟩) hz9).trans qs1, ((hR.below).cell (p := ⟨w3.heap.size, 2, none⟩) hz9).trans qs2, ((hR.below).cell (p := ⟨w3.heap.size, 3, none⟩) hz9).trans qs3, ((hR.below).cell (p := ⟨w3.heap.size, 4, none⟩) hz9).trans qs4, ((hR.below).cell (p := ⟨w3.heap.size, 5, none⟩) hz9).trans qs5, ((hR.below).cell (p := ⟨w3.heap.size, 6, none⟩) hz9).trans qs6⟩ (fun hHeld => ?_)
                clear hK K
                refine norm_ (a' := ?_) ?_ ?_
                rotate_left
                · show Act.put _ (some 73) _ = _
                  simp only [Act.put, List.setIfInBounds_toArray, List.set_cons_zero, List.set_cons_succ, i64_w, i32_w]
                  rfl
                refine one_ (i := 15) (N := some 78) #[true, true, true, true, true, true, true, true, true, true, true, true, true, true, true, true, false, true, false] rfl rfl (by kernel_rfl) (by decide) (fun K hK => ?_)
                refine step_append_any _ rfl (.tmp 73) (.tmp 77) 34 rfl W.heap.size 26 i0 (.agg #[.int .u8 0, .int .i64 0, .int .u8 0, .int .u64 0, .int .u8 0, .int .u64 0, .int .i64 0]) 7 56 Try.underlying34 HI.out HI0.out HI1.out HI2.out rfl (by decide) _ (k + 1) (codes lt ++ codes [skipIns n]) rfl (hR.row _ _ _ rfl) _ _ (l.length - k) _ (codes ld) rfl ((HR1.below hR.below)) (codes_one _) (by unfold maxLen; omega) (by omega) hR.hB ?_
                intro v78 w7 ho hg hv
                rw [show k + 1 + (l.length - k) = l.length + 1 by omega] at ho
                replace hR := hR.grow (by decide) ho hg hv
                clear ho hg hv
                obtain ⟨g78, cp78, rfl, hg78, hgl78⟩ := (hR.row _ _ _ rfl).form (by omega)
                clear hg78 hgl78
                refine hK.out _ _ ⟨((hR.below).cell (p := ⟨w.heap.size, 0, none⟩) hzb).trans qb0, ((hR.below).cell (p := ⟨w.heap.size, 1, none⟩) hzb).trans qb1, ((hR.below).cell (p := ⟨w3.heap.size, 0, none⟩) hz9).trans qs0, ((hR.below).cell (p := ⟨w3.heap.size, 1, none⟩) hz9).trans qs1, ((hR.below).cell (p := ⟨w3.heap.size, 2, none⟩) hz9).trans qs2, ((hR.below).cell (p := ⟨w3.heap.size, 3, none⟩) hz9).trans qs3, ((hR.below).cell (p := ⟨w3.heap.size, 4, none⟩) hz9).trans qs4, ((hR.below).cell (p := ⟨w3.heap.size, 5, none⟩) hz9).trans qs5, ((hR.below).cell (p := ⟨w3.heap.size, 6, none⟩) hz9).trans qs6⟩ (fun hHeld => ?_)
                clear hK K
                refine norm_ (a' := ?_) ?_ ?_
                rotate_left
                · show Act.put _ (some 78) _ = _
                  simp only [Act.put, List.setIfInBounds_toArray, List.set_cons_zero, List.set_cons_succ, i64_w, i32_w]
                  rfl
                refine pure_ (i := 16) (N := some 79) (v := ?_) (a' := ?_) #[true, true, true, true, true, true, true, true, true, true, true, true, true, true, true, true, true, true, false] rfl rfl (by kernel_rfl) (fun _ _ _ h => h) (Or.inl ⟨by rfl, ?_⟩) ?_ ?_
                rotate_left
                · intro w'
                  go_simp
                  with_reducible rfl
                rotate_left
                · simp only [Act.put, List.setIfInBounds_toArray, List.set_cons_zero, List.set_cons_succ, i64_w, i32_w]
                  rfl
                exact norm_ (by first | (simp only [putAll, Act.put, List.setIfInBounds_toArray, List.set_cons_zero, List.set_cons_succ]; done) | (simp only [putAll, Act.put, List.setIfInBounds_toArray, List.set_cons_zero, List.set_cons_succ]; rfl)) (hCont (g65, v70, g72, v73, g78, cp78, gx) _ hR)
              · skip
                refine value_ (w1 := ?_) (v := ?_) (by rfl) rfl ?_ ?_
                rotate_left 2
                · go_simp
                  constructor
                  · rfl
                  · rfl
                refine St.arm_one hR ?_
                clear hR
                intro g72 w7 hR
                refine hK.out _ _ ⟨((hR.below).cell (p := ⟨w.heap.size, 0, none⟩) hzb).trans qb0, ((hR.below).cell (p := ⟨w.heap.size, 1, none⟩) hzb).trans qb1, ((hR.below).cell (p := ⟨w3.heap.size, 0, none⟩) hz9).trans qs0, ((hR.below).cell (p := ⟨w3.heap.size, 1, none⟩) hz9).trans qs1, ((hR.below).cell (p := ⟨w3.heap.size, 2, none⟩) hz9).trans qs2, ((hR.below).cell (p := ⟨w3.heap.size, 3, none⟩) hz9).trans qs3, ((hR.below).cell (p := ⟨w3.heap.size, 4, none⟩) hz9).trans qs4, ((hR.below).cell (p := ⟨w3.heap.size, 5, none⟩) hz9).trans qs5, ((hR.below).cell (p := ⟨w3.heap.size, 6, none⟩) hz9).trans qs6⟩ (fun hHeld => ?_)
                clear hK K
                refine norm_ (a' := ?_) ?_ ?_
                rotate_left
                · show Act.put _ (some 72) _ = _
                  simp only [Act.put, List.setIfInBounds_toArray, List.set_cons_zero, List.set_cons_succ, i64_w, i32_w]
                  rfl
                refine one_ (i := 7) (N := some 70) #[true, true, true, true, true, true, true, true, true, true, false, true, true, true, true, false, false, true, false] rfl rfl (by kernel_rfl) (by decide) (fun K hK => ?_)
                refine step_append_any _ rfl (.tmp 65) (.tmp 69) 34 rfl W.heap.size 26 i0 (.agg #[.int .u8 0, .int .i64 0, .int .u8 0, .int .u64 0, .int .u8 0, .int .u64 0, .int .i64 0]) 7 56 Try.underlying34 HI.out HI0.out HI1.out HI2.out rfl (by decide) _ 0 [] rfl (hR.row _ _ _ rfl) _ ca k _ (codes lt) rfl ((HR0.below hR.below)) (codes_one _) (by unfold maxLen; omega) (by omega) hR.hB ?_
                intro v70 w7 ho hg hv
                rw [Nat.zero_add, List.nil_append] at ho
                replace hR := hR.grow (by decide) ho hg hv
                clear ho hg hv
                refine hK.out _ _ ⟨((hR.below).cell (p := ⟨w.heap.size, 0, none⟩) hzb).trans qb0, ((hR.below).cell (p := ⟨w.heap.size, 1, none⟩) hzb).trans qb1, ((hR.below).cell (p := ⟨w3.heap.size, 0, none⟩) hz9).trans qs0, ((hR.below).cell (p := ⟨w3.heap.size, 1, none⟩) hz9).trans qs1, ((hR.below).cell (p := ⟨w3.heap.size, 2, none⟩) hz9).trans qs2, ((hR.below).cell (p := ⟨w3.heap.size, 3, none⟩) hz9).trans qs3, ((hR.below).cell (p := ⟨w3.heap.size, 4, none⟩) hz9).trans qs4, ((hR.below).cell (p := ⟨w3.heap.size, 5, none⟩) hz9).trans qs5, ((hR.below).cell (p := ⟨w3.heap.size, 6, none⟩) hz9).trans qs6⟩ (fun hHeld => ?_)
                clear hK K
                refine norm_ (a' := ?_) ?_ ?_
                rotate_left
                · show Act.put _ (some 70) _ = _
                  simp only [Act.put, List.setIfInBounds_toArray, List.set_cons_zero, List.set_cons_succ, i64_w, i32_w]
                  rfl
                refine one_ (i := 10) (N := some 73) #[true, true, true, true, true, true, true, true, true, true, true, true, true, true, true, false, false, true, false] rfl rfl (by kernel_rfl) (by decide) (fun K hK => ?_)
                refine step_append_any _ rfl (.tmp 70) (.tmp 72) 34 rfl W.heap.size 26 i0 (.agg #[.int .u8 0, .int .i64 0, .int .u8 0, .int .u64 0, .int .u8 0, .int .u64 0, .int .i64 0]) 7 56 Try.underlying34 HI.out HI0.out HI1.out HI2.out rfl (by decide) _ k (codes lt) rfl (hR.row _ _ _ rfl) _ _ 1 1 (codes [skipIns n]) rfl (hR.reads_one rfl) (codes_one _) (by unfold maxLen; omega) (by omega) hR.hB ?_
                intro v73 w7 ho hg hv
                skip
                replace hR := hR.grow (by decide) ho hg hv
                clear ho hg hv
                refine hK.out _ _ ⟨((hR.below).cell (p := ⟨w.heap.size, 0, none⟩) hzb).trans qb0, ((hR.below).cell (p := ⟨w.heap.size, 1, none⟩) hzb).trans qb1, ((hR.below).cell (p := ⟨w3.heap.size, 0, none⟩) hz9).trans qs0, ((hR.below).cell (p := ⟨w3.heap.size, 1, none⟩) hz9).trans qs1, ((hR.below).cell (p := ⟨w3.heap.size, 2, none⟩) hz9).trans qs2, ((hR.below).cell (p := ⟨w3.heap.size, 3, none⟩) hz9).trans qs3, ((hR.below).cell (p := ⟨w3.heap.size, 4, none⟩) hz9).trans qs4, ((hR.below).cell (p := ⟨w3.heap.size, 5, none⟩) hz9).trans qs5, ((hR.below).cell (p := ⟨w3.heap.size, 6, none⟩) hz9).trans qs6⟩ (fun hHeld => ?_)
                clear hK K
                refine norm_ (a' := ?_) ?_ ?_
                rotate_left
                · show Act.put _ (some 73) _ = _
                  simp only [Act.put, List.setIfInBounds_toArray, List.set_cons_zero, List.set_cons_succ, i64_w, i32_w]
                  rfl
                refine one_ (i := 15) (N := some 78) #[true, true, true, true, true, true, true, true, true, true, true, true, true, true, true, true, false, true, false] rfl rfl (by kernel_rfl) (by decide) (fun K hK => ?_)
                refine step_append_any _ rfl (.tmp 73) (.tmp 77) 34 rfl W.heap.size 26 i0 (.agg #[.int .u8 0, .int .i64 0, .int .u8 0, .int .u64 0, .int .u8 0, .int .u64 0, .int .i64 0]) 7 56 Try.underlying34 HI.out HI0.out HI1.out HI2.out rfl (by decide) _ (k + 1) (codes lt ++ codes [skipIns n]) rfl (hR.row _ _ _ rfl) _ _ (l.length - k) _ (codes ld) rfl ((HR1.below hR.below)) (codes_one _) (by unfold maxLen; omega) (by omega) hR.hB ?_
                intro v78 w7 ho hg hv
                rw [show k + 1 + (l.length - k) = l.length + 1 by omega] at ho
                replace hR := hR.grow (by decide) ho hg hv
                clear ho hg hv
                obtain ⟨g78, cp78, rfl, hg78, hgl78⟩ := (hR.row _ _ _ rfl).form (by omega)
                clear hg78 hgl78
                refine hK.out _ _ ⟨((hR.below).cell (p := ⟨w.heap.size, 0, none⟩) hzb).trans qb0, ((hR.below).cell (p := ⟨w.heap.size, 1, none⟩) hzb).trans qb1, ((hR.below).cell (p := ⟨w3.heap.size, 0, none⟩) hz9).trans qs0, ((hR.below).cell (p := ⟨w3.heap.size, 1, none⟩) hz9).trans qs1, ((hR.below).cell (p := ⟨w3.heap.size, 2, none⟩) hz9).trans qs2, ((hR.below).cell (p := ⟨w3.heap.size, 3, none⟩) hz9).trans qs3, ((hR.below).cell (p := ⟨w3.heap.size, 4, none⟩) hz9).trans qs4, ((hR.below).cell (p := ⟨w3.heap.size, 5, none⟩) hz9).trans qs5, ((hR.below).cell (p := ⟨w3.heap.size, 6, none⟩) hz9).trans qs6⟩ (fun hHeld => ?_)
                clear hK K
                refine norm_ (a' := ?_) ?_ ?_
                rotate_left
                · show Act.put _ (some 78) _ = _
                  simp only [Act.put, List.setIfInBounds_toArray, List.set_cons_zero, List.set_cons_succ, i64_w, i32_w]
                  rfl
                refine pure_ (i := 16) (N := some 79) (v := ?_) (a' := ?_) #[true, true, true, true, true, true, true, true, true, true, true, true, true, true, true, true, true, true, false] rfl rfl (by kernel_rfl) (fun _ _ _ h => h) (Or.inl ⟨by rfl, ?_⟩) ?_ ?_
                rotate_left
                · intro w'
                  go_simp
                  with_reducible rfl
                rotate_left
                · simp only [Act.put, List.setIfInBounds_toArray, List.set_cons_zero, List.set_cons_succ, i64_w, i32_w]
                  rfl
                exact norm_ (by first | (simp only [putAll, Act.put, List.setIfInBounds_toArray, List.set_cons_zero, List.set_cons_succ]; done) | (simp only [putAll, Act.put, List.setIfInBounds_toArray, List.set_cons_zero, List.set_cons_succ]; rfl)) (hCont (g65, v70, g72, v73, g78, cp78, gx) _ hR)
            · skip
              refine value_ (w1 := ?_) (v := ?_) (by rfl) rfl ?_ ?_
              rotate_left 2
              · go_simp
                constructor
                · rfl
                · rfl
              refine St.arm_one hR ?_
              clear hR
              intro g72 w7 hR
              refine hK.out _ _ ⟨((hR.below).cell (p := ⟨w.heap.size, 0, none⟩) hzb).trans qb0, ((hR.below).cell (p := ⟨w.heap.size, 1, none⟩) hzb).trans qb1, ((hR.below).cell (p := ⟨w3.heap.size, 0, none⟩) hz9).trans qs0, ((hR.below).cell (p := ⟨w3.heap.size, 1, none⟩) hz9).trans qs1, ((hR.below).cell (p := ⟨w3.heap.size, 2, none⟩) hz9).trans qs2, ((hR.below).cell (p := ⟨w3.heap.size, 3, none⟩) hz9).trans qs3, ((hR.below).cell (p := ⟨w3.heap.size, 4, none⟩) hz9).trans qs4, ((hR.below).cell (p := ⟨w3.heap.size, 5, none⟩) hz9).trans qs5, ((hR.below).cell (p := ⟨w3.heap.size, 6, none⟩) hz9).trans qs6⟩ (fun hHeld => ?_)
              clear hK K
              refine norm_ (a' := ?_) ?_ ?_
              rotate_left
              · show Act.put _ (some 72) _ = _
                simp only [Act.put, List.setIfInBounds_toArray, List.set_cons_zero, List.set_cons_succ, i64_w, i32_w]
                rfl
              refine one_ (i := 2) (N := some 65) #[true, true, true, true, true, true, true, false, true, true, false, true, true, true, true, false, false, true, false] rfl rfl (by kernel_rfl) (by decide) (fun K hK => ?_)
              refine value_ (w1 := ?_) (v := ?_) (by rfl) rfl ?_ ?_
              rotate_left 2
              · go_simp
                constructor
                · rfl
                · rfl
              refine St.arm_row hR ?_
              clear hR
              intro g65 w7 hR
              refine hK.out _ _ ⟨((hR.below).cell (p := ⟨w.heap.size, 0, none⟩) hzb).trans qb0, ((hR.below).cell (p := ⟨w.heap.size, 1, none⟩) hzb).trans qb1, ((hR.below).cell (p := ⟨w3.heap.size, 0, none⟩) hz9).trans qs0, ((hR.below).cell (p := ⟨w3.heap.size, 1, none⟩) hz9).trans qs1, ((hR.below).cell (p := ⟨w3.heap.size, 2, none⟩) hz9).trans qs2, ((hR.below).cell (p := ⟨w3.heap.size, 3, none⟩) hz9).trans qs3, ((hR.below).cell (p := ⟨w3.heap.size, 4, none⟩) hz9).trans qs4, ((hR.below).cell (p := ⟨w3.heap.size, 5, none⟩) hz9).trans qs5, ((hR.below).cell (p := ⟨w3.heap.size, 6, none⟩) hz9).trans qs6⟩ (fun hHeld => ?_)
              clear hK K
              refine norm_ (a' := ?_) ?_ ?_
              rotate_left
              · show Act.put _ (some 65) _ = _
                simp only [Act.put, List.setIfInBounds_toArray, List.set_cons_zero, List.set_cons_succ, i64_w, i32_w]
                rfl
              refine one_ (i := 7) (N := some 70) #[true, true, true, true, true, true, true, true, true, true, false, true, true, true, true, false, false, true, false] rfl rfl (by kernel_rfl) (by decide) (fun K hK => ?_)
              refine step_append_any _ rfl (.tmp 65) (.tmp 69) 34 rfl W.heap.size 26 i0 (.agg #[.int .u8 0, .int .i64 0, .int .u8 0, .int .u64 0, .int .u8 0, .int .u64 0, .int .i64 0]) 7 56 Try.underlying34 HI.out HI0.out HI1.out HI2.out rfl (by decide) _ 0 [] rfl (hR.row _ _ _ rfl) _ ca k _ (codes lt) rfl ((HR0.below hR.below)) (codes_one _) (by unfold maxLen; omega) (by omega) hR.hB ?_
              intro v70 w7 ho hg hv
              rw [Nat.zero_add, List.nil_append] at ho
              replace hR := hR.grow (by decide) ho hg hv
              clear ho hg hv
              refine hK.out _ _ ⟨((hR.below).cell (p := ⟨w.heap.size, 0, none⟩) hzb).trans qb0, ((hR.below).cell (p := ⟨w.heap.size, 1, none⟩) hzb).trans qb1, ((hR.below).cell (p := ⟨w3.heap.size, 0, none⟩) hz9).trans qs0, ((hR.below).cell (p := ⟨w3.heap.size, 1, none⟩) hz9).trans qs1, ((hR.below).cell (p := ⟨w3.heap.size, 2, none⟩) hz9).trans qs2, ((hR.below).cell (p := ⟨w3.heap.size, 3, none⟩) hz9).trans qs3, ((hR.below).cell (p := ⟨w3.heap.size, 4, none⟩) hz9).trans qs4, ((hR.below).cell (p := ⟨w3.heap.size, 5, none⟩) hz9).trans qs5, ((hR.below).cell (p := ⟨w3.heap.size, 6, none⟩) hz9).trans qs6⟩ (fun hHeld => ?_)
              clear hK K
              refine norm_ (a' := ?_) ?_ ?_
              rotate_left
              · show Act.put _ (some 70) _ = _
                simp only [Act.put, List.setIfInBounds_toArray, List.set_cons_zero, List.set_cons_succ, i64_w, i32_w]
                rfl
              refine one_ (i := 10) (N := some 73) #[true, true, true, true, true, true, true, true, true, true, true, true, true, true, true, false, false, true, false] rfl rfl (by kernel_rfl) (by decide) (fun K hK => ?_)
              refine step_append_any _ rfl (.tmp 70) (.tmp 72) 34 rfl W.heap.size 26 i0 (.agg #[.int .u8 0, .int .i64 0, .int .u8 0, .int .u64 0, .int .u8 0, .int .u64 0, .int .i64 0]) 7 56 Try.underlying34 HI.out HI0.out HI1.out HI2.out rfl (by decide) _ k (codes lt) rfl (hR.row _ _ _ rfl) _ _ 1 1 (codes [skipIns n]) rfl (hR.reads_one rfl) (codes_one _) (by unfold maxLen; omega) (by omega) hR.hB ?_
              intro v73 w7 ho hg hv
              skip
              replace hR := hR.grow (by decide) ho hg hv
              clear ho hg hv
              refine hK.out _ _ ⟨((hR.below).cell (p := ⟨w.heap.size, 0, none⟩) hzb).trans qb0, ((hR.below).cell (p := ⟨w.heap.size, 1, none⟩) hzb).trans qb1, ((hR.below).cell (p := ⟨w3.heap.size, 0, none⟩) hz9).trans qs0, ((hR.below).cell (p := ⟨w3.heap.size, 1, none⟩) hz9).trans qs1, ((hR.below).cell (p := ⟨w3.heap.size, 2, none⟩) hz9).trans qs2, ((hR.below).cell (p := ⟨w3.heap.size, 3, none⟩) hz9).trans qs3, ((hR.below).cell (p := ⟨w3.heap.size, 4, none⟩) hz9).trans qs4, ((hR.below).cell (p := ⟨w3.heap.size, 5, none⟩) hz9).trans qs5, ((hR.below).cell (p := ⟨w3.heap.size, 6, none⟩) hz9).trans qs6⟩ (fun hHeld => ?_)
              clear hK K
              refine norm_ (a' := ?_) ?_ ?_
              rotate_left
              · show Act.put _ (some 73) _ = _
                simp only [Act.put, List.setIfInBounds_toArray, List.set_cons_zero, List.set_cons_succ, i64_w, i32_w]
                rfl
              refine one_ (i := 15) (N := some 78) #[true, true, true, true, true, true, true, true, true, true, true, true, true, true, true, true, false, true, false] rfl rfl (by kernel_rfl) (by decide) (fun K hK => ?_)
              refine step_append_any _ rfl (.tmp 73) (.tmp 77) 34 rfl W.heap.size 26 i0 (.agg #[.int .u8 0, .int .i64 0, .int .u8 0, .int .u64 0, .int .u8 0, .int .u64 0, .int .i64 0]) 7 56 Try.underlying34 HI.out HI0.out HI1.out HI2.out rfl (by decide) _ (k + 1) (codes lt ++ codes [skipIns n]) rfl (hR.row _ _ _ rfl) _ _ (l.length - k) _ (codes ld) rfl ((HR1.below hR.below)) (codes_one _) (by unfold maxLen; omega) (by omega) hR.hB ?_
              intro v78 w7 ho hg hv
              rw [show k + 1 + (l.length - k) = l.length + 1 by omega] at ho
              replace hR := hR.grow (by decide) ho hg hv
              clear ho hg hv
              obtain ⟨g78, cp78, rfl, hg78, hgl78⟩ := (hR.row _ _ _ rfl).form (by omega)
              clear hg78 hgl78
              refine hK.out _ _ ⟨((hR.below).cell (p := ⟨w.heap.size, 0, none⟩) hzb).trans qb0, ((hR.below).cell (p := ⟨w.heap.size, 1, none⟩) hzb).trans qb1, ((hR.below).cell (p := ⟨w3.heap.size, 0, none⟩) hz9).trans qs0, ((hR.below).cell (p := ⟨w3.heap.size, 1, none⟩) hz9).trans qs1, ((hR.below).cell (p := ⟨w3.heap.size, 2, none⟩) hz9).trans qs2, ((hR.below).cell (p := ⟨w3.heap.size, 3, none⟩) hz9).trans qs3, ((hR.below).cell (p := ⟨w3.heap.size, 4, none⟩) hz9).trans qs4, ((hR.below).cell (p := ⟨w3.heap.size, 5, none⟩) hz9).trans qs5, ((hR.below).cell (p := ⟨w3.heap.size, 6, none⟩) hz9).trans qs6⟩ (fun hHeld => ?_)
              clear hK K
              refine norm_ (a' := ?_) ?_ ?_
              rotate_left
              · show Act.put _ (some 78) _ = _
                simp only [Act.put, List.setIfInBounds_toArray, List.set_cons_zero, List.set_cons_succ, i64_w, i32_w]
                rfl
              refine pure_ (i := 16) (N := some 79) (v := ?_) (a' := ?_) #[true, true, true, true, true, true, true, true, true, true, true, true, true, true, true, true, true, true, false] rfl rfl (by kernel_rfl) (fun _ _ _ h => h) (Or.inl ⟨by rfl, ?_⟩) ?_ ?_
              rotate_left
              · intro w'
                go_simp
                with_reducible rfl
              rotate_left
              · simp only [Act.put, List.setIfInBounds_toArray, List.set_cons_zero, List.set_cons_succ, i64_w, i32_w]
                rfl
              exact norm_ (by first | (simp only [putAll, Act.put, List.setIfInBounds_toArray, List.set_cons_zero, List.set_cons_succ]; done) | (simp only [putAll, Act.put, List.setIfInBounds_toArray, List.set_cons_zero, List.set_cons_succ]; rfl)) (hCont (g65, v70, g72, v73, g78, cp78, gx) _ hR)
        rintro ⟨g65, v70, g72, v73, g78, cp78, gx⟩ w7 hR
        have hHeld : w7.cell? ⟨w.heap.size, 0, none⟩ = some (.int .i64 id) ∧ w7.cell? ⟨w.heap.size, 1, none⟩ = some (.slice ca l.length ccap) ∧ w7.cell? ⟨w3.heap.size, 0, none⟩ = some (.int .u8 12) ∧ w7.cell? ⟨w3.heap.size, 1, none⟩ = some (.int .i64 1) ∧ w7.cell? ⟨w3.heap.size, 2, none⟩ = some (.int .u8 1) ∧ w7.cell? ⟨w3.heap.size, 3, none⟩ = some (.int .u64 5) ∧ w7.cell? ⟨w3.heap.size, 4, none⟩ = some (.int .u8 4) ∧ w7.cell? ⟨w3.heap.size, 5, none⟩ = some (.int .u64 0) ∧ w7.cell? ⟨w3.heap.size, 6, none⟩ = some (.int .i64 n) := ⟨((hR.below).cell (p := ⟨w.heap.size, 0, none⟩) hzb).trans qb0, ((hR.below).cell (p := ⟨w.heap.size, 1, none⟩) hzb).trans qb1, ((hR.below).cell (p := ⟨w3.heap.size, 0, none⟩) hz9).trans qs0, ((hR.below).cell (p := ⟨w3.heap.size, 1, none⟩) hz9).trans qs1, ((hR.below).cell (p := ⟨w3.heap.size, 2, none⟩) hz9).trans qs2, ((hR.below).cell (p := ⟨w3.heap.size, 3, none⟩) hz9).trans qs3, ((hR.below).cell (p := ⟨w3.heap.size, 4, none⟩) hz9).trans qs4, ((hR.below).cell (p := ⟨w3.heap.size, 5, none⟩) hz9).trans qs5, ((hR.below).cell (p := ⟨w3.heap.size, 6, none⟩) hz9).trans qs6⟩
        dsimp only at hR
        refine norm_ (a' := ?_) ?_ ?_
        rotate_left
        · simp only [putAll, Act.put, List.setIfInBounds_toArray, List.set_cons_zero, List.set_cons_succ]
          rfl
        refine one_ (i := 18) (N := none) #[true, true, true, true, true, true, true, true, true, true, true, true, true, true, true, true, true, true, true] rfl rfl (by kernel_rfl) (by decide) (fun K hK => ?_)
        rw [if_pos (by rfl)]
        refine wp_store_row 36 (.tmp 10) (.tmp 79) rfl gx #[.int .i64 id, _] rfl rfl 36 _ (hR.x _ rfl).1 (by kernel_rfl) rfl (two_one _ _ rfl rfl) ?_
        refine hK.out _ _ ⟨(((hR.below.setRowB (hR.x _ rfl).2 _)).cell (p := ⟨w.heap.size, 0, none⟩) hzb).trans qb0, (((hR.below.setRowB (hR.x _ rfl).2 _)).cell (p := ⟨w.heap.size, 1, none⟩) hzb).trans qb1, (((hR.below.setRowB (hR.x _ rfl).2 _)).cell (p := ⟨w3.heap.size, 0, none⟩) hz9).trans qs0, (((hR.below.setRowB (hR.x _ rfl).2 _)).cell (p := ⟨w3.heap.size, 1, none⟩) hz9).trans qs1, (((hR.below.setRowB (hR.x _ rfl).2 _)).cell (p := ⟨w3.heap.size, 2, none⟩) hz9).trans qs2, (((hR.below.setRowB (hR.x _ rfl).2 _)).cell (p := ⟨w3.heap.size, 3, none⟩) hz9).trans qs3, (((hR.below.setRowB (hR.x _ rfl).2 _)).cell (p := ⟨w3.heap.size, 4, none⟩) hz9).trans qs4, (((hR.below.setRowB (hR.x _ rfl).2 _)).cell (p := ⟨w3.heap.size, 5, none⟩) hz9).trans qs5, (((hR.below.setRowB (hR.x _ rfl).2 _)).cell (p := ⟨w3.heap.size, 6, none⟩) hz9).trans qs6⟩ (fun hHeld => ?_)
        clear hK K
        refine done_ (by kernel_rfl) ?_
        generalize (if ccap = k then ca else ca.map (·.add (k * 7))) = A77
        go_wp2
        all_goals
          go_meet
          exact ⟨gx, g78, cp78, rfl, skipSt_mk hk HTT.out HDD.out hR rfl⟩
--]]
      case rest =>
        rename World => wx
        obtain ⟨gx, g, cp, rfl, hX⟩ := hcut
        have hbX := hX.below
        have hbx := hX.box
        have hcX := hX.code
        have hzX : W.heap.size ≤ wx.heap.size := hbX.size
        have hB0 : Below w.heap.size w wx := hbW.trans (hbX.mono (Nat.le_of_lt hzb))
        have hgx := hbx.lt
        have qx0 : wx.cell? ⟨gx, 0, none⟩ = some (.int .i64 id) := by simpa using hbx.cell 0
        have qx1 : wx.cell? ⟨gx, 1, none⟩ = some (.slice (some ⟨g, 0, none⟩) (l.length + 1) cp) := by simpa using hbx.cell 1
        have qy1 : wx.cell? ⟨w.heap.size, 1, none⟩ = some (.slice ca l.length ccap) := (hbX.cell (p := ⟨w.heap.size, 1, none⟩) hzb).trans qb1
        clear qb0 qb1 qs0 qs1 qs2 qs3 qs4 qs5 qs6 hX hbX HR0 HR1 HTT HDD HI HI0 HI1 HI2
        have hxl : (l.take k ++ skipIns n :: l.drop k).length = l.length + 1 := by simp; omega
        have hfX : ∀ j (h : j < (l.take k ++ skipIns n :: l.drop k).length), (l.take k ++ skipIns n :: l.drop k)[j].Fit := fit_skip hfit hn64 k
        have hcv : CodeV wx (.slice (some ⟨g, 0, none⟩) (l.length + 1) cp) (l.take k ++ skipIns n :: l.drop k) := ⟨_, cp, by rw [hxl], Or.inr ⟨g, 0, rfl, hcX⟩⟩
        have hmx : mayBlk id (l.take k ++ skipIns n :: l.drop k) = _ := mayBlk_skip id n l k hk hl HMY.out HS.out
        have hmay : ∀ V, Below wx.heap.size wx V → Calls Try.prog 13 #[.agg #[.int .i64 id, .slice (some ⟨g, 0, none⟩) (l.length + 1) cp]] V fun e w' => e = .returned (.bool (decide (1 ≤ n) && decide (n ≤ (l.length : Int) - k))) ∧ Below V.heap.size V w' := fun V hb => by
          rw [← hmx]
          exact mayBlock_any _ _ V id (codeV_below hcv hb) hfX (by omega)
        have hzz : w.heap.size < wx.heap.size := by omega
        by_cases hok : 1 ≤ n ∧ n ≤ (l.length : Int) - k
        · obtain ⟨h1, h2⟩ := hok
          have e1 : (decide (1 ≤ n) && decide (n ≤ (l.length : Int) - k)) = true := by simp [h1, h2]
          rw [e1] at hmay hmx
          have HM := Lib.hid hmay
          have HMX := Lib.hid hmx
          have hfin := skips_fin id n l k hk hl HS.out h1 h2
          obtain ⟨o1, m1, s1, o0, m0, s0, M, hr1, hr0, hl1, hl0, hM1, hM0, hso, hww⟩ := hfin
          have HR1 := Lib.hid hr1
          have HR0 := Lib.hid hr0
          have HW := Lib.hid (ways_contract hcv hfX hmx hww)
          have HCV := Lib.hid hcv
          have hmk := fun w => run_make_row' (P := Try.prog) 42 4 (.bool false) 1 Try.underlying42 info_bool rfl .i64 .i64 (k + 1) (by omega) (by omega) w
          have ec : ((k + 1 : Nat) : Int) = (k : Int) + 1 := by omega
          rw [ec] at hmk
          have hmc := made_at k
          clear hmay hmx e1 hr1 hr0 hcv hcX hfX ec
          go_upto_region 19 with (first
            | (go_at_call 15; refine (HW.out _ hb6).mono ?_; rintro e w7 ⟨g2, cp2, L, nL, rfl, hnL, hrow, hLL, hb7⟩; have HnL := Lib.hid hnL; clear hnL)
            | (go_at_call 13; refine (HM.out _ hb5).mono ?_; rintro e w6 ⟨rfl, hq6⟩; have hb6 : Below wx.heap.size wx w6 := below_then hq6 hb5 hb5.size; obtain ⟨hc6, hf6⟩ := bcell hb6)
            | (go_at_call 13; refine (HM.out _ (Below.refl _ _)).mono ?_; rintro e w5 ⟨rfl, hb5⟩; obtain ⟨hc5, hf5⟩ := bcell hb5))
          go_upto_region 21 with (fail)
          obtain ⟨Y, hY⟩ : ∃ Y, Y = w7.alloc (.cells ((madeCells #[.bool false] (k + 1)).setIfInBounds k (.bool true)) 4) := ⟨_, rfl⟩
          rw [← hY]
          have hYB : Blk Y w7.heap.size 4 (rowA (fun i => .bool (decide (i = k))) (k + 1)) := by
            rw [hY]
            exact made_true _ _
          have hbY : Below w7.heap.size w7 Y := by
            rw [hY]
            exact below_al (Below.refl _ _) (Nat.le_refl _)
          have hb7x : Below wx.heap.size wx w7 := below_then hb7 hb6 hb6.size
          have hbYx : Below wx.heap.size wx Y := below_then hbY hb7x hb7x.size
          have qY1 : Y.cell? ⟨gx, 1, none⟩ = some (.slice (some ⟨g, 0, none⟩) (l.length + 1) cp) := (hbYx.cell (p := ⟨gx, 1, none⟩) hgx).trans qx1
          have HR1C := Lib.hid (run1_contract HCV.out HR1.out (by omega) (skipOk_of HMX.out) hbYx hYB)
          have HR0C := Lib.hid (run0_contract HCV.out HR0.out (by omega) (skipOk_of HMX.out))
          have HLL := Lib.hid hLL
          clear hLL hY hYB hmk hmc hc5 hf5 hc6 hf6 hq6 HW HM
          rcases HLL.out with ⟨ho, hme, hL⟩ | ⟨hne, hL, hA, hB⟩
          · subst ho
            subst hme
            subst hL
            obtain rfl : nL = 1 := HnL.out
            have HA := Lib.hid (told_contract (o := o1) (m := m1) (M := M) hrow rfl (by simp [toldF]) (by simp))
            obtain ⟨hg2, hs2⟩ := wrow_head hrow
            have HX := Lib.hid hrow
            have HS0 := Lib.hid hso
            clear hrow hso
            have hmx : max (s1 : Int) s0 = M := HS0.out
            go_wp2_with (first
            | (go_at_call 17; refine (HA.out _ hb10).mono ?_; rintro e w11 ⟨rfl, hq11⟩; have hb11 : Below w7.heap.size w7 w11 := below_then hq11 hb10 hb10.size; have hq2 : w11.cell? ⟨g2, 2, none⟩ = some (.int .i64 M) := (hb11.cell (p := ⟨g2, 2, none⟩) hg2).trans hs2)
            | (go_at_call 17; refine (HA.out _ hb9).mono ?_; rintro e w10 ⟨rfl, hq10⟩; have hb10 : Below w7.heap.size w7 w10 := below_then hq10 hb9 hb9.size; obtain ⟨hc10, hf10⟩ := bcell hb10)
            | (go_at_call 16; refine (HR0C.out _ hbx8).mono ?_; rintro e w9 ⟨rfl, hq9⟩; have hb9 : Below w7.heap.size w7 w9 := below_then hq9 hb8 hb8.size)
            | (go_at_call 16; refine (HR1C.out).mono ?_; rintro e w8 ⟨rfl, hq8⟩; have hb8 : Below w7.heap.size w7 w8 := below_then hq8 hbY hbY.size; have hbx8 : Below wx.heap.size wx w8 := below_then hq8 hbYx hbYx.size; have qx8 : w8.cell? ⟨gx, 1, none⟩ = some (.slice (some ⟨g, 0, none⟩) (l.length + 1) cp) := (hbx8.cell (p := ⟨gx, 1, none⟩) hgx).trans qx1))
            go_ret
            exact ⟨rfl, below_then (below_then hb11 hb7x hb7x.size) hB0 (by omega)⟩
          · obtain rfl : nL = 2 := HnL.out.trans hL
            have HA := Lib.hid (told_contract (M := s1) hrow hL.symm hA (by omega))
            have HB := Lib.hid (told_contract (M := s0) hrow hL.symm hB (by omega))
            have HX := Lib.hid hrow
            clear hrow hL hA hB hso
            by_cases ho : o1 = o0
            · subst ho
              have hme : (m1 == m0) = false := by simpa using fun h => hne ⟨rfl, h⟩
              have hme2 : (m1 != m0) = true := by simpa using fun h => hne ⟨rfl, h⟩
              clear hne
              go_wp2_with (first
            | (go_at_call 17; refine (HB.out _ hb12).mono ?_; rintro e w13 ⟨rfl, hq13⟩; have hb13 : Below w7.heap.size w7 w13 := below_then hq13 hb12 hb12.size; obtain ⟨hc13, hf13⟩ := bcell hb13)
            | (go_at_call 17; refine (HA.out _ hb11).mono ?_; rintro e w12 ⟨rfl, hq12⟩; have hb12 : Below w7.heap.size w7 w12 := below_then hq12 hb11 hb11.size; obtain ⟨hc12, hf12⟩ := bcell hb12)
            | (go_at_call 17; refine (HB.out _ hb10).mono ?_; rintro e w11 ⟨rfl, hq11⟩; have hb11 : Below w7.heap.size w7 w11 := below_then hq11 hb10 hb10.size; obtain ⟨hc11, hf11⟩ := bcell hb11)
            | (go_at_call 17; refine (HA.out _ hb9).mono ?_; rintro e w10 ⟨rfl, hq10⟩; have hb10 : Below w7.heap.size w7 w10 := below_then hq10 hb9 hb9.size; obtain ⟨hc10, hf10⟩ := bcell hb10)
            | (go_at_call 16; refine (HR0C.out _ hbx8).mono ?_; rintro e w9 ⟨rfl, hq9⟩; have hb9 : Below w7.heap.size w7 w9 := below_then hq9 hb8 hb8.size)
            | (go_at_call 16; refine (HR1C.out).mono ?_; rintro e w8 ⟨rfl, hq8⟩; have hb8 : Below w7.heap.size w7 w8 := below_then hq8 hbY hbY.size; have hbx8 : Below wx.heap.size wx w8 := below_then hq8 hbYx hbYx.size; have qx8 : w8.cell? ⟨gx, 1, none⟩ = some (.slice (some ⟨g, 0, none⟩) (l.length + 1) cp) := (hbx8.cell (p := ⟨gx, 1, none⟩) hgx).trans qx1))
              go_ret
              exact ⟨rfl, below_then (below_then hb13 hb7x hb7x.size) hB0 (by omega)⟩
            · have hoe : (o1 == o0) = false := by simpa using ho
              have hoe2 : (o1 != o0) = true := by simpa using ho
              clear hne ho
              go_wp2_with (first
            | (go_at_call 17; refine (HB.out _ hb12).mono ?_; rintro e w13 ⟨rfl, hq13⟩; have hb13 : Below w7.heap.size w7 w13 := below_then hq13 hb12 hb12.size; obtain ⟨hc13, hf13⟩ := bcell hb13)
            | (go_at_call 17; refine (HA.out _ hb11).mono ?_; rintro e w12 ⟨rfl, hq12⟩; have hb12 : Below w7.heap.size w7 w12 := below_then hq12 hb11 hb11.size; obtain ⟨hc12, hf12⟩ := bcell hb12)
            | (go_at_call 17; refine (HB.out _ hb10).mono ?_; rintro e w11 ⟨rfl, hq11⟩; have hb11 : Below w7.heap.size w7 w11 := below_then hq11 hb10 hb10.size; obtain ⟨hc11, hf11⟩ := bcell hb11)
            | (go_at_call 17; refine (HA.out _ hb9).mono ?_; rintro e w10 ⟨rfl, hq10⟩; have hb10 : Below w7.heap.size w7 w10 := below_then hq10 hb9 hb9.size; obtain ⟨hc10, hf10⟩ := bcell hb10)
            | (go_at_call 16; refine (HR0C.out _ hbx8).mono ?_; rintro e w9 ⟨rfl, hq9⟩; have hb9 : Below w7.heap.size w7 w9 := below_then hq9 hb8 hb8.size)
            | (go_at_call 16; refine (HR1C.out).mono ?_; rintro e w8 ⟨rfl, hq8⟩; have hb8 : Below w7.heap.size w7 w8 := below_then hq8 hbY hbY.size; have hbx8 : Below wx.heap.size wx w8 := below_then hq8 hbYx hbYx.size; have qx8 : w8.cell? ⟨gx, 1, none⟩ = some (.slice (some ⟨g, 0, none⟩) (l.length + 1) cp) := (hbx8.cell (p := ⟨gx, 1, none⟩) hgx).trans qx1))
              go_ret
              exact ⟨rfl, below_then (below_then hb13 hb7x hb7x.size) hB0 (by omega)⟩
        · have e1 : (decide (1 ≤ n) && decide (n ≤ (l.length : Int) - k)) = false := by
            rw [Bool.eq_false_iff]
            intro h
            simp at h
            exact hok h
          rw [e1] at hmay hmx
          have hway := fun V hb => ways_bad _ _ V id (codeV_below (w' := V) hcv hb) hfX (by omega) hmx
          have HM := Lib.hid hmay
          have HW := Lib.hid hway
          clear hmay hway hmx e1
          by_cases h1 : 1 ≤ n
          · have h2 : (l.length : Int) - k < n := by omega
            clear hok
            go_wp2_with (first
              | (go_at_call 15; refine (HW.out _ hb6).mono ?_; rintro e w7 ⟨rfl, hb7⟩)
              | (go_at_call 13; refine (HM.out _ hb5).mono ?_; rintro e w6 ⟨rfl, hq6⟩; have hb6 : Below wx.heap.size wx w6 := below_then hq6 hb5 hb5.size; obtain ⟨hc6, hf6⟩ := bcell hb6)
              | (go_at_call 13; refine (HM.out _ (Below.refl _ _)).mono ?_; rintro e w5 ⟨rfl, hb5⟩; obtain ⟨hc5, hf5⟩ := bcell hb5))
            go_ret
            exact ⟨rfl, below_then (below_then hb7 hb6 hb6.size) hB0 (by omega)⟩
          · have h2 : n < 1 := by omega
            clear hok h1
            go_wp2_with (first
              | (go_at_call 15; refine (HW.out _ hb6).mono ?_; rintro e w7 ⟨rfl, hb7⟩)
              | (go_at_call 13; refine (HM.out _ hb5).mono ?_; rintro e w6 ⟨rfl, hq6⟩; have hb6 : Below wx.heap.size wx w6 := below_then hq6 hb5 hb5.size; obtain ⟨hc6, hf6⟩ := bcell hb6)
              | (go_at_call 13; refine (HM.out _ (Below.refl _ _)).mono ?_; rintro e w5 ⟨rfl, hb5⟩; obtain ⟨hc5, hf5⟩ := bcell hb5))
            go_ret
            exact ⟨rfl, below_then (below_then hb7 hb6 hb6.size) hB0 (by omega)⟩
end Go.Proofs.Ytkgednfofhlfdaa
