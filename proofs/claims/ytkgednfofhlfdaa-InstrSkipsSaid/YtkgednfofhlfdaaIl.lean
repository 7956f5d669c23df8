/- instr.Ways: the walk. -/
import Derived.Test.YtkgednfofhlfdaaIj
import Derived.Test.YtkgednfofhlfdaaIk
import Derived.Test.YtkgednfofhlfdaaSrt
import Derived.Deep.OwnRows
import Derived.Maps.RangeWalk
import Derived.Deep.AppendLies
namespace Go.Proofs.Ytkgednfofhlfdaa
open Go.RowKit Go.Shelf Go.Sort

theorem info_int : (Try.prog.info? 3).map (fun i => (i.zero, i.size, i.bytes)) = some (some (.int .i64 0), 1, 8) := by kernel_rfl

/-- What the row holds in the first loop, behind k rounds. -/
def come0 (k j : Nat) : Int := if j = 0 ∨ k < j then 0 else -1
def comeRow (f : Nat → Int) : Nat → Value := fun j => .int .i64 (f j)
theorem come0_step (k n : Nat) : rowA (fun i => if i = k + 1 then Value.int .i64 (-1) else comeRow (come0 k) i) n = rowA (comeRow (come0 (k + 1))) n := by
  refine rowA_congr fun j _ => ?_
  unfold comeRow come0
  by_cases h : j = k + 1
  · rw [if_pos h, if_neg (by omega)]
  · rw [if_neg h]
    by_cases h2 : j = 0 ∨ k < j
    · rw [if_pos h2, if_pos (by omega)]
    · rw [if_neg h2, if_neg (by omega)]

theorem comeRow_upd (c : Nat → Int) (j : Nat) (v : Int) (n : Nat) : rowA (fun i => if i = j then Value.int .i64 v else comeRow c i) n = rowA (comeRow (updF c j v)) n :=
  rowA_congr fun i _ => by unfold comeRow updF; split <;> rfl

theorem okFrom_at {n : Nat} : ∀ {l : List Ins} {a k : Nat} (_ : okFrom n a l = true) (h : k < l.length), okOne n (a + k) l[k] = true
  | [], _, _, _, h => by simp at h
  | i :: r, a, 0, ho, _ => by simp [okFrom] at ho; simpa using ho.1
  | i :: r, a, k + 1, ho, h => by
    simp [okFrom] at ho
    have := okFrom_at (k := k) ho.2 (by simpa using h)
    simpa [Nat.add_assoc, Nat.add_comm 1 k] using this

theorem keep_call {W w' : World} {o : Obj} {g j : Nat} {v : Value} (hb : Below (W.alloc o).heap.size (W.alloc o) w') (hg : g < W.heap.size) (h : W.cell? ⟨g, j, none⟩ = some v) : w'.cell? ⟨g, j, none⟩ = some v :=
  (hb.cell (p := ⟨g, j, none⟩) (by simp; omega)).trans ((World.cell?_of_block (a := ⟨g, j, none⟩) (heap_alloc_old W o hg)).trans h)
theorem keep_free {W w' : World} {o : Obj} {g j : Nat} {v : Bool} (hb : Below (W.alloc o).heap.size (W.alloc o) w') (hg : g < W.heap.size) (h : W.frozen? ⟨g, j, none⟩ = v) : w'.frozen? ⟨g, j, none⟩ = v :=
  (hb.frozen (p := ⟨g, j, none⟩) (by simp; omega)).trans ((World.frozen?_of_block (a := ⟨g, j, none⟩) (heap_alloc_old W o hg)).trans h)

theorem max_mxI (a b : Int) : max a b = mxI a b := by unfold mxI; rw [Int.max_def]; split <;> split <;> omega
theorem keep_heap {W w' : World} {o : Obj} {g : Nat} (hb : Below (W.alloc o).heap.size (W.alloc o) w') (hg : g < W.heap.size) : w'.heap[g]? = W.heap[g]? :=
  (hb.block g (by simp; omega)).trans (heap_alloc_old W o hg)

/-- What a valid instruction's end is. -/
theorem endOf_ok {x : Ins} (hm : x.may = true) {p : Int × Int} (h : endOf x = some p) : wayOk p := by
  unfold endOf at h
  split at h
  · rename_i ho
    cases h
    have : 1 ≤ x.n ∧ x.n ≤ 65534 := by
      unfold Ins.may Ins.shape at hm
      rcases ho with ho | ho <;> rw [ho] at hm <;> simp [shpOf, Shp.number, isId] at hm <;> omega
    exact ⟨by dsimp only; omega, by dsimp only; omega⟩
  · split at h
    · cases h
      exact ⟨by dsimp only; omega, by dsimp only; omega⟩
    · cases h

/-- A valid skip passes over one at least. -/
theorem skip_n {x : Ins} (hm : x.may = true) (h : x.op = 12) : 1 ≤ x.n ∧ x.n ≤ 32 := by
  unfold Ins.may Ins.shape at hm
  rw [h] at hm
  simp [shpOf, Shp.number] at hm
  omega

theorem next_way {w : World} {ops : Array Oper} {rest : List Oper} {o : Oper} {a : Act} {Q : Exit → Act → World → Prop}
    (hg : o.guard = none) (it : Operand) (hop : o.op = Op.next it false) (b r n : Nat) (m : Int × Int → Option Int) (l : List ((Int × Int) × Int)) (hit : a.eval it = .pointer (some ⟨r, 0, none⟩)) (h : Ranging Try.prog 47 wayK wayOk i64V w b r n m l)
    (hDone : (∀ x v, m x = some v → (x, v) ∈ l) → wpList Try.prog ops Q rest (a.put o.dst (.tuple #[.bool false])) w)
    (hMore : ∀ x y v w', m (x, y) = some v → (x, y) ∉ l.map (·.1) → Ranging Try.prog 47 wayK wayOk i64V w' b r n m (l ++ [((x, y), v)]) → w.grownBy w' (some r) → w'.heap.size = w.heap.size → l.length < n → w'.rangeLeft b r < w.rangeLeft b r →
      (Instr.entry (.pointer (some ⟨r, 0, none⟩))).run Try.prog w' = .ok (.tuple #[.agg #[.int .u8 x, .int .i64 y, .int .i64 0], .int .i64 v]) w' → wpList Try.prog ops Q rest (a.put o.dst (.tuple #[.bool true, .agg #[.int .u8 x, .int .i64 y, .int .i64 0], .int .i64 v])) w') : wpList Try.prog ops Q (o :: rest) a w :=
  wpList_mapT_next wayEnc hg it hop b r n m l hit h hDone fun x v w' hx hn hr hgr hs hl hm hen => hMore x.1 x.2 v w' hx hn hr hgr hs hl hm hen

theorem info_way : (Try.prog.info? 47).map (fun i => (i.zero, i.size, i.bytes)) = some (some (.agg #[.int .u8 0, .int .i64 0, .int .i64 0]), 3, 24) := by kernel_rfl

/-- A way of the map, as a struct. -/
def wyOf (p : (Int × Int) × Int) : Wy := ⟨p.1.1, p.1.2, p.2⟩
def wysC (l : List ((Int × Int) × Int)) : List Value := (l.map wyOf).flatMap Wy.cells
theorem wysC_snoc (l : List ((Int × Int) × Int)) (a b c : Int) : wysC (l ++ [((a, b), c)]) = wysC l ++ [.int .u8 a, .int .i64 b, .int .i64 c] := by
  unfold wysC
  simp [wyOf, Wy.cells]
/-- A row of the calls' own that holds the ways of m, sorted. -/
structure WaysRow (w : World) (g : Nat) (d : Array Wy) (m : Int × Int → Option Int) : Prop where
  row : HoldsK Wy.cells 3 w g 0 d
  lt : g < w.heap.size
  mem : ∀ x, x ∈ d.toList ↔ m (x.op, x.n) = some x.s
  nodup : (d.toList.map fun x => (x.op, x.n)).Nodup
  sorted : SortedIn (ltOf cmpWy) 0 d.size d
  small : d.size ≤ 100

theorem perm_list {d d' : Array Wy} (h : PermIn 0 d.size d d') : d'.toList.Perm d.toList := by
  obtain ⟨h1, _, h3⟩ := h
  have e1 : d'.extract 0 d.size = d' := by rw [← h1]; simp
  have e2 : d.extract 0 d.size = d := by simp
  rw [e1, e2] at h3
  exact h3

/-- SortFunc at a row of ways that the call owns. -/
theorem sortWays (g cp : Nat) (l2 : List ((Int × Int) × Int)) (w : World) (base : Nat) (hown : w.ownsRow base 47 3 (.slice (some ⟨g, 0, none⟩) l2.length cp) l2.length (wysC l2)) (hlt : g < w.heap.size) (hn : l2.length ≤ 1000000) :
    Calls Try.prog 55 #[.slice (some ⟨g, 0, none⟩) l2.length cp, .func (.func 56) #[] #[]] w fun e w' => e = .returned (.tuple #[]) ∧
      ∃ d : Array Wy, Hid (d.size = l2.length ∧ HoldsK Wy.cells 3 w' g 0 d ∧ d.toList.Perm (l2.map wyOf) ∧ SortedIn (ltOf cmpWy) 0 d.size d ∧ ∀ B a, Below B a w → B ≤ g → Below B a w') := by
  have hsz : (l2.map wyOf).toArray.size = l2.length := by simp
  have hH : HoldsK Wy.cells 3 w g 0 (l2.map wyOf).toArray := holdsK_own (cap := cp) (base := base) (e := 47) (by decide) (fun _ => rfl) (by rw [List.length_map]; exact hown)
  have h := sortWy_any g 0 cp (l2.map wyOf).toArray w hH hlt (by rw [hsz]; omega)
  rw [hsz] at h
  refine h.mono ?_
  rintro e w' ⟨rfl, d, n, os, hp, hs, rfl⟩
  have hp' : PermIn 0 (l2.map wyOf).toArray.size (l2.map wyOf).toArray d := by rw [hsz]; exact hp
  have hds : d.size = l2.length := by rw [hp'.1, hsz]
  refine ⟨rfl, d, hds, holdsK_sortWorldK Wy.cells 3 w g 0 n _ d os hlt hH (by rw [hds, hsz]), by simpa using perm_list hp', by rw [hds]; exact hs, fun B a hb hB => below_sort hb hB hlt⟩

set_option maxRecDepth 100000 in
set_option maxHeartbeats 4000000 in
theorem ways_walk (blk off cap : Nat) (l : List Ins) (w : World) (id : Int) (hl : l.length ≤ 32) (h0 : l ≠ []) (hok : okFrom l.length 0 l = true) (hfit : ∀ k (h : k < l.length), l[k].Fit) (hc : CodeAt w blk off l)
    (hmb : ∀ w', Below w.heap.size w w' → Calls Try.prog 13 #[.agg #[.int .i64 id, .slice (some ⟨blk, off, none⟩) l.length cap]] w' fun e w'' => e = .returned (.bool true) ∧ Below w'.heap.size w' w'') :
    Calls Try.prog 15 #[.agg #[.int .i64 id, .slice (some ⟨blk, off, none⟩) l.length cap]] w fun e w' =>
      ∃ g cp d, e = .returned (.slice (some ⟨g, 0, none⟩) d.size cp) ∧ WaysRow w' g d (waysMap l) ∧ w.heap.size ≤ g ∧ Below w.heap.size w w' := by
  have hcl := hc.lt
  obtain ⟨i0, hI, hI0, hI1, hI2⟩ := info_parts info_int
  have hmm := @run_makeMap Try.prog
  have hmf : ∀ (fn : Fn) (first cap : Array Value) (w : World), (Instr.makeFunc fn first cap).run Try.prog w = .ok (.func fn first cap) w := fun _ _ _ _ => rfl
  have hmk := fun w => run_make_row' (P := Try.prog) 108 3 (.int .i64 0) 8 Try.underlying108 info_int rfl .i64 .i64 (l.length + 1) (by omega) (by omega) w
  have ec : ((l.length + 1 : Nat) : Int) = (l.length : Int) + 1 := by omega
  rw [ec] at hmk
  go_enter Try.func15, Try.ntmps15
  go_wp2_with (first | (go_at_call 13; refine (hmb _ (by exact (below_al (Below.refl _ _) (Nat.le_refl _)))).mono ?_; rintro e w1 ⟨rfl, hb1⟩; obtain ⟨hc1, hf1⟩ := bcell hb1; have hz1_0 : w.heap.size < w1.heap.size := (by have := hb1.size; (try simp at this); omega)))
  obtain ⟨W3, hW3⟩ : ∃ W3, W3 = ((w1.alloc (.map #[] 0)).alloc (.cells #[.map (some w1.heap.size)] 106)).alloc (.cells (madeCells #[.int .i64 0] (l.length + 1)) 3) := ⟨_, rfl⟩
  have HW3 := Lib.hid hW3
  clear hmk
  have h3s : W3.heap.size = w1.heap.size + 3 := by rw [hW3]; simp
  have h3r : W3.heap[w1.heap.size + 1 + 1]? = some (.cells (rowA (comeRow (come0 0)) (l.length + 1)) 3 (0, 0)) := by
    rw [hW3]
    have e := heap_alloc_new ((w1.alloc (.map #[] 0)).alloc (.cells #[.map (some w1.heap.size)] 106)) (.cells (madeCells #[.int .i64 0] (l.length + 1)) 3)
    simp only [World.size_alloc] at e
    rw [e, madeCells_row]
    exact congrArg (fun c => some (Obj.cells c 3 (0, 0))) (rowA_congr fun j _ => by unfold comeRow come0; rw [if_pos (by omega)])
  have H3S := Lib.hid h3s
  rw [← hW3]
  clear hW3 h3s
  go_loopw [29] (fun i wr => ∃ k : Nat, k ≤ l.length ∧ i = .int .i64 k ∧ wr.heap[w1.heap.size + 1 + 1]? = some (.cells (rowA (comeRow (come0 k)) (l.length + 1)) 3 (0, 0)) ∧ Fr (fun b => b = w1.heap.size + 1 + 1) W3 wr) (fun i _ => l.length - (intOf i).toNat)
  case atStart => exact ⟨0, by omega, rfl, h3r, Fr.refl _ _⟩
  case round =>
    obtain ⟨k, hk, rfl, hrow, hfr⟩ := hrel
    by_cases hlt : k < l.length
    · have hcell := row_cell hrow (j := k + 1) (by omega)
      have hfree := free_at hrow (k + 1)
      have HROW := Lib.hid hrow
      clear hrow
      go_wp2
      go_roundw
      case rel => exact ⟨k + 1, by omega, by simp, by have e := row_setCell (v := .int .i64 (-1)) HROW.out (j := k + 1) (by omega); rw [come0_step] at e; exact e, hfr.setCell (fun _ => rfl) _⟩
      case measure => simp [intOf]; omega
    · have hke : k = l.length := by omega
      have HK := Lib.hid hke
      have hlow : Below w1.heap.size w1 wr := by
        have h3 : Below w1.heap.size w1 W3 := by rw [HW3.out]; exact below_al (below_al (below_al (Below.refl _ _) (Nat.le_refl _)) (by simp)) (by simp; omega)
        exact h3.trans ⟨hfr.os, hfr.tape, hfr.output, hfr.size, fun j hj => hfr.block j (by have := H3S.out; omega) (by intro e; omega)⟩
      have hwz : w.heap.size < w1.heap.size := hz1_0
      have hbox : wr.heap[w.heap.size]? = some (.cells #[.int .i64 id, .slice (some ⟨blk, off, none⟩) l.length cap] 36 (0, 0)) := (hlow.block _ hwz).trans ((hb1.block _ (by simp)).trans (heap_alloc_new _ _))
      have hB := cells_at hbox
      have hvar : wr.heap[w1.heap.size + 1]? = some (.cells #[.map (some w1.heap.size)] 106 (0, 0)) := by
        refine (hfr.block (w1.heap.size + 1) (by have := H3S.out; omega) (by intro e; omega)).trans ?_
        rw [HW3.out]
        refine (heap_alloc_old _ _ (by simp)).trans ?_
        have e := heap_alloc_new (w1.alloc (.map #[] 0)) (.cells #[.map (some w1.heap.size)] 106)
        simp only [World.size_alloc] at e
        exact e
      have hmp : IsMapOf Try.prog 47 wayK wayOk i64V wr w1.heap.size 0 (fun _ => none) := by
        refine mapT_keep (mapT_made w1) ((hfr.block w1.heap.size (by have := H3S.out; omega) (by intro e; omega)).trans ?_)
        rw [HW3.out]
        exact (heap_alloc_old _ _ (by simp; omega)).trans (heap_alloc_old _ _ (by simp))
      have hrow2 : wr.heap[w1.heap.size + 1 + 1]? = some (.cells (rowA (comeRow (waysAt l 0).1) (l.length + 1)) 3 (0, 0)) := by
        rw [hrow]
        refine congrArg (fun c => some (Obj.cells c 3 (0, 0))) (rowA_congr fun j hj => ?_)
        unfold comeRow come0
        rw [HK.out]
        by_cases h : j = 0
        · simp [waysAt, h]
        · rw [if_neg (by omega)]
          simp [waysAt, h]
      have HR := Lib.hid hrow2
      have HMP := Lib.hid hmp
      clear hrow hrow2 hke hfr h3r hmp
      go_wp2
      clear hB
      obtain ⟨wo, hwo⟩ : ∃ wo : World, wo = wr := ⟨_, rfl⟩
      rw [← hwo]
      have HWO := Lib.hid hwo
      clear hwo
      go_loopw [40] (fun i wt => ∃ k : Nat, k ≤ l.length ∧ i = .int .i64 k ∧ wt.heap[w1.heap.size + 1 + 1]? = some (.cells (rowA (comeRow (waysAt l k).1) (l.length + 1)) 3 (0, 0)) ∧ (∃ cnt, cnt ≤ k ∧ IsMapOf Try.prog 47 wayK wayOk i64V wt w1.heap.size cnt (waysAt l k).2) ∧
          wt.heap[w1.heap.size + 1]? = some (.cells #[.map (some w1.heap.size)] 106 (0, 0)) ∧ Below w1.heap.size w1 wt) (fun i _ => l.length - (intOf i).toNat)
      case atStart => exact ⟨0, by omega, rfl, by rw [HWO.out]; exact HR.out, ⟨0, Nat.le_refl _, by rw [HWO.out]; exact HMP.out⟩, by rw [HWO.out]; exact hvar, by rw [HWO.out]; exact hlow⟩
      case round =>
        obtain ⟨k, hk, rfl, hrow, ⟨cnt, hcnt, hmp⟩, hvar, hlow⟩ := hrel
        have hws : w1.heap.size + 1 + 1 < wr.heap.size := lt_of_heap hrow
        have hws1 : w1.heap.size + 1 < wr.heap.size := by omega
        have hws0 : w1.heap.size < wr.heap.size := by omega
        by_cases hlt : k < l.length
        ·
--[[
          have hinv := waysAt_inv l k
          have hsucc := waysAt_succ hlt
          have hxok := okFrom_at hok hlt
          simp only [Nat.zero_add] at hxok
          have hxm : l[k].may = true := by unfold okOne at hxok; simp at hxok; exact hxok.1
          have hfk := hfit k hlt
          have hcr := (hc.below (w' := w.alloc _) ((Below.refl w.heap.size w).alloc (Nat.le_refl _) (.cells #[.int .i64 id, .slice (some ⟨blk, off, none⟩) l.length cap] 36)) hcl)
          have hcr := (hcr.below hb1 (by simp; omega)).below hlow (by omega)
          have q0 := hcr.c0 k hlt
          have q1 := hcr.c1 k hlt
          have q2 := hcr.c2 k hlt
          have q3 := hcr.c3 k hlt
          have q4 := hcr.c4 k hlt
          have q5 := hcr.c5 k hlt
          have q6 := hcr.c6 k hlt
          clear hcr
          obtain ⟨x, hx⟩ : ∃ x, x = l[k] := ⟨_, rfl⟩
          rw [← hx] at q0 q1 q2 q3 q4 q5 q6 hfk hxm hxok hsucc
          clear hx
          have HOK := Lib.hid hxok
          have HSU := Lib.hid hsucc
          have HXM := Lib.hid hxm
          clear hxok hsucc hxm
          have hlo := hinv.lo k
          have hhi := hinv.hi k
          have hlo1 := hinv.lo (k + 1)
          have hhi1 := hinv.hi (k + 1)
          have hcell := row_cell hrow (j := k) (by omega)
          have hcell1 := row_cell hrow (j := k + 1) (by omega)
          have hfree1 := free_at hrow (k + 1)
          unfold comeRow at hcell hcell1
          have hme := hinv.m
          have HINV := Lib.hid hinv
          clear hinv
          generalize hcc : (waysAt l k).1 = c at *
          generalize hmm2 : (waysAt l k).2 = m at *
          clear hcc hmm2
          obtain ⟨ck, hck⟩ : ∃ ck, ck = c k := ⟨_, rfl⟩
          obtain ⟨c1, hc1e⟩ : ∃ c1, c1 = c (k + 1) := ⟨_, rfl⟩
          rw [← hck] at hlo hhi hcell
          rw [← hc1e] at hlo1 hhi1 hcell1
          have HCK := Lib.hid hck
          have HC1 := Lib.hid hc1e
          clear hck hc1e
          have HROW := Lib.hid hrow
          have HMP := Lib.hid hmp
          clear hrow hmp
          by_cases hneg : ck + 1 < 1
          · -- no run comes here
            have hst : wstep x k c m = (c, m) := by unfold wstep; rw [← HCK.out, if_pos hneg]
            have HST := Lib.hid hst
            clear hst
            go_wp2
            go_roundw
            case rel => exact ⟨k + 1, by omega, by simp, by rw [HSU.out, HST.out]; exact (heap_alloc_old _ _ hws).trans HROW.out, ⟨cnt, by omega, by rw [HSU.out, HST.out]; exact mapT_keep HMP.out (heap_alloc_old _ _ (by omega))⟩, (heap_alloc_old _ _ (by omega)).trans hvar, below_al hlow (by omega)⟩
            case measure => simp [intOf]; omega
          · have hend0 := fun W => end_any x W
            rcases hen : endOf x with _ | p
            · rw [hen] at hend0
              have hend : ∀ W, Calls Try.prog 54 #[.agg #[.int .u8 x.op, .int .i64 x.dst, .int .u8 x.ak, .int .u64 x.an, .int .u8 x.bk, .int .u64 x.bn, .int .i64 x.n]] W fun e w' => e = .returned (.tuple #[.agg #[.int .u8 0, .int .i64 0, .int .i64 0], .bool false]) ∧ Below W.heap.size W w' := hend0
              have HEN := Lib.hid hen
              clear hend0 hen
              by_cases h12 : x.op = 12
              · have hst : wstep x k c m = (updF (updF c (k + 1) (mxI (c (k + 1)) (c k + 1))) (k + 1 + x.n.toNat) (mxI (updF c (k + 1) (mxI (c (k + 1)) (c k + 1)) (k + 1 + x.n.toNat)) (c k + 1)), m) := by unfold wstep; rw [if_neg (by rw [← HCK.out]; exact hneg), HEN.out]; simp only [h12, if_true]
                have HST := Lib.hid hst
                clear hst
                have hlim : k + 1 + x.n.toNat ≤ l.length ∧ 1 ≤ x.n ∧ x.n ≤ 32 := by
                  have h := HOK.out
                  have h2 := skip_n HXM.out h12
                  unfold okOne at h
                  simp [h12] at h
                  omega
                have e12 : (x.op == 12) = true := by simpa using h12
                clear h12
                go_wp2_with (go_at_call 54; refine (hend _).mono ?_; rintro e w4 ⟨rfl, hb4⟩; obtain ⟨hc4, hf4⟩ := bcell hb4; have hz4_0 : wr.heap.size < w4.heap.size := (by have := hb4.size; (try simp at this); omega); have hws4 : w1.heap.size + 1 + 1 < w4.heap.size := (by omega); have hkc := keep_call hb4 hws hcell1; have hkf := keep_free hb4 hws hfree1)
                have hbw4 : Below wr.heap.size wr w4 := (by repeat (first | exact Below.refl _ _ | refine below_al ?_ (by first | omega | (simp; omega) | simp) | refine below_then (by assumption) ?_ (by first | omega | (simp; omega) | simp)))
                have hfin : Fr (fun q => q = w1.heap.size + 1 + 1) wr ((w4.setCell ⟨w1.heap.size + 1 + 1, k + 1, none⟩ (.int .i64 (max c1 (ck + 1)))).alloc (.cells #[.int .u8 0, .int .i64 0, .int .i64 0] 47)) := (Fr.setCell (S := fun q => q = w1.heap.size + 1 + 1) (p := ⟨w1.heap.size + 1 + 1, k + 1, none⟩) (Fr.of_below hbw4) (fun _ => rfl) _).alloc _
                have hr4 := row_setCell (v := .int .i64 (max c1 (ck + 1))) ((keep_heap hb4 hws).trans HROW.out) (j := k + 1) (by omega)
                rw [comeRow_upd, max_mxI] at hr4
                have hr5 := (heap_alloc_old _ (.cells #[.int .u8 0, .int .i64 0, .int .i64 0] 47) (lt_of_heap hr4)).trans hr4
                rw [max_mxI] at hfin
                have hins : ((w4.setCell ⟨w1.heap.size + 1 + 1, k + 1, none⟩ (.int .i64 (mxI c1 (ck + 1)))).alloc (.cells #[.int .u8 0, .int .i64 0, .int .i64 0] 47)).heap[wr.heap.size]? = some (.cells #[.int .u8 x.op, .int .i64 x.dst, .int .u8 x.ak, .int .u64 x.an, .int .u8 x.bk, .int .u64 x.bn, .int .i64 x.n] 26 (0, 0)) := by
                  refine (heap_alloc_old _ _ (by simp; omega)).trans ((Below.heap_setCell _ _ _ _ (by dsimp only; omega)).trans ?_)
                  exact (hb4.block wr.heap.size (by simp)).trans (heap_alloc_new _ _)
                rw [max_mxI]
                clear hkc hkf hcell hcell1 hfree1 hc4 hf4 hb4
                obtain ⟨X5, hX5⟩ : ∃ X5, X5 = (w4.setCell ⟨w1.heap.size + 1 + 1, k + 1, none⟩ (.int .i64 (mxI c1 (ck + 1)))).alloc (.cells #[.int .u8 0, .int .i64 0, .int .i64 0] 47) := ⟨_, rfl⟩
                rw [← hX5] at hr5 hins hfin ⊢
                clear hX5 hr4
                refine wp_region_still_tail 17 (by kernel_rfl) (by kernel_rfl) ?_
                obtain ⟨W0, hW0⟩ : ∃ W0, W0 = X5.drew := ⟨_, rfl⟩
                change wpStill _ _ X5.drew (fun a' => wpList _ _ _ _ a' X5.drew) _ _
                rw [← hW0]
                have hr6 : W0.heap[w1.heap.size + 1 + 1]? = some (.cells (rowA (comeRow (updF c (k + 1) (mxI c1 (ck + 1)))) (l.length + 1)) 3 (0, 0)) := by rw [hW0]; exact hr5
                have hi6 : W0.heap[wr.heap.size]? = some (.cells #[.int .u8 x.op, .int .i64 x.dst, .int .u8 x.ak, .int .u64 x.an, .int .u8 x.bk, .int .u64 x.bn, .int .i64 x.n] 26 (0, 0)) := by rw [hW0]; exact hins
                have hf6 : Fr (fun q => q = w1.heap.size + 1 + 1) wr W0 := by rw [hW0]; exact hfin.drew
                clear hr5 hins hfin hW0
                have ci := cells_at hi6
                obtain ⟨xn, hxn⟩ : ∃ xn : Nat, xn = x.n.toNat := ⟨_, rfl⟩
                have hxi : x.n = (xn : Int) := by omega
                have hl6 : k + 1 + xn < l.length + 1 := by omega
                have hcx := row_cell hr6 (j := k + 1 + xn) hl6
                have hfx := free_at hr6 (k + 1 + xn)
                unfold comeRow at hcx
                obtain ⟨c2, hc2⟩ : ∃ c2, c2 = updF c (k + 1) (mxI c1 (ck + 1)) (k + 1 + xn) := ⟨_, rfl⟩
                rw [← hc2] at hcx
                have HC2 := Lib.hid hc2
                have HR6 := Lib.hid hr6
                have HXN := Lib.hid hxn
                have ci4 : W0.cell? ⟨wr.heap.size, 6, none⟩ = some (.int .i64 x.n) := ci 6
                clear hc2 hr6 hi6 hxn
                simp only [List.take_succ_cons, List.take_zero, List.drop_succ_cons, List.drop_zero]
                have ek1 : IntKind.i64.wrap ((k : Int) + 1) = ((k + 1 : Nat) : Int) := by rw [IntWalk.i64_in _ (by omega)]; omega
                have ek2 : IntKind.i64.wrap (((k + 1 : Nat) : Int) + (xn : Int)) = ((k + 1 + xn : Nat) : Int) := by rw [IntWalk.i64_in _ (by omega)]; omega
                have ek3 : ((k + 1 + xn : Nat) : Int) < (l.length : Int) + 1 := by omega
                generalize hA : k + 1 = A at ek1 ek2 hl6 ek3 hcx hfx
                generalize hB : A + xn = B at ek2 ek3 hl6 hcx hfx
                have HAA := Lib.hid hA
                have HBB := Lib.hid hB
                clear hA hB
                repeat still_step
                refine wpStill_nil ?_
                clear ek1 ek2
                go_wp2
                have hr7 := row_setCell (v := .int .i64 (max c2 (ck + 1))) HR6.out (j := B) (by omega)
                rw [comeRow_upd, max_mxI] at hr7
                rw [max_mxI]
                have hf7 : Fr (fun q => q = w1.heap.size + 1 + 1) wr (W0.setCell ⟨w1.heap.size + 1 + 1, B, none⟩ (.int .i64 (mxI c2 (ck + 1)))) := Fr.setCell (S := fun q => q = w1.heap.size + 1 + 1) (p := ⟨w1.heap.size + 1 + 1, B, none⟩) hf6 (fun _ => rfl) _
                have hst7 : wstep x k c m = (updF (updF c (k + 1) (mxI c1 (ck + 1))) B (mxI c2 (ck + 1)), m) := by
                  rw [HST.out, ← HXN.out, ← HC1.out, ← HCK.out, ← HC2.out]
                  have e : k + 1 + xn = B := by rw [HAA.out, HBB.out]
                  rw [e]
                refine ⟨⟨k + 1, by omega, by simp, by rw [HSU.out, hst7]; exact hr7, ⟨cnt, by omega, by rw [HSU.out, hst7]; exact mapT_keep HMP.out (hf7.block _ hws0 (by omega))⟩, (hf7.block _ hws1 (by omega)).trans hvar, hlow.trans ⟨hf7.os, hf7.tape, hf7.output, hf7.size, fun j hj => hf7.block j (by omega) (by omega)⟩⟩, ?_⟩
                simp [intOf]; omega
              · have hst : wstep x k c m = (updF c (k + 1) (mxI (c (k + 1)) (c k + 1)), m) := by unfold wstep; rw [if_neg (by rw [← HCK.out]; exact hneg), HEN.out]; simp only [h12, if_false]
                have HST := Lib.hid hst
                clear hst
                have e12 : (x.op == 12) = false := by simpa using h12
                clear h12
                go_wp2_with (go_at_call 54; refine (hend _).mono ?_; rintro e w4 ⟨rfl, hb4⟩; obtain ⟨hc4, hf4⟩ := bcell hb4; have hz4_0 : wr.heap.size < w4.heap.size := (by have := hb4.size; (try simp at this); omega); have hws4 : w1.heap.size + 1 + 1 < w4.heap.size := (by omega); have hkc := keep_call hb4 hws hcell1; have hkf := keep_free hb4 hws hfree1)
                have hr4 := row_setCell (v := .int .i64 (max c1 (ck + 1))) ((keep_heap hb4 hws).trans HROW.out) (j := k + 1) (by omega)
                rw [comeRow_upd, max_mxI, HC1.out, HCK.out] at hr4
                have HR4 := Lib.hid hr4
                clear hr4
                go_roundw
                case rel =>
                  have hbw4 : Below wr.heap.size wr w4 := (by repeat (first | exact Below.refl _ _ | refine below_al ?_ (by first | omega | (simp; omega) | simp) | refine below_then (by assumption) ?_ (by first | omega | (simp; omega) | simp)))
                  have hfin : Fr (fun q => q = w1.heap.size + 1 + 1) wr ((w4.setCell ⟨w1.heap.size + 1 + 1, k + 1, none⟩ (.int .i64 (max c1 (ck + 1)))).alloc (.cells #[.int .u8 0, .int .i64 0, .int .i64 0] 47)) := (Fr.setCell (S := fun q => q = w1.heap.size + 1 + 1) (p := ⟨w1.heap.size + 1 + 1, k + 1, none⟩) (Fr.of_below hbw4) (fun _ => rfl) _).alloc _
                  rw [max_mxI, HC1.out, HCK.out] at hfin ⊢
                  exact ⟨k + 1, by omega, by simp, by rw [HSU.out, HST.out]; exact (heap_alloc_old _ _ (lt_of_heap HR4.out)).trans HR4.out, ⟨cnt, by omega, by rw [HSU.out, HST.out]; exact mapT_keep HMP.out (hfin.block _ hws0 (by omega))⟩, (hfin.block _ hws1 (by omega)).trans hvar, hlow.trans ⟨hfin.os, hfin.tape, hfin.output, hfin.size, fun j hj => hfin.block j (by omega) (by omega)⟩⟩
                case measure => simp [intOf]; omega
            · -- it ends
              rw [hen] at hend0
              have hend : ∀ W, Calls Try.prog 54 #[.agg #[.int .u8 x.op, .int .i64 x.dst, .int .u8 x.ak, .int .u64 x.an, .int .u8 x.bk, .int .u64 x.bn, .int .i64 x.n]] W fun e w' => e = .returned (.tuple #[.agg #[.int .u8 p.1, .int .i64 p.2, .int .i64 0], .bool true]) ∧ Below W.heap.size W w' := hend0
              have hst : wstep x k c m = (c, updM m p (bestOf (m p) (ck + 1))) := by unfold wstep; rw [← HCK.out, if_neg hneg, hen]
              have HST := Lib.hid hst
              have HP := Lib.hid (endOf_ok HXM.out hen)
              clear hst hend0 hen
              have hvc := cells_at hvar
              have hends := fun W (h1 : W.cell? ⟨w1.heap.size + 1, 0, none⟩ = some (.map (some w1.heap.size))) (h2 : IsMapOf Try.prog 47 wayK wayOk i64V W w1.heap.size cnt m) => ends_any p.1 p.2 (ck + 1) (w1.heap.size + 1) w1.heap.size cnt m W HP.out (by omega) (fun q v hq => by have := hme q v hq; omega) h1 h2 (by omega)
              go_wp2_with (first | (go_at_call 54; refine (hend _).mono ?_; rintro e w4 ⟨rfl, hb4⟩; obtain ⟨hc4, hf4⟩ := bcell hb4; have hz4_0 : wr.heap.size < w4.heap.size := (by have := hb4.size; (try simp at this); omega)) | (go_at_call 53; refine (hends _ (by refine Eq.trans ?_ (hvc 0); refine World.cell?_of_block ?_; exact Below.block (B := wr.heap.size) (by repeat (first | exact Below.refl _ _ | refine below_al ?_ (by first | omega | (simp; omega) | simp) | refine below_then (by assumption) ?_ (by first | omega | (simp; omega) | simp))) _ hws1) (by refine mapT_keep HMP.out ?_; exact Below.block (B := wr.heap.size) (by repeat (first | exact Below.refl _ _ | refine below_al ?_ (by first | omega | (simp; omega) | simp) | refine below_then (by assumption) ?_ (by first | omega | (simp; omega) | simp))) _ hws0)).mono ?_; rintro e w5 ⟨rfl, hm5, hf5⟩))
              have hb5 : Fr (fun q => q = w1.heap.size) wr w5 := by
                refine Fr.trans (Fr.of_below (S := fun q => q = w1.heap.size) (w' := w4.alloc _) (by repeat (first | exact Below.refl _ _ | refine below_al ?_ (by first | omega | (simp; omega) | simp) | refine below_then (by assumption) ?_ (by first | omega | (simp; omega) | simp)))) hf5 (fun _ _ h => h)
              go_wp2
              go_roundw
              case rel => exact ⟨k + 1, by omega, by simp, by rw [HSU.out, HST.out]; exact (hb5.block _ hws (by omega)).trans HROW.out, ⟨cntAfter (m (p.1, p.2)) cnt, by unfold cntAfter; split <;> omega, by rw [HSU.out, HST.out]; exact hm5⟩, (hb5.block _ (by omega) (by omega)).trans hvar, hlow.trans ⟨hb5.os, hb5.tape, hb5.output, hb5.size, fun j hj => hb5.block j (by omega) (by omega)⟩⟩
              case measure => simp [intOf]; omega
--]]
        · have hke : k = l.length := by omega
          subst hke
          have hinv := waysAt_inv l l.length
          have hme := hinv.m
          have hcell := row_cell hrow (j := l.length) (by omega)
          unfold comeRow at hcell
          have hlo := hinv.lo l.length
          have hhi := hinv.hi l.length
          obtain ⟨cl, hcl'⟩ : ∃ cl, cl = (waysAt l l.length).1 l.length := ⟨_, rfl⟩
          have hfin : waysMap l = if 0 ≤ cl then updM (waysAt l l.length).2 (23, 0) (bestOf ((waysAt l l.length).2 (23, 0)) cl) else (waysAt l l.length).2 := by unfold waysMap; rw [hcl']
          rw [← hcl'] at hcell hlo hhi
          generalize (waysAt l l.length).2 = m at *
          have HFIN := Lib.hid hfin
          have HMP := Lib.hid hmp
          clear hfin hcl' hrow hinv hmp
          have hbox := (hlow.block _ hwz).trans ((hb1.block _ (by simp)).trans (heap_alloc_new w _))
          have hB := cells_at hbox
          have hvc := cells_at hvar
          go_upto_if 101 with fail
          go_cut [] (fun wc => (∃ cnt, cnt ≤ l.length + 1 ∧ IsMapOf Try.prog 47 wayK wayOk i64V wc w1.heap.size cnt (waysMap l)) ∧ wc.heap[w1.heap.size + 1]? = some (.cells #[.map (some w1.heap.size)] 106 (0, 0)) ∧ Below w1.heap.size w1 wc)
          case first =>
            have hends := fun (hcl : 0 ≤ cl) => ends_any 23 0 cl (w1.heap.size + 1) w1.heap.size cnt m wr (by exact ⟨by dsimp only; omega, by dsimp only; omega⟩) (by omega) (fun q v hq => by have := hme q v hq; omega) (hvc 0) HMP.out (by omega)
            go_wp2_with (go_at_call 53; refine (hends (by assumption)).mono ?_; rintro e w5 ⟨rfl, hm5, hf5⟩)
            all_goals go_meet
            · have hge : 0 ≤ cl := by assumption
              exact ⟨⟨cntAfter (m (23, 0)) cnt, by unfold cntAfter; split <;> omega, by rw [HFIN.out, if_pos hge]; exact hm5⟩, (hf5.block _ hws1 (by omega)).trans hvar, hlow.trans ⟨hf5.os, hf5.tape, hf5.output, hf5.size, fun j hj => hf5.block j (by omega) (by omega)⟩⟩
            · have hge : ¬ 0 ≤ cl := by omega
              exact ⟨⟨cnt, by omega, by rw [HFIN.out, if_neg hge]; exact HMP.out⟩, hvar, hlow⟩
          case rest =>
            obtain ⟨⟨cnt, hcnt, hmp⟩, hvar, hlow⟩ := hcut
            have hvc := cells_at hvar
            obtain ⟨j0, hJ, hJ0, hJ1, hJ2⟩ := info_parts info_way
            obtain ⟨wq, hwq⟩ : ∃ wq : World, wq = wc := ⟨_, rfl⟩
            have HWQ := Lib.hid hwq
            rw [← hwq] at hmp hvc hlow ⊢
            clear hwq
            have hwqs := mapT_lt hmp
            go_wp2_with (at_range; refine wpList_mapT_range wayEnc rfl (.tmp 106) 106 3 rfl Try.underlying106 w1.heap.size cnt (waysMap l) rfl hmp ?_; intro w6 hrg6 hb6 hs6)
            clear hvc
            go_frame
            go_loopw [13] (fun v wr => ∃ l2 : List ((Int × Int) × Int), Ranging Try.prog 47 wayK wayOk i64V wr w1.heap.size wq.heap.size cnt (waysMap l) l2 ∧ wr.ownsRow (wq.heap.size + 1) 47 3 v l2.length (wysC l2) ∧ Below w1.heap.size w1 wr ∧ l2.length ≤ cnt) (fun _ wr => wr.rangeLeft w1.heap.size wq.heap.size)
            case atStart => exact ⟨[], hrg6, World.ownsRow_nil _ _ _ _, hlow.trans (hb6.mono (by omega)), Nat.zero_le _⟩
            case round =>
              obtain ⟨l2, hrg, hown, hlowr, hl2⟩ := hrel
              have hrlt := hrg.lt
              have hbq := hown.lt
              have hne : u13.ownBlock = none ∨ u13.ownBlock ≠ some wq.heap.size := by
                refine Or.inr fun h => ?_
                have := (hbq _ h).1
                omega
              go_wp2_with (first
                | (at_next; refine next_way rfl (.tmp 107) rfl w1.heap.size wq.heap.size cnt (waysMap l) l2 rfl hrg (fun hdone => ?_) (fun xa xb v w7 hx hn hrg7 hgr7 hs7 hlen7 hms7 hen7 => ?_); obtain ⟨p0, v0, hp0⟩ := waysMap_some l; have hpos : 0 < l2.length := (List.length_pos_of_mem (hdone p0 v0 hp0)); clear hp0; have HDONE := Lib.hid hdone; clear hdone)
                | (at_builtin; refine wpList_append_fresh _ rfl (.tmp 113) (.tmp 120) 40 rfl (wq.heap.size + 1) 47 j0 (.agg #[.int .u8 0, .int .i64 0, .int .i64 0]) 3 24 Try.underlying40 hJ hJ0 hJ1 hJ2 rfl (by decide) u13 l2.length (wysC l2) rfl (World.ownsRow.alloc (hown.kept hgr7 hne) _) (wr.heap.size + 1) [.int .u8 xa, .int .i64 xb, .int .i64 v] rfl (by simp; omega) rfl (by intro u hu; simp at hu; rcases hu with rfl | rfl | rfl <;> rfl) (by omega) (by decide) (by simp; omega) ?_; intro v8 w8 hown8 hgr8 hloc8 hnn8)
                | (go_at_call 55; go_loud (obtain ⟨g, cp, hu, hgb, hglt⟩ := hown.form hpos; subst hu; refine (sortWays g cp l2 wr (wq.heap.size + 1) hown hglt (by omega)).mono ?_; rintro e w9 ⟨rfl, d, hd9⟩)))
              · go_ret
                obtain ⟨hsz9, hK9, hp9, hs9, hB9⟩ := hd9.out
                obtain ⟨_, _, _, hrt⟩ := hrg
                have hmemr := hrt.mem
                refine ⟨g, cp, d, by rw [hsz9]; rfl, ⟨hK9, ?_, ?_, ?_, hs9, by rw [hsz9]; omega⟩, by omega, ?_⟩
                · exact Nat.lt_of_lt_of_le hglt (hB9 g wr (Below.refl _ _) (Nat.le_refl _)).size
                · intro x
                  rw [hp9.mem_iff, List.mem_map]
                  constructor
                  · rintro ⟨p, hp, rfl⟩
                    exact hmemr p hp
                  · intro hx
                    exact ⟨((x.op, x.n), x.s), HDONE.out _ _ hx, rfl⟩
                · rw [(hp9.map _).nodup_iff, List.map_map]
                  exact hrt.nodup
                · have hwb : Below w.heap.size w w1 := below_then hb1 (below_al (Below.refl _ _) (Nat.le_refl _)) (by simp)
                  exact (hwb.trans (hlowr.mono (by omega))).trans ((hB9 (wq.heap.size + 1) wr (Below.refl _ _) hgb).mono (by omega))
              · have hb8 : w8.heap[w1.heap.size]? = w7.heap[w1.heap.size]? := (hgr8.block w1.heap.size (by simp; omega) (by intro h; have := (hbq _ h.symm).1; omega)).trans (heap_alloc_old _ _ (by omega))
                have hr8 : w8.heap[wq.heap.size]? = w7.heap[wq.heap.size]? := (hgr8.block wq.heap.size (by simp; omega) (by intro h; have := (hbq _ h.symm).1; omega)).trans (heap_alloc_old _ _ (by omega))
                refine ⟨⟨l2 ++ [((xa, xb), v)], hrg7.keep hb8 hr8, ?_, ?_, by simp; omega⟩, ?_⟩
                · rw [wysC_snoc, List.length_append]
                  exact hown8
                · have h7 : Below w1.heap.size w1 w7 := hlowr.grown hgr7 hlowr.size (fun j hj => by cases hj; omega)
                  exact (below_al h7 (by omega)).grown hgr8 (by simp; omega) (fun j hj => by have := (hbq _ hj).1; omega)
                · rw [rangeLeft_keep hb8 hr8]
                  exact hms7
end Go.Proofs.Ytkgednfofhlfdaa
