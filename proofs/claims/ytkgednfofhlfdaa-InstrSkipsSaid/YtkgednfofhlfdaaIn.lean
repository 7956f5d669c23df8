/- instr.Ways of a block without instructions, and of one that may not be. -/
import Derived.Test.YtkgednfofhlfdaaIl
namespace Go.Proofs.Ytkgednfofhlfdaa
open Go.RowKit Go.Shelf Go.Sort

theorem waysMap_nil : waysMap [] = updM (fun _ => none) (23, 0) 0 := by
  unfold waysMap
  simp [waysAt, bestOf]

set_option maxRecDepth 100000 in
set_option maxHeartbeats 4000000 in
theorem ways_nil (sa : Option Addr) (cap : Nat) (w : World) (id : Int)
    (hmb : ∀ w', Below w.heap.size w w' → Calls Try.prog 13 #[.agg #[.int .i64 id, .slice sa 0 cap]] w' fun e w'' => e = .returned (.bool true) ∧ Below w'.heap.size w' w'') :
    Calls Try.prog 15 #[.agg #[.int .i64 id, .slice sa 0 cap]] w fun e w' =>
      ∃ g cp d, e = .returned (.slice (some ⟨g, 0, none⟩) d.size cp) ∧ WaysRow w' g d (waysMap []) ∧ w.heap.size ≤ g ∧ Below w.heap.size w w' := by
  obtain ⟨i0, hI, hI0, hI1, hI2⟩ := info_parts info_int
  have hmm := @run_makeMap Try.prog
  have hmf : ∀ (fn : Fn) (first cap : Array Value) (w : World), (Instr.makeFunc fn first cap).run Try.prog w = .ok (.func fn first cap) w := fun _ _ _ _ => rfl
  have hmk := fun w => run_make_row' (P := Try.prog) 108 3 (.int .i64 0) 8 Try.underlying108 info_int rfl .i64 .i64 1 (by omega) (by omega) w
  have e1 : ((1 : Nat) : Int) = 1 := rfl
  rw [e1] at hmk
  clear e1
  go_enter Try.func15, Try.ntmps15
  go_wp2_with (first | (go_at_call 13; refine (hmb _ (by exact (below_al (Below.refl _ _) (Nat.le_refl _)))).mono ?_; rintro e w1 ⟨rfl, hb1⟩; obtain ⟨hc1, hf1⟩ := bcell hb1; have hz1_0 : w.heap.size < w1.heap.size := (by have := hb1.size; (try simp at this); omega)))
  obtain ⟨wr, hW3⟩ : ∃ wr, wr = ((w1.alloc (.map #[] 0)).alloc (.cells #[.map (some w1.heap.size)] 106)).alloc (.cells (madeCells #[.int .i64 0] 1) 3) := ⟨_, rfl⟩
  have hwz : w.heap.size < w1.heap.size := hz1_0
  have hlow : Below w1.heap.size w1 wr := by rw [hW3]; exact below_al (below_al (below_al (Below.refl _ _) (Nat.le_refl _)) (by simp)) (by simp; omega)
  have hc0 : wr.cell? ⟨w1.heap.size + 1 + 1, 0, none⟩ = some (.int .i64 0) := by
    rw [hW3]
    have e := heap_alloc_new ((w1.alloc (.map #[] 0)).alloc (.cells #[.map (some w1.heap.size)] 106)) (.cells (madeCells #[.int .i64 0] 1) 3)
    simp only [World.size_alloc] at e
    rw [madeCells_row] at e ⊢
    exact row_cell e (j := 0) (by omega)
  have hvar : wr.heap[w1.heap.size + 1]? = some (.cells #[.map (some w1.heap.size)] 106 (0, 0)) := by
    rw [hW3]
    refine (heap_alloc_old _ _ (by simp)).trans ?_
    have e := heap_alloc_new (w1.alloc (.map #[] 0)) (.cells #[.map (some w1.heap.size)] 106)
    simp only [World.size_alloc] at e
    exact e
  have hmp : IsMapOf Try.prog 47 wayK wayOk i64V wr w1.heap.size 0 (fun _ => none) := by
    refine mapT_keep (mapT_made w1) ?_
    rw [hW3]
    exact (heap_alloc_old _ _ (by simp; omega)).trans (heap_alloc_old _ _ (by simp))
  have hws : w1.heap.size + 1 + 1 < wr.heap.size := by rw [hW3]; simp
  rw [← hW3]
  clear hW3 hmk
  have hbox := (hlow.block _ hwz).trans ((hb1.block _ (by simp)).trans (heap_alloc_new w _))
  have hB := cells_at hbox
  have hvc := cells_at hvar
  have HMP := Lib.hid hmp
  clear hmp hbox
  refine wp_loop_rounds 1 ?_
  rw [rounds_succ]
  go_wp2
  refine wp_loop_rounds 1 ?_
  rw [rounds_succ]
  have hends := ends_any 23 0 0 (w1.heap.size + 1) w1.heap.size 0 (fun _ => none) wr (by exact ⟨by dsimp only; omega, by dsimp only; omega⟩) (by omega) (fun q v hq => by cases hq) (hvc 0) HMP.out (by omega)
  go_upto_region 26 with (go_at_call 53; refine hends.mono ?_; rintro e w5 ⟨rfl, hm5, hf5⟩)
  have hmp : IsMapOf Try.prog 47 wayK wayOk i64V w5 w1.heap.size 1 (waysMap []) := by rw [waysMap_nil]; exact hm5
  obtain ⟨cnt, hcnt⟩ : ∃ cnt : Nat, cnt = 1 := ⟨_, rfl⟩
  rw [← hcnt] at hmp
  have hcnt : cnt ≤ 1 := by omega
  have hvar2 := (hf5.block (w1.heap.size + 1) (by omega) (by omega)).trans hvar
  have hlow2 : Below w1.heap.size w1 w5 := hlow.trans ⟨hf5.os, hf5.tape, hf5.output, hf5.size, fun j hj => hf5.block j (by omega) (by omega)⟩
  clear hB hvc hvar hlow hm5 hf5 hends hc0
  have hvar := hvar2
  have hlow := hlow2
  clear hvar2 hlow2
  have hvc := cells_at hvar
  clear hvar hcnt
  have hcnt : cnt ≤ 1 := by omega
  obtain ⟨j0, hJ, hJ0, hJ1, hJ2⟩ := info_parts info_way
  obtain ⟨wq, hwq⟩ : ∃ wq : World, wq = w5 := ⟨_, rfl⟩
  have HWQ := Lib.hid hwq
  rw [← hwq] at hmp hvc hlow ⊢
  clear hwq
  have hwqs := mapT_lt hmp
  go_wp2_with (at_range; refine wpList_mapT_range wayEnc rfl (.tmp 106) 106 3 rfl Try.underlying106 w1.heap.size cnt (waysMap []) rfl hmp ?_; intro w6 hrg6 hb6 hs6)
  clear hvc
  go_frame
  go_loopw [13] (fun v wr => ∃ l2 : List ((Int × Int) × Int), Ranging Try.prog 47 wayK wayOk i64V wr w1.heap.size wq.heap.size cnt (waysMap []) l2 ∧ wr.ownsRow (wq.heap.size + 1) 47 3 v l2.length (wysC l2) ∧ Below w1.heap.size w1 wr ∧ l2.length ≤ cnt) (fun _ wr => wr.rangeLeft w1.heap.size wq.heap.size)
  case atStart => exact ⟨[], hrg6, World.ownsRow_nil _ _ _ _, hlow.trans (hb6.mono (by omega)), Nat.zero_le _⟩
  case round =>
    obtain ⟨l2, hrg, hown, hlowr, hl2⟩ := hrel
    have hrlt := hrg.lt
    have hbq := hown.lt
    have hne : u13.ownBlock = none ∨ u13.ownBlock ≠ some wq.heap.size := by
      refine Or.inr fun h => ?_
      have := (hbq _ h).1
      omega
    go_wp2_with (first
      | (at_next; refine next_way rfl (.tmp 107) rfl w1.heap.size wq.heap.size cnt (waysMap []) l2 rfl hrg (fun hdone => ?_) (fun xa xb v w7 hx hn hrg7 hgr7 hs7 hlen7 hms7 hen7 => ?_); obtain ⟨p0, v0, hp0⟩ := waysMap_some []; have hpos : 0 < l2.length := (List.length_pos_of_mem (hdone p0 v0 hp0)); clear hp0; have HDONE := Lib.hid hdone; clear hdone)
      | (at_builtin; refine wpList_append_fresh _ rfl (.tmp 113) (.tmp 120) 40 rfl (wq.heap.size + 1) 47 j0 (.agg #[.int .u8 0, .int .i64 0, .int .i64 0]) 3 24 Try.underlying40 hJ hJ0 hJ1 hJ2 rfl (by decide) u13 l2.length (wysC l2) rfl (World.ownsRow.alloc (hown.kept hgr7 hne) _) (wr.heap.size + 1) [.int .u8 xa, .int .i64 xb, .int .i64 v] rfl (by simp; omega) rfl (by intro u hu; simp at hu; rcases hu with rfl | rfl | rfl <;> rfl) (by omega) (by decide) (by simp; omega) ?_; intro v8 w8 hown8 hgr8 hloc8 hnn8)
      | (go_at_call 55; go_loud (obtain ⟨g, cp, hu, hgb, hglt⟩ := hown.form hpos; subst hu; refine (sortWays g cp l2 wr (wq.heap.size + 1) hown hglt (by omega)).mono ?_; rintro e w9 ⟨rfl, d, hd9⟩)))
    · go_ret
      obtain ⟨hsz9, hK9, hp9, hs9, hB9⟩ := hd9.out
      obtain ⟨_, _, _, hrt⟩ := hrg
      have hmemr := hrt.mem
      refine ⟨g, cp, d, by rw [hsz9]; rfl, ⟨hK9, ?_, ?_, ?_, hs9, by rw [hsz9]; omega⟩, by omega, ?_⟩
      · exact Nat.lt_of_lt_of_le hglt (hB9 g wr (Below.refl _ _) (Nat.le_refl _)).size
      · intro x
        rw [hp9.mem_iff, List.mem_map]
        constructor
        · rintro ⟨p, hp, rfl⟩
          exact hmemr p hp
        · intro hx
          exact ⟨((x.op, x.n), x.s), HDONE.out _ _ hx, rfl⟩
      · rw [(hp9.map _).nodup_iff, List.map_map]
        exact hrt.nodup
      · have hwb : Below w.heap.size w w1 := below_then hb1 (below_al (Below.refl _ _) (Nat.le_refl _)) (by simp)
        exact (hwb.trans (hlowr.mono (by omega))).trans ((hB9 (wq.heap.size + 1) wr (Below.refl _ _) hgb).mono (by omega))
    · have hb8 : w8.heap[w1.heap.size]? = w7.heap[w1.heap.size]? := (hgr8.block w1.heap.size (by simp; omega) (by intro h; have := (hbq _ h.symm).1; omega)).trans (heap_alloc_old _ _ (by omega))
      have hr8 : w8.heap[wq.heap.size]? = w7.heap[wq.heap.size]? := (hgr8.block wq.heap.size (by simp; omega) (by intro h; have := (hbq _ h.symm).1; omega)).trans (heap_alloc_old _ _ (by omega))
      refine ⟨⟨l2 ++ [((xa, xb), v)], hrg7.keep hb8 hr8, ?_, ?_, by simp; omega⟩, ?_⟩
      · rw [wysC_snoc, List.length_append]
        exact hown8
      · have h7 : Below w1.heap.size w1 w7 := hlowr.grown hgr7 hlowr.size (fun j hj => by cases hj; omega)
        exact (below_al h7 (by omega)).grown hgr8 (by simp; omega) (fun j hj => by have := (hbq _ hj).1; omega)
      · rw [rangeLeft_keep hb8 hr8]
        exact hms7

theorem codeV_below {w w' : World} {v : Value} {l : List Ins} (h : CodeV w v l) (hb : Below w.heap.size w w') : CodeV w' v l := by
  obtain ⟨a, cap, rfl, h⟩ := h
  refine ⟨a, cap, rfl, ?_⟩
  rcases h with h | ⟨blk, off, rfl, hc⟩
  · exact Or.inl h
  · exact Or.inr ⟨blk, off, rfl, hc.below hb hc.lt⟩

/-- What Ways hands back. -/
def WaysOut (w : World) (w' : World) (v : Value) (m : Int × Int → Option Int) : Prop :=
  ∃ g cp d, v = .slice (some ⟨g, 0, none⟩) d.size cp ∧ WaysRow w' g d m ∧ w.heap.size ≤ g ∧ Below w.heap.size w w'

/-- Ways of any block that may be. -/
theorem ways_any (v : Value) (l : List Ins) (w : World) (id : Int) (hv : CodeV w v l) (hfit : ∀ k (h : k < l.length), l[k].Fit) (hm : mayBlk id l = true) :
    Calls Try.prog 15 #[.agg #[.int .i64 id, v]] w fun e w' => ∃ r, e = .returned r ∧ WaysOut w w' r (waysMap l) := by
  have hm2 := hm
  unfold mayBlk at hm2
  simp at hm2
  have hmb : ∀ w', Below w.heap.size w w' → Calls Try.prog 13 #[.agg #[.int .i64 id, v]] w' fun e w'' => e = .returned (.bool true) ∧ Below w'.heap.size w' w'' := fun w' hb => by
    rw [← hm]
    exact mayBlock_any v l w' id (codeV_below hv hb) hfit (by omega)
  obtain ⟨a, cap, rfl, h⟩ := hv
  rcases Classical.em (l = []) with h0 | h0
  · subst h0
    exact (ways_nil a cap w id hmb).mono fun e w' ⟨g, cp, d, he, h1, h2, h3⟩ => ⟨_, he, g, cp, d, rfl, h1, h2, h3⟩
  · rcases h with h | ⟨blk, off, rfl, hc⟩
    · exact absurd h h0
    · exact (ways_walk blk off cap l w id hm2.1.2 h0 hm2.2 hfit hc hmb).mono fun e w' ⟨g, cp, d, he, h1, h2, h3⟩ => ⟨_, he, g, cp, d, rfl, h1, h2, h3⟩

/-- Ways of a block that may not be: nil. -/
theorem ways_bad (v : Value) (l : List Ins) (w : World) (id : Int) (hv : CodeV w v l) (hfit : ∀ k (h : k < l.length), l[k].Fit) (hn : l.length ≤ 9223372036854775807) (hm : mayBlk id l = false) :
    Calls Try.prog 15 #[.agg #[.int .i64 id, v]] w fun e w' => e = .returned (.slice none 0 0) ∧ Below w.heap.size w w' := by
  have hmb : ∀ w', Below w.heap.size w w' → Calls Try.prog 13 #[.agg #[.int .i64 id, v]] w' fun e w'' => e = .returned (.bool false) ∧ Below w'.heap.size w' w'' := fun w' hb => by
    rw [← hm]
    exact mayBlock_any v l w' id (codeV_below hv hb) hfit hn
  clear hv hm
  go_enter Try.func15, Try.ntmps15
  go_wp2_with (go_at_call 13; refine (hmb _ (by exact (below_al (Below.refl _ _) (Nat.le_refl _)))).mono ?_; rintro e w1 ⟨rfl, hb1⟩; obtain ⟨hc1, hf1⟩ := bcell hb1; have hz1_0 : w.heap.size < w1.heap.size := (by have := hb1.size; (try simp at this); omega))
  go_ret
  exact ⟨rfl, (by repeat (first | exact Below.refl _ _ | refine below_al ?_ (by first | omega | (simp; omega) | simp) | refine below_then (by assumption) ?_ (by first | omega | (simp; omega) | simp)))⟩
end Go.Proofs.Ytkgednfofhlfdaa
