/- The law's own helpers: num, names, ways (of equal lists); instr.Steps. -/
import Derived.Test.YtkgednfofhlfdaaIn
import Derived.Test.YtkgednfofhlfdaaIf
namespace Go.Proofs.Ytkgednfofhlfdaa
open Go.RowKit Go.Shelf Go.Sort

theorem num_any (n : Int) (w : World) : Calls Try.prog 46 #[.int .u64 n] w fun e w' => e = .returned (.agg #[.int .u8 1, .int .u64 n]) ∧ Below w.heap.size w w' := by
  go_enter Try.func46, Try.ntmps46
  go_wp2
  have h0 : (w.alloc (.cells #[.int .u8 1, .int .u64 n] 24)).cell? ⟨w.heap.size, 0, none⟩ = some (.int .u8 1) := by simp [World.cell?_alloc_new]
  have h1 : (w.alloc (.cells #[.int .u8 1, .int .u64 n] 24)).cell? ⟨w.heap.size, 1, none⟩ = some (.int .u64 n) := by simp [World.cell?_alloc_new]
  refine bodyPost_ret (v := .agg #[.int .u8 1, .int .u64 n]) (by simp [results, Try.results46, go_sem, h0, h1]) rfl ⟨rfl, (by repeat (first | exact Below.refl _ _ | refine below_al ?_ (by first | omega | (simp; omega) | simp) | refine below_then (by assumption) ?_ (by first | omega | (simp; omega) | simp)))⟩

/-- A slice of names, read at its elements. -/
def NRow (w : World) (v : Value) (l : List (Int × Int)) : Prop := ∃ a cap, v = .slice a l.length cap ∧
  ∀ i (h : i < l.length), ∃ g off, a = some ⟨g, off, none⟩ ∧ g < w.heap.size ∧ w.cell? ⟨g, off + i * 2, none⟩ = some (.int .u8 l[i].1) ∧ w.cell? ⟨g, off + i * 2 + 1, none⟩ = some (.int .i64 l[i].2)
def WRow (w : World) (v : Value) (l : List Wy) : Prop := ∃ a cap, v = .slice a l.length cap ∧
  ∀ i (h : i < l.length), ∃ g off, a = some ⟨g, off, none⟩ ∧ g < w.heap.size ∧ w.cell? ⟨g, off + i * 3, none⟩ = some (.int .u8 l[i].op) ∧ w.cell? ⟨g, off + i * 3 + 1, none⟩ = some (.int .i64 l[i].n) ∧ w.cell? ⟨g, off + i * 3 + 2, none⟩ = some (.int .i64 l[i].s)

set_option maxRecDepth 100000 in
set_option maxHeartbeats 1000000 in
theorem names_same (v1 v2 : Value) (l : List (Int × Int)) (w : World) (h1 : NRow w v1 l) (h2 : NRow w v2 l) (hn : l.length ≤ 1000000) :
    Calls Try.prog 47 #[v1, v2] w fun e w' => e = .returned (.bool true) ∧ Below w.heap.size w w' := by
  obtain ⟨a, ca, rfl, h1⟩ := h1
  obtain ⟨b, cb, rfl, h2⟩ := h2
  have H1 := Lib.hid h1
  have H2 := Lib.hid h2
  clear h1 h2
  go_enter Try.func47, Try.ntmps47
  go_wp2
  go_loopw [5] (fun i wr => ∃ k : Nat, k ≤ l.length ∧ i = .int .i64 k ∧ Below w.heap.size w wr) (fun i _ => l.length - (intOf i).toNat)
  case atStart => exact ⟨0, by omega, rfl, Below.refl _ _⟩
  case round =>
    obtain ⟨k, hk, rfl, hb⟩ := hrel
    by_cases hlt : k < l.length
    · obtain ⟨g, off, rfl, hg, q0, q1⟩ := H1.out k hlt
      obtain ⟨g', off', rfl, hg', r0, r1⟩ := H2.out k hlt
      have Q0 := (hb.cell (p := ⟨g, off + k * 2, none⟩) hg).trans q0
      have Q1 := (hb.cell (p := ⟨g, off + k * 2 + 1, none⟩) hg).trans q1
      have R0 := (hb.cell (p := ⟨g', off' + k * 2, none⟩) hg').trans r0
      have R1 := (hb.cell (p := ⟨g', off' + k * 2 + 1, none⟩) hg').trans r1
      clear q0 q1 r0 r1
      generalize l[k].1 = x at *
      generalize l[k].2 = y at *
      go_wp2
      go_still (by kernel_rfl)
      go_wp2
      go_roundw
      case rel => exact ⟨k + 1, by omega, by simp, hb.drew⟩
      case measure => simp [intOf]; omega
    · have hke : k = l.length := by omega
      subst hke
      go_wp2
      go_ret
      exact ⟨rfl, hb⟩
set_option maxRecDepth 100000 in
set_option maxHeartbeats 1000000 in
theorem ways_same (v1 v2 : Value) (l : List Wy) (w : World) (h1 : WRow w v1 l) (h2 : WRow w v2 l) (hn : l.length ≤ 1000000) :
    Calls Try.prog 48 #[v1, v2] w fun e w' => e = .returned (.bool true) ∧ Below w.heap.size w w' := by
  obtain ⟨a, ca, rfl, h1⟩ := h1
  obtain ⟨b, cb, rfl, h2⟩ := h2
  have H1 := Lib.hid h1
  have H2 := Lib.hid h2
  clear h1 h2
  go_enter Try.func48, Try.ntmps48
  go_wp2
  go_loopw [5] (fun i wr => ∃ k : Nat, k ≤ l.length ∧ i = .int .i64 k ∧ Below w.heap.size w wr) (fun i _ => l.length - (intOf i).toNat)
  case atStart => exact ⟨0, by omega, rfl, Below.refl _ _⟩
  case round =>
    obtain ⟨k, hk, rfl, hb⟩ := hrel
    by_cases hlt : k < l.length
    · obtain ⟨g, off, rfl, hg, q0, q1, q2⟩ := H1.out k hlt
      obtain ⟨g', off', rfl, hg', r0, r1, r2⟩ := H2.out k hlt
      have Q0 := (hb.cell (p := ⟨g, off + k * 3, none⟩) hg).trans q0
      have Q1 := (hb.cell (p := ⟨g, off + k * 3 + 1, none⟩) hg).trans q1
      have R0 := (hb.cell (p := ⟨g', off' + k * 3, none⟩) hg').trans r0
      have R1 := (hb.cell (p := ⟨g', off' + k * 3 + 1, none⟩) hg').trans r1
      have Q2 := (hb.cell (p := ⟨g, off + k * 3 + 2, none⟩) hg).trans q2
      have R2 := (hb.cell (p := ⟨g', off' + k * 3 + 2, none⟩) hg').trans r2
      clear q0 q1 q2 r0 r1 r2
      generalize l[k].op = x at *
      generalize l[k].n = y at *
      generalize l[k].s = z at *
      go_wp2
      go_still (by kernel_rfl)
      go_wp2
      go_roundw
      case rel => exact ⟨k + 1, by omega, by simp, hb.drew⟩
      case measure => simp [intOf]; omega
    · have hke : k = l.length := by omega
      subst hke
      go_wp2
      go_ret
      exact ⟨rfl, hb⟩

/-- Steps: the most steps of all ways. -/
def mostSteps (l : List Wy) : Int := l.foldl (fun m x => max m x.s) 0
theorem mostSteps_take {l : List Wy} {k : Nat} (h : k < l.length) : mostSteps (l.take (k + 1)) = max (mostSteps (l.take k)) l[k].s := by
  unfold mostSteps
  rw [List.take_succ_eq_append_getElem h, List.foldl_append]
  rfl

theorem wrow_of {w : World} {g cp : Nat} {d : Array Wy} {m : Int × Int → Option Int} (h : WaysRow w g d m) : WRow w (.slice (some ⟨g, 0, none⟩) d.size cp) d.toList := by
  refine ⟨some ⟨g, 0, none⟩, cp, by simp, fun i hi => ⟨g, 0, rfl, h.lt, ?_⟩⟩
  have hi' : i < d.size := by simpa using hi
  have e : d[i]! = d.toList[i] := by simp [hi']
  have c0 := (h.row.cell (i := i) (c := 0) hi' (by omega)).1
  have c1 := (h.row.cell (i := i) (c := 1) hi' (by omega)).1
  have c2 := (h.row.cell (i := i) (c := 2) hi' (by omega)).1
  rw [e] at c0 c1 c2
  exact ⟨c0, c1, c2⟩

theorem eq_of_rel {R : Wy → Wy → Prop} (ha : ∀ a b, R a b → ¬ R b a) : ∀ {l1 l2 : List Wy}, l1.Pairwise R → l2.Pairwise R → (∀ x, x ∈ l1 ↔ x ∈ l2) → l1 = l2
  | [], [], _, _, _ => rfl
  | [], b :: r, _, _, h => absurd ((h b).2 (by simp)) (by simp)
  | a :: r, [], _, _, h => absurd ((h a).1 (by simp)) (by simp)
  | a :: r, b :: s, h1, h2, h => by
    obtain ⟨p1, q1⟩ := List.pairwise_cons.1 h1
    obtain ⟨p2, q2⟩ := List.pairwise_cons.1 h2
    have hab : a = b := by
      refine Classical.byContradiction fun hne => ?_
      have e1 : a ∈ s := by have := (h a).1 (by simp); simpa [hne] using this
      have e2 : b ∈ r := by have := (h b).2 (by simp); simpa [Ne.symm hne] using this
      exact ha a b (p1 b e2) (p2 a e1)
    subst hab
    have hirr : ¬ R a a := fun hr => ha a a hr hr
    have : r = s := eq_of_rel ha q1 q2 fun x => by
      have hx := h x
      simp only [List.mem_cons] at hx
      constructor
      · intro hr
        rcases hx.1 (Or.inr hr) with e | e
        · subst e; exact absurd (p1 x hr) hirr
        · exact e
      · intro hs
        rcases hx.2 (Or.inr hs) with e | e
        · subst e; exact absurd (p2 x hs) hirr
        · exact e
    rw [this]

def ltKey (x y : Wy) : Prop := x.op < y.op ∨ (x.op = y.op ∧ x.n < y.n)
theorem pairwise_of {w : World} {g : Nat} {d : Array Wy} {m : Int × Int → Option Int} (h : WaysRow w g d m) : d.toList.Pairwise ltKey := by
  rw [List.pairwise_iff_getElem]
  intro i j hi hj hij
  have hj' : j < d.size := by simpa using hj
  have hi' : i < d.size := by simpa using hi
  have hs := h.sorted i j (Nat.zero_le _) hij hj'
  rw [ltWy, getElem!_pos d i hi', getElem!_pos d j hj'] at hs
  have hn := (List.pairwise_iff_getElem.1 h.nodup) i j (by simpa using hi) (by simpa using hj) hij
  simp only [List.getElem_map, Array.getElem_toList] at hn
  have hs2 := of_decide_eq_false hs
  unfold ltKey
  simp only [Array.getElem_toList]
  rcases Int.lt_trichotomy d[i].op d[j].op with h1 | h1 | h1
  · exact Or.inl h1
  · rcases Int.lt_trichotomy d[i].n d[j].n with h2 | h2 | h2
    · exact Or.inr ⟨h1, h2⟩
    · exact absurd (by rw [h1, h2]) hn
    · exact absurd (Or.inr ⟨h1.symm, h2⟩) hs2
  · exact absurd (Or.inl h1) hs2

/-- The ways' list is known by its members. -/
theorem ways_list {w : World} {g : Nat} {d : Array Wy} {m : Int × Int → Option Int} (h : WaysRow w g d m) {L : List Wy} (hm : ∀ x, x ∈ L ↔ m (x.op, x.n) = some x.s) (hL : L.Pairwise ltKey) : d.toList = L :=
  eq_of_rel (fun a b h1 h2 => by unfold ltKey at h1 h2; omega) (pairwise_of h) hL fun x => (h.mem x).trans (hm x).symm

set_option maxRecDepth 100000 in
set_option maxHeartbeats 1000000 in
theorem steps_any (v : Value) (l : List Ins) (w : World) (id : Int) (hv : CodeV w v l) (hfit : ∀ k (h : k < l.length), l[k].Fit) (hm : mayBlk id l = true) :
    Calls Try.prog 49 #[.agg #[.int .i64 id, v]] w fun e w' => (∃ (d : Array Wy) (W : World) (g : Nat), WaysRow W g d (waysMap l) ∧ e = .returned (.int .i64 (mostSteps d.toList))) ∧ Below w.heap.size w w' := by
  have hways := fun W (hb : Below w.heap.size w W) => ways_any v l W id (codeV_below hv hb) hfit hm
  clear hv hfit hm
  go_enter Try.func49, Try.ntmps49
  go_wp2_with (go_at_call 15; refine (hways _ (by exact (below_al (Below.refl _ _) (Nat.le_refl _)))).mono ?_; rintro e w1 ⟨r, rfl, g, cp, d, rfl, hrow, hg, hb1⟩)
  obtain ⟨sa, cq, heq, hcells⟩ := wrow_of (cp := cp) hrow
  cases heq
  have HC := Lib.hid hcells
  have hsm := hrow.small
  have HR := Lib.hid hrow
  have hgl := hrow.lt
  clear hcells hrow
  go_loopw [3, 9] (fun m i wr => ∃ k : Nat, k ≤ d.size ∧ i = .int .i64 k ∧ m = .int .i64 (mostSteps (d.toList.take k)) ∧ Below w1.heap.size w1 wr) (fun _ i _ => d.size - (intOf i).toNat)
  case atStart => exact ⟨0, by omega, rfl, rfl, Below.refl _ _⟩
  case round =>
    obtain ⟨k, hk, rfl, rfl, hb⟩ := hrel
    by_cases hlt : k < d.size
    · have hlt' : k < d.toList.length := by simpa using hlt
      obtain ⟨g', off', hgo, hg', q0, q1, q2⟩ := HC.out k hlt'
      cases hgo
      have hms := mostSteps_take hlt'
      have HMS := Lib.hid hms
      have Q0 := (hb.cell (p := ⟨g, 0 + k * 3, none⟩) hg').trans q0
      have Q1 := (hb.cell (p := ⟨g, 0 + k * 3 + 1, none⟩) hg').trans q1
      have Q2 := (hb.cell (p := ⟨g, 0 + k * 3 + 2, none⟩) hg').trans q2
      rw [Nat.zero_add] at Q0 Q1 Q2
      clear q0 q1 q2 hms
      generalize mostSteps (d.toList.take k) = ms at *
      generalize d.toList[k].op = x at *
      generalize d.toList[k].n = y at *
      generalize hz : d.toList[k].s = z at *
      clear hz
      go_wp2
      go_roundw
      case rel => exact ⟨k + 1, by omega, by simp, by rw [HMS.out], below_al hb hb.size⟩
      case measure => simp [intOf]; omega
    · have hke : k = d.size := by omega
      subst hke
      go_wp2
      go_ret
      refine ⟨⟨d, w1, g, HR.out, by rw [List.take_of_length_le (by simp)]; rfl⟩, ?_⟩
      exact (below_al (Below.refl w.heap.size w) (Nat.le_refl _)).trans ((hb1.trans (hb.mono hb1.size)).mono (by simp))

theorem nrow_below {w w' : World} {v : Value} {l : List (Int × Int)} (h : NRow w v l) (hb : Below w.heap.size w w') : NRow w' v l := by
  obtain ⟨a, cap, rfl, h⟩ := h
  refine ⟨a, cap, rfl, fun i hi => ?_⟩
  obtain ⟨g, off, ha, hg, h0, h1⟩ := h i hi
  exact ⟨g, off, ha, Nat.lt_of_lt_of_le hg hb.size, (hb.cell (p := ⟨g, _, none⟩) hg).trans h0, (hb.cell (p := ⟨g, _, none⟩) hg).trans h1⟩
theorem wrow_below {w w' : World} {v : Value} {l : List Wy} (h : WRow w v l) (hb : Below w.heap.size w w') : WRow w' v l := by
  obtain ⟨a, cap, rfl, h⟩ := h
  refine ⟨a, cap, rfl, fun i hi => ?_⟩
  obtain ⟨g, off, ha, hg, h0, h1, h2⟩ := h i hi
  exact ⟨g, off, ha, Nat.lt_of_lt_of_le hg hb.size, (hb.cell (p := ⟨g, _, none⟩) hg).trans h0, (hb.cell (p := ⟨g, _, none⟩) hg).trans h1, (hb.cell (p := ⟨g, _, none⟩) hg).trans h2⟩

theorem nrow_of {w : World} {base : Nat} {v : Value} {l : List (Int × Int)} (h : NmsB w base v l) : NRow w v l := by
  rcases Nat.eq_zero_or_pos l.length with h0 | h0
  · obtain ⟨_, h⟩ := h
    rcases h with ⟨hv, _⟩ | ⟨g, cap, cur, hv, _⟩
    · exact ⟨none, 0, by rw [hv, h0], fun i hi => by omega⟩
    · exact ⟨_, cap, hv, fun i hi => by omega⟩
  · obtain ⟨g, cap, hv, hg, hlt⟩ := World.ownsRow.form h h0
    subst hv
    refine ⟨_, cap, rfl, fun i hi => ⟨g, 0, rfl, hlt, ?_⟩⟩
    have e : nmCells l = l.flatMap (fun p => [.int .u8 p.1, .int .i64 p.2]) := by unfold nmCells; rfl
    have c0 := World.ownsRow.cellAt h (i * 2) (by omega)
    have c1 := World.ownsRow.cellAt h (i * 2 + 1) (by omega)
    rw [e] at c0 c1
    have f0 := flat_get (fun p : Int × Int => [Value.int .u8 p.1, Value.int .i64 p.2]) 2 (by decide) (fun _ => rfl) l (i * 2) (by omega)
    have f1 := flat_get (fun p : Int × Int => [Value.int .u8 p.1, Value.int .i64 p.2]) 2 (by decide) (fun _ => rfl) l (i * 2 + 1) (by omega)
    have e1 : i * 2 / 2 = i := by omega
    have e2 : i * 2 % 2 = 0 := by omega
    have e3 : (i * 2 + 1) / 2 = i := by omega
    have e4 : (i * 2 + 1) % 2 = 1 := by omega
    rw [e1, e2] at f0
    rw [e3, e4] at f1
    have e5 : l.toArray[i]! = l[i] := by simp [hi]
    rw [e5] at f0 f1
    rw [Nat.zero_add]
    exact ⟨c0.trans f0, c1.trans f1⟩
end Go.Proofs.Ytkgednfofhlfdaa
