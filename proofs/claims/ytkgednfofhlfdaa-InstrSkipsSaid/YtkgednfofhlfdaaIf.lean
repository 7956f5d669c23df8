/- instr.Names: the contract. -/
import Derived.Test.YtkgednfofhlfdaaIe
import Derived.Maps.AppendAt
import Derived.Deep.DeepCutAuto
import Derived.Lib.Hide
namespace Go.Proofs.Ytkgednfofhlfdaa
open Go.RowKit Go.Shelf

def nmCells (l : List (Int × Int)) : List Value := l.flatMap fun p => [.int .u8 p.1, .int .i64 p.2]
theorem nmCells_append (a b : List (Int × Int)) : nmCells (a ++ b) = nmCells a ++ nmCells b := by simp [nmCells]
theorem nmCells_length (a : List (Int × Int)) : (nmCells a).length = a.length * 2 := by
  induction a with
  | nil => rfl
  | cons p r ih =>
    have : nmCells (p :: r) = [.int .u8 p.1, .int .i64 p.2] ++ nmCells r := by simp [nmCells]
    rw [this, List.length_append, ih]
    simp
    omega

def fldNames (k n : Int) : List (Int × Int) := if opField k n = true then [(1, n)] else []
def fk (ak an bk bn : Int) : Nat → List (Int × Int)
  | 0 => []
  | 1 => fldNames ak an
  | _ => fldNames ak an ++ fldNames bk bn
def Shp.toNames (s : Shp) (d : Int) : List (Int × Int) := if s.fto = true then [(1, d)] else []
def Shp.nNames (s : Shp) (n : Int) : List (Int × Int) := if 0 < s.names then [(s.names, n)] else []
def Ins.names (i : Ins) : List (Int × Int) := if i.may = true then i.shape.toNames i.dst ++ (fldNames i.ak i.an ++ fldNames i.bk i.bn) ++ i.shape.nNames i.n else []

theorem fk_len (ak an bk bn : Int) (k : Nat) : (fk ak an bk bn k).length ≤ 2 := by
  unfold fk fldNames
  split <;> (try split) <;> (try split) <;> simp

/-- A slice of names that the call owns. -/
def NmsB (w : World) (base : Nat) (v : Value) (l : List (Int × Int)) : Prop := w.ownsRow base 32 2 v l.length (nmCells l)
theorem nms_snoc {w : World} {base : Nat} {v : Value} {l : List (Int × Int)} {a b : Int} (h : w.ownsRow base 32 2 v (l.length + 1) (nmCells l ++ [.int .u8 a, .int .i64 b])) : NmsB w base v (l ++ [(a, b)]) := by
  have e : nmCells (l ++ [(a, b)]) = nmCells l ++ [.int .u8 a, .int .i64 b] := by rw [nmCells_append]; rfl
  unfold NmsB
  rw [e, List.length_append]
  exact h

theorem info_name : (Try.prog.info? 32).map (fun i => (i.zero, i.size, i.bytes)) = some (some (.agg #[.int .u8 0, .int .i64 0]), 2, 16) := by kernel_rfl

theorem below_names {w w1 w2 wr : World} {o o' : Obj} (hlt : w.heap.size < w2.heap.size) (h1 : Below (w.alloc o).heap.size (w.alloc o) w1) (h2 : Below w1.heap.size w1 w2) (h3 : Below (w2.heap.size + 1) (w2.alloc o') wr) : Below w.heap.size w wr := by
  refine Below.trans ?_ (h3.mono (by omega))
  refine below_al (below_then h2 (below_then h1 (below_al (Below.refl _ _) (Nat.le_refl _)) (by simp)) ?_) (by omega)
  have := h1.size
  simp at this
  omega
theorem lower_row {w : World} {b b' e size n : Nat} {v : Value} {xs : List Value} (h : w.ownsRow b e size v n xs) (hb : b' ≤ b) : w.ownsRow b' e size v n xs :=
  ⟨h.1, h.2.imp id fun ⟨g, cap, cur, h1, h2, h3⟩ => ⟨g, cap, cur, h1, Nat.le_trans hb h2, h3⟩⟩

set_option maxRecDepth 100000 in
set_option maxHeartbeats 4000000 in
theorem names_walk (op dst ak an bk bn n : Int) (s : Shp) (w : World) (h64 : 0 ≤ an ∧ 0 ≤ bn)
    (ga gb : Nat) (ha : s.a.v = .func (.func ga) #[] #[]) (hb : s.b.v = .func (.func gb) #[] #[])
    (hmay : ∀ w, Calls Try.prog 10 #[.agg #[.int .u8 op, .int .i64 dst, .int .u8 ak, .int .u64 an, .int .u8 bk, .int .u64 bn, .int .i64 n]] w fun e w' => e = .returned (.bool true) ∧ Below w.heap.size w w')
    (hof : ∀ w, Calls Try.prog 43 #[.int .u8 op] w fun e w' => e = .returned (.tuple #[s.v, .bool true]) ∧ Below w.heap.size w w') :
    Calls Try.prog 12 #[.agg #[.int .u8 op, .int .i64 dst, .int .u8 ak, .int .u64 an, .int .u8 bk, .int .u64 bn, .int .i64 n]] w fun e w' =>
      ∃ v, e = .returned v ∧ NmsB w' w.heap.size v (s.toNames dst ++ (fldNames ak an ++ fldNames bk bn) ++ s.nNames n) ∧ Below w.heap.size w w' := by
  obtain ⟨st, stt, sa, sb, sn, sl, sm⟩ := s
  obtain ⟨i0, hI, hI0, hI1, hI2x⟩ := info_parts info_name
  have hfa := fun w => field_any ak an w
  have hfb := fun w => field_any bk bn w
  dsimp only at ha hb
  simp only [Shp.v, Shp.cells, ha, hb] at hof
  clear ha hb
  have hn1 : (Shp.toNames ⟨st, stt, sa, sb, sn, sl, sm⟩ dst) = if st = true then [(1, dst)] else [] := rfl
  generalize Shp.toNames ⟨st, stt, sa, sb, sn, sl, sm⟩ dst = n1 at hn1 ⊢
  have hn3 : (Shp.nNames ⟨st, stt, sa, sb, sn, sl, sm⟩ n) = if 0 < sn then [(sn, n)] else [] := rfl
  generalize Shp.nNames ⟨st, stt, sa, sb, sn, sl, sm⟩ n = n3 at hn3 ⊢
  have HN1 := Lib.hid hn1
  have HN3 := Lib.hid hn3
  clear hn1 hn3
  go_enter Try.func12, Try.ntmps12
  go_upto_if 18 with (first | (go_at_call 10; refine (hmay _).mono ?_; rintro e w1 ⟨rfl, hb1⟩; obtain ⟨hc1, hf1⟩ := bcell hb1; have hz1_0 : w.heap.size < w1.heap.size := (by have := hb1.size; (try simp at this); omega)) | (go_at_call 43; refine (hof _).mono ?_; rintro e w2 ⟨rfl, hb2⟩; obtain ⟨hc2, hf2⟩ := bcell hb2; have hz2_0 : w.heap.size < w2.heap.size := (by have := hb2.size; (try simp at this); omega)))
  have hz2 : w1.heap.size ≤ w2.heap.size := hb2.size
  have hS : ∃ o, o = Obj.cells #[.bool st, .bool stt, .func (.func ga) #[] #[], .func (.func gb) #[] #[], .int .u8 sn, .int .i64 sl, .int .i64 sm] 92 := ⟨_, rfl⟩
  go_cut [5] (fun v wc => NmsB wc (w2.heap.size + 1) v n1 ∧ Below (w2.heap.size + 1) (w2.alloc (.cells #[.bool st, .bool stt, .func (.func ga) #[] #[], .func (.func gb) #[] #[], .int .u8 sn, .int .i64 sl, .int .i64 sm] 92)) wc)
  case first =>
    go_wp2_with (at_builtin; refine wpList_append_fresh _ rfl (.tmp 19) (.tmp 23) 29 rfl (w2.heap.size + 1) 32 i0 (.agg #[.int .u8 0, .int .i64 0]) 2 16 Try.underlying29 hI hI0 hI1 hI2x rfl (by decide) _ _ _ rfl (World.ownsRow_nil _ _ _ _) _ [.int .u8 1, .int .i64 dst] rfl (by simp) rfl (by intro u hu; simp at hu; rcases hu with rfl | rfl <;> rfl) (by decide) (by decide) (by simp) ?_; intro v' w3 hown3 hgr3 hloc3 hnn3)
    all_goals go_meet
    · have hst : st = true := by assumption
      subst hst
      have e := HN1.out
      simp at e
      subst e
      exact ⟨hown3, (Below.refl _ _).grown hgr3 (by simp) (fun k hk => by cases hk)⟩
    · have hst : st = false := by assumption
      subst hst
      have e := HN1.out
      simp at e
      subst e
      exact ⟨World.ownsRow_nil _ _ _ _, Below.refl _ _⟩
  case rest =>
    obtain ⟨hown, hbc⟩ := hcut
    have hlt : w.heap.size < w2.heap.size := hz2_0
    have hI2 : w2.heap[w.heap.size]? = some (.cells #[.int .u8 op, .int .i64 dst, .int .u8 ak, .int .u64 an, .int .u8 bk, .int .u64 bn, .int .i64 n] 26 (0, 0)) :=
      (hb2.block w.heap.size (by omega)).trans ((hb1.block w.heap.size (by simp)).trans (heap_alloc_new _ _))
    have hIc := (hbc.block w.heap.size (by omega)).trans ((heap_alloc_old _ _ hlt).trans hI2)
    have hSc := (hbc.block w2.heap.size (by omega)).trans (heap_alloc_new _ _)
    have hcz : w2.heap.size + 1 ≤ wc.heap.size := by have := hbc.size; simpa using this
    have hi1 := cells_at hIc
    have hs1 := cells_at hSc
    have hvc : ∀ g, u5.ownBlock = some g → g ≠ wc.heap.size := fun g hg => by have := (hown.lt g hg).2; omega
    clear hi1 hs1
    have hci : ∀ W, Below (w2.heap.size + 1) (w2.alloc (.cells #[.bool st, .bool stt, .func (.func ga) #[] #[], .func (.func gb) #[] #[], .int .u8 sn, .int .i64 sl, .int .i64 sm] 92)) W → (∀ j, W.cell? ⟨w.heap.size, j, none⟩ = (#[.int .u8 op, .int .i64 dst, .int .u8 ak, .int .u64 an, .int .u8 bk, .int .u64 bn, .int .i64 n] : Array Value)[j]?) ∧ (∀ j, W.cell? ⟨w2.heap.size, j, none⟩ = (#[.bool st, .bool stt, .func (.func ga) #[] #[], .func (.func gb) #[] #[], .int .u8 sn, .int .i64 sl, .int .i64 sm] : Array Value)[j]?) := fun W hW =>
      ⟨cells_at ((hW.block w.heap.size (by omega)).trans ((heap_alloc_old _ _ hlt).trans hI2)), cells_at ((hW.block w2.heap.size (by omega)).trans (heap_alloc_new _ _))⟩
    have HCI := Lib.hid hci
    clear hci
    obtain ⟨hi1, hs1⟩ := HCI.out wc hbc
    go_wp2
    clear hi1 hs1
    go_loopw [5, 31] (fun v i wr => ∃ k : Nat, k ≤ 2 ∧ i = .int .i64 k ∧ NmsB wr (w2.heap.size + 1) v (n1 ++ fk ak an bk bn k) ∧ (∀ g, v.ownBlock = some g → g ≠ wc.heap.size) ∧
        wr.heap[wc.heap.size]? = some (.cells #[.int .u8 ak, .int .u64 an, .int .u8 bk, .int .u64 bn] 96 (0, 0)) ∧ Below (w2.heap.size + 1) (w2.alloc (.cells #[.bool st, .bool stt, .func (.func ga) #[] #[], .func (.func gb) #[] #[], .int .u8 sn, .int .i64 sl, .int .i64 sm] 92)) wr) (fun _ i _ => 2 - (intOf i).toNat)
    case atStart => exact ⟨0, by omega, rfl, by rw [show n1 ++ fk ak an bk bn 0 = n1 from List.append_nil n1]; exact World.ownsRow.alloc hown _, hvc, heap_alloc_new _ _, below_al hbc hcz⟩
    case round =>
      obtain ⟨k, hk, rfl, hown, hvb, hA, hbr⟩ := hrel
      have hA1 := cells_at hA
      have hAl := lt_of_heap hA
      have hbs : w2.heap.size + 1 ≤ wr.heap.size := by omega
      have hl1 : n1.length ≤ 1 := by have e := HN1.out; rw [e]; split <;> simp
      have HL : Hid ((n1 ++ fk ak an bk bn k).length < 4294967296) := by have e := fk_len ak an bk bn k; unfold Hid; rw [List.length_append]; omega
      obtain ⟨hi1, hs1⟩ := HCI.out wr hbr
      have hk3 : k = 0 ∨ k = 1 ∨ k = 2 := by omega
      rcases hk3 with rfl | rfl | rfl
      · -- operand 0
        by_cases hq : opField ak an = true
        · have hr1 : 1 ≤ an := by simp [opField] at hq; omega
          have hr2 : an ≤ 65534 := by simp [opField] at hq; omega
          have hfw := hfa
          rw [hq] at hfw
          have HQ := Lib.hid hq
          clear hq
          go_wp2_with (first | (go_at_call 50; refine (hfw _).mono ?_; rintro e w4 ⟨rfl, rfl⟩) | (at_builtin; refine wpList_append_fresh _ rfl (.tmp 37) (.tmp 42) 29 rfl (w2.heap.size + 1) 32 i0 (.agg #[.int .u8 0, .int .i64 0]) 2 16 Try.underlying29 hI hI0 hI1 hI2x rfl (by decide) u5 _ _ rfl ((World.ownsRow.alloc (World.ownsRow.alloc hown _) _)) _ [.int .u8 1, .int .i64 an] rfl (by simp) rfl (by intro u hu; simp at hu; rcases hu with rfl | rfl <;> rfl) HL.out (by decide) (by simp; omega) ?_; intro v' w5 hown5 hgr5 hloc5 hnn5))
          have hv5 : ∀ g, v'.ownBlock = some g → g ≠ wc.heap.size := by
            intro g hg e
            rcases hloc5 with h | ⟨k5, h, h5⟩
            · exact hvb g (h ▸ hg) e
            · rw [h] at hg
              simp at hg h5
              omega
          have hA5 := (hgr5.block wc.heap.size (by simp; omega) (by intro e; exact hvb _ e.symm rfl)).trans ((heap_alloc_old _ _ (by simp; omega)).trans ((heap_alloc_old _ _ hAl).trans hA))
          have hb5 := ((below_al (below_al hbr hbs) (by simp; omega)).grown hgr5 (by simp; omega) (fun k hk => (hown.lt k hk).1))
          go_roundw
          case rel => exact ⟨1, by omega, by simp, by have e := HQ.out; have e2 := nms_snoc hown5; simpa only [fk, fldNames, e, if_true, List.append_assoc, List.nil_append, List.append_nil] using e2, hv5, hA5, hb5⟩
          case measure => simp [intOf]
        · have hq : opField ak an = false := by simpa using hq
          have hfw := hfa
          rw [hq] at hfw
          have HQ := Lib.hid hq
          clear hq
          go_wp2_with (first | (go_at_call 50; refine (hfw _).mono ?_; rintro e w4 ⟨rfl, rfl⟩))
          have hA5 := (heap_alloc_old _ (opBox ak an) (by simp; omega)).trans ((heap_alloc_old wr (opBox ak an) hAl).trans hA)
          have hb5 := (below_al (o := opBox ak an) (below_al (o := opBox ak an) hbr hbs) (by simp; omega))
          go_roundw
          case rel => exact ⟨1, by omega, by simp, by have e := HQ.out; have e2 := World.ownsRow.alloc (World.ownsRow.alloc hown (.cells #[.int .u8 ak, .int .u64 an] 96)) (opBox ak an); simpa only [fk, fldNames, e, Bool.false_eq_true, if_false, List.append_nil] using (show NmsB _ _ _ _ from e2), hvb, hA5, hb5⟩
          case measure => simp [intOf]
      · -- operand 1
        by_cases hq : opField bk bn = true
        · have hr1 : 1 ≤ bn := by simp [opField] at hq; omega
          have hr2 : bn ≤ 65534 := by simp [opField] at hq; omega
          have hfw := hfb
          rw [hq] at hfw
          have HQ := Lib.hid hq
          clear hq
          go_wp2_with (first | (go_at_call 50; refine (hfw _).mono ?_; rintro e w4 ⟨rfl, rfl⟩) | (at_builtin; refine wpList_append_fresh _ rfl (.tmp 37) (.tmp 42) 29 rfl (w2.heap.size + 1) 32 i0 (.agg #[.int .u8 0, .int .i64 0]) 2 16 Try.underlying29 hI hI0 hI1 hI2x rfl (by decide) u5 _ _ rfl ((World.ownsRow.alloc (World.ownsRow.alloc hown _) _)) _ [.int .u8 1, .int .i64 bn] rfl (by simp) rfl (by intro u hu; simp at hu; rcases hu with rfl | rfl <;> rfl) HL.out (by decide) (by simp; omega) ?_; intro v' w5 hown5 hgr5 hloc5 hnn5))
          have hv5 : ∀ g, v'.ownBlock = some g → g ≠ wc.heap.size := by
            intro g hg e
            rcases hloc5 with h | ⟨k5, h, h5⟩
            · exact hvb g (h ▸ hg) e
            · rw [h] at hg
              simp at hg h5
              omega
          have hA5 := (hgr5.block wc.heap.size (by simp; omega) (by intro e; exact hvb _ e.symm rfl)).trans ((heap_alloc_old _ _ (by simp; omega)).trans ((heap_alloc_old _ _ hAl).trans hA))
          have hb5 := ((below_al (below_al hbr hbs) (by simp; omega)).grown hgr5 (by simp; omega) (fun k hk => (hown.lt k hk).1))
          go_roundw
          case rel => exact ⟨2, by omega, by simp, by have e := HQ.out; have e2 := nms_snoc hown5; simpa only [fk, fldNames, e, if_true, List.append_assoc, List.nil_append, List.append_nil] using e2, hv5, hA5, hb5⟩
          case measure => simp [intOf]
        · have hq : opField bk bn = false := by simpa using hq
          have hfw := hfb
          rw [hq] at hfw
          have HQ := Lib.hid hq
          clear hq
          go_wp2_with (first | (go_at_call 50; refine (hfw _).mono ?_; rintro e w4 ⟨rfl, rfl⟩))
          have hA5 := (heap_alloc_old _ (opBox bk bn) (by simp; omega)).trans ((heap_alloc_old wr (opBox bk bn) hAl).trans hA)
          have hb5 := (below_al (o := opBox bk bn) (below_al (o := opBox bk bn) hbr hbs) (by simp; omega))
          go_roundw
          case rel => exact ⟨2, by omega, by simp, by have e := HQ.out; have e2 := World.ownsRow.alloc (World.ownsRow.alloc hown (.cells #[.int .u8 bk, .int .u64 bn] 96)) (opBox bk bn); simpa only [fk, fldNames, e, Bool.false_eq_true, if_false, List.append_nil] using (show NmsB _ _ _ _ from e2), hvb, hA5, hb5⟩
          case measure => simp [intOf]
      · -- behind the loop
        by_cases hq : 0 < sn
        · have HQ := Lib.hid hq
          go_wp2_with (at_builtin; refine wpList_append_fresh _ rfl (.tmp 48) (.tmp 54) 29 rfl (w2.heap.size + 1) 32 i0 (.agg #[.int .u8 0, .int .i64 0]) 2 16 Try.underlying29 hI hI0 hI1 hI2x rfl (by decide) u5 _ _ rfl hown _ [.int .u8 sn, .int .i64 n] rfl (by simp) rfl (by intro u hu; simp at hu; rcases hu with rfl | rfl <;> rfl) HL.out (by decide) hbs ?_; intro v' w5 hown5 hgr5 hloc5 hnn5)
          go_ret
          refine ⟨_, rfl, ?_, ?_⟩
          · have e := HN3.out
            rw [if_pos HQ.out] at e
            subst e
            have e2 := lower_row (nms_snoc hown5) (show w.heap.size ≤ w2.heap.size + 1 by omega)
            have e3 : NmsB w5 w.heap.size v' (n1 ++ (fldNames ak an ++ fldNames bk bn) ++ [(sn, n)]) := e2
            exact e3
          · exact below_names hlt hb1 hb2 (hbr.grown hgr5 hbs (fun k hk => (hown.lt k hk).1))
        · have e := HN3.out
          rw [if_neg hq] at e
          subst e
          go_wp2
          go_ret
          refine ⟨_, rfl, ?_, ?_⟩
          · exact lower_row hown (show w.heap.size ≤ w2.heap.size + 1 by omega)
          · exact below_names hlt hb1 hb2 hbr

theorem names_none (op dst ak an bk bn n : Int) (w : World)
    (hmay : ∀ w, Calls Try.prog 10 #[.agg #[.int .u8 op, .int .i64 dst, .int .u8 ak, .int .u64 an, .int .u8 bk, .int .u64 bn, .int .i64 n]] w fun e w' => e = .returned (.bool false) ∧ Below w.heap.size w w') :
    Calls Try.prog 12 #[.agg #[.int .u8 op, .int .i64 dst, .int .u8 ak, .int .u64 an, .int .u8 bk, .int .u64 bn, .int .i64 n]] w fun e w' => e = .returned (.slice none 0 0) ∧ Below w.heap.size w w' := by
  go_enter Try.func12, Try.ntmps12
  go_wp2_with (first | (go_at_call 10; refine (hmay _).mono ?_; rintro e w1 ⟨rfl, hb1⟩; obtain ⟨hc1, hf1⟩ := bcell hb1; have hz1_0 : w.heap.size < w1.heap.size := (by have := hb1.size; (try simp at this); omega)))
  go_ret
  exact ⟨rfl, (by repeat (first | exact Below.refl _ _ | refine below_al ?_ (by first | omega | (simp; omega) | simp) | refine below_then (by assumption) ?_ (by first | omega | (simp; omega) | simp)))⟩

theorem names_any (i : Ins) (w : World) (h0 : 0 ≤ i.op) (ha : 0 ≤ i.an) (hb : 0 ≤ i.bn) : Calls Try.prog 12 #[i.v] w fun e w' => ∃ v, e = .returned v ∧ NmsB w' w.heap.size v i.names ∧ Below w.heap.size w w' := by
  have hm := fun w => may_any i w h0
  unfold Ins.names
  by_cases h : i.may = true
  · rw [h] at hm
    rw [if_pos h]
    have hop : 1 ≤ i.op ∧ i.op ≤ 23 := by
      have := h
      simp [Ins.may, Ins.isOp] at this
      omega
    obtain ⟨k, hk⟩ := Int.eq_ofNat_of_zero_le h0
    have hf := shp_fk k (by omega) (by omega)
    have hs : i.shape = shpOf k := by unfold Ins.shape; rw [hk]; rfl
    rw [hs]
    exact names_walk i.op i.dst i.ak i.an i.bk i.bn i.n (shpOf k) w ⟨ha, hb⟩ _ _ (Fk.v_eq hf.1) (Fk.v_eq hf.2) hm (by rw [hk]; exact fun w => of_any k (by omega) (by omega) w)
  · have h : i.may = false := by simpa using h
    rw [h] at hm
    rw [if_neg (by simp [h])]
    exact (names_none i.op i.dst i.ak i.an i.bk i.bn i.n w hm).mono fun e w' ⟨he, hw⟩ => ⟨_, he, World.ownsRow_nil _ _ _ _, hw⟩
end Go.Proofs.Ytkgednfofhlfdaa
