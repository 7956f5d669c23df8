/- InstrElse: the walk. -/
import Derived.Test.YtkgednfofhlfdaaIq
import Derived.Test.YtkgednfofhlfdaaIr
import Derived.Deep.CutBlock
import Derived.BigQuiet
namespace Go.Proofs.Ytkgednfofhlfdaa
open Go.RowKit Go.Shelf Go.Sort

/-- An instruction's box. -/
def insBox (i : Ins) : Obj := .cells #[.int .u8 i.op, .int .i64 i.dst, .int .u8 i.ak, .int .u64 i.an, .int .u8 i.bk, .int .u64 i.bn, .int .i64 i.n] 26

def opFour (i : Ins) : Prop := i.op = 9 ∨ i.op = 10 ∨ i.op = 11 ∨ i.op = 21
instance (i : Ins) : Decidable (opFour i) := by unfold opFour; infer_instance

/-- What stands behind the switch: the part had something, or x is i, or x may not be; but for the numbers that may be 0. -/
def PartOk (i : Ins) (part : Nat) (x : Ins) (had : Bool) : Prop := had = true ∨ x = i ∨ x.may = false ∨ (part = 3 ∧ opFour i)

set_option maxRecDepth 100000 in
set_option maxHeartbeats 8000000 in
theorem else_may (i k : Ins) (w : World) (hi : i.Fit) (hm : i.may = true) : Calls Try.prog 3 #[i.v, k.v] w fun e w' => e = .returned (.bool true) ∧ Below w.heap.size w w' := by
  have hmi := fun V => may_any i V hi.op.1
  rw [hm] at hmi
  have hnames := fun V => names_any i V hi.op.1 hi.an hi.bn
  have hmx : ∀ x : Ins, x.op = i.op → ∀ V, Calls Try.prog 10 #[.agg #[.int .u8 x.op, .int .i64 x.dst, .int .u8 x.ak, .int .u64 x.an, .int .u8 x.bk, .int .u64 x.bn, .int .i64 x.n]] V fun e w' => e = .returned (.bool x.may) ∧ Below V.heap.size V w' := fun x hx V => may_any x V (by rw [hx]; exact hi.op.1)
  have HMX := Lib.hid hmx
  have HD := Lib.hid (fun d (h0 : i.dst = 0) (hd : d ≠ 0) => else_dst hm h0 (d := d) hd)
  have HA := Lib.hid (fun a b (h0 : i.ak = 0 ∧ i.an = 0) (hd : ¬ (a = 0 ∧ b = 0)) => else_a hm h0 (a := a) (b := b) hd)
  have HB := Lib.hid (fun a b (h0 : i.bk = 0 ∧ i.bn = 0) (hd : ¬ (a = 0 ∧ b = 0)) => else_b hm h0 (a := a) (b := b) hd)
  have HN := Lib.hid (fun d (h0 : i.n = 0) (ho : ¬ opFour i) (hd : d ≠ 0) => else_n hm h0 ho (d := d) hd)
  have HNM := Lib.hid (fun j (h : j < i.names.length) => names_ok hm j h)
  have HNO := Lib.hid (names_others hm)
  clear hmx hm hi
  obtain ⟨op, dst, ak, an, bk, bn, n⟩ := i
  obtain ⟨kop, kdst, kak, kan, kbk, kbn, kn⟩ := k
  unfold Ins.v Ins.cells at *
  dsimp only at *
  go_enter Try.func3, Try.ntmps3
  go_wp2_with (first | (go_at_call 10; refine (hmi _).mono ?_; rintro e w1 ⟨rfl, hb1⟩; obtain ⟨hc1, hf1⟩ := bcell hb1; have hz1_0 : w.heap.size < w1.heap.size := (by have := hb1.size; (try simp at this); omega)) | (go_at_call 11; refine (awake_any _).mono ?_; rintro e w2 ⟨rfl, hb2⟩))
  have hI : w2.heap[w.heap.size]? = some (.cells #[.int .u8 op, .int .i64 dst, .int .u8 ak, .int .u64 an, .int .u8 bk, .int .u64 bn, .int .i64 n] 26 (0, 0)) :=
    (hb2.block _ (by omega)).trans ((hb1.block _ (by simp; omega)).trans ((heap_alloc_old _ _ (by simp)).trans (heap_alloc_new _ _)))
  have hz2 : w1.heap.size ≤ w2.heap.size := hb2.size
  have hz1 : w.heap.size + 1 + 1 ≤ w1.heap.size := by have := hb1.size; simpa using this
  have hK : w2.heap[w.heap.size + 1]? = some (.cells #[.int .u8 kop, .int .i64 kdst, .int .u8 kak, .int .u64 kan, .int .u8 kbk, .int .u64 kbn, .int .i64 kn] 26 (0, 0)) := by
    refine (hb2.block _ (by omega)).trans ((hb1.block _ (by simp)).trans ?_)
    have e := heap_alloc_new (w.alloc (.cells #[.int .u8 op, .int .i64 dst, .int .u8 ak, .int .u64 an, .int .u8 bk, .int .u64 bn, .int .i64 n] 26)) (.cells #[.int .u8 kop, .int .i64 kdst, .int .u8 kak, .int .u64 kan, .int .u8 kbk, .int .u64 kbn, .int .i64 kn] 26)
    rw [World.size_alloc] at e
    exact e
  have hB2 : Below w.heap.size w w2 := below_then hb2 (below_then hb1 (below_al (below_al (Below.refl _ _) (Nat.le_refl _)) (by simp)) (by simp; omega)) (by omega)
  have HI := Lib.hid hI
  have HK := Lib.hid hK
  have hsI : w.heap.size < w2.heap.size := by omega
  have hsK : w.heap.size + 1 < w2.heap.size := by omega
  clear hI hK hb1 hc1 hf1 hb2 hz1_0 hz1 hz2 hmi
  go_loopw [6] (fun p wr => ∃ part : Nat, part ≤ 4 ∧ p = .int .i64 part ∧ Below w2.heap.size w2 wr) (fun p _ => 4 - (intOf p).toNat)
  case atStart => exact ⟨0, by omega, rfl, Below.refl _ _⟩
  case round =>
    obtain ⟨part, hp, rfl, hb⟩ := hrel
    have hI := (hb.block _ hsI).trans HI.out
    have hK := (hb.block _ hsK).trans HK.out
    have ci := cells_at hI
    have ck := cells_at hK
    have HI' := Lib.hid hI
    have hrI : w.heap.size < wr.heap.size := lt_of_heap hI
    have hrK : w.heap.size + 1 < wr.heap.size := lt_of_heap hK
    clear hI hK
    by_cases hlt : part < 4
    ·
--[[
      go_upto_block 2 with fail
      go_cut [8] (fun hd wx => ∃ (x : Ins) (hb : Bool), hd = .bool hb ∧ x.op = op ∧ wx.heap[wr.heap.size]? = some (insBox x) ∧ Below wr.heap.size wr wx ∧ PartOk ⟨op, dst, ak, an, bk, bn, n⟩ part x hb)
      case first =>
        rcases (show part = 0 ∨ part = 1 ∨ part = 2 ∨ part = 3 by omega) with rfl | rfl | rfl | rfl
        · go_wp2
          go_meet
          refine ⟨⟨op, kdst, ak, an, bk, bn, n⟩, _, rfl, rfl, heap_alloc_new _ _, below_al (Below.refl _ _) (Nat.le_refl _), ?_⟩
          by_cases h0 : dst = 0
          · by_cases h1 : kdst = 0
            · exact Or.inr (Or.inl (by rw [h0, h1]))
            · exact Or.inr (Or.inr (Or.inl (HD.out kdst h0 h1)))
          · exact Or.inl (by simpa using h0)
        · by_cases hz1 : ak = 0
          · subst hz1
            by_cases hz2 : an = 0
            · subst hz2
              go_wp2
              go_meet
              refine ⟨⟨op, dst, kak, kan, bk, bn, n⟩, _, rfl, rfl, heap_alloc_new _ _, below_al (Below.refl _ _) (Nat.le_refl _), ?_⟩
              by_cases h1 : kak = 0 ∧ kan = 0
              · exact Or.inr (Or.inl (by rw [h1.1, h1.2]))
              · exact Or.inr (Or.inr (Or.inl (HA.out kak kan (by simp) h1)))
            · have ez : (an == 0) = false := by simpa using hz2
              clear hz2
              go_wp2
              go_meet
              exact ⟨⟨op, dst, kak, kan, bk, bn, n⟩, _, rfl, rfl, heap_alloc_new _ _, below_al (Below.refl _ _) (Nat.le_refl _), Or.inl rfl⟩
          · have ez : (ak == 0) = false := by simpa using hz1
            clear hz1
            go_wp2
            go_meet
            exact ⟨⟨op, dst, kak, kan, bk, bn, n⟩, _, rfl, rfl, heap_alloc_new _ _, below_al (Below.refl _ _) (Nat.le_refl _), Or.inl rfl⟩
        · by_cases hz1 : bk = 0
          · subst hz1
            by_cases hz2 : bn = 0
            · subst hz2
              go_wp2
              go_meet
              refine ⟨⟨op, dst, ak, an, kbk, kbn, n⟩, _, rfl, rfl, heap_alloc_new _ _, below_al (Below.refl _ _) (Nat.le_refl _), ?_⟩
              by_cases h1 : kbk = 0 ∧ kbn = 0
              · exact Or.inr (Or.inl (by rw [h1.1, h1.2]))
              · exact Or.inr (Or.inr (Or.inl (HB.out kbk kbn (by simp) h1)))
            · have ez : (bn == 0) = false := by simpa using hz2
              clear hz2
              go_wp2
              go_meet
              exact ⟨⟨op, dst, ak, an, kbk, kbn, n⟩, _, rfl, rfl, heap_alloc_new _ _, below_al (Below.refl _ _) (Nat.le_refl _), Or.inl rfl⟩
          · have ez : (bk == 0) = false := by simpa using hz1
            clear hz1
            go_wp2
            go_meet
            exact ⟨⟨op, dst, ak, an, kbk, kbn, n⟩, _, rfl, rfl, heap_alloc_new _ _, below_al (Below.refl _ _) (Nat.le_refl _), Or.inl rfl⟩
        · go_wp2
          go_meet
          refine ⟨⟨op, dst, ak, an, bk, bn, kn⟩, _, rfl, rfl, heap_alloc_new _ _, below_al (Below.refl _ _) (Nat.le_refl _), ?_⟩
          by_cases h0 : n = 0
          · by_cases h1 : kn = 0
            · exact Or.inr (Or.inl (by rw [h0, h1]))
            · by_cases h2 : opFour ⟨op, dst, ak, an, bk, bn, n⟩
              · exact Or.inr (Or.inr (Or.inr ⟨rfl, h2⟩))
              · exact Or.inr (Or.inr (Or.inl (HN.out kn h0 h2 h1)))
          · exact Or.inl (by simpa using h0)
      case rest =>
        obtain ⟨⟨xo, xd, xak, xan, xbk, xbn, xn⟩, hd, rfl, hxo, hX, hbx, hpo⟩ := hcut
        dsimp only at hxo
        have hxo2 := hxo.symm
        clear hxo
        subst hxo2
        have ci2 := cells_at ((hbx.block _ hrI).trans HI'.out)
        have cx := cells_at hX
        unfold insBox at cx
        dsimp only at cx
        have hsx : wr.heap.size < wc.heap.size := lt_of_heap hX
        clear ci ck hX
        have HPO := Lib.hid hpo
        clear hpo
        go_upto_region 21 with fail
        go_cut [74] (fun b wx => b = .bool (decide (opFour ⟨op, dst, ak, an, bk, bn, n⟩)) ∧ wx = wc)
        case first =>
          by_cases o9 : op = 9
          · subst o9
            go_wp2
            go_meet
            exact ⟨by simp [opFour], rfl⟩
          by_cases o10 : op = 10
          · subst o10
            go_wp2
            go_meet
            exact ⟨by simp [opFour], rfl⟩
          by_cases o11 : op = 11
          · subst o11
            go_wp2
            go_meet
            exact ⟨by simp [opFour], rfl⟩
          by_cases o21 : op = 21
          · subst o21
            go_wp2
            go_meet
            exact ⟨by simp [opFour], rfl⟩
          · have b9 : (op == 9) = false := by simpa using o9
            have b10 : (op == 10) = false := by simpa using o10
            have b11 : (op == 11) = false := by simpa using o11
            have b21 : (op == 21) = false := by simpa using o21
            have hof : decide (opFour ⟨op, dst, ak, an, bk, bn, n⟩) = false := by simp [opFour, o9, o10, o11, o21]
            have HOF := Lib.hid hof
            clear o9 o10 o11 o21 hof
            go_wp2
            go_meet
            exact ⟨by rw [HOF.out], rfl⟩
        case rest =>
          obtain ⟨rfl, rfl⟩ := hcut
          by_cases hf : opFour ⟨op, dst, ak, an, bk, bn, n⟩
          · rw [decide_eq_true hf]
            cases hd
            · by_cases h3 : part = 3
              · subst h3
                go_wp2
                go_roundw
                case rel => exact ⟨4, by omega, by simp, hb.trans (hbx.mono hb.size)⟩
                case measure => simp [intOf]
              · have e3 : ((part : Int) == 3) = false := by rw [beq_eq_false_iff_ne]; omega
                have H3 := Lib.hid h3
                clear h3
                rcases HPO.out with hpo | hpo | hpo | hpo
                · cases hpo
                · obtain ⟨-, rfl, rfl, rfl, rfl, rfl, rfl⟩ := Ins.mk.inj hpo
                  go_wp2
                  go_roundw
                  case rel => exact ⟨part + 1, by omega, by simp, hb.trans (hbx.mono hb.size)⟩
                  case measure => simp [intOf]; omega
                · have hmx := HMX.out ⟨op, xd, xak, xan, xbk, xbn, xn⟩ rfl
                  rw [hpo] at hmx
                  dsimp only at hmx
                  rcases (show ¬ xd = dst ∨ (xd = dst ∧ ¬ xak = ak) ∨ (xd = dst ∧ xak = ak ∧ ¬ xan = an) ∨ (xd = dst ∧ xak = ak ∧ xan = an ∧ ¬ xbk = bk) ∨ (xd = dst ∧ xak = ak ∧ xan = an ∧ xbk = bk ∧ ¬ xbn = bn) ∨ (xd = dst ∧ xak = ak ∧ xan = an ∧ xbk = bk ∧ xbn = bn ∧ ¬ xn = n) ∨ (xd = dst ∧ xak = ak ∧ xan = an ∧ xbk = bk ∧ xbn = bn ∧ xn = n) by omega) with h | ⟨rfl, h⟩ | ⟨rfl, rfl, h⟩ | ⟨rfl, rfl, rfl, h⟩ | ⟨rfl, rfl, rfl, rfl, h⟩ | ⟨rfl, rfl, rfl, rfl, rfl, h⟩ | ⟨rfl, rfl, rfl, rfl, rfl, rfl⟩
                  · have hz : (xd == dst) = false := by simpa using h
                    clear h hpo
                    go_wp2_with (go_at_call 10; refine (hmx _).mono ?_; rintro e w5 ⟨rfl, hb5⟩; obtain ⟨hc5, hf5⟩ := bcell hb5)
                    go_roundw
                    case rel => exact ⟨part + 1, by omega, by simp, hb.trans ((hbx.trans (hb5.mono hbx.size)).mono hb.size)⟩
                    case measure => simp [intOf]; omega
                  · have hz : (xak == ak) = false := by simpa using h
                    clear h hpo
                    go_wp2_with (go_at_call 10; refine (hmx _).mono ?_; rintro e w5 ⟨rfl, hb5⟩; obtain ⟨hc5, hf5⟩ := bcell hb5)
                    go_roundw
                    case rel => exact ⟨part + 1, by omega, by simp, hb.trans ((hbx.trans (hb5.mono hbx.size)).mono hb.size)⟩
                    case measure => simp [intOf]; omega
                  · have hz : (xan == an) = false := by simpa using h
                    clear h hpo
                    go_wp2_with (go_at_call 10; refine (hmx _).mono ?_; rintro e w5 ⟨rfl, hb5⟩; obtain ⟨hc5, hf5⟩ := bcell hb5)
                    go_roundw
                    case rel => exact ⟨part + 1, by omega, by simp, hb.trans ((hbx.trans (hb5.mono hbx.size)).mono hb.size)⟩
                    case measure => simp [intOf]; omega
                  · have hz : (xbk == bk) = false := by simpa using h
                    clear h hpo
                    go_wp2_with (go_at_call 10; refine (hmx _).mono ?_; rintro e w5 ⟨rfl, hb5⟩; obtain ⟨hc5, hf5⟩ := bcell hb5)
                    go_roundw
                    case rel => exact ⟨part + 1, by omega, by simp, hb.trans ((hbx.trans (hb5.mono hbx.size)).mono hb.size)⟩
                    case measure => simp [intOf]; omega
                  · have hz : (xbn == bn) = false := by simpa using h
                    clear h hpo
                    go_wp2_with (go_at_call 10; refine (hmx _).mono ?_; rintro e w5 ⟨rfl, hb5⟩; obtain ⟨hc5, hf5⟩ := bcell hb5)
                    go_roundw
                    case rel => exact ⟨part + 1, by omega, by simp, hb.trans ((hbx.trans (hb5.mono hbx.size)).mono hb.size)⟩
                    case measure => simp [intOf]; omega
                  · have hz : (xn == n) = false := by simpa using h
                    clear h hpo
                    go_wp2_with (go_at_call 10; refine (hmx _).mono ?_; rintro e w5 ⟨rfl, hb5⟩; obtain ⟨hc5, hf5⟩ := bcell hb5)
                    go_roundw
                    case rel => exact ⟨part + 1, by omega, by simp, hb.trans ((hbx.trans (hb5.mono hbx.size)).mono hb.size)⟩
                    case measure => simp [intOf]; omega
                  · clear hpo hmx
                    go_wp2
                    go_roundw
                    case rel => exact ⟨part + 1, by omega, by simp, hb.trans (hbx.mono hb.size)⟩
                    case measure => simp [intOf]; omega
                · exact absurd hpo.1 H3.out
            · clear hf
              go_wp2
              go_roundw
              case rel => exact ⟨part + 1, by omega, by simp, hb.trans (hbx.mono hb.size)⟩
              case measure => simp [intOf]; omega
          · rw [decide_eq_false hf]
            have HF := Lib.hid hf
            clear hf
            cases hd
            · rcases HPO.out with hpo | hpo | hpo | hpo
              · cases hpo
              · obtain ⟨-, rfl, rfl, rfl, rfl, rfl, rfl⟩ := Ins.mk.inj hpo
                go_wp2
                go_roundw
                case rel => exact ⟨part + 1, by omega, by simp, hb.trans (hbx.mono hb.size)⟩
                case measure => simp [intOf]; omega
              · have hmx := HMX.out ⟨op, xd, xak, xan, xbk, xbn, xn⟩ rfl
                rw [hpo] at hmx
                dsimp only at hmx
                rcases (show ¬ xd = dst ∨ (xd = dst ∧ ¬ xak = ak) ∨ (xd = dst ∧ xak = ak ∧ ¬ xan = an) ∨ (xd = dst ∧ xak = ak ∧ xan = an ∧ ¬ xbk = bk) ∨ (xd = dst ∧ xak = ak ∧ xan = an ∧ xbk = bk ∧ ¬ xbn = bn) ∨ (xd = dst ∧ xak = ak ∧ xan = an ∧ xbk = bk ∧ xbn = bn ∧ ¬ xn = n) ∨ (xd = dst ∧ xak = ak ∧ xan = an ∧ xbk = bk ∧ xbn = bn ∧ xn = n) by omega) with h | ⟨rfl, h⟩ | ⟨rfl, rfl, h⟩ | ⟨rfl, rfl, rfl, h⟩ | ⟨rfl, rfl, rfl, rfl, h⟩ | ⟨rfl, rfl, rfl, rfl, rfl, h⟩ | ⟨rfl, rfl, rfl, rfl, rfl, rfl⟩
                · have hz : (xd == dst) = false := by simpa using h
                  clear h hpo
                  go_wp2_with (go_at_call 10; refine (hmx _).mono ?_; rintro e w5 ⟨rfl, hb5⟩; obtain ⟨hc5, hf5⟩ := bcell hb5)
                  go_roundw
                  case rel => exact ⟨part + 1, by omega, by simp, hb.trans ((hbx.trans (hb5.mono hbx.size)).mono hb.size)⟩
                  case measure => simp [intOf]; omega
                · have hz : (xak == ak) = false := by simpa using h
                  clear h hpo
                  go_wp2_with (go_at_call 10; refine (hmx _).mono ?_; rintro e w5 ⟨rfl, hb5⟩; obtain ⟨hc5, hf5⟩ := bcell hb5)
                  go_roundw
                  case rel => exact ⟨part + 1, by omega, by simp, hb.trans ((hbx.trans (hb5.mono hbx.size)).mono hb.size)⟩
                  case measure => simp [intOf]; omega
                · have hz : (xan == an) = false := by simpa using h
                  clear h hpo
                  go_wp2_with (go_at_call 10; refine (hmx _).mono ?_; rintro e w5 ⟨rfl, hb5⟩; obtain ⟨hc5, hf5⟩ := bcell hb5)
                  go_roundw
                  case rel => exact ⟨part + 1, by omega, by simp, hb.trans ((hbx.trans (hb5.mono hbx.size)).mono hb.size)⟩
                  case measure => simp [intOf]; omega
                · have hz : (xbk == bk) = false := by simpa using h
                  clear h hpo
                  go_wp2_with (go_at_call 10; refine (hmx _).mono ?_; rintro e w5 ⟨rfl, hb5⟩; obtain ⟨hc5, hf5⟩ := bcell hb5)
                  go_roundw
                  case rel => exact ⟨part + 1, by omega, by simp, hb.trans ((hbx.trans (hb5.mono hbx.size)).mono hb.size)⟩
                  case measure => simp [intOf]; omega
                · have hz : (xbn == bn) = false := by simpa using h
                  clear h hpo
                  go_wp2_with (go_at_call 10; refine (hmx _).mono ?_; rintro e w5 ⟨rfl, hb5⟩; obtain ⟨hc5, hf5⟩ := bcell hb5)
                  go_roundw
                  case rel => exact ⟨part + 1, by omega, by simp, hb.trans ((hbx.trans (hb5.mono hbx.size)).mono hb.size)⟩
                  case measure => simp [intOf]; omega
                · have hz : (xn == n) = false := by simpa using h
                  clear h hpo
                  go_wp2_with (go_at_call 10; refine (hmx _).mono ?_; rintro e w5 ⟨rfl, hb5⟩; obtain ⟨hc5, hf5⟩ := bcell hb5)
                  go_roundw
                  case rel => exact ⟨part + 1, by omega, by simp, hb.trans ((hbx.trans (hb5.mono hbx.size)).mono hb.size)⟩
                  case measure => simp [intOf]; omega
                · clear hpo hmx
                  go_wp2
                  go_roundw
                  case rel => exact ⟨part + 1, by omega, by simp, hb.trans (hbx.mono hb.size)⟩
                  case measure => simp [intOf]; omega
              · exact absurd hpo.2 HF.out
            · go_wp2
              go_roundw
              case rel => exact ⟨part + 1, by omega, by simp, hb.trans (hbx.mono hb.size)⟩
              case measure => simp [intOf]; omega
--]]
    · have hpe : part = 4 := by omega
      subst hpe
      have hbb := below_then hb hB2 (by omega)
      clear hlt ck hrK
      go_upto_region 26 with (go_at_call 12; refine (hnames _).mono ?_; rintro e w4 ⟨v4, rfl, hn4, hb4⟩)
      obtain ⟨sa, cap, rfl, hcells⟩ := nrow_of hn4
      have HC := Lib.hid hcells
      have ci := cells_at ((hb4.block _ hrI).trans HI'.out)
      have hz4 : w.heap.size < w4.heap.size := Nat.lt_of_lt_of_le hrI hb4.size
      have hB4 : Below w.heap.size w w4 := below_then hb4 hbb (by omega)
      clear hcells hn4 hnames
      have hLl := names_len ⟨op, dst, ak, an, bk, bn, n⟩
      generalize (⟨op, dst, ak, an, bk, bn, n⟩ : Ins).names = L at *
      go_wp2
      go_loopw [5, 10] (fun c m wr => ∃ k : Nat, k ≤ L.length ∧ m = .int .i64 k ∧ c = .int .i64 (others (L.take k) : Nat) ∧ Below w4.heap.size w4 wr) (fun _ m _ => L.length - (intOf m).toNat)
      case atStart => exact ⟨0, by omega, rfl, rfl, Below.refl _ _⟩
      case round =>
        obtain ⟨k, hk, rfl, rfl, hb⟩ := hrel
        by_cases hlt : k < L.length
        · obtain ⟨g, off, rfl, hg, q0, q1⟩ := HC.out k hlt
          have Q0 := (hb.cell (p := ⟨g, off + k * 2, none⟩) hg).trans q0
          have Q1 := (hb.cell (p := ⟨g, off + k * 2 + 1, none⟩) hg).trans q1
          have hnm := HNM.out k hlt
          obtain ⟨⟨hid1, hid2⟩, ⟨hkd1, hkd2⟩, hfl, hot⟩ := hnm
          have HT := Lib.hid (others_take hlt)
          have hoc : others (L.take k) ≤ 1000 := by unfold others; have := List.length_filter_le (fun p : Int × Int => decide (p.1 ≠ 1)) (L.take k); simp at this ⊢; omega
          have hbI := hb.block _ hz4
          have ci2 : ∀ j, wr.cell? ⟨w.heap.size, j, none⟩ = _ := fun j => (hb.cell (p := ⟨w.heap.size, j, none⟩) hz4).trans (ci j)
          clear q0 q1 ci hbI
          generalize others (L.take k) = oc at *
          generalize hp : L[k] = pk at *
          obtain ⟨kd, idn⟩ := pk
          dsimp only at *
          have HF := Lib.hid hfl
          have HO := Lib.hid hot
          clear hfl hot hp
          by_cases h1 : kd = 1
          · subst h1
            have hf := HF.out rfl
            by_cases hd : idn = dst
            · subst hd
              clear hf
              go_wp2
              go_quiet (fail)
              go_wp2
              go_roundw
              case rel => exact ⟨k + 1, by omega, by simp, by rw [HT.out]; simp, below_drN hb⟩
              case measure => simp [intOf]; omega
            · have hd2 : idn = an ∨ idn = bn := by
                rcases hf with h | h | h
                · exact absurd h hd
                · exact Or.inl h
                · exact Or.inr h
              have bd : (idn != dst) = true := by simpa using hd
              clear hf hd
              by_cases ha : idn = an
              · subst ha
                clear hd2
                go_wp2
                go_quiet (fail)
                go_wp2
                go_roundw
                case rel => exact ⟨k + 1, by omega, by simp, by rw [HT.out]; simp, below_drN hb⟩
                case measure => simp [intOf]; omega
              · have hb2 : idn = bn := by
                  rcases hd2 with h | h
                  · exact absurd h ha
                  · exact h
                have ba : (idn != an) = true := by simpa using ha
                clear hd2 ha
                subst hb2
                go_wp2
                go_quiet (fail)
                go_wp2
                go_roundw
                case rel => exact ⟨k + 1, by omega, by simp, by rw [HT.out]; simp, below_drN hb⟩
                case measure => simp [intOf]; omega
          · obtain ⟨hn1, hn2⟩ := HO.out h1
            have b1 : (kd != 1) = true := by simpa using h1
            have H1 := Lib.hid h1
            clear h1
            subst hn1
            have hk1 : k + 1 = L.length := by simpa using hn2
            have bk1 : ((k : Int) != (L.length : Int) - 1) = false := by simp; omega
            clear hn2 hk1
            go_wp2
            go_quiet (fail)
            go_wp2
            go_roundw
            case rel => exact ⟨k + 1, by omega, by simp, by rw [HT.out, if_neg H1.out]; simp, below_drN hb⟩
            case measure => simp [intOf]; omega
        · have hke : k = L.length := by omega
          subst hke
          have hno : (others L : Int) ≤ 1 := by have := HNO.out; omega
          rw [List.take_length]
          go_wp2
          go_ret
          exact ⟨rfl, hB4.trans (hb.mono (by omega))⟩
end Go.Proofs.Ytkgednfofhlfdaa
