/- What InstrSkips says, in plain Lean: the ways of a block with one skip. -/
import Derived.Test.YtkgednfofhlfdaaIk
namespace Go.Proofs.Ytkgednfofhlfdaa
set_option linter.unusedSimpArgs false
set_option linter.unusedVariables false
open Go.RowKit Go.Shelf

/-- Where a run straight through ends, and by how many steps. -/
def endS : List Ins → Int → (Int × Int) × Int
  | [], s => ((23, 0), s)
  | x :: r, s => match endOf x with
    | some q => (q, s + 1)
    | none => endS r (s + 1)

theorem endS_shift (a : Int) : ∀ (r : List Ins) (s : Int), endS r (s + a) = ((endS r s).1, (endS r s).2 + a)
  | [], s => rfl
  | x :: r, s => by
    unfold endS
    split
    · simp only [Prod.mk.injEq, true_and]; omega
    · have := endS_shift a r (s + 1)
      rw [show s + a + 1 = s + 1 + a by omega]
      exact this

theorem endS_ge : ∀ (r : List Ins) (s : Int), s ≤ (endS r s).2 ∧ (endS r s).2 ≤ s + r.length
  | [], s => ⟨Int.le_refl _, by simp [endS]⟩
  | x :: r, s => by
    unfold endS
    split
    · simp only [List.length_cons]; omega
    · have := endS_ge r (s + 1)
      simp only [List.length_cons]; omega

/-- Does none of these end a run? -/
def goesOn (r : List Ins) : Bool := r.all fun x => (endOf x).isNone

theorem endS_on : ∀ (a b : List Ins) (s : Int), goesOn a = true → endS (a ++ b) s = endS b (s + a.length)
  | [], b, s, _ => by simp
  | x :: a, b, s, h => by
    simp only [goesOn, List.all_cons, Bool.and_eq_true] at h
    have h1 : endOf x = none := by simpa using h.1
    rw [List.cons_append, endS, h1]
    have := endS_on a b (s + 1) h.2
    simp only [List.length_cons]
    rw [this]
    congr 1
    push_cast
    omega

theorem endS_off : ∀ (a b : List Ins) (s : Int), goesOn a = false → endS (a ++ b) s = endS a s
  | [], b, s, h => by simp [goesOn] at h
  | x :: a, b, s, h => by
    rw [List.cons_append, endS, endS]
    cases hx : endOf x with
    | some q => rfl
    | none =>
      dsimp only
      refine endS_off a b (s + 1) ?_
      simpa [goesOn, hx] using h

def noSkip (r : List Ins) : Prop := ∀ x ∈ r, x.op ≠ 12

/-- What stands in come from k on: s1 at k, s2 at t, nothing else. -/
def Two (k : Nat) (c : Nat → Int) (s1 : Int) (t : Nat) (s2 : Int) : Prop := ∀ j, k ≤ j → c j = if j = k then s1 else if j = t then s2 else -1

def put (m : Int × Int → Option Int) (q : (Int × Int) × Int) : Int × Int → Option Int := updM m q.1 (bestOf (m q.1) q.2)

/-- The map that comes out from a state on. -/
def fin (l : List Ins) (n k : Nat) (c : Nat → Int) (m : Int × Int → Option Int) : Nat → Int × Int → Option Int
  | 0 => if 0 ≤ c n then updM m (23, 0) (bestOf (m (23, 0)) (c n)) else m
  | f + 1 => match l[k]? with
    | some x => fin l n (k + 1) (wstep x k c m).1 (wstep x k c m).2 f
    | none => fin l n (k + 1) c m f

theorem fin_of (l : List Ins) : ∀ (f k : Nat), k + f = l.length → fin l l.length k (waysAt l k).1 (waysAt l k).2 f = waysMap l
  | 0, k, h => by
    have : k = l.length := by omega
    subst this
    rfl
  | f + 1, k, h => by
    have hk : k < l.length := by omega
    have := fin_of l f (k + 1) (by omega)
    rw [fin, List.getElem?_eq_getElem hk]
    dsimp only
    rw [← this, waysAt_succ hk]

theorem mxI_lo (s : Int) (h : 0 ≤ s) : mxI (-1) s = s := by unfold mxI; split <;> omega

/-- Nothing goes on. -/
theorem fin_dead (l : List Ins) : ∀ (f k : Nat) (c : Nat → Int) (m : Int × Int → Option Int) (t : Nat), k + f = l.length → Two k c (-1) t (-1) → fin l l.length k c m f = m
  | 0, k, c, m, t, h, hc => by
    have : k = l.length := by omega
    subst this
    have := hc l.length (Nat.le_refl _)
    rw [if_pos rfl] at this
    rw [fin, this]
    simp
  | f + 1, k, c, m, t, h, hc => by
    have hk : k < l.length := by omega
    have h0 := hc k (Nat.le_refl _)
    rw [if_pos rfl] at h0
    rw [fin, List.getElem?_eq_getElem hk]
    dsimp only
    unfold wstep
    rw [if_pos (by omega)]
    refine fin_dead l f (k + 1) c m t (by omega) fun j hj => ?_
    rw [hc j (by omega), if_neg (by omega)]
    split <;> split <;> rfl

/-- One run goes on, straight. -/
theorem fin_one (l : List Ins) : ∀ (f k : Nat) (c : Nat → Int) (m : Int × Int → Option Int) (s : Int) (t : Nat), k + f = l.length → 0 ≤ s → noSkip (l.drop k) → Two k c s t (-1) → fin l l.length k c m f = put m (endS (l.drop k) s)
  | 0, k, c, m, s, t, h, h0, hn, hc => by
    have : k = l.length := by omega
    subst this
    have := hc l.length (Nat.le_refl _)
    rw [if_pos rfl] at this
    rw [fin, this, if_pos h0]
    simp [endS, put]
  | f + 1, k, c, m, s, t, h, h0, hn, hc => by
    have hk : k < l.length := by omega
    have hck := hc k (Nat.le_refl _)
    rw [if_pos rfl] at hck
    have hck1 := hc (k + 1) (by omega)
    rw [if_neg (by omega)] at hck1
    have hck1 : c (k + 1) = -1 := by rw [hck1]; split <;> rfl
    have hd : l.drop k = l[k] :: l.drop (k + 1) := List.drop_eq_getElem_cons hk
    have hx : l[k].op ≠ 12 := hn _ (by rw [hd]; exact List.mem_cons_self)
    have hn' : noSkip (l.drop (k + 1)) := fun x hx => hn x (by rw [hd]; exact List.mem_cons_of_mem _ hx)
    rw [fin, List.getElem?_eq_getElem hk, hd]
    dsimp only
    unfold wstep endS
    rw [if_neg (by omega), hck]
    cases he : endOf l[k] with
    | some q =>
      dsimp only
      refine (fin_dead l f (k + 1) c _ t (by omega) fun j hj => ?_).trans rfl
      rw [hc j (by omega), if_neg (by omega)]
      split <;> split <;> rfl
    | none =>
      dsimp only
      rw [if_neg hx, hck1, mxI_lo _ (by omega)]
      refine fin_one l f (k + 1) _ m (s + 1) t (by omega) (by omega) hn' fun j hj => ?_
      unfold updF
      dsimp only
      split
      · rfl
      · rw [hc j (by omega), if_neg (by omega)]

/-- Nothing goes on up to t. -/
theorem fin_wait (l : List Ins) : ∀ (d f k : Nat) (c : Nat → Int) (m : Int × Int → Option Int) (s : Int), k + f = l.length → k + d ≤ l.length → 0 < d → 0 ≤ s → noSkip (l.drop (k + d)) → Two k c (-1) (k + d) s → fin l l.length k c m f = put m (endS (l.drop (k + d)) s)
  | 0, _, _, _, _, _, _, _, h, _, _, _ => absurd h (by omega)
  | d + 1, f, k, c, m, s, h, hd, _, h0, hn, hc => by
    have hk : k < l.length := by omega
    obtain ⟨f, rfl⟩ : ∃ g, f = g + 1 := ⟨f - 1, by omega⟩
    have hck := hc k (Nat.le_refl _)
    rw [if_pos rfl] at hck
    rw [fin, List.getElem?_eq_getElem hk]
    dsimp only
    unfold wstep
    rw [if_pos (by omega)]
    cases d with
    | zero =>
      refine fin_one l f (k + 1) c m s (k + 1) (by omega) h0 hn fun j hj => ?_
      rw [hc j (by omega), if_neg (by omega)]
      split
      · rfl
      · first | rfl | (split <;> rfl)
    | succ d =>
      have e : k + (d + 1 + 1) = k + 1 + (d + 1) := by omega
      rw [e] at hn ⊢
      refine fin_wait l (d + 1) f (k + 1) c m s (by omega) (by omega) (by omega) h0 hn fun j hj => ?_
      rw [hc j (by omega), if_neg (by omega), e]
      by_cases h1 : j = k + 1
      · rw [if_pos h1, if_neg (by omega)]
      · rw [if_neg h1]

/-- Two runs: one at k, one that waits at k + d. -/
theorem fin_two (l : List Ins) : ∀ (d f k : Nat) (c : Nat → Int) (m : Int × Int → Option Int) (s s2 : Int), k + f = l.length → k + d ≤ l.length → 0 < d → 0 ≤ s → 0 ≤ s2 → s2 ≤ s → noSkip (l.drop k) → Two k c s (k + d) s2 →
    fin l l.length k c m f = if goesOn ((l.drop k).take d) = true then put m (endS (l.drop (k + d)) (s + d)) else put (put m (endS (l.drop k) s)) (endS (l.drop (k + d)) s2)
  | 0, _, _, _, _, _, _, _, _, h, _, _, _, _, _ => absurd h (by omega)
  | d + 1, f, k, c, m, s, s2, h, hd, _, h0, h2, h3, hn, hc => by
    have hk : k < l.length := by omega
    obtain ⟨f, rfl⟩ : ∃ g, f = g + 1 := ⟨f - 1, by omega⟩
    have hck := hc k (Nat.le_refl _)
    rw [if_pos rfl] at hck
    have hD : l.drop k = l[k] :: l.drop (k + 1) := List.drop_eq_getElem_cons hk
    have hx : l[k].op ≠ 12 := hn _ (by rw [hD]; exact List.mem_cons_self)
    have hn' : noSkip (l.drop (k + 1)) := fun x hx => hn x (by rw [hD]; exact List.mem_cons_of_mem _ hx)
    have hnn : ∀ e, noSkip (l.drop (k + 1 + e)) := fun e x hx => hn' x (by rw [← List.drop_drop] at hx; exact List.mem_of_mem_drop hx)
    rw [fin, List.getElem?_eq_getElem hk, hD]
    dsimp only
    unfold wstep
    rw [if_neg (by omega), hck]
    cases he : endOf l[k] with
    | some q =>
      dsimp only
      have hg : goesOn ((l[k] :: l.drop (k + 1)).take (d + 1)) = false := by rw [List.take_succ_cons]; unfold goesOn; rw [List.all_cons, he]; rfl
      rw [hg, if_neg (by decide)]
      have e1 : endS (l[k] :: l.drop (k + 1)) s = (q, s + 1) := by rw [endS, he]
      rw [e1]
      show fin l l.length (k + 1) c (put m (q, s + 1)) f = _
      cases d with
      | zero =>
        refine fin_one l f (k + 1) c _ s2 (k + 1) (by omega) h2 hn' fun j hj => ?_
        rw [hc j (by omega), if_neg (by omega)]
        split
        · rfl
        · first | rfl | (split <;> rfl)
      | succ d =>
        have e : k + (d + 1 + 1) = k + 1 + (d + 1) := by omega
        rw [e]
        refine fin_wait l (d + 1) f (k + 1) c _ s2 (by omega) (by omega) (by omega) h2 (hnn _) fun j hj => ?_
        rw [hc j (by omega), if_neg (by omega), e]
        by_cases h1 : j = k + 1
        · rw [if_pos h1, if_neg (by omega)]
        · rw [if_neg h1]
    | none =>
      dsimp only
      rw [if_neg hx]
      have hg : goesOn ((l[k] :: l.drop (k + 1)).take (d + 1)) = goesOn ((l.drop (k + 1)).take d) := by rw [List.take_succ_cons]; unfold goesOn; rw [List.all_cons, he]; rfl
      have e1 : endS (l[k] :: l.drop (k + 1)) s = endS (l.drop (k + 1)) (s + 1) := by rw [endS, he]
      rw [hg, e1]
      cases d with
      | zero =>
        have hck1 := hc (k + 1) (by omega)
        rw [if_neg (by omega), if_pos (by omega)] at hck1
        have : mxI s2 (s + 1) = s + 1 := by unfold mxI; split <;> omega
        rw [hck1, this, List.take_zero, if_pos (by rfl)]
        refine fin_one l f (k + 1) _ m _ (k + 1) (by omega) (by omega) hn' fun j hj => ?_
        unfold updF
        dsimp only
        split
        · simp
        · rw [hc j (by omega), if_neg (by omega), if_neg (by omega)]
      | succ d =>
        have hck1 := hc (k + 1) (by omega)
        rw [if_neg (by omega), if_neg (by omega)] at hck1
        have e : k + (d + 1 + 1) = k + 1 + (d + 1) := by omega
        rw [hck1, mxI_lo _ (by omega), e, show s + ((d + 1 + 1 : Nat) : Int) = s + 1 + ((d + 1 : Nat) : Int) by push_cast; omega]
        refine fin_two l (d + 1) f (k + 1) _ m (s + 1) s2 (by omega) (by omega) (by omega) (by omega) h2 (by omega) hn' fun j hj => ?_
        unfold updF
        dsimp only
        split
        · rfl
        · rw [hc j (by omega), if_neg (by omega), e]

theorem put_le (q : Int × Int) (u v : Int) (h0 : 0 ≤ v) (h : v ≤ u) : put (put (fun _ => none) (q, u)) (q, v) = put (fun _ => none) (q, u) := by
  funext r
  unfold put updM bestOf
  dsimp only
  by_cases h : r = q
  · simp only [if_pos h, if_pos, Option.getD_some, Option.getD_none]
    congr 1
    split <;> (first | omega | (split <;> omega))
  · simp only [if_neg h]

/-- A block without skips, and one put in. -/
theorem ways_skip (pre post : List Ins) (x : Ins) (hx : x.op = 12) (hp : noSkip pre) (hq : noSkip post) (hn : 1 ≤ x.n) (hn2 : x.n ≤ post.length) :
    waysMap (pre ++ x :: post) = put (put (fun _ => none) (endS (pre ++ x :: post) 0)) (if goesOn pre = true then endS (post.drop x.n.toNat) (pre.length + 1) else endS (pre ++ x :: post) 0) := by
  have hex : endOf x = none := by unfold endOf; rw [hx]; simp
  generalize hl : pre ++ x :: post = l
  have hlen : l.length = pre.length + 1 + post.length := by rw [← hl]; simp; omega
  -- up to the skip
  have ahead : ∀ (i : Nat) (f k : Nat) (c : Nat → Int) (m : Int × Int → Option Int) (t : Nat), k + i = pre.length → k + f = l.length → Two k c k t (-1) →
      fin l l.length k c m f = if goesOn ((l.drop k).take i) = true then fin l l.length pre.length (fun j => if j = pre.length then (pre.length : Int) else -1) m (l.length - pre.length) else put m (endS (l.drop k) k) := by
    intro i
    induction i with
    | zero =>
      intro f k c m t hi hf hc
      have : k = pre.length := by omega
      subst this
      rw [List.take_zero, if_pos (by rfl), show l.length - pre.length = f by omega]
      -- only what stands from k on counts
      have cong : ∀ (f k : Nat) (c c' : Nat → Int) (m : Int × Int → Option Int), k + f = l.length → (∀ j, k ≤ j → c j = c' j) → fin l l.length k c m f = fin l l.length k c' m f := by
        intro f
        induction f with
        | zero => intro k c c' m h hcc; rw [fin, fin, hcc l.length (by omega)]
        | succ f ih =>
          intro k c c' m h hcc
          rw [fin, fin]
          cases hg : l[k]? with
          | none => exact ih _ _ _ _ (by omega) fun j hj => hcc j (by omega)
          | some y =>
            dsimp only
            have e : (wstep y k c m).2 = (wstep y k c' m).2 ∧ ∀ j, k ≤ j → (wstep y k c m).1 j = (wstep y k c' m).1 j := by
              have h0 := hcc k (Nat.le_refl _)
              have h1 := hcc (k + 1) (by omega)
              unfold wstep
              rw [h0]
              split
              · exact ⟨rfl, hcc⟩
              · split
                · exact ⟨rfl, hcc⟩
                · split
                  · refine ⟨rfl, fun j hj => ?_⟩
                    have e1 : ∀ j, k ≤ j → updF c (k + 1) (mxI (c (k + 1)) (c' k + 1)) j = updF c' (k + 1) (mxI (c' (k + 1)) (c' k + 1)) j := fun j hj => by
                      unfold updF; split
                      · rw [h1]
                      · exact hcc j hj
                    dsimp only
                    rw [e1 (k + 1 + y.n.toNat) (by omega)]
                    unfold updF
                    split
                    · rfl
                    · have := e1 j hj
                      unfold updF at this
                      exact this
                  · refine ⟨rfl, fun j hj => ?_⟩
                    dsimp only
                    unfold updF; split
                    · rw [h1]
                    · exact hcc j hj
            rw [e.1]
            exact ih _ _ _ _ (by omega) fun j hj => e.2 j (by omega)
      refine cong f pre.length c _ m hf fun j hj => ?_
      rw [hc j hj]
      split
      · rfl
      · first | rfl | (split <;> rfl)
    | succ i ih =>
      intro f k c m t hi hf hc
      have hk : k < l.length := by omega
      obtain ⟨f, rfl⟩ : ∃ g, f = g + 1 := ⟨f - 1, by omega⟩
      have hck := hc k (Nat.le_refl _)
      rw [if_pos rfl] at hck
      have hck1 := hc (k + 1) (by omega)
      rw [if_neg (by omega)] at hck1
      have hck1 : c (k + 1) = -1 := by rw [hck1]; split <;> rfl
      have hD : l.drop k = l[k] :: l.drop (k + 1) := List.drop_eq_getElem_cons hk
      have hxk : l[k].op ≠ 12 := by
        have : l[k] = pre[k]'(by omega) := by simp only [← hl]; exact List.getElem_append_left (by omega)
        rw [this]
        exact hp _ (List.getElem_mem _)
      rw [fin, List.getElem?_eq_getElem hk, hD]
      dsimp only
      unfold wstep
      rw [if_neg (by omega), hck]
      cases he : endOf l[k] with
      | some q =>
        dsimp only
        have hg : goesOn ((l[k] :: l.drop (k + 1)).take (i + 1)) = false := by rw [List.take_succ_cons]; unfold goesOn; rw [List.all_cons, he]; rfl
        rw [hg, if_neg (by decide)]
        have e1 : endS (l[k] :: l.drop (k + 1)) k = (q, (k : Int) + 1) := by rw [endS, he]
        rw [e1]
        refine (fin_dead l f (k + 1) c _ t (by omega) fun j hj => ?_).trans rfl
        rw [hc j (by omega), if_neg (by omega)]
        split <;> split <;> rfl
      | none =>
        dsimp only
        rw [if_neg hxk, hck1, mxI_lo _ (by omega)]
        have hg : goesOn ((l[k] :: l.drop (k + 1)).take (i + 1)) = goesOn ((l.drop (k + 1)).take i) := by rw [List.take_succ_cons]; unfold goesOn; rw [List.all_cons, he]; rfl
        have e1 : endS (l[k] :: l.drop (k + 1)) k = endS (l.drop (k + 1)) ((k + 1 : Nat) : Int) := by rw [endS, he]; rfl
        rw [hg, e1]
        refine ih f (k + 1) _ m t (by omega) (by omega) fun j hj => ?_
        unfold updF
        dsimp only
        split
        · rfl
        · rw [hc j (by omega), if_neg (by omega)]
  have h0 := fin_of l l.length 0 (by omega)
  rw [← h0, ahead pre.length l.length 0 _ _ 0 (by omega) (by omega) (fun j _ => by simp only [waysAt]; split <;> simp_all)]
  have hpre : (l.drop 0).take pre.length = pre := by rw [← hl]; simp
  rw [hpre, List.drop_zero]
  have w0 : (waysAt l 0).2 = fun _ => none := rfl
  rw [w0]
  cases hg : goesOn pre with
  | false =>
    rw [if_neg (by decide), if_neg (by decide)]
    show put _ (endS l ((0 : Nat) : Int)) = _
    exact (put_le _ _ _ (endS_ge _ _).1 (Int.le_refl _)).symm
  | true =>
    rw [if_pos rfl, if_pos rfl]
    have hkl : pre.length < l.length := by omega
    have hxk : l[pre.length]? = some x := by rw [← hl]; simp
    have hdrop : l.drop (pre.length + 1) = post := by rw [← hl]; simp
    have hE : endS l 0 = endS post (pre.length + 1) := by
      rw [← hl, endS_on pre _ 0 hg, endS, hex]
      simp
    obtain ⟨d, hd⟩ : ∃ d : Nat, x.n.toNat = d := ⟨_, rfl⟩
    have hd1 : 1 ≤ d := by omega
    have hd2 : d ≤ post.length := by omega
    obtain ⟨f, hf⟩ : ∃ f, l.length - pre.length = f + 1 := ⟨l.length - pre.length - 1, by omega⟩
    rw [hf, fin, hxk]
    dsimp only
    unfold wstep
    rw [if_neg (by simp; omega), hex]
    dsimp only
    rw [if_pos hx, hd]
    simp only [if_pos, if_neg (show ¬ (pre.length + 1 = pre.length) by omega)]
    rw [mxI_lo _ (by omega)]
    have e2 : updF (fun j => if j = pre.length then (pre.length : Int) else -1) (pre.length + 1) ((pre.length : Int) + 1) (pre.length + 1 + d) = -1 := by
      simp only [updF]
      rw [if_neg (by omega), if_neg (by omega)]
    rw [e2, mxI_lo _ (by omega)]
    rw [fin_two l d f (pre.length + 1) _ _ ((pre.length : Int) + 1) ((pre.length : Int) + 1) (by omega) (by omega) (by omega) (by omega) (by omega) (by omega) (by rw [hdrop]; exact hq) (fun j hj => by
      unfold updF
      by_cases h1 : j = pre.length + 1
      · rw [if_neg (show ¬ j = pre.length + 1 + d by omega), if_pos h1, if_pos h1]
      · by_cases h2 : j = pre.length + 1 + d
        · rw [if_pos h2, if_neg h1, if_pos h2]
        · rw [if_neg h2, if_neg h1, if_neg h2]
          show (if j = pre.length then (pre.length : Int) else -1) = if j = pre.length + 1 then _ else -1
          rw [if_neg (by omega), if_neg h1])]
    rw [hdrop, ← List.drop_drop, hdrop, hE]
    split
    · rename_i hgo
      -- the run that goes on comes by where the other one waits
      have e3 : endS post ((pre.length : Int) + 1) = endS (post.drop d) ((pre.length : Int) + 1 + d) := by
        have := endS_on (post.take d) (post.drop d) ((pre.length : Int) + 1) hgo
        rw [List.take_append_drop] at this
        rw [this, List.length_take, Nat.min_eq_left hd2]
      rw [e3, endS_shift (d : Int) (post.drop d) ((pre.length : Int) + 1)]
      exact (put_le _ _ _ (by have := endS_ge (post.drop d) ((pre.length : Int) + 1); omega) (by omega)).symm
    · rfl
end Go.Proofs.Ytkgednfofhlfdaa
