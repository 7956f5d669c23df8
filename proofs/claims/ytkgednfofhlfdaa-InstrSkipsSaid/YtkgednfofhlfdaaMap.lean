/- Maps as partial functions of keys and elements of one's own: over the library's laws on maps that are read. No program stands in it. -/
import Derived.Test.YtkgednfofhlfdaaLib
import Derived.Maps.RangeWalk
namespace Go.Proofs.Ytkgednfofhlfdaa
open Go.RowKit Go.Maps

/-- An element's value as it stands. -/
def heldR (v : Value) : Option (DataW Value × List MemPlace) := some (.held v, [])

/-- How keys of one's own stand as values. -/
structure KeyEnc (P : Program) (k : TypeId) {K : Type} (encK : K → Value) (okK : K → Prop) : Prop where
  keyed : Keyed P k
  some : ∀ x, okK x → ∃ kl, keyOf P k (encK x) = .some kl
  inj : ∀ x y, okK x → okK y → encK x = encK y → x = y

section
variable {K V : Type} {P : Program} {k : TypeId} {encK : K → Value} {okK : K → Prop} {encV : V → Value}

/-- Block b is a map of n entries that is m. -/
structure MapT (P : Program) (k : TypeId) (encK : K → Value) (okK : K → Prop) (encV : V → Value) (w : World) (b n : Nat) (m : K → Option V) (D : DataW Value) : Prop where
  own : w.ownsMap P k heldR b n D
  size : Maps.size D = n
  at_ : ∀ x kl, okK x → keyOf P k (encK x) = some kl → ∀ z, D.atKey kl z = (match m x with | some v => .held (encV v) | none => z)
  has : ∀ x kl, okK x → keyOf P k (encK x) = some kl → Maps.has D kl = (m x).isSome
  dom : ∀ x v, m x = some v → okK x
  src : ∀ kl, Maps.has D kl = true → ∃ x, okK x ∧ keyOf P k (encK x) = some kl

def IsMapOf (P : Program) (k : TypeId) (encK : K → Value) (okK : K → Prop) (encV : V → Value) (w : World) (b n : Nat) (m : K → Option V) : Prop := ∃ D, MapT P k encK okK encV w b n m D

theorem mapT_made (w : World) : IsMapOf P k encK okK encV (w.alloc (.map #[] 0)) w.heap.size 0 (fun _ => none) :=
  ⟨.map [], World.ownsMap_made w P k heldR, rfl, fun _ _ _ _ _ => rfl, fun _ _ _ _ => rfl, fun _ _ h => by simp at h, fun _ h => by simp [Maps.has] at h⟩

theorem mapT_lt {w : World} {b n : Nat} {m : K → Option V} (h : IsMapOf P k encK okK encV w b n m) : b < w.heap.size := h.elim fun _ h => h.own.lt

theorem mapT_keep {w w' : World} {b n : Nat} {m : K → Option V} (h : IsMapOf P k encK okK encV w b n m) (hb : w'.heap[b]? = w.heap[b]?) : IsMapOf P k encK okK encV w' b n m := by
  obtain ⟨D, h⟩ := h
  obtain ⟨es, clock, h1, h2⟩ := h.own
  exact ⟨D, ⟨es, clock, hb.trans h1, h2⟩, h.size, h.at_, h.has, h.dom, h.src⟩

theorem mapT_none {w : World} {b : Nat} {m : K → Option V} (E : KeyEnc P k encK okK) (h : IsMapOf P k encK okK encV w b 0 m) (x : K) : m x = none := by
  obtain ⟨D, h⟩ := h
  cases hx : m x with
  | none => rfl
  | some v =>
    have ho := h.dom x v hx
    obtain ⟨kl, hk⟩ := E.some x ho
    have h1 := h.has x kl ho hk
    rw [hx] at h1
    obtain ⟨es, e⟩ := h.own.isMap
    have h2 := h.size
    subst e
    simp [Maps.size] at h2
    subst h2
    simp [Maps.has] at h1

/-- The look-up's run. -/
theorem mapT_run_lookup {w : World} (E : KeyEnc P k encK okK) (t e : TypeId) (ht : P.underlying t = some (.map k e)) {z : Value} (hz : (zeroValue e).run P w = .ok z w)
    (b n : Nat) (m : K → Option V) (h : IsMapOf P k encK okK encV w b n m) (x : K) (hx : okK x) : (Instr.lookup t (.map (some b)) (encK x) false).run P w = .ok (((m x).map encV).getD z) w := by
  obtain ⟨D, h⟩ := h
  obtain ⟨kl, hk⟩ := E.some x hx
  obtain ⟨v, ps, hrun, hv⟩ := h.own.lookup E.keyed ht hz (zd := .held z) (zp := []) rfl hk
  have ha := h.at_ x kl hx hk (.held z)
  have hvv : v = ((m x).map encV).getD z := by
    simp only [heldR, Option.some.injEq, Prod.mk.injEq] at hv
    rw [ha] at hv
    cases hm : m x <;> simp [hm] at hv <;> simp [hv.1]
  rw [← hvv]
  exact hrun

theorem wpList_mapT_lookup {w : World} {ops : Array Oper} {rest : List Oper} {o : Oper} {a : Act} {Q : Exit → Act → World → Prop} (E : KeyEnc P k encK okK)
    (hg : o.guard = none) (mo xo : Operand) (t e : TypeId) (hop : o.op = Op.lookup t mo xo false) (ht : P.underlying t = some (.map k e)) {z : Value} (hz : (zeroValue e).run P w = .ok z w)
    (b n : Nat) (m : K → Option V) (hmo : a.eval mo = .map (some b)) (h : IsMapOf P k encK okK encV w b n m) (x : K) (hxo : a.eval xo = encK x) (hx : okK x)
    (hK : wpList P ops Q rest (a.put o.dst (match m x with | some v => encV v | none => z)) w) : wpList P ops Q (o :: rest) a w := by
  refine wpList_plain hg fun K' hK' => ?_
  obtain ⟨D, h⟩ := h
  obtain ⟨kl, hk⟩ := E.some x hx
  obtain ⟨v, ps, hrun, hv⟩ := h.own.lookup E.keyed ht hz (zd := .held z) (zp := []) rfl hk
  have ha := h.at_ x kl hx hk (.held z)
  have hvv : v = (match m x with | some v => encV v | none => z) := by
    simp only [heldR, Option.some.injEq, Prod.mk.injEq] at hv
    rw [ha] at hv
    cases hm : m x <;> simp [hm] at hv <;> simp [hv.1]
  subst hvv
  unfold Oper.wp
  simp [execOp, hop, hmo, hxo, hrun, Result.andThen]
  exact hK' _ _ hK

theorem wpList_mapT_lookup_ok {w : World} {ops : Array Oper} {rest : List Oper} {o : Oper} {a : Act} {Q : Exit → Act → World → Prop} (E : KeyEnc P k encK okK)
    (hg : o.guard = none) (mo xo : Operand) (t e : TypeId) (hop : o.op = Op.lookup t mo xo true) (ht : P.underlying t = some (.map k e)) {z : Value} (hz : (zeroValue e).run P w = .ok z w)
    (b n : Nat) (m : K → Option V) (hmo : a.eval mo = .map (some b)) (h : IsMapOf P k encK okK encV w b n m) (x : K) (hxo : a.eval xo = encK x) (hx : okK x)
    (hK : wpList P ops Q rest (a.put o.dst (.tuple #[(match m x with | some v => encV v | none => z), .bool (m x).isSome])) w) : wpList P ops Q (o :: rest) a w := by
  refine wpList_plain hg fun K' hK' => ?_
  obtain ⟨D, h⟩ := h
  obtain ⟨kl, hk⟩ := E.some x hx
  obtain ⟨v, ps, hrun, hv⟩ := h.own.look_ok E.keyed ht hz (zd := .held z) (zp := []) rfl hk
  have ha := h.at_ x kl hx hk (.held z)
  have hvv : v = (match m x with | some v => encV v | none => z) := by
    simp only [heldR, Option.some.injEq, Prod.mk.injEq] at hv
    rw [ha] at hv
    cases hm : m x <;> simp [hm] at hv <;> simp [hv.1]
  subst hvv
  rw [h.has x kl hx hk] at hrun
  unfold Oper.wp
  simp [execOp, hop, hmo, hxo, hrun, Result.andThen]
  exact hK' _ _ hK

/-- m with x at v. -/
def updM [DecidableEq K] (m : K → Option V) (x : K) (v : V) : K → Option V := fun y => if y = x then some v else m y
def delM [DecidableEq K] (m : K → Option V) (x : K) : K → Option V := fun y => if y = x then none else m y

theorem sameKey_of_ne {E : KeyEnc P k encK okK} {x y : K} {kx ky : Lit} (hx : okK x) (hy : okK y) (hkx : keyOf P k (encK x) = some kx) (hky : keyOf P k (encK y) = some ky) (hne : y ≠ x) : ky ≠ kx :=
  fun e => hne (E.inj y x hy hx (E.keyed.inj (e ▸ hky) hkx))

theorem mapT_put [DecidableEq K] {w w' : World} {b n : Nat} {m : K → Option V} {D : DataW Value} (E : KeyEnc P k encK okK) (h : MapT P k encK okK encV w b n m D) {x : K} (hx : okK x) {v : V} {kl : Lit} (hk : keyOf P k (encK x) = some kl)
    (ho : w'.ownsMap P k heldR b (n + 1) (D.put kl (.held (encV v)))) : IsMapOf P k encK okK encV w' b (if (m x).isSome then n else n + 1) (updM m x v) := by
  have hD := h.own.isMap
  have hkk := E.keyed.key hk
  have hs : Maps.size (D.put kl (.held (encV v))) = if (m x).isSome then n else n + 1 := by
    rw [size_put (h.own.tidy E.keyed), h.has x kl hx hk, h.size]
  refine ⟨_, ?_, hs, ?_, ?_, ?_, ?_⟩
  · obtain ⟨es, clock, h1, h2, h3, h4⟩ := ho
    refine ⟨es, clock, h1, h2, ?_, h4⟩
    rw [← hs, h4]
    simp [Maps.size, length_sorted]
  · intro y ky hy hky z
    by_cases e : y = x
    · subst e
      rw [hk] at hky
      cases hky
      rw [atKey_put_same hD hkk]
      simp [updM]
    · rw [atKey_put_other (sameKey_of_ne (E := E) hx hy hk hky e), h.at_ y ky hy hky]
      simp [updM, e]
  · intro y ky hy hky
    by_cases e : y = x
    · subst e
      rw [hk] at hky
      cases hky
      rw [has_put_same hD hkk]
      simp [updM]
    · rw [has_put_other (sameKey_of_ne (E := E) hx hy hk hky e), h.has y ky hy hky]
      simp [updM, e]
  · intro y v' hy
    by_cases e : y = x
    · subst e; exact hx
    · simp [updM, e] at hy
      exact h.dom y v' hy
  · intro kl' hh
    by_cases e : kl' = kl
    · subst e; exact ⟨x, hx, hk⟩
    · rw [has_put_other e] at hh
      exact h.src kl' hh

theorem wpList_mapT_update [DecidableEq K] {w : World} {ops : Array Oper} {rest : List Oper} {o : Oper} {a : Act} {Q : Exit → Act → World → Prop} (E : KeyEnc P k encK okK)
    (hg : o.guard = none) (mo xo vo : Operand) (t e : TypeId) (hop : o.op = Op.mapUpdate t mo xo vo) (ht : P.underlying t = some (.map k e))
    (b n : Nat) (m : K → Option V) (hmo : a.eval mo = .map (some b)) (h : IsMapOf P k encK okK encV w b n m) (hn : n < maxLen) (x : K) (v : V) (hxo : a.eval xo = encK x) (hvo : a.eval vo = encV v) (hx : okK x)
    (hK : ∀ w', IsMapOf P k encK okK encV w' b (if (m x).isSome then n else n + 1) (updM m x v) → w.grownBy w' (some b) → w'.heap.size = w.heap.size → wpList P ops Q rest (a.put o.dst undef) w') : wpList P ops Q (o :: rest) a w := by
  refine wpList_plain hg fun K' hK' => ?_
  obtain ⟨D, h⟩ := h
  obtain ⟨kl, hk⟩ := E.some x hx
  obtain ⟨w', hrun, hown, hturn⟩ := h.own.store E.keyed ht hn hk (val := encV v) (d := .held (encV v)) (ps := []) rfl
  have hsz : w'.heap.size = w.heap.size := by
    obtain ⟨_, _, _, _, _, rfl⟩ := hturn
    simp [ChangeMaps.setBlock]
  unfold Oper.wp
  simp [execOp, hop, hmo, hxo, hvo, hrun, Result.andThen]
  exact hK' _ _ (hK w' (mapT_put E h hx hk hown) hturn.grown hsz)

theorem wpList_mapT_delete [DecidableEq K] {w : World} {ops : Array Oper} {rest : List Oper} {o : Oper} {a : Act} {Q : Exit → Act → World → Prop} (E : KeyEnc P k encK okK)
    (hg : o.guard = none) (mo xo : Operand) (t e : TypeId) (hop : o.op = Op.call { callee := Callee.builtin Builtin.delete, args := #[mo, xo], argTypes := #[t, k] }) (ht : P.underlying t = some (.map k e))
    (b n : Nat) (m : K → Option V) (hmo : a.eval mo = .map (some b)) (h : IsMapOf P k encK okK encV w b n m) (x : K) (hxo : a.eval xo = encK x) (hx : okK x)
    (hK : ∀ w', IsMapOf P k encK okK encV w' b (if (m x).isSome then n - 1 else n) (delM m x) → w.grownBy w' (some b) → w'.heap.size = w.heap.size → wpList P ops Q rest (a.put o.dst (.tuple #[])) w') : wpList P ops Q (o :: rest) a w := by
  refine wpList_plain hg fun K' hK' => ?_
  obtain ⟨D, h⟩ := h
  obtain ⟨kl, hk⟩ := E.some x hx
  obtain ⟨w', hrun, hown, hturn⟩ := h.own.drop E.keyed ht hk o.type
  have hsz : w'.heap.size = w.heap.size := by
    obtain ⟨_, _, _, _, _, rfl⟩ := hturn
    simp [ChangeMaps.setBlock]
  have hkk := E.keyed.key hk
  have hs : Maps.size (D.del kl) = if (m x).isSome then n - 1 else n := by
    have e1 := size_del (k := kl) (h.own.tidy E.keyed)
    rw [h.has x kl hx hk, h.size] at e1
    split at e1 <;> simp_all <;> omega
  unfold Oper.wp
  simp [execOp, hop, resolve, invoke, builtin, hmo, hxo, hrun, Result.andThen]
  refine hK' _ _ (hK w' ⟨_, ?_, hs, ?_, ?_, ?_, ?_⟩ hturn.grown hsz)
  · obtain ⟨es, clock, h1, h2, h3, h4⟩ := hown
    refine ⟨es, clock, h1, h2, ?_, h4⟩
    rw [← hs, h4]
    simp [Maps.size, length_sorted]
  · intro y ky hy hky z
    by_cases e : y = x
    · subst e
      rw [hk] at hky
      cases hky
      rw [atKey_del_same]
      simp [delM]
    · rw [atKey_del_other (sameKey_of_ne (E := E) hx hy hk hky e), h.at_ y ky hy hky]
      simp [delM, e]
  · intro y ky hy hky
    by_cases e : y = x
    · subst e
      rw [hk] at hky
      cases hky
      rw [has_del_same]
      simp [delM]
    · rw [has_del_other (sameKey_of_ne (E := E) hx hy hk hky e), h.has y ky hy hky]
      simp [delM, e]
  · intro y v' hy
    by_cases e : y = x
    · subst e; exact hx
    · simp [delM, e] at hy
      exact h.dom y v' hy
  · intro kl' hh
    by_cases e : kl' = kl
    · subst e; rw [has_del_same] at hh; cases hh
    · rw [has_del_other e] at hh
      exact h.src kl' hh

theorem wpList_mapT_len {w : World} {ops : Array Oper} {rest : List Oper} {o : Oper} {a : Act} {Q : Exit → Act → World → Prop}
    (hg : o.guard = none) (mo : Operand) (t e : TypeId) (hop : o.op = Op.call { callee := Callee.builtin Builtin.len, args := #[mo], argTypes := #[t] }) (ht : P.underlying t = some (.map k e))
    (b n : Nat) (m : K → Option V) (hmo : a.eval mo = .map (some b)) (h : IsMapOf P k encK okK encV w b n m)
    (hK : wpList P ops Q rest (a.put o.dst (.int .i64 n)) w) : wpList P ops Q (o :: rest) a w := by
  obtain ⟨D, h⟩ := h
  refine wpList_len_own w hg mo t hop k e ht heldR b n D hmo h.own ?_
  rw [h.size]
  exact hK

/-- A range over a map under way: l holds what has come. -/
structure RangeT (P : Program) (k : TypeId) (encK : K → Value) (okK : K → Prop) (encV : V → Value) (w : World) (b r n : Nat) (m : K → Option V) (l : List (K × V)) (D : DataW Value) (left : Lit → Bool) (cnt : Nat) : Prop where
  rg : w.ranges P k heldR b r n D left cnt
  map : MapT P k encK okK encV w b n m D
  mem : ∀ p ∈ l, m p.1 = some p.2
  nodup : (l.map (·.1)).Nodup
  left_ : ∀ x kl, okK x → keyOf P k (encK x) = some kl → (left kl = true ↔ (m x).isSome = true ∧ x ∉ l.map (·.1))

def Ranging (P : Program) (k : TypeId) (encK : K → Value) (okK : K → Prop) (encV : V → Value) (w : World) (b r n : Nat) (m : K → Option V) (l : List (K × V)) : Prop := ∃ D left cnt, RangeT P k encK okK encV w b r n m l D left cnt

theorem Ranging.isMap {w : World} {b r n : Nat} {m : K → Option V} {l : List (K × V)} (h : Ranging P k encK okK encV w b r n m l) : IsMapOf P k encK okK encV w b n m := by
  obtain ⟨D, left, cnt, h⟩ := h
  exact ⟨D, h.map⟩

theorem Ranging.keep {w w' : World} {b r n : Nat} {m : K → Option V} {l : List (K × V)} (h : Ranging P k encK okK encV w b r n m l) (hb : w'.heap[b]? = w.heap[b]?) (hr : w'.heap[r]? = w.heap[r]?) : Ranging P k encK okK encV w' b r n m l := by
  obtain ⟨D, left, cnt, h⟩ := h
  obtain ⟨D', h'⟩ := mapT_keep ⟨D, h.map⟩ hb
  refine ⟨D, left, cnt, ?_, ?_, h.mem, h.nodup, h.left_⟩
  · obtain ⟨es, clock, since, seen, c0, h1, h2, h3, h4, h5, h6⟩ := h.rg
    exact ⟨es, clock, since, seen, c0, hb.trans h1, h2, h3, h4, hr.trans h5, h6⟩
  · obtain ⟨es, clock, h1, h2⟩ := h.map.own
    exact ⟨⟨es, clock, hb.trans h1, h2⟩, h.map.size, h.map.at_, h.map.has, h.map.dom, h.map.src⟩

theorem Ranging.lt {w : World} {b r n : Nat} {m : K → Option V} {l : List (K × V)} (h : Ranging P k encK okK encV w b r n m l) : b < w.heap.size ∧ r < w.heap.size ∧ r ≠ b := by
  obtain ⟨D, left, cnt, h⟩ := h
  exact ⟨h.map.own.lt, h.rg.lt, h.rg.ne⟩

theorem rangeLeft_keep {w w' : World} {b r : Nat} (hb : w'.heap[b]? = w.heap[b]?) (hr : w'.heap[r]? = w.heap[r]?) : w'.rangeLeft b r = w.rangeLeft b r := by
  unfold World.rangeLeft
  rw [hb, hr]

theorem wpList_mapT_range {w : World} {ops : Array Oper} {rest : List Oper} {o : Oper} {a : Act} {Q : Exit → Act → World → Prop} (E : KeyEnc P k encK okK)
    (hg : o.guard = none) (mo : Operand) (t e : TypeId) (hop : o.op = Op.range t mo) (ht : P.underlying t = some (.map k e)) (b n : Nat) (m : K → Option V)
    (hmo : a.eval mo = .map (some b)) (h : IsMapOf P k encK okK encV w b n m)
    (hK : ∀ w', Ranging P k encK okK encV w' b w.heap.size n m [] → Below w.heap.size w w' → w'.heap.size = w.heap.size + 1 → wpList P ops Q rest (a.put o.dst (.pointer (some ⟨w.heap.size, 0, none⟩))) w') : wpList P ops Q (o :: rest) a w := by
  obtain ⟨D, h⟩ := h
  refine wpList_range_own w hg mo t hop k e E.keyed ht heldR b n D hmo h.own ?_
  intro w' hr hgr hsz
  refine hK w' ⟨D, Maps.has D, Maps.size D, hr, ?_, by simp, by simp, ?_⟩ ((Below.refl _ _).grown hgr (Nat.le_refl _) (fun j hj => by cases hj)) hsz
  · exact ⟨hr.owns, h.size, h.at_, h.has, h.dom, h.src⟩
  · intro x kl hx hk
    rw [h.has x kl hx hk]
    simp

theorem wpList_mapT_next {w : World} {ops : Array Oper} {rest : List Oper} {o : Oper} {a : Act} {Q : Exit → Act → World → Prop} (E : KeyEnc P k encK okK)
    (hg : o.guard = none) (it : Operand) (hop : o.op = Op.next it false) (b r n : Nat) (m : K → Option V) (l : List (K × V)) (hit : a.eval it = .pointer (some ⟨r, 0, none⟩)) (h : Ranging P k encK okK encV w b r n m l)
    (hDone : (∀ x v, m x = some v → (x, v) ∈ l) → wpList P ops Q rest (a.put o.dst (.tuple #[.bool false])) w)
    (hMore : ∀ x v w', m x = some v → x ∉ l.map (·.1) → Ranging P k encK okK encV w' b r n m (l ++ [(x, v)]) → w.grownBy w' (some r) → w'.heap.size = w.heap.size → l.length < n → w'.rangeLeft b r < w.rangeLeft b r →
      (Instr.entry (.pointer (some ⟨r, 0, none⟩))).run P w' = .ok (.tuple #[encK x, encV v]) w' → wpList P ops Q rest (a.put o.dst (.tuple #[.bool true, encK x, encV v])) w') : wpList P ops Q (o :: rest) a w := by
  refine wpList_plain hg fun K' hK' => ?_
  obtain ⟨D, left, cnt, h⟩ := h
  unfold Oper.wp
  rcases h.rg.next E.keyed o.type with ⟨h0, hl, hrun⟩ | ⟨key, v, kl, y, w', cnt', hkey, hlk, hv, hat, hrun, hrg, hlt, hgr, hsz, hen⟩
  · simp [execOp, hop, hit, hrun, Result.andThen]
    refine hK' _ _ (hDone fun x v hx => ?_)
    have ho := h.map.dom x v hx
    obtain ⟨kl, hk⟩ := E.some x ho
    have h1 := h.left_ x kl ho hk
    rw [hl kl] at h1
    have h2 : x ∈ l.map (·.1) := by
      refine Classical.byContradiction fun hn => ?_
      exact absurd (h1.2 ⟨by simp [hx], hn⟩) (by simp)
    obtain ⟨p, hp, rfl⟩ := List.mem_map.1 h2
    have := h.mem p hp
    rw [hx] at this
    cases this
    exact hp
  · have hhas : Maps.has D kl = true := by
      cases hh : Maps.has D kl with
      | true => rfl
      | false =>
        have e1 := atKey_of_not_has hh (.held (.bool true))
        have e2 := atKey_of_not_has hh (.held (.bool false))
        rw [hat] at e1 e2
        rw [e1] at e2
        cases e2
    obtain ⟨x, hx, hkx⟩ := h.map.src kl hhas
    have ek : key = encK x := E.keyed.inj hkey hkx
    subst ek
    have hxs : (m x).isSome = true := by rw [← h.map.has x kl hx hkx]; exact hhas
    obtain ⟨u, hu⟩ := Option.isSome_iff_exists.1 hxs
    have hy := h.map.at_ x kl hx hkx (.held (.bool true))
    rw [hat, hu] at hy
    simp only [heldR, Option.some.injEq] at hv
    subst hv
    have ev : v = encV u := by simpa using hy
    subst ev
    have hnl := ((h.left_ x kl hx hkx).1 hlk).2
    have hlen : l.length < n := by
      rcases Nat.lt_or_ge l.length n with hl | hl
      · exact hl
      · exfalso
        obtain ⟨es, hes, hpw, hkeys⟩ := h.map.own.entries E.keyed
        subst hes
        have hsz := h.map.size
        simp only [Maps.size] at hsz
        -- the keys that have come, and this one, are among the entries' keys
        have hsub : ∀ q ∈ (l.map (·.1)) ++ [x], ∃ kq, keyOf P k (encK q) = some kq ∧ kq ∈ es.map (·.1) := by
          intro q hq
          have hqs : ∃ vq, m q = some vq := by
            rcases List.mem_append.1 hq with hq | hq
            · obtain ⟨p, hp, rfl⟩ := List.mem_map.1 hq
              exact ⟨p.2, h.mem p hp⟩
            · simp at hq; subst hq; exact ⟨u, hu⟩
          obtain ⟨vq, hvq⟩ := hqs
          have hoq := h.map.dom q vq hvq
          obtain ⟨kq, hkq⟩ := E.some q hoq
          have := h.map.has q kq hoq hkq
          rw [hvq] at this
          obtain ⟨p, hp, hpk⟩ := List.any_eq_true.1 this
          exact ⟨kq, hkq, List.mem_map.2 ⟨p, hp, WideAt.sameKey_eq hpk⟩⟩
        have hnd : ((l.map (·.1)) ++ [x]).Nodup := by
          rw [List.nodup_append]
          exact ⟨h.nodup, by simp, fun a ha b hb e => by simp at hb; subst hb; subst e; exact hnl ha⟩
        have hok : ∀ q ∈ (l.map (·.1)) ++ [x], okK q := by
          intro q hq
          rcases List.mem_append.1 hq with hq | hq
          · obtain ⟨p, hp, rfl⟩ := List.mem_map.1 hq
            exact h.map.dom _ _ (h.mem p hp)
          · simp at hq; subst hq; exact hx
        have hle : ((l.map (·.1)) ++ [x]).length ≤ (es.map (·.1)).length := by
          letI : DecidableEq Lit := fun a b => Classical.propDecidable (a = b)
          have key : ∀ (L : List K) (S : List Lit), L.Nodup → (∀ q ∈ L, okK q) → (∀ q ∈ L, ∃ kq, keyOf P k (encK q) = some kq ∧ kq ∈ S) → L.length ≤ S.length := by
            intro L
            induction L with
            | nil => intros; simp
            | cons q r ih =>
              intro S hnd hok hS
              obtain ⟨kq, hkq, hm⟩ := hS q (by simp)
              have h1 := ih (S.erase kq) (List.nodup_cons.1 hnd).2 (fun a ha => hok a (by simp [ha])) (fun a ha => by
                obtain ⟨ka, hka, hma⟩ := hS a (by simp [ha])
                refine ⟨ka, hka, (List.mem_erase_of_ne ?_).2 hma⟩
                intro e
                have : a = q := E.inj a q (hok a (by simp [ha])) (hok q (by simp)) (E.keyed.inj (e ▸ hka) hkq)
                subst this
                exact (List.nodup_cons.1 hnd).1 ha)
              have h2 := List.length_erase_of_mem hm
              have h3 := List.length_pos_of_mem hm
              simp only [List.length_cons]
              omega
          exact key _ _ hnd hok hsub
        simp at hle
        omega
    simp [execOp, hop, hit, hrun, Result.andThen]
    refine hK' _ _ (hMore x u w' hu hnl ⟨D, _, cnt', hrg, ⟨hrg.owns, h.map.size, h.map.at_, h.map.has, h.map.dom, h.map.src⟩, ?_, ?_, ?_⟩ hgr hsz hlen (by rw [hrg.left_eq, h.rg.left_eq]; exact hlt) hen)
    · intro p hp
      rcases List.mem_append.1 hp with hp | hp
      · exact h.mem p hp
      · simp at hp; subst hp; exact hu
    · rw [List.map_append, List.nodup_append]
      exact ⟨h.nodup, by simp, fun a ha b hb e => by simp at hb; subst hb; subst e; exact hnl ha⟩
    · intro q kq hq hkq
      rw [Bool.and_eq_true, h.left_ q kq hq hkq]
      constructor
      · rintro ⟨⟨h1, h2⟩, h3⟩
        refine ⟨h1, ?_⟩
        rw [List.map_append, List.mem_append]
        rintro (h4 | h4)
        · exact h2 h4
        · simp at h4
          subst h4
          rw [hkx] at hkq
          cases hkq
          rw [WideAt.sameKey_self (E.keyed.key hkx)] at h3
          cases h3
      · rintro ⟨h1, h2⟩
        rw [List.map_append, List.mem_append] at h2
        refine ⟨⟨h1, fun h3 => h2 (Or.inl h3)⟩, ?_⟩
        have hne : q ≠ x := fun e => h2 (Or.inr (by simp [e]))
        rw [sameKey_ne (sameKey_of_ne (E := E) hx hq hkx hkq hne)]
        rfl
end
end Go.Proofs.Ytkgednfofhlfdaa
