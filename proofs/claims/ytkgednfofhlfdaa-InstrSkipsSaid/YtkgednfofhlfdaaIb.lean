/- The shapes of all Ops: what instr.shapes and instr.of hand back. -/
import Derived.Test.YtkgednfofhlfdaaIa
import Derived.Deep.DeepCutAuto
namespace Go.Proofs.Ytkgednfofhlfdaa
open Go.RowKit

inductive Fk where | nil | no | any | field
structure Shp where
  fto : Bool
  ftest : Bool
  a : Fk
  b : Fk
  names : Int
  least : Int
  most : Int

def shpOf : Nat → Shp
  | 0 => ⟨false, false, .nil, .nil, 0, 0, 0⟩
  | 1 => ⟨true, false, .any, .no, 0, 0, 0⟩
  | 2 => ⟨true, false, .any, .no, 0, 0, 0⟩
  | 3 => ⟨true, false, .any, .no, 0, 0, 0⟩
  | 4 => ⟨true, false, .any, .no, 0, 0, 0⟩
  | 5 => ⟨true, false, .any, .no, 0, 0, 0⟩
  | 6 => ⟨true, false, .any, .no, 0, 0, 0⟩
  | 7 => ⟨true, false, .any, .no, 0, 0, 0⟩
  | 8 => ⟨true, false, .any, .no, 0, 0, 0⟩
  | 9 => ⟨true, false, .no, .no, 0, 0, 9216⟩
  | 10 => ⟨true, false, .no, .no, 0, 0, 9216⟩
  | 11 => ⟨true, false, .field, .no, 0, 0, 9216⟩
  | 12 => ⟨false, true, .any, .any, 0, 1, 32⟩
  | 13 => ⟨false, false, .no, .no, 2, 0, 0⟩
  | 14 => ⟨false, false, .no, .no, 3, 0, 0⟩
  | 15 => ⟨false, false, .any, .no, 4, 0, 0⟩
  | 16 => ⟨false, false, .no, .no, 5, 0, 0⟩
  | 17 => ⟨true, false, .any, .no, 6, 0, 0⟩
  | 18 => ⟨false, false, .any, .any, 6, 0, 0⟩
  | 19 => ⟨false, false, .any, .any, 6, 0, 0⟩
  | 20 => ⟨false, false, .any, .no, 0, 0, 0⟩
  | 21 => ⟨false, false, .no, .no, 0, 0, 2147483647⟩
  | 22 => ⟨false, false, .no, .no, 0, 0, 0⟩
  | 23 => ⟨false, false, .no, .no, 0, 0, 0⟩
  | _ => ⟨false, false, .nil, .nil, 0, 0, 0⟩

def Fk.v : Fk → Value
  | .nil => .nilFunc
  | .no => (.func (.func 100) #[] #[])
  | .any => (.func (.func 101) #[] #[])
  | .field => (.func (.func 50) #[] #[])

def Shp.cells (s : Shp) : List Value := [.bool s.fto, .bool s.ftest, s.a.v, s.b.v, .int .u8 s.names, .int .i64 s.least, .int .i64 s.most]
def Shp.v (s : Shp) : Value := .agg s.cells.toArray
def shapesArr : Array Value := ((List.range 24).flatMap fun k => (shpOf k).cells).toArray

theorem shapesArr_size : shapesArr.size = 168 := by decide +kernel

theorem storeRow {P : Program} (w : World) (g : Nat) (t ty : TypeId) (cur cs : Array Value) (hg : w.heap[g]? = some (.cells cur t (0, 0))) (hs : cs.size = cur.size) (h1 : ∀ v ∈ cs.toList, v.oneCell' = true) (hi : (P.info? ty).map (·.size) = some cs.size) :
    (storeVar ty ⟨g, 0, none⟩ (.agg cs)).run P w = .ok () (w.setRow g cs) := by
  have h := run_storeCells_at (P := P) g 0 t cs.toList 0 cur w hg (by simp [hs]) h1
  have hz : cs.toList.length = cur.toList.length := by simpa using hs
  simp only [Nat.zero_add, List.take_zero, List.nil_append, hz, List.drop_length, List.append_nil, Array.toArray_toList] at h
  cases hq : P.info? ty with
  | none => simp [hq] at hi
  | some i =>
    have hsz : i.size = cs.size := by simpa [hq] using hi
    simpa [storeVar, Sem.run_bind, sizeOf, typeInfo, hq, hsz, Value.cells] using h

theorem wpList_store_row {P : Program} {ops : Array Oper} {rest : List Oper} {o : Oper} {a : Act} {w : World} {Q : Exit → Act → World → Prop} (hgd : o.guard = none) (ty : TypeId) (x v : Operand) (ho : o.op = .store ty x v)
    (g : Nat) (hx : a.eval x = .pointer (some ⟨g, 0, none⟩)) (t : TypeId) (cur cs : Array Value) (hg : w.heap[g]? = some (.cells cur t (0, 0))) (hv : a.eval v = .agg cs) (hs : cs.size = cur.size) (h1 : ∀ v ∈ cs.toList, v.oneCell' = true) (hi : (P.info? ty).map (·.size) = some cs.size)
    (h : wpList P ops Q rest (a.put o.dst undef) (w.setRow g cs)) : wpList P ops Q (o :: rest) a w := by
  refine wpList_plain hgd fun K hK => ?_
  unfold Oper.wp execOp
  simp only [ho, hx, hv, Instr.storeAt, Instr.sureAddr, Sem.run_bind, Sem.run_pure, Result.andThen_ok, storeRow w g t ty cur cs hg hs h1 hi]
  exact hK _ _ h

theorem shapes_build (w : World) : (Instr.build 151 #[(1, (shpOf 1).v), (2, (shpOf 2).v), (3, (shpOf 3).v), (4, (shpOf 4).v), (5, (shpOf 5).v), (6, (shpOf 6).v), (7, (shpOf 7).v), (8, (shpOf 8).v), (9, (shpOf 9).v), (10, (shpOf 10).v), (11, (shpOf 11).v), (12, (shpOf 12).v), (13, (shpOf 13).v), (14, (shpOf 14).v), (15, (shpOf 15).v), (16, (shpOf 16).v), (17, (shpOf 17).v), (18, (shpOf 18).v), (19, (shpOf 19).v), (20, (shpOf 20).v), (21, (shpOf 21).v), (22, (shpOf 22).v), (23, (shpOf 23).v)]).run Try.prog w = .ok (.agg shapesArr) w := by kernel_rfl

theorem shapes_info : (Try.prog.info? 151).map (·.size) = some shapesArr.size := by kernel_rfl
theorem shapes_sz : shapesArr.size = (Try.zeroCells151).size := by kernel_rfl
theorem shapes_one : ∀ v ∈ shapesArr.toList, v.oneCell' = true := by decide +kernel

set_option maxHeartbeats 4000000 in
set_option maxRecDepth 100000 in
theorem shapes_any (w : World) : Calls Try.prog 85 #[] w fun e w' => e = .returned (.agg shapesArr) ∧ Below w.heap.size w w' := by
  have hb := shapes_build
  simp only [Shp.v, Shp.cells, shpOf, Fk.v] at hb
  go_enter Try.func85, Try.ntmps85
  go_upto_region 5 with (fail)
  go_wp2_with (refine wpList_store_row rfl 151 (.tmp 0) (.tmp 61) rfl w.heap.size rfl 151 Try.zeroCells151 shapesArr ?_ rfl shapes_sz shapes_one shapes_info ?_)
  · rw [heap_alloc_old _ _ (by simp; omega), heap_alloc_old _ _ (by simp; omega), heap_alloc_old _ _ (by simp), heap_alloc_new]
  · have hg : ((((w.alloc (Obj.cells Try.zeroCells151 151)).alloc (.cells (shpOf 1).cells.toArray 92)).alloc (.cells (shpOf 9).cells.toArray 92)).alloc (.cells (shpOf 18).cells.toArray 92)).heap[w.heap.size]? = some (.cells Try.zeroCells151 151 (0, 0)) := by
      rw [heap_alloc_old _ _ (by simp; omega), heap_alloc_old _ _ (by simp; omega), heap_alloc_old _ _ (by simp), heap_alloc_new]
    refine bodyPost_ret (v := .agg shapesArr) (results_cell_row rfl _ _ w.heap.size 151 shapesArr (0, 0) _ rfl (setRow_heap _ _ Try.zeroCells151 _ _ _ hg) Try.underlying151 rfl shapes_info) rfl ⟨rfl, ?_⟩
    exact (((((Below.refl _ _).alloc (Nat.le_refl _) _).alloc (by simp) _).alloc (by simp; omega) _).alloc (by simp; omega) _).setRowB (Nat.le_refl _) _
end Go.Proofs.Ytkgednfofhlfdaa
