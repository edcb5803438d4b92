/- How dots, vectors, ids, records and links lie in memory, cell by cell. -/
import Derived.Test.YtjngckeeoohegaaDoorLeaf
namespace Go.Proofs.YtjngckeeoohegaaDoor
open Go.RowKit Go.Rel

/-- The one variable of Go's library that the walks read. -/
def Env (w : World) : Prop := ∃ m, w.cell? ⟨0, 0, none⟩ = some (.int .i64 m)
theorem Env.gr {w w' : World} (h : Env w) (hg : Gr w w') : Env w' := h.imp fun _ hm => hg.cell hm

abbrev Vec := Vector UInt32 16
abbrev Id := Vector UInt8 32

structure Rec where
  site : Int
  cnt : Int
  ctx : Vec
  ref : ByteArray
  has : Bool
  tip : Id

def vecCells (v : Vec) : List Value := v.toList.map fun x => .int .u32 x.toNat
def idCells (v : Id) : List Value := v.toList.map fun x => .int .u8 x.toNat
abbrev vecV (v : Vec) : Value := .agg (vecCells v).toArray
abbrev idV (v : Id) : Value := .agg (idCells v).toArray
def recCells (r : Rec) : List Value := .int .i64 r.site :: .int .i64 r.cnt :: (vecCells r.ctx ++ (.string r.ref :: .bool r.has :: idCells r.tip))
abbrev recV (r : Rec) : Value := .agg (recCells r).toArray

@[simp] theorem length_vecCells (v : Vec) : (vecCells v).length = 16 := by simp [vecCells]
@[simp] theorem length_idCells (v : Id) : (idCells v).length = 32 := by simp [idCells]
@[simp] theorem length_recCells (r : Rec) : (recCells r).length = 52 := by simp [recCells]

def vecAt (v : Vec) (i : Nat) : Nat := (v.toList.getD i 0).toNat
def idAt (v : Id) (i : Nat) : Nat := (v.toList.getD i 0).toNat

theorem vecCells_at (v : Vec) {i : Nat} (h : i < 16) : (vecCells v)[i]? = some (.int .u32 (vecAt v i)) := by
  simp [vecCells, vecAt, h]
theorem idCells_at (v : Id) {i : Nat} (h : i < 32) : (idCells v)[i]? = some (.int .u8 (idAt v i)) := by
  simp [idCells, idAt, h]

/-- What the fields of a record read as. -/
structure RecParts (w : World) (b o : Nat) (r : Rec) : Prop where
  site : w.cell? ⟨b, o, none⟩ = some (.int .i64 r.site)
  cnt : w.cell? ⟨b, o + 1, none⟩ = some (.int .i64 r.cnt)
  ref : w.cell? ⟨b, o + 18, none⟩ = some (.string r.ref)
  has : w.cell? ⟨b, o + 19, none⟩ = some (.bool r.has)
  dot : w.rangeAt b o [.int .i64 r.site, .int .i64 r.cnt]
  ctx : w.rangeAt b (o + 2) (vecCells r.ctx)
  tip : w.rangeAt b (o + 20) (idCells r.tip)
  ctxAt : ∀ i, i < 16 → w.cell? ⟨b, o + 2 + i, none⟩ = some (.int .u32 (vecAt r.ctx i))
  tipAt : ∀ i, i < 32 → w.cell? ⟨b, o + 20 + i, none⟩ = some (.int .u8 (idAt r.tip i))

theorem recParts {w : World} {b o : Nat} {r : Rec} (h : w.rangeAt b o (recCells r)) : RecParts w b o r := by
  have hv : ∀ i, i < 16 → (recCells r)[2 + i]? = some (.int .u32 (vecAt r.ctx i)) := by
    intro i hi
    have e : 2 + i = (i + 1) + 1 := by omega
    rw [e]
    simp only [recCells, List.getElem?_cons_succ]
    rw [List.getElem?_append_left (by simpa using hi)]
    exact vecCells_at _ hi
  have ht : ∀ i, i < 32 → (recCells r)[20 + i]? = some (.int .u8 (idAt r.tip i)) := by
    intro i hi
    have e : 20 + i = (18 + i + 1) + 1 := by omega
    rw [e]
    simp only [recCells, List.getElem?_cons_succ]
    rw [List.getElem?_append_right (by simp; omega)]
    have e2 : 18 + i - (vecCells r.ctx).length = (i + 1) + 1 := by simp; omega
    rw [e2]
    simp only [List.getElem?_cons_succ]
    exact idCells_at _ hi
  have h18 : (recCells r)[18]? = some (.string r.ref) := by
    have : (recCells r)[16 + 1 + 1]? = some (.string r.ref) := by
      simp only [recCells, List.getElem?_cons_succ]
      rw [List.getElem?_append_right (by simp)]
      simp
    exact this
  have h19 : (recCells r)[19]? = some (.bool r.has) := by
    have : (recCells r)[17 + 1 + 1]? = some (.bool r.has) := by
      simp only [recCells, List.getElem?_cons_succ]
      rw [List.getElem?_append_right (by simp)]
      simp
    exact this
  refine ⟨h 0 _ rfl, h 1 _ rfl, h 18 _ h18, h 19 _ h19, ?_, ?_, ?_, ?_, ?_⟩
  · intro j v hj
    refine h j v ?_
    match j, hj with
    | 0, hj => exact hj
    | 1, hj => exact hj
  · intro j v hj
    have hlt : j < 16 := by have := (List.getElem?_eq_some_iff.1 hj).1; simpa using this
    rw [vecCells_at _ hlt] at hj
    have := h (2 + j) v (by rw [hv j hlt]; exact hj)
    rwa [← Nat.add_assoc] at this
  · intro j v hj
    have hlt : j < 32 := by have := (List.getElem?_eq_some_iff.1 hj).1; simpa using this
    rw [idCells_at _ hlt] at hj
    have := h (20 + j) v (by rw [ht j hlt]; exact hj)
    rwa [← Nat.add_assoc] at this
  · intro i hi
    have := h (2 + i) _ (hv i hi)
    rwa [← Nat.add_assoc] at this
  · intro i hi
    have := h (20 + i) _ (ht i hi)
    rwa [← Nat.add_assoc] at this

/-- The same at the head of a block. -/
theorem recParts0 {w : World} {b : Nat} {r : Rec} (h : w.rangeAt b 0 (recCells r)) :
    w.cell? ⟨b, 0, none⟩ = some (.int .i64 r.site) ∧ w.cell? ⟨b, 1, none⟩ = some (.int .i64 r.cnt) ∧ w.cell? ⟨b, 18, none⟩ = some (.string r.ref) ∧ w.cell? ⟨b, 19, none⟩ = some (.bool r.has) ∧
    w.rangeAt b 0 [.int .i64 r.site, .int .i64 r.cnt] ∧ w.rangeAt b 2 (vecCells r.ctx) ∧ w.rangeAt b 20 (idCells r.tip) ∧
    (∀ i, i < 16 → w.cell? ⟨b, 2 + i, none⟩ = some (.int .u32 (vecAt r.ctx i))) ∧ ∀ i, i < 32 → w.cell? ⟨b, 20 + i, none⟩ = some (.int .u8 (idAt r.tip i)) := by
  have h := recParts h
  refine ⟨h.site, ?_, ?_, ?_, h.dot, ?_, ?_, ?_, ?_⟩
  · simpa using h.cnt
  · simpa using h.ref
  · simpa using h.has
  · simpa using h.ctx
  · simpa using h.tip
  · simpa using h.ctxAt
  · simpa using h.tipAt

section
variable {f : Nat → Value} {W : World} {t b o : Nat} {type : TypeId}
theorem ld_dot {s c : Int} (hf : f t = .pointer (some ⟨b, o, none⟩)) (hr : W.rangeAt b o [.int .i64 s, .int .i64 c]) :
    relUpon Tryd.prog (fun v _ => v = .agg #[.int .i64 s, .int .i64 c]) W ((execOp (evalF f) (bare (.load 24 (.tmp t)) type)).run Tryd.prog W) := relUpon_load hf hr Tryd.underlying24 rfl (by kernel_rfl)
theorem ld_vec {x : Vec} (hf : f t = .pointer (some ⟨b, o, none⟩)) (hr : W.rangeAt b o (vecCells x)) :
    relUpon Tryd.prog (fun v _ => v = vecV x) W ((execOp (evalF f) (bare (.load 27 (.tmp t)) type)).run Tryd.prog W) := relUpon_load hf hr Tryd.underlying27 rfl (by rw [length_vecCells]; kernel_rfl)
theorem ld_id {x : Id} (hf : f t = .pointer (some ⟨b, o, none⟩)) (hr : W.rangeAt b o (idCells x)) :
    relUpon Tryd.prog (fun v _ => v = idV x) W ((execOp (evalF f) (bare (.load 29 (.tmp t)) type)).run Tryd.prog W) := relUpon_load hf hr Tryd.underlying29 rfl (by rw [length_idCells]; kernel_rfl)
theorem ld_rec {x : Rec} (hf : f t = .pointer (some ⟨b, o, none⟩)) (hr : W.rangeAt b o (recCells x)) :
    relUpon Tryd.prog (fun v _ => v = recV x) W ((execOp (evalF f) (bare (.load 31 (.tmp t)) type)).run Tryd.prog W) := relUpon_load hf hr Tryd.underlying31 rfl (by rw [length_recCells]; kernel_rfl)
end

/-- A new block of cells. -/
theorem range_alloc_new (w : World) (l : List Value) (T : TypeId) : (w.alloc (.cells l.toArray T)).rangeAt w.heap.size 0 l := fun j v hv => by
  rw [Nat.zero_add, cell_of_row _ w.heap.size j l.toArray T (0, 0) (heap_alloc_new w _)]
  simpa using hv

end Go.Proofs.YtjngckeeoohegaaDoor
