/- A fresh box, and what is laid into it. -/
import Derived.Test.YtjngckeeoohegaaDoorStage
import Derived.Laws.NewBlocks
namespace Go.Rel
open Go Go.RowKit

theorem setCells_alloc (w : World) (T : TypeId) : ∀ (vs : List Value) (o : Nat) (C : Array Value), (w.alloc (.cells C T)).setCells w.heap.size o vs = w.alloc (.cells (vs.zipIdx o |>.foldl (fun c x => c.setIfInBounds x.2 x.1) C) T)
  | [], _, _ => rfl
  | v :: r, o, C => by
    show ((w.alloc (.cells C T)).setCell ⟨w.heap.size, o, none⟩ v).setCells w.heap.size (o + 1) r = _
    rw [World.setCell_alloc_at C T _ _ _ rfl, setCells_alloc w T r (o + 1), List.zipIdx_cons, List.foldl_cons]

theorem foldl_zipIdx' : ∀ (l : List Value) (n : Nat) (a : Array Value) (i : Nat), (List.foldl (fun cs x => cs.setIfInBounds x.2 x.1) a (l.zipIdx n))[i]? = if n ≤ i ∧ i < n + l.length ∧ i < a.size then l[i - n]? else a[i]?
  | [], n, a, i => by
    have : ¬ (n ≤ i ∧ i < n + 0 ∧ i < a.size) := by omega
    simp only [List.zipIdx_nil, List.foldl_nil, List.length_nil, if_neg this]
  | v :: l, n, a, i => by
    rw [List.zipIdx_cons, List.foldl_cons, foldl_zipIdx' l (n + 1)]
    simp only [Array.size_setIfInBounds, List.length_cons]
    by_cases h : n + 1 ≤ i ∧ i < n + 1 + l.length ∧ i < a.size
    · rw [if_pos h, if_pos (by omega)]
      have e : i - n = (i - (n + 1)) + 1 := by omega
      rw [e, List.getElem?_cons_succ]
    · rw [if_neg h]
      by_cases e : i = n
      · subst e
        by_cases hs : i < a.size
        · rw [if_pos (by omega)]; simp [hs]
        · rw [if_neg (by omega)]
          simp [Array.getElem?_eq_none (Nat.le_of_not_lt hs), hs]
      · rw [if_neg (by omega), Array.getElem?_setIfInBounds_ne (Ne.symm e)]

theorem setCells_alloc_full (w : World) (T : TypeId) (C : Array Value) (vs : List Value) (h : C.size = vs.length) : (w.alloc (.cells C T)).setCells w.heap.size 0 vs = w.alloc (.cells vs.toArray T) := by
  rw [setCells_alloc]
  congr 2
  apply Array.ext_getElem?
  intro i
  rw [foldl_zipIdx']
  by_cases hi : i < vs.length
  · rw [if_pos (by omega)]; simp
  · rw [if_neg (by omega), Array.getElem?_eq_none (by omega)]
    simp [hi]

theorem setCells_drew : ∀ (vs : List Value) (o b : Nat) (w : World), (w.drew).setCells b o vs = (w.setCells b o vs).drew
  | [], _, _, _ => rfl
  | v :: r, o, b, w => by
    show ((w.drew).setCell ⟨b, o, none⟩ v).setCells b (o + 1) r = ((w.setCell ⟨b, o, none⟩ v).setCells b (o + 1) r).drew
    rw [← setCells_drew r (o + 1) b]; rfl

theorem there_alloc_new (w : World) (T : TypeId) (C : Array Value) : (w.alloc (.cells C T)).there w.heap.size 0 C.size := fun j hj => by
  have hb := heap_alloc_new w (.cells C T)
  have h2 : C[0 + j]? = some C[0 + j] := by simp [hj]
  refine ⟨by rw [cell_of_heap hb h2]; rfl, ?_⟩
  unfold World.frozen?
  simp only [hb]
  simp

section
variable {P : Program}
/-- A whole value laid into a fresh box: as if the box were made with it. -/
theorem run_store_box (W : World) (h : Nat) (T : TypeId) (C : Array Value) (cs : List Value) (hh : h = W.heap.size) (hc : C.size = cs.length) (hi : (P.info? T).map (·.size) = some C.size) (h1 : ∀ v ∈ cs, v.oneCell' = true) :
    (storeVar T ⟨h, 0, none⟩ (.agg cs.toArray)).run P (W.alloc (.cells C T)) = .ok () (W.alloc (.cells cs.toArray T)) := by
  subst hh
  have e := run_storeVar_mid (P := P) (W.alloc (.cells C T)) W.heap.size 0 T cs.toArray (by have := there_alloc_new W T C; rw [hc] at this; simpa using this) (by rw [hi, hc]; simp) (all_oneCell_toArray h1)
  rw [e]
  simp only [List.toList_toArray]
  rw [setCells_alloc_full W T C cs hc]

theorem run_store_box_drew (W : World) (h : Nat) (T : TypeId) (C : Array Value) (cs : List Value) (hh : h = W.heap.size) (hc : C.size = cs.length) (hi : (P.info? T).map (·.size) = some C.size) (h1 : ∀ v ∈ cs, v.oneCell' = true) :
    (storeVar T ⟨h, 0, none⟩ (.agg cs.toArray)).run P ((W.alloc (.cells C T)).drew) = .ok () ((W.alloc (.cells cs.toArray T)).drew) := run_store_box W.drew h T C cs hh hc hi h1
end
end Go.Rel
