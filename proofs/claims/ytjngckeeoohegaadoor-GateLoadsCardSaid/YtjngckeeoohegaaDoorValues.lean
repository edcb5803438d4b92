/- The iterator over the records of a map: maps.Values. -/
import Derived.Test.YtjngckeeoohegaaDoorLoad
import Derived.Test.YtjngckeeoohegaaDoorRange
import Derived.Maps.RangeRun
namespace Go.Proofs.YtjngckeeoohegaaDoor
open Go.RowKit Go.Rel Go.Shelf Go.MapKept Go.ChangeMaps
attribute [local go_sem] Oper.semAt_some

/-- Records and their stamps, as a map has them. -/
def entE (l : List (Rec × Nat)) : Array MapEntry := (l.map fun (x, b) => ({ key := dotV x.site x.cnt, val := recV x, born := b } : MapEntry)).toArray
theorem entries_entE (L : List Rec) : entriesOf L = entE L.zipIdx := rfl

theorem mem_entE {l : List (Rec × Nat)} {e : MapEntry} : e ∈ (entE l).toList ↔ ∃ x b, (x, b) ∈ l ∧ e = { key := dotV x.site x.cnt, val := recV x, born := b } := by
  simp only [entE, List.mem_map]
  constructor
  · rintro ⟨⟨x, b⟩, h, rfl⟩; exact ⟨x, b, h, rfl⟩
  · rintro ⟨x, b, h, rfl⟩; exact ⟨(x, b), h, rfl⟩
theorem born_entE (l : List (Rec × Nat)) : (entE l).toList.map (·.born) = l.map (·.2) := by
  simp [entE, Function.comp_def]

/-- An iterator under way: dl have come. -/
structure MapIt (w : World) (b r : Nat) (l : List (Rec × Nat)) (clock : Nat) (dl : List (Rec × Nat)) : Prop where
  map : w.heap[b]? = some (.map (entE l) clock)
  iter : w.heap[r]? = some (.mapIter (some b) clock (dl.map (·.2)).toArray clock)
  nd : (l.map (·.2)).Nodup
  lt : ∀ e ∈ l, e.2 < clock
  sub : ∀ e ∈ dl, e ∈ l
  dnd : (dl.map (·.2)).Nodup

theorem MapIt.ne {w : World} {b r : Nat} {l dl : List (Rec × Nat)} {clock : Nat} (h : MapIt w b r l clock dl) : r ≠ b := by
  intro e
  have h1 := h.map
  have h2 := h.iter
  rw [e, h1] at h2; cases h2
theorem MapIt.walk {w : World} {b r : Nat} {l dl : List (Rec × Nat)} {clock : Nat} (h : MapIt w b r l clock dl) : ∃ o : Obj, w.heap[r]? = some o ∧ o.isWalk = true := ⟨_, h.iter, rfl⟩
theorem MapIt.of_walks {w w' : World} {b r : Nat} {l dl : List (Rec × Nat)} {clock : Nat} (h : MapIt w b r l clock dl) (hk : KeepsWalks w w') : MapIt w' b r l clock dl :=
  ⟨hk.same b _ h.map rfl, hk.same r _ h.iter rfl, h.nd, h.lt, h.sub, h.dnd⟩
theorem MapIt.left_eq {w : World} {b r : Nat} {l dl : List (Rec × Nat)} {clock : Nat} (h : MapIt w b r l clock dl) : w.rangeLeft b r = (leftOf (entE l) (dl.map (·.2)).toArray).size := by
  simp only [World.rangeLeft, h.map, h.iter]

theorem nodup_of_map {α β : Type} {f : α → β} {l : List α} (h : (l.map f).Nodup) : l.Nodup := (List.pairwise_map.1 h).imp (fun hne e => hne (congrArg f e))

theorem snd_inj {l : List (Rec × Nat)} (hnd : (l.map (·.2)).Nodup) {a b : Rec × Nat} (ha : a ∈ l) (hb : b ∈ l) (h : a.2 = b.2) : a = b := by
  induction l with
  | nil => cases ha
  | cons c l ih =>
    rw [List.map_cons, List.nodup_cons] at hnd
    rcases List.mem_cons.1 ha with ea | ha'
    · rcases List.mem_cons.1 hb with eb | hb'
      · rw [ea, eb]
      · exact (hnd.1 (List.mem_map.2 ⟨b, hb', by rw [← ea]; exact h.symm⟩)).elim
    · rcases List.mem_cons.1 hb with eb | hb'
      · exact (hnd.1 (List.mem_map.2 ⟨a, ha', by rw [← eb]; exact h⟩)).elim
      · exact ih hnd.2 ha' hb'

theorem MapIt.step {w : World} {b r : Nat} {l dl : List (Rec × Nat)} {clock : Nat} (h : MapIt w b r l clock dl) :
    (dl.Perm l ∧ ∀ ty, (Instr.next (.pointer (some ⟨r, 0, none⟩)) false ty).run Tryd.prog w = .ok (.tuple #[.bool false]) w) ∨
    ∃ x n w', (x, n) ∈ l ∧ dl.length < l.length ∧ (∀ ty, (Instr.next (.pointer (some ⟨r, 0, none⟩)) false ty).run Tryd.prog w = .ok (.tuple #[.bool true, dotV x.site x.cnt, recV x]) w') ∧ MapIt w' b r l clock (dl ++ [(x, n)]) ∧
      w.grownBy w' (some r) ∧ w'.heap.size = w.heap.size ∧ w'.rangeLeft b r < w.rangeLeft b r ∧ (Instr.entry (.pointer (some ⟨r, 0, none⟩))).run Tryd.prog w' = .ok (.tuple #[dotV x.site x.cnt, recV x]) w' := by
  have hold : ∀ x ∈ (entE l).toList, x.born < clock := by
    intro e he
    obtain ⟨x, n, hx, rfl⟩ := mem_entE.1 he
    exact h.lt _ hx
  have hbn : ((entE l).toList.map (·.born)).Nodup := by rw [born_entE]; exact h.nd
  have hdn : dl.Nodup := nodup_of_map h.dnd
  have hln : l.Nodup := nodup_of_map h.nd
  by_cases hz : (leftOf (entE l) (dl.map (·.2)).toArray).size = 0
  · refine .inl ⟨?_, fun ty => ?_⟩
    · rw [List.perm_ext_iff_of_nodup hdn hln]
      intro e
      refine ⟨h.sub e, fun he => ?_⟩
      have := all_seen (entE l) _ hz { key := dotV e.1.site e.1.cnt, val := recV e.1, born := e.2 } (mem_entE.2 ⟨e.1, e.2, he, rfl⟩)
      simp only [List.contains_toArray, List.contains_iff_mem, List.mem_map] at this
      obtain ⟨d, hd, hde⟩ := this
      rwa [← snd_inj h.nd (h.sub d hd) he hde]
    · rcases run_next_at (P := Tryd.prog) w ty r b clock clock _ (entE l) clock h.iter h.map hold (Nat.le_refl _) with ⟨_, hrun⟩ | ⟨e, he, _⟩
      · exact hrun
      · exfalso
        have : (leftOf (entE l) (dl.map (·.2)).toArray).toList.length = 0 := by simpa using hz
        rw [List.length_eq_zero_iff] at this
        rw [this] at he; cases he
  · rcases run_next_at (P := Tryd.prog) w 0 r b clock clock _ (entE l) clock h.iter h.map hold (Nat.le_refl _) with ⟨h0, _⟩ | ⟨e, he, w1, hal, hrun⟩
    · exact absurd h0 hz
    · obtain ⟨hem, hes⟩ := mem_left he
      obtain ⟨x, n, hx, rfl⟩ := mem_entE.1 hem
      have hr1 : w1.heap[r]? = some (.mapIter (some b) clock (dl.map (·.2)).toArray clock) := by rcases hal with rfl | rfl <;> exact h.iter
      have hb1 : w1.heap[b]? = some (.map (entE l) clock) := by rcases hal with rfl | rfl <;> exact h.map
      have hset := MapKept.heap_set (o' := .mapIter (some b) clock ((dl.map (·.2)).toArray.push n) clock) hr1
      have hpush : (dl.map (·.2)).toArray.push n = ((dl ++ [(x, n)]).map (·.2)).toArray := by simp
      have hnin : n ∉ dl.map (·.2) := by
        intro hm
        simp only [List.contains_toArray] at hes
        rw [List.contains_eq_mem, decide_eq_false_iff_not] at hes
        exact hes hm
      have hne := h.ne
      have hit : MapIt (setBlock w1 r (.mapIter (some b) clock ((dl.map (·.2)).toArray.push n) clock)) b r l clock (dl ++ [(x, n)]) := by
        refine ⟨(hset.2 b (fun e1 => hne e1.symm)).trans hb1, by rw [← hpush]; exact hset.1, h.nd, h.lt, fun e he => ?_, ?_⟩
        · rcases List.mem_append.1 he with he | he
          · exact h.sub e he
          · rw [List.mem_singleton.1 he]; exact hx
        · rw [List.map_append, List.nodup_append]
          refine ⟨h.dnd, by simp, fun a ha c hc e => ?_⟩
          simp at hc
          subst hc
          exact hnin (e ▸ ha)
      refine .inr ⟨x, n, _, hx, ?_, fun ty => ?_, hit, ?_, ?_, ?_, run_entry_at _ r b clock _ (entE l) clock _ hset.1 hit.map hem hbn⟩
      · have hd2 : (dl ++ [(x, n)]).Nodup := nodup_of_map hit.dnd
        have := List.Nodup.length_le_of_subset hd2 (fun e he => hit.sub e he)
        simp at this; omega
      · have hrun2 : (Instr.next (.pointer (some ⟨r, 0, none⟩)) false ty).run Tryd.prog w = (Instr.next (.pointer (some ⟨r, 0, none⟩)) false 0).run Tryd.prog w := rfl
        rw [hrun2]; exact hrun
      · rcases hal with rfl | rfl <;> exact ⟨rfl, rfl, rfl, by simp [setBlock], fun i _ hi => hset.2 i (fun e1 => hi (by rw [e1]))⟩
      · rcases hal with rfl | rfl <;> simp [setBlock]
      · rw [hit.left_eq, h.left_eq, ← hpush]
        exact left_shrinks (entE l) _ _ he

theorem ld_box (w : World) (x : Rec) : (loadVar 31 ⟨w.heap.size, 0, none⟩).run Tryd.prog (w.alloc (.cells (recCells x).toArray 31)) = .ok (.agg (recCells x).toArray) (w.alloc (.cells (recCells x).toArray 31)) :=
  run_loadVar_mid _ w.heap.size 0 31 (recCells x) _ (range_alloc_new w (recCells x) 31) Tryd.underlying31 rfl (by rw [length_recCells]; kernel_rfl)
theorem rec_one' (x : Rec) : ∀ u ∈ recCells x, u.oneCell' = true := by
  intro u hu
  simp only [recCells, vecCells, idCells, List.mem_cons, List.mem_append, List.mem_map] at hu
  rcases hu with rfl | rfl | ⟨_, _, rfl⟩ | rfl | rfl | ⟨_, _, rfl⟩ <;> rfl
theorem st_box (w : World) (x : Rec) : (storeVar 31 ⟨w.heap.size, 0, none⟩ (.agg (recCells x).toArray)).run Tryd.prog (w.alloc (.cells zeroCells 31)) = .ok () (w.alloc (.cells (recCells x).toArray 31)) :=
  run_store_box w _ _ _ _ rfl (by rw [length_recCells]; rfl) (by kernel_rfl) (rec_one' x)

/-- A map of records behind a header, as it lies. -/
def MapAt (w : World) (m : Option Nat) (l : List (Rec × Nat)) (clock : Nat) : Prop := (m = none ∧ l = []) ∨ ∃ b, m = some b ∧ w.heap[b]? = some (.map (entE l) clock) ∧ (l.map (·.2)).Nodup ∧ ∀ e ∈ l, e.2 < clock

def dn (m : Option Nat) (W wr : World) (l : List (Rec × Nat)) (clock : Nat) (dl : List (Rec × Nat)) : Prop :=
  (m = none ∧ l = [] ∧ dl = [] ∧ wr.heap[W.heap.size]? = some (.mapIter none 0 #[] 0)) ∨ ∃ b, m = some b ∧ MapIt wr b W.heap.size l clock dl

section
attribute [-go_sem] loadVar storeVar
set_option maxRecDepth 100000 in
set_option maxHeartbeats 2000000 in
theorem values_in (F : Fence) (n : Nat) (hf : F.fn 21) (hro : F.round = none) (hn : 1 ≤ n) (l Bm : Nat) (m : Option Nat) (l0 : List (Rec × Nat)) (clock : Nat) (J Jx : List Rec → World → Prop)
    (hY : ∀ pre x W, J pre W → pre.length < l0.length → YieldAt F (n - 1) Tryd.prog l #[recV x] W fun e W' =>
      (e = .returned (.bool true) ∧ J (pre ++ [x]) W' ∧ KeepsWalks W W') ∨ (e = .returned (.bool false) ∧ Jx (pre ++ [x]) W'))
    (W : World) (hJ : AbidesFrom W.heap.size J) (hm : W.cell? ⟨Bm, 0, none⟩ = some (.map m)) (hl : MapAt W m l0 clock) (h0 : J [] W) :
    CallsIn F n Tryd.prog 21 #[.func (.yield l) #[] #[], .pointer (some ⟨Bm, 0, none⟩)] W fun e W' => (∃ v, e = .returned v) ∧
      ((∃ ys, ys.Perm (l0.map (·.1)) ∧ J ys W') ∨ (∃ pre, True ∧ Jx pre W')) := by
  refine callsIn_of_wp Tryd.func21 rfl hf ?_ hro
  simp only [Tryd.ntmps21, List.size_toArray, List.length_cons, List.length_nil, Nat.reduceAdd, Nat.reduceSub, Array.replicate_succ, Array.replicate_zero, List.push_toArray, List.append_toArray, List.nil_append, List.cons_append]
  obtain ⟨w0, hrun, hg0, hd0⟩ : ∃ w0, (Instr.range 45 (.map m)).run Tryd.prog W = .ok (.pointer (some ⟨W.heap.size, 0, none⟩)) w0 ∧ W.grownBy w0 none ∧ dn m W w0 l0 clock [] := by
    rcases hl with ⟨rfl, rfl⟩ | ⟨b, rfl, hb, hnd, hlt⟩
    · exact ⟨_, run_range_nilMap W _ _ _ Tryd.underlying45, World.grownBy_alloc W _ none, .inl ⟨rfl, rfl, rfl, Go.heap_alloc_new W _⟩⟩
    · have hbl : b < W.heap.size := (Array.getElem?_eq_some_iff.1 hb).1
      exact ⟨_, run_range_map W _ _ _ b _ clock Tryd.underlying45 hb, World.grownBy_alloc W _ none, .inr ⟨b, rfl, ((World.grownBy_alloc W _ none).block b hbl (by simp)).trans hb, Go.heap_alloc_new W _, hnd, hlt, (fun _ h => by cases h), by simp⟩⟩
  have hJ0 := hJ [] W w0 none h0 hg0 (fun r e => by cases e)
  have HD := Lib.hid hd0
  have HG := Lib.hid hg0
  clear hd0 hg0 hl
  have hld0 := loadVar_cell (P := Tryd.prog) hm Tryd.underlying45 rfl
  gi_wp2_with fail
  clear hld0
  gi_loopw [4] (fun _ wr => ∃ dl, dn m W wr l0 clock dl ∧ J (dl.map (·.1)) wr) (fun _ wr => match m with | none => 0 | some b => wr.rangeLeft b W.heap.size)
  case atStart => exact ⟨[], HD.out, hJ0⟩
  case round =>
    obtain ⟨dl, hd, hJs⟩ := hrel
    rcases hd with ⟨rfl, rfl, rfl, hit⟩ | ⟨b, rfl, hit⟩
    · have hrn : ∀ ty, (Instr.next (.pointer (some ⟨W.heap.size, 0, none⟩)) false ty).run Tryd.prog wr = .ok (.tuple #[.bool false]) wr := fun ty => by
        simp [Instr.next, getObj, Sem.run, hit]
      gi_wp2
      go_end0
      exact ⟨⟨_, rfl⟩, .inl ⟨[], List.Perm.refl _, hJs⟩⟩
    · rcases hit.step with ⟨hp, hrn⟩ | ⟨x, k, w2, hx, hlen, hrn, hit2, hg2, hs2, hlt2, hen⟩
      · skip
        gi_wp2
        go_end0
        exact ⟨⟨_, rfl⟩, .inl ⟨dl.map (·.1), hp.map _, hJs⟩⟩
      · have hJ2 := hJ _ wr w2 (some W.heap.size) hJs hg2 (fun r e => by cases e; exact ⟨Nat.le_refl _, hit.walk⟩)
        have hJ3 := hJ _ w2 _ none hJ2 (World.grownBy_alloc w2 (.cells (recCells x).toArray 31) none) (fun r e => by cases e)
        obtain ⟨fn, tmps, assign, body, hy, hR⟩ := hY _ x _ hJ3 (by simpa using hlen)
        have hst := st_box w2 x
        have hld := ld_box w2 x
        have HL := Lib.hid hlt2
        unfold dotV recV at hrn hen
        clear hs2 hlt2
        gi_wp2
        refine hR.mono ?_
        rintro e W3 (⟨rfl, hJ4, hk3⟩ | ⟨rfl, hJx3⟩)
        · gi_wp2
          have hk4 : KeepsWalks w2 W3 := (KeepsOthers.walks (KeepsOthers.alloc _ _)).trans hk3
          have hit3 := hit2.of_walks hk4
          go_roundw
          case rel => exact ⟨_, .inr ⟨b, rfl, hit3⟩, by simpa using hJ4⟩
          case measure =>
            have := HL.out
            rw [hit3.left_eq]; rw [hit2.left_eq] at this; exact this
        · gi_wp2
          refine bodyPost_ret (results_none rfl _ _ _) rfl ?_
          exact ⟨⟨_, rfl⟩, .inr ⟨_, trivial, hJx3⟩⟩
end

end Go.Proofs.YtjngckeeoohegaaDoor
