/- The document's Load of a gate. -/
import Derived.Test.YtjngckeeoohegaaDoorRefSame
import Derived.Deep.RegionHeldLaw
import Derived.Deep.AppendLies
import Derived.Deep.MidRow
namespace Go.Proofs.YtjngckeeoohegaaDoor
open Go.RowKit Go.Rel Go.Shelf

/-- The first k records may be, each ahead of the next. -/
def okPre (L : List Rec) (k : Nat) : Prop := ∀ j, j < k → (hj : j < L.length) → recOk L[j] = true ∧ ∀ h : 0 < j, dotCmp (L[j - 1]).site (L[j - 1]).cnt (L[j]).site (L[j]).cnt = -1

theorem owns_gr {w w' : World} {base : Nat} {e : TypeId} {size : Nat} {v : Value} {n : Nat} {xs : List Value} (h : w.ownsRow base e size v n xs) (hg : Gr w w') : w'.ownsRow base e size v n xs := by
  refine ⟨h.1, ?_⟩
  rcases h.2 with h2 | ⟨g, cap, cur, h1, h2, h3, h4⟩
  · exact .inl h2
  · exact .inr ⟨g, cap, cur, h1, h2, hg.heap h3, h4⟩

def recZero : Value := .agg (recCells ⟨0, 0, Vector.replicate 16 0, ⟨#[]⟩, false, id0⟩).toArray
theorem recInfo : (Tryd.prog.info? 31).map (fun i => (i.zero, i.size, i.bytes)) = some (some recZero, 52, 136) := by kernel_rfl
theorem recZero_size : recZero.cells.size = 52 := by kernel_rfl

theorem loadVar_cell {P : Program} {w : World} {t : TypeId} {a : Addr} {v : Value} {d : TypeDesc} (hc : w.cell? a = some v) (hu : P.underlying t = some d) (hd : d.isRow = false) : (loadVar t a).run P w = .ok v w := by
  have hagg : (isAgg t).run P w = .ok false w := by
    unfold isAgg
    rw [Sem.run_bind, run_underlying hu w]
    cases d <;> simp_all [TypeDesc.isRow]
  simp [loadVar, Sem.run_bind, hagg, hc]

theorem foldl_zipIdx : ∀ (l : List Value) (n : Nat) (a : Array Value) (i : Nat), (List.foldl (fun cs x => cs.setIfInBounds x.2 x.1) a (l.zipIdx n))[i]? = if n ≤ i ∧ i < n + l.length ∧ i < a.size then l[i - n]? else a[i]?
  | [], n, a, i => by
    have : ¬ (n ≤ i ∧ i < n + 0 ∧ i < a.size) := by omega
    simp only [List.zipIdx_nil, List.foldl_nil, List.length_nil, if_neg this]
  | v :: l, n, a, i => by
    rw [List.zipIdx_cons, List.foldl_cons, foldl_zipIdx l (n + 1)]
    simp only [Array.size_setIfInBounds, List.length_cons]
    by_cases h : n + 1 ≤ i ∧ i < n + 1 + l.length ∧ i < a.size
    · rw [if_pos h, if_pos (by omega)]
      have e : i - n = (i - (n + 1)) + 1 := by omega
      rw [e, List.getElem?_cons_succ]
    · rw [if_neg h]
      by_cases e : i = n
      · subst e
        by_cases hs : i < a.size
        · rw [if_pos (by omega)]; simp [hs]
        · rw [if_neg (by omega)]
          simp [Array.getElem?_eq_none (Nat.le_of_not_lt hs), hs]
      · rw [if_neg (by omega), Array.getElem?_setIfInBounds_ne (Ne.symm e)]

theorem foldl_all (l : List Value) (a : Array Value) (h : a.size = l.length) : List.foldl (fun cs x => cs.setIfInBounds x.2 x.1) a l.zipIdx = l.toArray := by
  apply Array.ext_getElem?
  intro i
  rw [foldl_zipIdx]
  by_cases hi : i < l.length
  · rw [if_pos (by omega)]; simp
  · rw [if_neg (by omega), Array.getElem?_eq_none (by omega)]
    simp [hi]

/-- One record laid into a row of its own. -/
theorem fold_rec (x : Rec) : List.foldl (fun cs x => cs.setIfInBounds x.2 x.1) #[.int .i64 0, .int .i64 0, .int .u32 0, .int .u32 0, .int .u32 0, .int .u32 0, .int .u32 0, .int .u32 0, .int .u32 0, .int .u32 0, .int .u32 0, .int .u32 0, .int .u32 0, .int .u32 0, .int .u32 0, .int .u32 0, .int .u32 0, .int .u32 0, .string ⟨#[]⟩, .bool false, .int .u8 0, .int .u8 0, .int .u8 0, .int .u8 0, .int .u8 0, .int .u8 0, .int .u8 0, .int .u8 0, .int .u8 0, .int .u8 0, .int .u8 0, .int .u8 0, .int .u8 0, .int .u8 0, .int .u8 0, .int .u8 0, .int .u8 0, .int .u8 0, .int .u8 0, .int .u8 0, .int .u8 0, .int .u8 0, .int .u8 0, .int .u8 0, .int .u8 0, .int .u8 0, .int .u8 0, .int .u8 0, .int .u8 0, .int .u8 0, .int .u8 0, .int .u8 0] (recCells x).zipIdx = (recCells x).toArray :=
  foldl_all _ _ (by rw [length_recCells]; rfl)

theorem owns_set {w : World} {base : Nat} {e : TypeId} {size : Nat} {v : Value} {n : Nat} {xs : List Value} (h : w.ownsRow base e size v n xs) (a : Addr) (u : Value) (ha : v.ownBlock ≠ some a.block) : (w.setCell a u).ownsRow base e size v n xs := by
  refine ⟨h.1, ?_⟩
  rcases h.2 with h2 | ⟨g, cap, cur, rfl, h2, h3, h4⟩
  · exact .inl h2
  · refine .inr ⟨g, cap, cur, rfl, h2, ?_, h4⟩
    rw [Below.heap_setCell _ _ _ g (fun e => ha (by rw [← e]; rfl))]; exact h3

theorem flat_at : ∀ (L : List Rec) (k j : Nat) (hk : k < L.length) (_ : j < 52), (L.flatMap recCells)[k * 52 + j]? = (recCells L[k])[j]?
  | x :: L, 0, j, _, hj => by
    rw [List.flatMap_cons, List.getElem?_append_left (by rw [length_recCells]; omega)]; simp
  | x :: L, k + 1, j, hk, hj => by
    rw [List.flatMap_cons, List.getElem?_append_right (by rw [length_recCells]; omega), length_recCells]
    have e : (k + 1) * 52 + j - 52 = k * 52 + j := by omega
    rw [e]
    exact flat_at L k j (by simpa using hk) hj

theorem recs_owns {w : World} {base : Nat} {e : TypeId} {v : Value} {L : List Rec} (h : w.ownsRow base e 52 v L.length (L.flatMap recCells)) : Recs w v L := by
  rcases h.2 with ⟨rfl, h0⟩ | ⟨g, cap, cur, rfl, _, h3, _, _, _, h4⟩
  · exact ⟨none, 0, by rw [h0], fun k hk => by omega⟩
  · refine ⟨some ⟨g, 0, none⟩, cap, rfl, fun k hk => ⟨g, 0, rfl, fun j u hj => ?_⟩⟩
    have hj2 : j < 52 := by have := (List.getElem?_eq_some_iff.1 hj).1; simpa using this
    have h5 := flat_at L k j hk hj2
    rw [hj, ← h4, List.getElem?_take] at h5
    split at h5
    · have e : 0 + k * 52 + j = k * 52 + j := by omega
      rw [e]
      exact cell_of_heap h3 (by simpa using h5)
    · cases h5

theorem okPre_succ {L : List Rec} {k : Nat} (hk : k < L.length) (h : okPre L k) (h1 : recOk L[k] = true) (h2 : ∀ h : 0 < k, dotCmp (L[k - 1]).site (L[k - 1]).cnt (L[k]).site (L[k]).cnt = -1) : okPre L (k + 1) := by
  intro j hj hjl
  rcases Nat.lt_succ_iff_lt_or_eq.1 hj with h3 | rfl
  · exact h j h3 hjl
  · exact ⟨h1, h2⟩

/-- What the loop's invariant is behind the append and the store. -/
theorem load_step {w W w1 : World} {L : List Rec} {k g cap : Nat} {v u : Value} {x : Rec} (hk : k < L.length) (hx : L[k] = x) (hGA : Gr w W) (hown : W.ownsRow w.heap.size 31 52 v k ((L.take k).flatMap recCells)) (hlt : w.heap.size < W.heap.size)
    (hgrow : W.grownBy w1 v.ownBlock) (hown2 : w1.ownsRow w.heap.size 31 52 (.slice (some ⟨g, 0, none⟩) (k + 1) cap) (k + 1) ((L.take k).flatMap recCells ++ recCells x)) (hg : g ≠ w.heap.size)
    (hc : w1.cell? ⟨w.heap.size, 0, none⟩ = some u) (hf : w1.frozen? ⟨w.heap.size, 0, none⟩ = false) :
    Gr w (w1.setCell ⟨w.heap.size, 0, none⟩ (.slice (some ⟨g, 0, none⟩) (k + 1) cap)) ∧ w.heap.size < (w1.setCell ⟨w.heap.size, 0, none⟩ (.slice (some ⟨g, 0, none⟩) (k + 1) cap)).heap.size ∧
      (w1.setCell ⟨w.heap.size, 0, none⟩ (.slice (some ⟨g, 0, none⟩) (k + 1) cap)).cell? ⟨w.heap.size, 0, none⟩ = some (.slice (some ⟨g, 0, none⟩) (k + 1) cap) ∧
      (w1.setCell ⟨w.heap.size, 0, none⟩ (.slice (some ⟨g, 0, none⟩) (k + 1) cap)).frozen? ⟨w.heap.size, 0, none⟩ = false ∧
      (Value.slice (some ⟨g, 0, none⟩) (k + 1) cap).ownBlock ≠ some w.heap.size ∧
      (w1.setCell ⟨w.heap.size, 0, none⟩ (.slice (some ⟨g, 0, none⟩) (k + 1) cap)).ownsRow w.heap.size 31 52 (.slice (some ⟨g, 0, none⟩) (k + 1) cap) (k + 1) ((L.take (k + 1)).flatMap recCells) := by
  have hB1 : Below w.heap.size w w1 := Below.grown hGA hgrow hGA.size (fun j hj => (hown.lt j hj).1)
  have hb := World.block_lt_of_cell? w1 ⟨w.heap.size, 0, none⟩ hc
  have hob : (Value.slice (some ⟨g, 0, none⟩) (k + 1) cap).ownBlock ≠ some w.heap.size := fun e => hg (by simpa [Value.ownBlock] using e)
  refine ⟨Below.setCell hB1 (Nat.le_refl _) _, by rw [World.size_setCell]; exact hb, World.cell?_setCell_same _ _ _ hc, ?_, hob, ?_⟩
  · rw [World.frozen?_setCell]; exact hf
  · rw [List.take_succ_eq_append_getElem hk, List.flatMap_append, hx]
    have e : [x].flatMap recCells = recCells x := by simp
    rw [e]
    exact owns_set hown2 _ _ hob

section
attribute [-go_sem] loadVar
attribute [local go_sem] fold_rec
set_option maxRecDepth 100000 in
set_option maxHeartbeats 4000000 in
theorem refLoad_any (L : List Rec) (u : Value) (w : World) (hu : Recs w u L) (hl : L.length ≤ 40) (href : ∀ x ∈ L, x.ref.size ≤ 1000) :
    Calls Tryd.prog 5 #[u] w fun e w' => Gr w w' ∧
      ((okPre L L.length ∧ ∃ v, e = .returned (.tuple #[.pointer (some ⟨w.heap.size, 0, none⟩), .int .i64 0]) ∧ w'.cell? ⟨w.heap.size, 0, none⟩ = some v ∧ w'.ownsRow w.heap.size 31 52 v L.length (L.flatMap recCells)) ∨
       (¬ okPre L L.length ∧ e = .returned (.tuple #[.pointer none, .int .i64 220]))) := by
  obtain ⟨A, c, rfl, hA⟩ := hu
  obtain ⟨n, hn⟩ : ∃ n, L.length = n := ⟨_, rfl⟩
  have HL := Lib.hid hn
  rw [hn] at hl ⊢
  clear hn
  go_enter Tryd.func5, Tryd.ntmps5
  go_wp2
  go_loopw [5] (fun i wr => ∃ (k : Nat) (v : Value), k ≤ n ∧ i = .int .i64 k ∧ okPre L k ∧ Gr w wr ∧ w.heap.size < wr.heap.size ∧ wr.cell? ⟨w.heap.size, 0, none⟩ = some v ∧ wr.frozen? ⟨w.heap.size, 0, none⟩ = false ∧
      v.ownBlock ≠ some w.heap.size ∧ wr.ownsRow w.heap.size 31 52 v k ((L.take k).flatMap recCells)) (fun i _ => n - (intOf i).toNat)
  case atStart =>
    refine ⟨0, .slice none 0 0, Nat.zero_le _, rfl, fun j h => by omega, Gr.alloc (Gr.refl w) _, by simp, by simp, by simp, by simp [Value.ownBlock], World.ownsRow_nil _ _ _ _⟩
  case round =>
    obtain ⟨k, v, hk, rfl, hpre, hG, hlt0, hcv, hfv, hnb, hown⟩ := hrel
    by_cases hlt : k < n
    · have hl1 : k < L.length := by rw [HL.out]; exact hlt
      obtain ⟨b1, o1, rfl, hr1⟩ := hA k hl1
      have hrs := href _ (List.getElem_mem hl1)
      obtain ⟨j, hj⟩ : ∃ j, j = k - 1 := ⟨_, rfl⟩
      have hjn : j < n := by omega
      have hjL : j < L.length := by omega
      have hcj : 0 < k → IntKind.i64.wrap ((k : Int) - 1) = (j : Int) := fun h => by rw [IntWalk.i64_in _ (by omega)]; omega
      obtain ⟨y, hry, hyk⟩ : ∃ y : Rec, (0 < k → w.rangeAt b1 (o1 + j * 52) (recCells y)) ∧ ∀ h : 0 < k, y = L[j] := by
        by_cases h : 0 < k
        · obtain ⟨b2, o2, e, hr2⟩ := hA j hjL
          cases e
          exact ⟨_, fun _ => hr2, fun _ => rfl⟩
        · exact ⟨L[k], fun h' => absurd h' h, fun h' => absurd h' h⟩
      have hchk : ∀ W, Ret Tryd.prog 11 #[recV L[k]] W fun v _ => v = .int .i64 (recErr L[k]) := fun W => refRecordCheck_any _ W hrs
      generalize hx : L[k] = x at *
      have HX := Lib.hid hx
      have HY := Lib.hid hyk
      have HP := Lib.hid hpre
      have HJ := Lib.hid hj
      clear hA hx hyk hpre hj
      go_wp2_with fail
      refine wp_region_steps (by kernel_rfl) (by kernel_rfl) rfl ?_
      simp only [List.map_cons, List.map_nil, stepOf, Oper.looksAt, gd, Op.operands, Call.operands, List.filterMap_cons, List.filterMap_nil, List.append_nil, List.append_toArray, List.cons_append, List.nil_append, List.toList_toArray, Option.map_some, Option.map_none, Option.bind_some, Option.toList, List.getElem?_toArray, List.getElem?_cons_succ, List.getElem?_cons_zero]
      repeat (
          apply sWalk_eq
          · intro f W hW hE
            have he := evalF_all f
            simp only [EnvAt, slotP, Option.some.injEq, Nat.reduceEqDiff, reduceCtorEq, if_true, if_false, and_true, Array.getD_eq_getD_getElem?, List.getElem?_toArray, List.getElem?_cons_succ, List.getElem?_cons_zero, Option.getD_some] at hE
            have hra := hW.range (hG.range hr1)
            have hrd := (recParts hra).dot
            first
              | exact stepOb_off (by first | exact hE | exact hE.2 | exact hE.2.2 | exact hE.2.2.2 | exact hE.2.2.2.2 | exact hE.2.2.2.2.2 | exact hE.2.2.2.2.2.2) (by decide)
              | exact stepOb_undef (by first | exact hE | exact hE.2 | exact hE.2.2 | exact hE.2.2.2 | exact hE.2.2.2.2 | exact hE.2.2.2.2.2 | exact hE.2.2.2.2.2.2)
              | (first | refine stepOb_plain ?_ | refine stepOb_on (by first | exact hE | exact hE.2 | exact hE.2.2 | exact hE.2.2.2 | exact hE.2.2.2.2 | exact hE.2.2.2.2.2 | exact hE.2.2.2.2.2.2) ?_ | (apply stepOb_gd2 (by first | exact hE | exact hE.2 | exact hE.2.2 | exact hE.2.2.2 | exact hE.2.2.2.2 | exact hE.2.2.2.2.2 | exact hE.2.2.2.2.2.2); intro hg hg2; (try simp only [hg, hg2, true_and, if_true, reduceCtorEq, if_false, Bool.not_eq_true] at hE)) | (apply stepOb_gd (by first | exact hE | exact hE.2 | exact hE.2.2 | exact hE.2.2.2 | exact hE.2.2.2.2 | exact hE.2.2.2.2.2 | exact hE.2.2.2.2.2.2); intro hg; (try simp only [hg, true_and, if_true, reduceCtorEq, if_false, Bool.not_eq_true] at hE))
                 try (have hk1 : 0 < k := by simpa using hg2)
                 try (have hcw := hcj hk1; simp only [hcw] at hE)
                 try (have hrp := (recParts (hW.range (hG.range (hry hk1)))).dot)
                 first
                   | (with_reducible exact relUpon_or hE.1 hE.2)
                   | (with_reducible exact relUpon_and hE.1 hE.2)
                   | (with_reducible exact relUpon_or hE.1 hE.2.1)
                   | (with_reducible exact relUpon_and hE.1 hE.2.1)
                   | (with_reducible exact ld_rec hE hra)
                   | (with_reducible exact ld_dot hE.1 hrd)
                   | (with_reducible exact ld_dot hE.1 hrp)
                   | (simp only [bare]; go_simp; simp only [relUpon]; first | exact ⟨Gr.refl _, rfl⟩ | (exact ⟨Gr.refl _, hchk _⟩) | (exact ⟨Gr.refl _, ref05Compare_any _ _ _ _ _⟩)))
          )
      refine sWalk_nil (fun W hW => ?_)
      simp only [List.reverse_cons, List.reverse_nil, List.nil_append, List.cons_append, RelFin]
      iterate 24 (intro _ hx; clear hx)
      iterate 1 (rintro _ rfl)
      go_simp
      have hGW : Gr w W := hG.trans hW
      have hcv1 := hW.cell hcv
      have hfv1 := hW.frozen hcv hfv
      have hown1 := owns_gr hown hW
      have hra := hGW.range hr1
      have hlt1 : w.heap.size < W.heap.size := Nat.lt_of_lt_of_le hlt0 hW.size
      have hb1 := World.block_lt_of_cell? w _ (hr1 0 _ rfl)
      cases hcond : (recErr x != 0 || decide (0 < k) && dotCmp y.site y.cnt x.site x.cnt != -1)
      · have HC := Lib.hid hcond
        clear hcond hry hchk hr1 hcj hW hcv hfv hown hG hrs hlt0 href
        have hld : (loadVar 31 ⟨b1, o1 + k * 52, none⟩).run Tryd.prog W.drew = .ok (recV x) W.drew := run_loadVar_mid W.drew b1 (o1 + k * 52) 31 (recCells x) _ hra Tryd.underlying31 rfl (by rw [length_recCells]; kernel_rfl)
        have hlG : (loadVar 22 ⟨w.heap.size, 0, none⟩).run Tryd.prog W.drew = .ok v W.drew := loadVar_cell (w := W.drew) hcv1 Tryd.underlying22 rfl
        have hlG2 : (loadVar 22 ⟨w.heap.size, 0, none⟩).run Tryd.prog (W.alloc (.cells (recCells x).toArray 31)).drew = .ok v (W.alloc (.cells (recCells x).toArray 31)).drew := loadVar_cell (Gr.cell (Gr.drew (Gr.alloc (Gr.refl W) _)) hcv1) Tryd.underlying22 rfl
        have hne : ¬ W.heap.size = w.heap.size := by omega
        have hone : ∀ u ∈ recCells x, u.oneCell' = true := by
          intro u hu
          simp only [recCells, vecCells, idCells, List.mem_cons, List.mem_append, List.mem_map] at hu
          rcases hu with rfl | rfl | ⟨_, _, rfl⟩ | rfl | rfl | ⟨_, _, rfl⟩ <;> rfl
        have hm1 : k + 1 ≤ maxLen := by unfold maxLen; omega
        have hm2 : (k + 1) * 136 ≤ 140737488355328 := by omega
        have hbase : w.heap.size ≤ (W.alloc (.cells (recCells x).toArray 31)).drew.heap.size := by
          show _ ≤ (W.heap.push _).size
          simp; omega
        have hlen52 : (recCells x).length = 1 * 52 := by simp
        have hownA : (W.alloc (.cells (recCells x).toArray 31)).drew.ownsRow w.heap.size 31 52 v k ((L.take k).flatMap recCells) := owns_gr (hown1.alloc _) (Gr.drew (Gr.refl _))
        have hnews := World.news_of_block (w := (W.alloc (.cells (recCells x).toArray 31)).drew) (cs := (recCells x).toArray) (t := 31) (fr := (0, 0)) (heap_alloc_new W (.cells (recCells x).toArray 31))
        have hgA : Gr W (W.alloc (.cells (recCells x).toArray 31)).drew := Gr.drew (Gr.alloc (Gr.refl W) _)
        have hcA := hgA.cell hcv1
        have hfA := hgA.frozen hcv1 hfv1
        have hltA : w.heap.size < ((W.alloc (.cells (recCells x).toArray 31)).drew).heap.size := Nat.lt_of_lt_of_le hlt1 hgA.size
        have HA := Lib.hid hcA
        have HF := Lib.hid hfA
        clear hcA hfA
        obtain ⟨i0, hi, hi2⟩ := Option.map_eq_some_iff.1 recInfo
        simp only [Prod.mk.injEq] at hi2
        obtain ⟨hz0, hz1, hz2⟩ := hi2
        go_wp2_with fail
        go_region_law ((refine step_append_lies _ (by rfl) _ _ _ (by rfl) w.heap.size 31 i0 recZero 52 136 Tryd.underlying22 hi hz0 hz1 hz2 recZero_size (by omega) v k _ (by rfl) hownA ⟨W.heap.size, 0, none⟩ 1 1 (recCells x) (by rfl) hlen52 hnews hone (by omega) hm1 hm2 hbase (W.heap.size + 1) (by simp) ?_; intro g cap w1 hown2 hgrow hat hlt2; have hcG := (hgrow.cell_far ⟨w.heap.size, 0, none⟩ hltA (Ne.symm hnb)).trans HA.out; have hfG := (hgrow.frozen_far ⟨w.heap.size, 0, none⟩ hltA (Ne.symm hnb)).trans HF.out))
        all_goals
          have hgne : g ≠ w.heap.size := by
            rcases hat with hat | hat
            · intro e; exact hnb (by rw [hat, e])
            · omega
        all_goals have hls := load_step hl1 HX.out (hGW.trans hgA) hownA hltA hgrow hown2 hgne hcG hfG
        all_goals
          have hokk : okPre L (k + 1) := by
            have hc := HC.out
            rw [Bool.or_eq_false_iff] at hc
            have hx1 : recOk x = true := by
              have := hc.1
              unfold recErr at this
              cases hr : recOk x
              · rw [hr] at this; simp at this
              · rfl
            refine okPre_succ hl1 HP.out (by rw [HX.out]; exact hx1) (fun h => ?_)
            have h3 := hc.2
            have h4 := HY.out h
            have h5 := HJ.out
            subst h5
            rw [← h4, HX.out]
            simpa [h] using h3
        all_goals have HO := Lib.hid hokk
        all_goals have HS := Lib.hid hls
        all_goals clear hls hokk hgrow hown2 hcG hfG hld hlG hlG2 hownA hnews HA HF hcv1 hfv1 hown1 hra
        all_goals go_wp2
        all_goals (
          go_roundw
          case rel => exact ⟨k + 1, _, by omega, by simp, HO.out, HS.out.1, HS.out.2.1, HS.out.2.2.1, HS.out.2.2.2.1, HS.out.2.2.2.2.1, HS.out.2.2.2.2.2⟩
          case measure => simp [intOf]; omega)
      · have hbad : ¬ okPre L n := by
          intro hp
          obtain ⟨h1, h2⟩ := hp k hlt hl1
          have h3 := HX.out
          rw [Bool.or_eq_true] at hcond
          rcases hcond with hc | hc
          · rw [h3] at h1
            unfold recErr at hc
            rw [h1] at hc; simp at hc
          · rw [Bool.and_eq_true, decide_eq_true_iff] at hc
            have h4 := h2 hc.1
            have h5 := HY.out hc.1
            have h6 := HJ.out
            subst h6
            rw [← h5, h3] at h4
            rw [h4] at hc
            simp at hc
        have HB := Lib.hid hbad
        clear hcond hry hchk hr1 hcj hW hcv hfv hown hG hrs hlt0 href hra hcv1 hfv1 hown1 hbad
        go_wp2
        refine bodyPost_ret (results_tmp2 rfl _ _ _) rfl ?_
        exact ⟨hGW, .inr ⟨HB.out, rfl⟩⟩
    · obtain rfl : k = n := by omega
      have hr := HL.out
      have hrec : wr.ownsRow w.heap.size 31 52 v k (L.flatMap recCells) := by
        rw [List.take_of_length_le (by omega)] at hown
        exact hown
      have HR := Lib.hid hrec
      have HP := Lib.hid hpre
      clear hown hrec hpre hA hr
      go_wp2
      refine bodyPost_ret (results_tmp2 rfl _ _ _) rfl ?_
      exact ⟨hG, .inl ⟨HP.out, v, rfl, hcv, HR.out⟩⟩

end

end Go.Proofs.YtjngckeeoohegaaDoor
