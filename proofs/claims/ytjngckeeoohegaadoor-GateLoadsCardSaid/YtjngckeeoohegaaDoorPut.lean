/- gate.Put. -/
import Derived.Test.YtjngckeeoohegaaDoorMap
import Derived.Deep.RegionLaw
import Derived.Laws.Cover3
import Derived.Carry
namespace Go.Proofs.YtjngckeeoohegaaDoor
open Go.RowKit Go.Rel Go.Shelf

/-- The records that wait, as the map has them. -/
def entriesOf (L : List Rec) : Array MapEntry := (L.zipIdx.map fun (x, i) => ({ key := dotV x.site x.cnt, val := recV x, born := i } : MapEntry)).toArray
theorem noDot_entries {L : List Rec} {s c : Int} (h : ∀ x ∈ L, ¬ (s = x.site ∧ c = x.cnt)) : NoDot (entriesOf L) s c := by
  intro e he
  simp only [entriesOf, List.mem_map] at he
  obtain ⟨⟨x, i⟩, hx, rfl⟩ := he
  exact ⟨x.site, x.cnt, rfl, h x (by
    have h3 := (List.mem_zipIdx hx).2.2
    rw [h3]
    exact List.getElem_mem _)⟩
theorem entries_push (L : List Rec) (x : Rec) : (entriesOf L).push { key := dotV x.site x.cnt, val := recV x, born := L.length } = entriesOf (L ++ [x]) := by
  simp [entriesOf, List.zipIdx_append]

/-- A gate, as it lies: its box G, and the map behind it, neither below base. -/
def GateAt (w : World) (base G : Nat) (L : List Rec) : Prop := base ≤ G ∧ w.frozen? ⟨G, 0, none⟩ = false ∧
  ((L = [] ∧ w.cell? ⟨G, 0, none⟩ = some (.map none)) ∨ ∃ r, base ≤ r ∧ w.cell? ⟨G, 0, none⟩ = some (.map (some r)) ∧ w.heap[r]? = some (.map (entriesOf L) L.length))
theorem GateAt.gr {w w' : World} {base G : Nat} {L : List Rec} (h : GateAt w base G L) (hg : Gr w w') : GateAt w' base G L := by
  obtain ⟨h1, h2, h3⟩ := h
  rcases h3 with ⟨h3, h4⟩ | ⟨r, h3, h4, h5⟩
  · exact ⟨h1, hg.frozen h4 h2, .inl ⟨h3, hg.cell h4⟩⟩
  · exact ⟨h1, hg.frozen h4 h2, .inr ⟨r, h3, hg.cell h4, hg.heap h5⟩⟩

abbrev zeroCells : Array Value := #[.int .i64 0, .int .i64 0, .int .u32 0, .int .u32 0, .int .u32 0, .int .u32 0, .int .u32 0, .int .u32 0, .int .u32 0, .int .u32 0, .int .u32 0, .int .u32 0, .int .u32 0, .int .u32 0, .int .u32 0, .int .u32 0, .int .u32 0, .int .u32 0, .string ⟨#[]⟩, .bool false, .int .u8 0, .int .u8 0, .int .u8 0, .int .u8 0, .int .u8 0, .int .u8 0, .int .u8 0, .int .u8 0, .int .u8 0, .int .u8 0, .int .u8 0, .int .u8 0, .int .u8 0, .int .u8 0, .int .u8 0, .int .u8 0, .int .u8 0, .int .u8 0, .int .u8 0, .int .u8 0, .int .u8 0, .int .u8 0, .int .u8 0, .int .u8 0, .int .u8 0, .int .u8 0, .int .u8 0, .int .u8 0, .int .u8 0, .int .u8 0, .int .u8 0, .int .u8 0]
theorem recZero_eq : recZero = .agg zeroCells := by kernel_rfl
theorem below_cells {B b : Nat} {a : World} (hb : B ≤ b) : ∀ (vs : List Value) (o : Nat) (w : World), Below B a w → Below B a (w.setCells b o vs)
  | [], _, _, h => h
  | v :: r, o, w, h => below_cells hb r (o + 1) _ (h.setCell (by exact hb) v)
/-- The zero record laid into a fresh box. -/
theorem store_fresh (W : World) (h : Nat) (hh : W.heap.size = h) : ∃ W3, (storeVar 31 ⟨h, 0, none⟩ recZero).run Tryd.prog ((W.alloc (.cells zeroCells 31)).drew) = .ok () W3 ∧ Gr W W3 ∧ W3.heap.size = h + 1 := by
  subst hh
  have hb := heap_alloc_new W (.cells zeroCells 31)
  have hsz : ∀ (vs : List Value) (o : Nat) (w : World), (w.setCells W.heap.size o vs).heap.size = w.heap.size := fun vs => by
    induction vs with
    | nil => intro o w; rfl
    | cons v r ih => intro o w; exact (ih (o + 1) _).trans (World.size_setCell ..)
  refine ⟨((W.alloc (.cells zeroCells 31)).drew).setCells W.heap.size 0 zeroCells.toList, ?_, ?_, ?_⟩
  · rw [recZero_eq]
    refine run_storeVar_mid _ W.heap.size 0 31 zeroCells (fun j hj => ⟨?_, ?_⟩) (by kernel_rfl) (by kernel_rfl)
    · have h2 : zeroCells[0 + j]? = some zeroCells[0 + j] := by simp at hj ⊢
      have : ((W.alloc (.cells zeroCells 31)).drew).cell? ⟨W.heap.size, 0 + j, none⟩ = some zeroCells[0 + j] := cell_of_heap (W := (W.alloc (.cells zeroCells 31)).drew) hb h2
      rw [this]; rfl
    · have hb' : ((W.alloc (.cells zeroCells 31)).drew).heap[W.heap.size]? = some (.cells zeroCells 31 (0, 0)) := hb
      unfold World.frozen?
      simp only [hb']
      simp
  · exact below_cells (Nat.le_refl _) _ _ _ (Below.drew (Below.alloc (Below.refl _ _) (Nat.le_refl _) _))
  · rw [hsz]; show (W.alloc _).heap.size = _; simp

theorem eql_map_nil {P : Program} (w : World) (t k e : TypeId) (m : Option Nat) (h : P.underlying t = some (.map k e)) : (binOp .eql t (.map m) (.map none)).run P w = .ok (.bool m.isNone) w := by
  simp only [binOp]
  simp [run_equal_map_nil w t k e m h]
theorem eql_map_gate (w : World) (m : Option Nat) : (binOp .eql 45 (.map m) (.map none)).run Tryd.prog w = .ok (.bool m.isNone) w := eql_map_nil w _ _ _ m Tryd.underlying45

/-- A record more in the map. -/
theorem put_gate {w W : World} {base G r : Nat} {L : List Rec} {x : Rec} (hg : Gr w W) (hb : base ≤ G) (hbr : base ≤ r) (hf : w.frozen? ⟨G, 0, none⟩ = false) (hc : w.cell? ⟨G, 0, none⟩ = some (.map (some r))) (hm : w.heap[r]? = some (.map (entriesOf L) L.length)) :
    Below base w (W.putObj r (.map ((entriesOf L).push { key := .agg #[.int .i64 x.site, .int .i64 x.cnt], val := .agg (recCells x).toArray, born := L.length }) (L.length + 1))) ∧
      GateAt (W.putObj r (.map ((entriesOf L).push { key := .agg #[.int .i64 x.site, .int .i64 x.cnt], val := .agg (recCells x).toArray, born := L.length }) (L.length + 1))) base G (L ++ [x]) := by
  have hne : G ≠ r := by
    rintro rfl
    unfold World.cell? at hc
    rw [hm] at hc
    cases hc
  have hbl := World.block_lt_of_cell? w _ hc
  have hbw : base ≤ w.heap.size := Nat.le_trans hb (Nat.le_of_lt hbl)
  have hmW := hg.heap hm
  have hrl : r < W.heap.size := (Array.getElem?_eq_some_iff.1 hmW).1
  refine ⟨Below.trans (Below.mono hg hbw) ⟨rfl, rfl, rfl, by simp, fun k hk => World.putObj_heap_other (by omega)⟩, hb, ?_, .inr ⟨r, hbr, ?_, ?_⟩⟩
  · rw [World.frozen?_of_block (w := W) (World.putObj_heap_other hne)]; exact hg.frozen hc hf
  · rw [World.cell?_of_block (w := W) (World.putObj_heap_other hne)]; exact hg.cell hc
  · rw [World.putObj_heap_same hrl, ← entries_push]
    simp [dotV, recV]

theorem range_set {w : World} {b o : Nat} {cs : List Value} (h : w.rangeAt b o cs) (a : Addr) (u : Value) (hne : b ≠ a.block) : (w.setCell a u).rangeAt b o cs := fun j v hv => by
  rw [World.cell?_of_block (w := w) (Below.heap_setCell w a u b hne)]
  exact h j v hv

/-- The first record: the map is made, and laid into the box. -/
theorem put_gate0 {w W : World} {base G : Nat} {x : Rec} {mv : Value} (hg : Gr w W) (hb : base ≤ G) (hf : w.frozen? ⟨G, 0, none⟩ = false) (hc : w.cell? ⟨G, 0, none⟩ = some mv) :
    Below base w ((((W.alloc (.map #[] 0)).setCell ⟨G, 0, none⟩ (.map (some W.heap.size))).drew).putObj W.heap.size (.map ((#[] : Array MapEntry).push { key := .agg #[.int .i64 x.site, .int .i64 x.cnt], val := .agg (recCells x).toArray, born := 0 }) (0 + 1))) ∧
      GateAt ((((W.alloc (.map #[] 0)).setCell ⟨G, 0, none⟩ (.map (some W.heap.size))).drew).putObj W.heap.size (.map ((#[] : Array MapEntry).push { key := .agg #[.int .i64 x.site, .int .i64 x.cnt], val := .agg (recCells x).toArray, born := 0 }) (0 + 1))) base G ([] ++ [x]) := by
  have hbl : G < w.heap.size := World.block_lt_of_cell? w _ hc
  have hbw : base ≤ w.heap.size := Nat.le_trans hb (Nat.le_of_lt hbl)
  have hWs := hg.size
  have hne : G ≠ W.heap.size := by omega
  have hga : Gr w (W.alloc (.map #[] 0)) := Gr.alloc hg _
  have hB : Below base w (((W.alloc (.map #[] 0)).setCell ⟨G, 0, none⟩ (.map (some W.heap.size))).drew) := Below.drew (Below.setCell (Below.mono hga hbw) hb _)
  have hs : (((W.alloc (.map #[] 0)).setCell ⟨G, 0, none⟩ (.map (some W.heap.size))).drew).heap.size = W.heap.size + 1 := by
    show ((W.alloc (.map #[] 0)).setCell ⟨G, 0, none⟩ (.map (some W.heap.size))).heap.size = _
    simp
  refine ⟨Below.trans hB ⟨rfl, rfl, rfl, by simp, fun k hk => World.putObj_heap_other (by omega)⟩, hb, ?_, .inr ⟨W.heap.size, by omega, ?_, ?_⟩⟩
  · rw [World.frozen?_of_block (w := ((W.alloc (.map #[] 0)).setCell ⟨G, 0, none⟩ (.map (some W.heap.size))).drew) (World.putObj_heap_other hne)]
    show ((W.alloc (.map #[] 0)).setCell ⟨G, 0, none⟩ (.map (some W.heap.size))).frozen? _ = _
    rw [World.frozen?_setCell]; exact hga.frozen hc hf
  · rw [World.cell?_of_block (w := ((W.alloc (.map #[] 0)).setCell ⟨G, 0, none⟩ (.map (some W.heap.size))).drew) (World.putObj_heap_other hne)]
    show ((W.alloc (.map #[] 0)).setCell ⟨G, 0, none⟩ (.map (some W.heap.size))).cell? _ = _
    exact World.cell?_setCell_same _ _ _ (hga.cell hc)
  · rw [World.putObj_heap_same (by omega)]
    simp [entriesOf, dotV, recV]

section
attribute [-go_sem] loadVar storeVar
attribute [local go_sem] eql_map_gate run_makeMap
set_option maxRecDepth 100000 in
set_option maxHeartbeats 4000000 in
theorem put_any (x : Rec) (L : List Rec) (base G : Nat) (w : World) (hG : GateAt w base G L) (hE : Env w) (hs : x.ref.size ≤ 1000) (hd : ∀ y ∈ L, ¬ (x.site = y.site ∧ x.cnt = y.cnt)) :
    Calls Tryd.prog 10 #[.pointer (some ⟨G, 0, none⟩), recV x] w fun e w' => Below base w w' ∧ ((recOk x = true ∧ e = .returned (.int .i64 0) ∧ GateAt w' base G (L ++ [x])) ∨ (recOk x = false ∧ e = .returned (.int .i64 220) ∧ GateAt w' base G L)) := by
  unfold recV
  go_enter Tryd.func10, Tryd.ntmps10
  have hx0 := recParts0 (range_alloc_new w (recCells x) 31)
  have hGA := hG.gr (Gr.alloc (Gr.refl w) (.cells (recCells x).toArray 31))
  obtain ⟨mv, hc, hmm, hfr, hlk⟩ : ∃ mv, w.cell? ⟨G, 0, none⟩ = some (.map mv) ∧ ((mv = none ∧ L = []) ∨ ∃ r, mv = some r ∧ base ≤ r ∧ w.heap[r]? = some (.map (entriesOf L) L.length)) ∧ w.frozen? ⟨G, 0, none⟩ = false ∧ ∀ W, Gr w W → (Instr.lookup 45 (.map mv) (dotV x.site x.cnt) true).run Tryd.prog W = .ok (.tuple #[recZero, .bool false]) W := by
    rcases hG.2.2 with ⟨rfl, hc⟩ | ⟨r, hr, hc, hm⟩
    · exact ⟨none, hc, .inl ⟨rfl, rfl⟩, hG.2.1, fun W _ => lookup_none _ _ W⟩
    · exact ⟨some r, hc, .inr ⟨r, rfl, hr, hm⟩, hG.2.1, fun W hW => lookup_miss _ _ W r _ _ (hW.heap hm) (noDot_entries hd)⟩
  have hY1 : Gr w ((w.alloc (.cells (recCells x).toArray 31)).drew) := Gr.drew (Gr.alloc (Gr.refl w) _)
  have hY2 : Gr (w.alloc (.cells (recCells x).toArray 31)) (((w.alloc (.cells (recCells x).toArray 31)).alloc (.cells zeroCells 31)).drew) := Gr.drew (Gr.alloc (Gr.refl _) _)
  have hY3 : Gr w (((w.alloc (.cells (recCells x).toArray 31)).alloc (.cells zeroCells 31)).drew) := (Gr.alloc (Gr.refl w) _).trans hY2
  have hlk1 := hlk _ hY1
  have hlk2 := hlk _ hY3
  unfold dotV at hlk1 hlk2
  have HLK := Lib.hid hlk
  have hlG : (loadVar 45 ⟨G, 0, none⟩).run Tryd.prog ((w.alloc (.cells (recCells x).toArray 31)).drew) = .ok (.map mv) ((w.alloc (.cells (recCells x).toArray 31)).drew) := loadVar_cell (Gr.cell hY1 hc) Tryd.underlying45 rfl
  have hlD : (loadVar 24 ⟨w.heap.size, 0, none⟩).run Tryd.prog ((w.alloc (.cells (recCells x).toArray 31)).drew) = .ok (.agg #[.int .i64 x.site, .int .i64 x.cnt]) ((w.alloc (.cells (recCells x).toArray 31)).drew) := run_loadVar_mid _ w.heap.size 0 24 [.int .i64 x.site, .int .i64 x.cnt] _ (Gr.range (Gr.drew (Gr.refl _)) hx0.2.2.2.2.1) Tryd.underlying24 rfl (by kernel_rfl)
  obtain ⟨W3, hst, hg3, hs3⟩ := store_fresh (w.alloc (.cells (recCells x).toArray 31)) (w.heap.size + 1) (by simp)
  have hlG2 : (loadVar 45 ⟨G, 0, none⟩).run Tryd.prog (((w.alloc (.cells (recCells x).toArray 31)).alloc (.cells zeroCells 31)).drew) = .ok (.map mv) (((w.alloc (.cells (recCells x).toArray 31)).alloc (.cells zeroCells 31)).drew) := loadVar_cell (Gr.cell hY3 hc) Tryd.underlying45 rfl
  have hlD2 : (loadVar 24 ⟨w.heap.size, 0, none⟩).run Tryd.prog (((w.alloc (.cells (recCells x).toArray 31)).alloc (.cells zeroCells 31)).drew) = .ok (.agg #[.int .i64 x.site, .int .i64 x.cnt]) (((w.alloc (.cells (recCells x).toArray 31)).alloc (.cells zeroCells 31)).drew) := run_loadVar_mid _ w.heap.size 0 24 [.int .i64 x.site, .int .i64 x.cnt] _ (Gr.range hY2 hx0.2.2.2.2.1) Tryd.underlying24 rfl (by kernel_rfl)
  have HX0 := Lib.hid hx0
  have HG := Lib.hid hG
  have HD := Lib.hid hd
  have HM := Lib.hid hmm
  clear hlk hx0 hG hGA hd hmm
  have hgw3 : Gr w W3 := (Gr.alloc (Gr.refl w) _).trans hg3
  have hl3 : (loadVar 31 ⟨w.heap.size, 0, none⟩).run Tryd.prog W3 = .ok (.agg (recCells x).toArray) W3 := run_loadVar_mid W3 w.heap.size 0 31 (recCells x) _ (Gr.range hg3 (range_alloc_new w (recCells x) 31)) Tryd.underlying31 rfl (by rw [length_recCells]; kernel_rfl)
  have hck := recordCheck_any x W3 (hE.gr hgw3) hs
  have hbw : base ≤ w.heap.size := Nat.le_trans HG.out.1 (Nat.le_of_lt (World.block_lt_of_cell? w _ hc))
  have hok : recErr x = 0 ∧ recOk x = true ∨ recErr x = 120 ∧ recOk x = false := by
    unfold recErr
    cases recOk x <;> simp
  unfold Go.Rel.Ret recV at hck
  rcases hok with ⟨he, hok⟩ | ⟨he, hok⟩
  · rw [he] at hck
    rcases mv with _ | r
    · go_wp2_with fail
      go_region_law (fail)
      all_goals go_wp2_with (go_at_call 16; refine hck.mono ?_; rintro e W4 ⟨v, rfl, hg4, rfl⟩; have hl4 := loadVar_cell (P := Tryd.prog) (Gr.cell (hgw3.trans hg4) hc) Tryd.underlying45 rfl; have hst4 := storeVar_cell (P := Tryd.prog) (t := 45) (v := .map (some W4.heap.size)) (Gr.cell (Gr.alloc (hgw3.trans hg4) (.map #[] 0)) hc) rfl (Gr.frozen (Gr.alloc (hgw3.trans hg4) (.map #[] 0)) hc hfr) (by kernel_rfl) rfl rfl)
      all_goals
        have hL : L = [] := by
          rcases HM.out with ⟨_, h⟩ | ⟨r, h, _⟩
          · exact h
          · cases h
      all_goals subst hL
      all_goals have hgw4 : Gr w W4 := hgw3.trans hg4
      all_goals have hga : Gr w (W4.alloc (.map #[] 0)) := Gr.alloc hgw4 _
      all_goals have hGl : G < w.heap.size := World.block_lt_of_cell? w _ hc
      all_goals have hrx0 : (W4.alloc (.map #[] 0)).rangeAt w.heap.size 0 (recCells x) := Gr.range ((hg3.trans hg4).trans (Gr.alloc (Gr.refl _) _)) (range_alloc_new w (recCells x) 31)
      all_goals have hrx : (((W4.alloc (.map #[] 0)).setCell ⟨G, 0, none⟩ (.map (some W4.heap.size))).drew).rangeAt w.heap.size 0 (recCells x) := range_set hrx0 ⟨G, 0, none⟩ _ (by show w.heap.size ≠ G; omega)
      all_goals
        have hmp : (((W4.alloc (.map #[] 0)).setCell ⟨G, 0, none⟩ (.map (some W4.heap.size))).drew).heap[W4.heap.size]? = some (.map #[] 0) :=
          (Below.heap_setCell _ _ _ _ (by have := hgw4.size; show W4.heap.size ≠ G; omega)).trans (heap_alloc_new W4 _)
      all_goals have hup := update_miss x.site x.cnt (.agg (recCells x).toArray) _ W4.heap.size _ _ hmp (fun e he => by cases he)
      all_goals unfold dotV at hup
      all_goals have hl4d := loadVar_cell (P := Tryd.prog) (w := ((W4.alloc (.map #[] 0)).setCell ⟨G, 0, none⟩ (.map (some W4.heap.size))).drew) (World.cell?_setCell_same _ _ (.map (some W4.heap.size)) (hga.cell hc)) Tryd.underlying45 rfl
      all_goals have hl4x := run_loadVar_mid (P := Tryd.prog) _ w.heap.size 0 31 (recCells x) _ hrx Tryd.underlying31 rfl (by rw [length_recCells]; kernel_rfl)
      all_goals have hl4e := run_loadVar_mid (P := Tryd.prog) _ w.heap.size 0 24 [.int .i64 x.site, .int .i64 x.cnt] _ (recParts0 hrx).2.2.2.2.1 Tryd.underlying24 rfl (by kernel_rfl)
      all_goals clear hmp hrx hrx0 hl4
      all_goals go_region_law (fail)
      all_goals go_wp2
      all_goals go_ret
      all_goals
        have hpg := put_gate0 (x := x) hgw4 HG.out.1 hfr hc
        first | exact ⟨hpg.1, .inl ⟨hok, rfl, hpg.2⟩⟩ | exact ⟨hpg.1, rfl, hpg.2⟩
    · go_wp2_with fail
      go_region_law (fail)
      all_goals go_wp2_with (go_at_call 16; refine hck.mono ?_; rintro e W4 ⟨v, rfl, hg4, rfl⟩; have hl4 := loadVar_cell (P := Tryd.prog) (Gr.cell (hgw3.trans hg4) hc) Tryd.underlying45 rfl)
      all_goals
        have hm0 : base ≤ r ∧ w.heap[r]? = some (.map (entriesOf L) L.length) := by
          rcases HM.out with ⟨h, _⟩ | ⟨r', h, h2⟩
          · cases h
          · cases h; exact h2
      all_goals have hgw4 : Gr w W4.drew := Gr.drew (hgw3.trans hg4)
      all_goals have hup := update_miss x.site x.cnt (.agg (recCells x).toArray) W4.drew r _ _ (hgw4.heap hm0.2) (noDot_entries HD.out)
      all_goals unfold dotV at hup
      all_goals have hl4d := loadVar_cell (P := Tryd.prog) (Gr.cell hgw4 hc) Tryd.underlying45 rfl
      all_goals have hrx : W4.drew.rangeAt w.heap.size 0 (recCells x) := Gr.range ((hg3.trans hg4).trans (Gr.drew (Gr.refl _))) (range_alloc_new w (recCells x) 31)
      all_goals have hl4x := run_loadVar_mid (P := Tryd.prog) W4.drew w.heap.size 0 31 (recCells x) _ hrx Tryd.underlying31 rfl (by rw [length_recCells]; kernel_rfl)
      all_goals have hl4e := run_loadVar_mid (P := Tryd.prog) W4.drew w.heap.size 0 24 [.int .i64 x.site, .int .i64 x.cnt] _ (recParts0 hrx).2.2.2.2.1 Tryd.underlying24 rfl (by kernel_rfl)
      all_goals go_region_law (fail)
      all_goals go_wp2
      all_goals go_ret
      all_goals
        have hpg := put_gate (x := x) hgw4 HG.out.1 hm0.1 hfr hc hm0.2
        first | exact ⟨hpg.1, .inl ⟨hok, rfl, hpg.2⟩⟩ | exact ⟨hpg.1, rfl, hpg.2⟩
  · rw [he] at hck
    go_wp2_with fail
    go_region_law (fail)
    all_goals go_wp2_with (go_at_call 16; refine hck.mono ?_; rintro e W4 ⟨v, rfl, hg4, rfl⟩)
    all_goals go_ret
    all_goals exact ⟨Below.mono (hgw3.trans hg4) hbw, .inr ⟨hok, rfl, HG.out.gr (hgw3.trans hg4)⟩⟩
end

end Go.Proofs.YtjngckeeoohegaaDoor
