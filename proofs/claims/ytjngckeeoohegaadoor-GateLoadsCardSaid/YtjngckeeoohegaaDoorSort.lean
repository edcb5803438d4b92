/- The order of records, as the sort wants it. -/
import Derived.Test.YtjngckeeoohegaaDoorLeafD
import Derived.Test.YtjngckeeoohegaaDoorRefLoad
import Derived.Shelf.SlSortCmp.NoneTotal
namespace Go.Proofs.YtjngckeeoohegaaDoor
open Go.RowKit Go.RelD Go.Sort

theorem grown_of {w w' : World} (h : Go.RelD.Gr w w') : ∃ q os', w' = grow (w.drewN q) os' := by
  obtain ⟨hb, hd⟩ := h
  refine ⟨w'.drawn - w.drawn, w'.heap.extract w.heap.size w'.heap.size, ?_⟩
  have h1 := hb.os
  have h2 := hb.tape
  have h3 := hb.output
  have h4 := hb.size
  have h5 := hb.block
  have hh : w'.heap = w.heap ++ w'.heap.extract w.heap.size w'.heap.size := by
    apply Array.ext_getElem?
    intro i
    rw [Array.getElem?_append]
    split
    · rename_i hi; exact h5 i hi
    · rename_i hi
      rw [Array.getElem?_extract]
      by_cases h6 : i < w'.heap.size
      · rw [if_pos (by omega)]
        congr 1; omega
      · rw [if_neg (by omega), Array.getElem?_eq_none (by omega)]
  obtain ⟨heap, tape, drawn, os, output⟩ := w
  obtain ⟨heap', tape', drawn', os', output'⟩ := w'
  simp only [grow, World.drewN] at *
  subst h1; subst h2; subst h3
  have : drawn + (drawn' - drawn) = drawn' := by omega
  rw [this, ← hh]

set_option maxRecDepth 100000 in
set_option maxHeartbeats 1000000 in
theorem byDot_d (x y : Rec) (w : World) : Go.RelD.Ret Tryd.prog 9 #[recV x, recV y] w fun v _ => v = .int .i64 (dotCmp x.site x.cnt y.site y.cnt) := by
  unfold Go.RelD.Ret recV
  go_enter Tryd.func9, Tryd.ntmps9
  go_wp2_with fail
  refine Calls.mono (dotCompare_d x.site x.cnt y.site y.cnt _) ?_
  rintro e w' ⟨v, rfl, hg, rfl⟩
  go_wp2
  go_ret
  exact Go.RelD.RetP.mk ((((Go.RelD.Gr.refl w).alloc _).alloc _).trans hg) rfl

/-- Records of a list, no two of one dot. -/
def Apart (L : List Rec) : Prop := ∀ x ∈ L, ∀ y ∈ L, x.site = y.site → x.cnt = y.cnt → x = y
def dotR {L : List Rec} (x y : {x : Rec // x ∈ L}) : Int := dotCmp x.1.site x.1.cnt y.1.site y.1.cnt

theorem dotCmp_lt (a b c d : Int) : dotCmp a b c d < 0 ↔ a < c ∨ a = c ∧ b < d := by
  unfold dotCmp cmpI
  split <;> split <;> (try split) <;> omega

theorem swo_dot {L : List Rec} : SWO (ltOf (dotR (L := L))) where
  irrefl x := by simp only [ltOf, dotR, decide_eq_false_iff_not, dotCmp_lt]; omega
  trans x y z h1 h2 := by simp only [ltOf, dotR, decide_eq_true_iff, dotCmp_lt] at *; omega
  ntrans x y z h1 h2 := by simp only [ltOf, dotR, decide_eq_false_iff_not, dotCmp_lt] at *; omega

theorem tot_dot {L : List Rec} (hL : Apart L) (x y : {x : Rec // x ∈ L}) (h1 : ltOf dotR x y = false) (h2 : ltOf dotR y x = false) : x = y := by
  simp only [ltOf, dotR, decide_eq_false_iff_not, dotCmp_lt] at h1 h2
  exact Subtype.ext (hL x.1 x.2 y.1 y.2 (by omega) (by omega))

theorem cmp_lays {L : List Rec} [Inhabited {x : Rec // x ∈ L}] (blk off size : Nat) (w : World) : CmpLays Tryd.prog 9 #[] (fun x : {x : Rec // x ∈ L} => recCells x.1) 52 dotR blk off size w := by
  intro m os dk _ x y
  refine Calls.mono (byDot_d x.1 y.1 _) ?_
  rintro e w' ⟨v, rfl, hg, rfl⟩
  exact ⟨rfl, grown_of hg⟩

theorem rec_one (x : Rec) : ∀ u ∈ recCells x, u.oneCell' = true := by
  intro u hu
  simp only [recCells, vecCells, idCells, List.mem_cons, List.mem_append, List.mem_map] at hu
  rcases hu with rfl | rfl | ⟨_, _, rfl⟩ | rfl | rfl | ⟨_, _, rfl⟩ <;> rfl

end Go.Proofs.YtjngckeeoohegaaDoor
