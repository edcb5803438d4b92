/- What refname.rules hands out, and what the rules come to. -/
import Derived.Test.YtjngckeeoohegaaDoorBreaks
namespace Go.Proofs.YtjngckeeoohegaaDoor
open Go.RowKit Go.Rel Go.Shelf

def dot1 : ByteArray → Bool := fun s => Lib.hasPrefix s.data.toList [46]
def lockEnd : ByteArray → Bool := fun s => Lib.hasSuffix s.data.toList [46, 108, 111, 99, 107]
/-- The eight rules, as they stand in the program, with their boxes from h on. -/
def rulesOf (h : Nat) : List Rule :=
  [⟨1, 50, #[], fun s => s.toList.isEmpty || decide (100 < (s.size : Int))⟩,
   ⟨2, 51, #[], anyBad⟩,
   ⟨3, 63, #[.pointer (some ⟨h, 0, none⟩)], fun s => (pieces s).any (fun x => x.toList.isEmpty)⟩,
   ⟨4, 63, #[.pointer (some ⟨h + 1, 0, none⟩)], fun s => (pieces s).any dot1⟩,
   ⟨5, 66, #[.pointer (some ⟨h + 2, 0, none⟩)], fun s => Lib.contains s.data.toList [46, 46]⟩,
   ⟨6, 63, #[.pointer (some ⟨h + 3, 0, none⟩)], fun s => (pieces s).any lockEnd⟩,
   ⟨7, 59, #[], fun s => Lib.hasSuffix s.data.toList [46]⟩,
   ⟨8, 66, #[.pointer (some ⟨h + 4, 0, none⟩)], fun s => Lib.contains s.data.toList [64, 123]⟩]

/-- The number of the first rule that a name breaks. -/
def brk (s : ByteArray) : Int := firstOf s (rulesOf 0)
theorem firstOf_rulesOf (s : ByteArray) (h : Nat) : firstOf s (rulesOf h) = brk s := rfl

def rowOf (h : Nat) : Array Value := ((rulesOf h).flatMap ruleCells).toArray

set_option maxRecDepth 100000 in
set_option maxHeartbeats 2000000 in
theorem rulesW_any (w : World) : Calls Tryd.prog 44 #[] w fun e w' => e = .returned (.func (.func 60) #[] #[.pointer (some ⟨w.heap.size + 6, 0, none⟩)]) ∧
    (((((((w.alloc (.cells #[.func (.func 53) #[] #[]] 92)).alloc (.cells #[.func (.func 54) #[] #[]] 92)).alloc (.cells #[.string ⟨#[46, 46]⟩] 9)).alloc
      (.cells #[.func (.func 57) #[] #[]] 92)).alloc (.cells #[.string ⟨#[64, 123]⟩] 9)).alloc (.cells (rowOf w.heap.size) 94)).alloc (.cells #[.slice (some ⟨w.heap.size + 5, 0, none⟩) 8 8] 104)) = w' := by
  go_enter Tryd.func44, Tryd.ntmps44
  go_wp2_with (first
    | (with_reducible go_at_call 52; refine (byPart_any _ _).mono ?_; rintro e w' ⟨rfl, rfl⟩)
    | (with_reducible go_at_call 56; refine (has_any _ _).mono ?_; rintro e w' ⟨rfl, rfl⟩))
  go_ret
  exact ⟨rfl, rfl⟩

theorem good_says {g : Nat} {lb : Array Value} {p : ByteArray → Bool} {n : Int} {w : World} (he : ∀ args w, (callFunc g args).run Tryd.prog w = .ok (.enter g args) w)
    (h : ∀ (s : ByteArray) (W : World), Gr w W → Env W → s.size ≤ 1000 → Calls Tryd.prog g (#[.string s] ++ lb) W fun e W' => e = .returned (.bool (p s)) ∧ Gr W W') : Good w ⟨n, g, lb, p⟩ :=
  ⟨he, fun s W hg hE hs => Calls.mono (h s W hg hE hs) fun _ _ ⟨h1, h2⟩ => ⟨_, h1, h2, rfl⟩⟩

theorem says2 : Says 53 #[] (fun x => x.toList.isEmpty) := fun s w _ _ => Calls.mono (rule2_any s w) fun _ _ ⟨h1, h2⟩ => ⟨h1, h2.symm⟩
theorem says3 : Says 54 #[] dot1 := fun s w _ _ => Calls.mono (rule3_any s w) fun _ _ ⟨h1, h2⟩ => ⟨h1, h2.symm⟩
theorem says4 : Says 57 #[] lockEnd := fun s w _ hs => Calls.mono (rule4_any s w hs) fun _ _ ⟨h1, h2⟩ => ⟨h1, h2.symm⟩

theorem good_part {g : Nat} {p : ByteArray → Bool} (hg : Says g #[] p) (eg : ∀ args w, (callFunc g args).run Tryd.prog w = .ok (.enter g args) w) {w : World} {b : Nat} {n : Int}
    (hb : w.cell? ⟨b, 0, none⟩ = some (.func (.func g) #[] #[])) : Good w ⟨n, 63, #[.pointer (some ⟨b, 0, none⟩)], fun s => (pieces s).any p⟩ :=
  good_says (enters_of Tryd.func63 (by kernel_rfl) rfl) fun s W hgr hE hs => Calls.mono (byPart1_any s g b p W hE hs (hgr.cell hb) hg eg) fun _ _ ⟨h1, h2⟩ => ⟨h1, by rw [← h2]; exact Gr.alloc (Gr.refl W) _⟩

theorem good_has {sub : ByteArray} {w : World} {b : Nat} {n : Int}
    (hb : w.cell? ⟨b, 0, none⟩ = some (.string sub)) : Good w ⟨n, 66, #[.pointer (some ⟨b, 0, none⟩)], fun s => Lib.contains s.data.toList sub.data.toList⟩ :=
  good_says (enters_of Tryd.func66 (by kernel_rfl) rfl) fun s W hgr hE hs => Calls.mono (has1_any s sub b W hE hs (hgr.cell hb)) fun _ _ ⟨h1, h2⟩ => ⟨h1, by rw [h2]; exact Gr.refl W⟩

theorem box_new (w : World) (v : Value) (T : TypeId) : (w.alloc (.cells #[v] T)).cell? ⟨w.heap.size, 0, none⟩ = some v :=
  cell_of_heap (heap_alloc_new w _) rfl
theorem gr_alloc (w : World) (o : Obj) : Gr w (w.alloc o) := Gr.alloc (Gr.refl w) o

set_option maxRecDepth 100000 in
theorem row_cells (h : Nat) (k : Nat) (hk : k < (rulesOf h).length) : (rowOf h)[k * 2]? = some (.int .i64 (rulesOf h)[k].n) ∧ (rowOf h)[k * 2 + 1]? = some (.func (.func (rulesOf h)[k].g) #[] (rulesOf h)[k].lb) := by
  have hk : k < 8 := hk
  rcases (by omega : k = 0 ∨ k = 1 ∨ k = 2 ∨ k = 3 ∨ k = 4 ∨ k = 5 ∨ k = 6 ∨ k = 7) with rfl | rfl | rfl | rfl | rfl | rfl | rfl | rfl <;> exact ⟨rfl, rfl⟩

set_option maxRecDepth 100000 in
theorem breaks_any (s : ByteArray) (w : World) (hE : Env w) (hs : s.size ≤ 1000) : Ret Tryd.prog 31 #[.string s] w fun v _ => v = .int .i64 (brk s) := by
  refine breaks_core s w hE hs (fun w => rulesOf w.heap.size) (fun w => by simp [rulesOf]) ?_ _ (fun w => rfl)
  intro w
  refine (rulesW_any w).mono ?_
  rintro e w' ⟨rfl, hw⟩
  obtain ⟨w1, h1⟩ : ∃ w1, w.alloc (.cells #[.func (.func 53) #[] #[]] 92) = w1 := ⟨_, rfl⟩
  obtain ⟨w2, h2⟩ : ∃ w2, w1.alloc (.cells #[.func (.func 54) #[] #[]] 92) = w2 := ⟨_, rfl⟩
  obtain ⟨w3, h3⟩ : ∃ w3, w2.alloc (.cells #[.string ⟨#[46, 46]⟩] 9) = w3 := ⟨_, rfl⟩
  obtain ⟨w4, h4⟩ : ∃ w4, w3.alloc (.cells #[.func (.func 57) #[] #[]] 92) = w4 := ⟨_, rfl⟩
  obtain ⟨w5, h5⟩ : ∃ w5, w4.alloc (.cells #[.string ⟨#[64, 123]⟩] 9) = w5 := ⟨_, rfl⟩
  obtain ⟨w6, h6⟩ : ∃ w6, w5.alloc (.cells (rowOf w.heap.size) 94) = w6 := ⟨_, rfl⟩
  rw [h1, h2, h3, h4, h5, h6] at hw
  have s1 : w1.heap.size = w.heap.size + 1 := by rw [← h1]; simp
  have s2 : w2.heap.size = w.heap.size + 2 := by rw [← h2]; simp [s1]
  have s3 : w3.heap.size = w.heap.size + 3 := by rw [← h3]; simp [s2]
  have s4 : w4.heap.size = w.heap.size + 4 := by rw [← h4]; simp [s3]
  have s5 : w5.heap.size = w.heap.size + 5 := by rw [← h5]; simp [s4]
  have s6 : w6.heap.size = w.heap.size + 6 := by rw [← h6]; simp [s5]
  have s7 : w'.heap.size = w.heap.size + 7 := by rw [← hw]; simp [s6]
  have g7 : Gr w6 w' := by rw [← hw]; exact gr_alloc _ _
  have g6 : Gr w5 w' := Gr.trans (by rw [← h6]; exact gr_alloc _ _) g7
  have g5 : Gr w4 w' := Gr.trans (by rw [← h5]; exact gr_alloc _ _) g6
  have g4 : Gr w3 w' := Gr.trans (by rw [← h4]; exact gr_alloc _ _) g5
  have g3 : Gr w2 w' := Gr.trans (by rw [← h3]; exact gr_alloc _ _) g4
  have g2 : Gr w1 w' := Gr.trans (by rw [← h2]; exact gr_alloc _ _) g3
  have g1 : Gr w w' := Gr.trans (by rw [← h1]; exact gr_alloc _ _) g2
  have c1 : w'.cell? ⟨w.heap.size, 0, none⟩ = some (.func (.func 53) #[] #[]) := g2.cell (by rw [← h1]; exact box_new _ _ _)
  have c2 : w'.cell? ⟨w.heap.size + 1, 0, none⟩ = some (.func (.func 54) #[] #[]) := g3.cell (by rw [← h2, ← s1]; exact box_new _ _ _)
  have c3 : w'.cell? ⟨w.heap.size + 2, 0, none⟩ = some (.string ⟨#[46, 46]⟩) := g4.cell (by rw [← h3, ← s2]; exact box_new _ _ _)
  have c4 : w'.cell? ⟨w.heap.size + 3, 0, none⟩ = some (.func (.func 57) #[] #[]) := g5.cell (by rw [← h4, ← s3]; exact box_new _ _ _)
  have c5 : w'.cell? ⟨w.heap.size + 4, 0, none⟩ = some (.string ⟨#[64, 123]⟩) := g6.cell (by rw [← h5, ← s4]; exact box_new _ _ _)
  have c6 : w'.heap[w.heap.size + 5]? = some (.cells (rowOf w.heap.size) 94) := g7.heap (by rw [← h6, ← s5]; exact heap_alloc_new _ _)
  have c7 : w'.cell? ⟨w.heap.size + 6, 0, none⟩ = some (.slice (some ⟨w.heap.size + 5, 0, none⟩) 8 8) := by rw [← hw, ← s6]; exact box_new _ _ _
  refine ⟨w.heap.size + 6, w.heap.size + 5, rfl, g1, by omega, by omega, c7, fun k hk => ⟨cell_of_heap c6 (row_cells _ k hk).1, cell_of_heap c6 (row_cells _ k hk).2⟩, ?_⟩
  intro r hr
  simp only [rulesOf, List.mem_cons, List.not_mem_nil, or_false] at hr
  rcases hr with rfl | rfl | rfl | rfl | rfl | rfl | rfl | rfl
  · exact good_says (enters_of Tryd.func50 (by kernel_rfl) rfl) fun s W hg hE hs => Calls.mono (rule1_any s W) fun _ _ ⟨h1, h2⟩ => ⟨h1, by rw [h2]; exact Gr.refl W⟩
  · exact good_says (enters_of Tryd.func51 (by kernel_rfl) rfl) fun s W hg hE hs => Calls.mono (byByte_any s W hE) fun _ _ ⟨h1, pos, h2⟩ => ⟨h1, by rw [h2]; exact gr_alloc W _⟩
  · exact good_part says2 (enters_of Tryd.func53 (by kernel_rfl) rfl) c1
  · exact good_part says3 (enters_of Tryd.func54 (by kernel_rfl) rfl) c2
  · exact good_has c3
  · exact good_part says4 (enters_of Tryd.func57 (by kernel_rfl) rfl) c4
  · exact good_says (enters_of Tryd.func59 (by kernel_rfl) rfl) fun s W hg hE hs => Calls.mono (rule5_any s W hs) fun _ _ ⟨h1, h2⟩ => ⟨h1, by rw [h2]; exact Gr.refl W⟩
  · exact good_has c5

/-- What the check of a name comes to. -/
def nameErr (s : ByteArray) : Int := if brk s = 0 then 0 else 40

set_option maxRecDepth 100000 in
theorem refnameCheck_any (s : ByteArray) (w : World) (hE : Env w) (hs : s.size ≤ 1000) : Ret Tryd.prog 25 #[.string s] w fun v _ => v = .int .i64 (nameErr s) := by
  have hb := breaks_any s w hE hs
  unfold nameErr
  generalize brk s = n at *
  unfold Ret at hb ⊢
  by_cases hn : n = 0
  · subst hn
    rw [if_pos rfl]
    go_enter Tryd.func25, Tryd.ntmps25
    go_wp2_with (go_at_call 31; refine hb.mono ?_; rintro e w' ⟨v, rfl, hg, rfl⟩)
    go_ret
    exact RetP.mk hg rfl
  · rw [if_neg hn]
    have hn' : (n != 0) = true := by simpa using hn
    go_enter Tryd.func25, Tryd.ntmps25
    go_wp2_with (go_at_call 31; refine hb.mono ?_; rintro e w' ⟨v, rfl, hg, rfl⟩)
    all_goals go_ret
    all_goals first | exact RetP.mk hg rfl | (rename_i h; rw [hn'] at h; cases h)

end Go.Proofs.YtjngckeeoohegaaDoor
