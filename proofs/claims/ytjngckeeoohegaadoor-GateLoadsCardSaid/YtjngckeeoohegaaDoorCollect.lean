/- Collecting the records that an iterator tells: slices.AppendSeq, slices.Collect. -/
import Derived.Test.YtjngckeeoohegaaDoorValues
import Derived.RangeFuncBox
import Derived.Maps.AppendAt
namespace Go.Proofs.YtjngckeeoohegaaDoor
open Go.RowKit Go.Rel Go.Shelf
attribute [local go_sem] Oper.semAt_some

/-- An iterator that tells the elements of a list, in some order. -/
def StopsW {α : Type} (P : Program) (g : Nat) (lb : Array Value) (encs : α → Array Value) (L : List α) (w : World) : Prop :=
  SeqStopsK Fence.wide 9 P g lb encs KeepsWalks (fun ys => ys.Perm L) (fun _ => True) L.length w

/-- The caller's law. -/
theorem wp_rangeW {α : Type} {P : Program} {g : Operand} {ps : Array Tmp} {assign body : Code} {Q : Exit → Act → World → Prop} {a : Act} {w : World}
    {gf : Nat} {lb : Array Value} (hg : a.eval g = .func (.func gf) #[] lb) (eg : ∀ args w, (callFunc gf args).run P w = .ok (.enter gf args) w)
    {encs : α → Array Value} {L : List α} (hseq : StopsW P gf lb encs L w) (hps : ∀ x, (encs x).size = ps.size)
    (I : List α → World → Prop) (Ix : Code → List α → World → Prop) (hI : OwnFrom w.heap.size I) (hIx : ∀ c, OwnFrom w.heap.size (Ix c)) (h0 : I [] w) (Ax : α → Act → World → Prop) (hAx : ∀ x a', OwnFrom w.heap.size (fun (_ : Unit) W => Ax x a' W))
    (hassign : ∀ (l : Nat) (pre : List α) (x : α) (W : World) (K : Act → World → Prop), I pre W → (∀ a' W', KeepsFrom w.heap.size W W' → KeepsWalks W W' → I pre W' → Ax x a' W' → K a' W') →
      assign.wpIn (Fence.wide.inRound l) 8 P (Exit.then K (fun _ _ _ => False)) { tmps := (ps.zip (encs x)).foldl (fun t (p, v) => t.setIfInBounds p v) a.tmps, defers := [] } W)
    (hbody : ∀ (l : Nat) (pre : List α) (x : α) (a' : Act) (W : World), w.heap.size ≤ l → (∃ r, W.heap[l]? = some (.loop r)) → I pre W → Ax x a' W → pre.length < L.length → body.wpIn (Fence.wide.inRound l) 8 P (ownPostG w.heap.size KeepsWalks I Ix (pre ++ [x]) W) a' W)
    (hdone : ∀ (D : Nat) (ys : List α) (W : World), w.heap.size ≤ D → ys.Perm L → I ys W → W.heap[D]? = some (.deferred (some [])) → Q .normal { a with defers := { target := .collected D, args := #[] } :: a.defers } W)
    (hstop : ∀ (D : Nat) (c : Code) (pre : List α) (W : World), w.heap.size ≤ D → Ix c pre W → W.heap[D]? = some (.deferred (some [])) → c.wp P Q { a with defers := { target := .collected D, args := #[] } :: a.defers } W) :
    (Code.rangeFunc g ps assign body).wp P Q a w :=
  wpIn_wide.1 (wpIn_rangeFunc_ownH (F := Fence.wide) (n := 10) (w0 := w) rfl (by omega) hg trivial eg hseq walksK_t walksK_b (Below.refl _ _) hps I Ix hI hIx h0 Ax hAx hassign hbody
    (fun D ys W hD e hI hK => hdone D ys W hD e hI hK) (fun D c pre W hD _ hx hK => wpIn_wide.2 (hstop D c pre W hD hx hK)))

abbrev encRec (x : Rec) : Array Value := #[recV x]

/-- maps.Values's iterator. -/
theorem values_stops (Bm : Nat) (m : Option Nat) (l0 : List (Rec × Nat)) (clock : Nat) (w : World) (hm : w.cell? ⟨Bm, 0, none⟩ = some (.map m)) (hl : MapAt w m l0 clock) :
    StopsW Tryd.prog 21 #[.pointer (some ⟨Bm, 0, none⟩)] encRec (l0.map (·.1)) w := by
  intro l J Jx W hW hJ hJx hY h0
  refine values_in Fence.wide 9 trivial rfl (by omega) l Bm m l0 clock J Jx (fun pre x W1 h1 h2 => hY pre x W1 h1 (by simpa using h2)) W hJ ?_ ?_ h0
  · have hb := World.block_lt_of_cell? w _ hm
    exact (Below.cell hW (p := ⟨Bm, 0, none⟩) hb).trans hm
  · rcases hl with h | ⟨b, h1, h2, h3, h4⟩
    · exact .inl h
    · exact .inr ⟨b, h1, (hW.block b (Array.getElem?_eq_some_iff.1 h2).1).trans h2, h3, h4⟩

/-- What the collecting comes to. -/
def Collected (w : World) (L : List Rec) (e : Ending) (W : World) : Prop := ∃ (M : List Rec) (v : Value), e = .returned v ∧ M.Perm L ∧ Gr w W ∧ W.ownsRow w.heap.size 31 52 v M.length (M.flatMap recCells)

theorem flat_snoc (pre : List Rec) (x : Rec) : (pre ++ [x]).flatMap recCells = pre.flatMap recCells ++ recCells x := by simp

section
attribute [-go_sem] loadVar storeVar
attribute [local go_sem] fold_rec
set_option maxRecDepth 100000 in
set_option maxHeartbeats 2000000 in
theorem appendSeq_any (gf : Nat) (lb : Array Value) (L : List Rec) (hL : L.length ≤ 1000000) (w : World) (eg : ∀ args w, (callFunc gf args).run Tryd.prog w = .ok (.enter gf args) w) (hseq : ∀ w', Gr w w' → StopsW Tryd.prog gf lb encRec L w') :
    Calls Tryd.prog 27 #[.slice none 0 0, .func (.func gf) #[] lb] w (Collected w L) := by
  refine calls_of_wp_marks Tryd.func27 rfl ?_
  simp only [Tryd.ntmps27, List.size_toArray, List.length_cons, List.length_nil, Nat.reduceAdd, Nat.reduceSub, Array.replicate_succ, Array.replicate_zero, List.push_toArray, List.append_toArray, List.nil_append, List.cons_append]
  have hsq := Lib.hid (hseq _ (Gr.alloc (Gr.refl w) (.cells #[.slice none 0 0] 22)))
  clear hseq
  go_wp2_with fail
  refine wp_rangeW (L := L) rfl eg hsq.out (fun _ => rfl)
    (fun pre W => (∃ v, Boxed W w.heap.size 22 v ∧ W.ownsRow w.heap.size 31 52 v pre.length (pre.flatMap recCells) ∧ True) ∧ Below w.heap.size w W)
    (fun _ _ _ => False)
    (OwnFrom.and (Own.from (holdsRow_own w.heap.size w.heap.size 22 31 52 (fun pre : List Rec => pre.length) (fun pre => pre.flatMap recCells) (fun _ _ => True)) _) (ownFrom_below (Nat.le_refl _) (by simp)))
    (fun _ => ownFrom_pure _ _)
    ⟨⟨_, Boxed.new w _ _, World.ownsRow_nil _ _ _ _, trivial⟩, (Below.refl _ w).alloc (Nat.le_refl _) _⟩
    (fun x a' W => ∃ Bx, w.heap.size < Bx ∧ W.heap[Bx]? = some (.cells (recCells x).toArray 31 (0, 0)) ∧
      a' = { tmps := #[.slice none 0 0, .func (.func gf) #[] lb, .pointer (some ⟨w.heap.size, 0, none⟩), undef, .slice none 0 0, .pointer (some ⟨Bx, 0, none⟩), .func (.func gf) #[] lb, recV x, undef, undef, undef, undef, undef], defers := [] })
    (fun x a' => Own.from (fun _ A B row hs hg hr => by
      obtain ⟨Bx, h1, h2, h3⟩ := hs
      refine ⟨Bx, h1, ?_, h3⟩
      rw [hg.block Bx (Array.getElem?_eq_some_iff.1 h2).1 (fun e => by obtain ⟨o, ho, hc⟩ := hr Bx e.symm; rw [h2] at ho; cases ho; cases hc)]
      exact h2) _)
    ?assign ?body ?done ?stop
  case assign =>
    rintro l pre x W K ⟨⟨v, hv, hr, _⟩, hB⟩ hK
    have hst := st_box W x
    have hsz : w.heap.size < W.heap.size := hv.lt
    gi_wp2
    exact hK _ _ ((KeepsOthers.alloc _ _).from _) (KeepsWalks.alloc _ _) ⟨⟨v, hv.alloc _, hr.alloc _, trivial⟩, hB.alloc hB.size _⟩ ⟨W.heap.size, hsz, Go.heap_alloc_new W _, rfl⟩
  case body =>
    rintro l pre x a' W hl ⟨r, hr0⟩ ⟨⟨v, hv, hrow, _⟩, hB⟩ ⟨Bx, hBx, hX, rfl⟩ hlt
    have hcv := hv.cell
    have hl1 := loadVar_cell (P := Tryd.prog) hcv Tryd.underlying22 rfl
    have hl2 : (loadVar 31 ⟨Bx, 0, none⟩).run Tryd.prog W = .ok (.agg (recCells x).toArray) W := run_loadVar_mid W Bx 0 31 (recCells x) _ (fun j u hj => by rw [Nat.zero_add]; exact cell_of_heap hX (by simpa using hj)) Tryd.underlying31 rfl (by rw [length_recCells]; kernel_rfl)
    obtain ⟨i0, hi, hi2⟩ := Option.map_eq_some_iff.1 recInfo
    simp only [Prod.mk.injEq] at hi2
    obtain ⟨hz0, hz1, hz2⟩ := hi2
    have hm1 : pre.length + 1 ≤ maxLen := by unfold maxLen; omega
    have hm2 : (pre.length + 1) * 136 ≤ 140737488355328 := by omega
    have hnews := World.news_of_block (w := W.alloc (.cells (recCells x).toArray 31)) (cs := (recCells x).toArray) (t := 31) (fr := (0, 0)) (Go.heap_alloc_new W _)
    have HX := Lib.hid hX
    clear hX
    gi_wp2_with (gi_at_builtin; refine wpListIn_append_own _ rfl _ _ 22 rfl w.heap.size 31 i0 recZero 52 136 Tryd.underlying22 hi hz0 hz1 hz2 recZero_size (by omega) v pre.length _ rfl (hrow.alloc _) ⟨W.heap.size, 0, none⟩ 1 1 (recCells x) rfl (by rw [length_recCells]) hnews (rec_one' x) hm1 hm2 (by have := hB.size; simp; omega) ?_; intro v' w1 hown' hgrow _; obtain ⟨g', cap', rfl⟩ := ownsRow_succ hown'; obtain ⟨hv1, hv2, hr2, hk2, hb2⟩ := hv.appended (by decide) hrow hB.size (Nat.le_refl _) hown' hgrow; have hst := storeVar_cell (P := Tryd.prog) (t := 22) (v := .slice (some ⟨g', 0, none⟩) (pre.length + 1) cap') hv1.cell rfl hv1.frozen (by kernel_rfl) rfl rfl)
    exact ⟨hk2.from _, hk2.walks, ⟨_, hv2, by rw [List.length_append, flat_snoc]; exact hr2⟩, hB.trans hb2⟩
  case done =>
    rintro D ys W hD hp ⟨⟨v, hv, hrow, _⟩, hB⟩ hK
    have hl1 := loadVar_cell (P := Tryd.prog) hv.cell Tryd.underlying22 rfl
    go_wp2
    refine leaves_marks rfl hK (results_tmp rfl _ _ _) ⟨ys, v, rfl, hp, ?_, ownsRow_putObj hrow _ hK rfl⟩
    exact hB.trans (belowK_b (w := w) (Nat.le_refl _) W D _ _ (by simp at hD; omega) hK rfl rfl)
  case stop => intro D c pre W _ h; exact h.elim
end

set_option maxRecDepth 100000 in
set_option maxHeartbeats 1000000 in
theorem collect_any (gf : Nat) (lb : Array Value) (L : List Rec) (hL : L.length ≤ 1000000) (w : World) (eg : ∀ args w, (callFunc gf args).run Tryd.prog w = .ok (.enter gf args) w) (hseq : ∀ w', Gr w w' → StopsW Tryd.prog gf lb encRec L w') :
    Calls Tryd.prog 19 #[.func (.func gf) #[] lb] w (Collected w L) := by
  have H := Lib.hid (appendSeq_any gf lb L hL w eg hseq)
  clear hseq eg
  go_enter Tryd.func19, Tryd.ntmps19
  go_wp2_with fail
  refine H.out.mono ?_
  rintro e W ⟨M, v, rfl, hp, hg, hr⟩
  go_wp2
  go_ret
  exact ⟨M, v, rfl, hp, hg, hr⟩

end Go.Proofs.YtjngckeeoohegaaDoor
