/- The rules of names together. -/
import Derived.Test.YtjngckeeoohegaaDoorRange
import Derived.Test.YtjngckeeoohegaaDoorNames
namespace Go.Proofs.YtjngckeeoohegaaDoor
open Go.RowKit Go.Rel Go.Shelf
attribute [local go_sem] Oper.semAt_some

structure Rule where
  n : Int
  g : Nat
  lb : Array Value
  p : ByteArray → Bool
def Rule.v (r : Rule) : Value := .func (.func r.g) #[] r.lb
def ruleCells (r : Rule) : List Value := [.int .i64 r.n, .func (.func r.g) #[] r.lb]

set_option maxRecDepth 100000 in
set_option maxHeartbeats 2000000 in
theorem rules6_in {α : Type} (ρ : α → Rule) (F : Fence) (n : Nat) (hf : F.fn 60) (hro : F.round = none) (hn : 1 ≤ n) (l Bs n₀ b : Nat) (rs : List α) (hlen : rs.length ≤ 100) (hb : b < n₀) (J Jx : List α → World → Prop)
    (hJa : ∀ pre W o, J pre W → J pre (W.alloc o))
    (hY : ∀ pre x W, J pre W → pre.length < rs.length → YieldAt F (n - 1) Tryd.prog l #[.agg #[.int .i64 (ρ x).n, .func (.func (ρ x).g) #[] (ρ x).lb]] W fun e W' =>
      (e = .returned (.bool true) ∧ J (pre ++ [x]) W' ∧ Below n₀ W W') ∨ (e = .returned (.bool false) ∧ Jx (pre ++ [x]) W'))
    (W : World) (hn₀ : n₀ ≤ W.heap.size) (hBs : W.cell? ⟨Bs, 0, none⟩ = some (.slice (some ⟨b, 0, none⟩) rs.length rs.length)) (hc : ∀ k (hk : k < rs.length), W.cell? ⟨b, k * 2, none⟩ = some (.int .i64 (ρ rs[k]).n) ∧ W.cell? ⟨b, k * 2 + 1, none⟩ = some (.func (.func (ρ rs[k]).g) #[] (ρ rs[k]).lb)) (h0 : J [] W) :
    CallsIn F n Tryd.prog 60 #[.func (.yield l) #[] #[], .pointer (some ⟨Bs, 0, none⟩)] W fun e W' => (∃ v, e = .returned v) ∧
      ((∃ ys, ys = rs ∧ J ys W') ∨ (∃ pre, pre <+: rs ∧ Jx pre W')) := by
  refine callsIn_of_wp Tryd.func60 rfl hf ?_ hro
  simp only [Tryd.ntmps60, List.size_toArray, List.length_cons, List.length_nil, Nat.reduceAdd, Nat.reduceSub, Array.replicate_succ, Array.replicate_zero, List.push_toArray, List.append_toArray, List.nil_append, List.cons_append]
  gi_wp2
  gi_loopw [7] (fun i wr => ∃ k : Nat, k ≤ rs.length ∧ i = .int .i64 k ∧ J (rs.take k) wr ∧ Below n₀ W wr) (fun i _ => rs.length - (intOf i).toNat)
  case atStart => exact ⟨0, Nat.zero_le _, rfl, h0, Below.refl _ _⟩
  case round =>
    obtain ⟨k, hk, rfl, hJs, hnx⟩ := hrel
    by_cases hlt : k < rs.length
    · have hc1 := (hnx.cell (p := ⟨b, k * 2, none⟩) hb).trans (hc k hlt).1
      have hc2 := (hnx.cell (p := ⟨b, k * 2 + 1, none⟩) hb).trans (hc k hlt).2
      obtain ⟨fn, tmps, assign, body, hy, hR⟩ := hY _ rs[k] _ (hJa _ _ (.cells #[.int .i64 (ρ rs[k]).n, .func (.func (ρ rs[k]).g) #[] (ρ rs[k]).lb] 94) hJs) (by simp; omega)
      gi_wp2
      refine hR.mono ?_
      rintro e W3 (⟨rfl, hJ3, hk3⟩ | ⟨rfl, hJx3⟩)
      · gi_wp2
        go_roundw
        case rel => exact ⟨k + 1, by omega, by simp, by rw [List.take_succ_eq_append_getElem hlt]; exact hJ3, (hnx.alloc (Nat.le_trans hn₀ hnx.size) _).trans hk3⟩
        case measure => simp [intOf]; omega
      · gi_wp2
        refine bodyPost_ret (results_none rfl _ _ _) rfl ?_
        exact ⟨⟨_, rfl⟩, .inr ⟨_, by rw [← List.take_succ_eq_append_getElem hlt]; exact List.take_prefix _ _, hJx3⟩⟩
    · obtain rfl : k = rs.length := by omega
      rw [List.take_length] at hJs
      gi_wp2
      go_end0
      exact ⟨⟨_, rfl⟩, .inl ⟨_, rfl, hJs⟩⟩
def encR (x : Rule) : Array Value := #[.agg #[.int .i64 x.n, .func (.func x.g) #[] x.lb]]

theorem rules6_stops {α : Type} (ρ : α → Rule) (Bs b : Nat) (rs : List α) (hlen : rs.length ≤ 100) (w : World) (hBb : Bs < w.heap.size) (hb : b < w.heap.size)
    (hBs : w.cell? ⟨Bs, 0, none⟩ = some (.slice (some ⟨b, 0, none⟩) rs.length rs.length)) (hc : ∀ k (hk : k < rs.length), w.cell? ⟨b, k * 2, none⟩ = some (.int .i64 (ρ rs[k]).n) ∧ w.cell? ⟨b, k * 2 + 1, none⟩ = some (.func (.func (ρ rs[k]).g) #[] (ρ rs[k]).lb)) :
    Stops Tryd.prog 60 #[.pointer (some ⟨Bs, 0, none⟩)] (fun x => encR (ρ x)) rs w := by
  intro l J Jx W hW hJ hJx hY h0
  refine rules6_in ρ Fence.wide 9 trivial rfl (by omega) l Bs w.heap.size b rs hlen hb J Jx (fun pre W1 o hJ1 => hJ _ _ _ none hJ1 (World.grownBy_alloc _ _ _) (fun r e => by cases e)) hY W hW.size ((hW.cell (p := ⟨Bs, 0, none⟩) hBb).trans hBs) (fun k hk => ⟨(hW.cell (p := ⟨b, k * 2, none⟩) hb).trans (hc k hk).1, (hW.cell (p := ⟨b, k * 2 + 1, none⟩) hb).trans (hc k hk).2⟩) h0

/-- A rule that may be asked in every world that has grown out of W1. -/
def Good (W1 : World) (r : Rule) : Prop := (∀ args w, (callFunc r.g args).run Tryd.prog w = .ok (.enter r.g args) w) ∧
  ∀ (s : ByteArray) (W : World), Gr W1 W → Env W → s.size ≤ 1000 → Ret Tryd.prog r.g (#[.string s] ++ r.lb) W fun v _ => v = .bool (r.p s)

/-- The number of the first rule that a name breaks. -/
def firstOf (s : ByteArray) : List Rule → Int
  | [] => 0
  | r :: l => if r.p s then r.n else firstOf s l

theorem firstOf_append (s : ByteArray) (l : List Rule) (r : Rule) (l' : List Rule) (h : ∀ x ∈ l, x.p s = false) (hr : r.p s = true) : firstOf s (l ++ r :: l') = r.n := by
  induction l with
  | nil => simp [firstOf, hr]
  | cons x l ih => simp only [List.cons_append, firstOf, h x (List.mem_cons_self), Bool.false_eq_true, if_false]; exact ih (fun y hy => h y (List.mem_cons_of_mem _ hy))
theorem firstOf_none (s : ByteArray) (l : List Rule) (h : ∀ x ∈ l, x.p s = false) : firstOf s l = 0 := by
  induction l with
  | nil => rfl
  | cons x l ih => simp only [firstOf, h x (List.mem_cons_self), Bool.false_eq_true, if_false]; exact ih (fun y hy => h y (List.mem_cons_of_mem _ hy))

/-- The call of rules(): what it hands back, in words. -/
theorem breaks_core (s : ByteArray) (w : World) (hE : Env w) (hs : s.size ≤ 1000) (rs : World → List Rule) (hlen : ∀ w, (rs w).length ≤ 100)
    (hrules : ∀ w, Calls Tryd.prog 44 #[] w fun e w' => ∃ Bs b, e = .returned (.func (.func 60) #[] #[.pointer (some ⟨Bs, 0, none⟩)]) ∧ Gr w w' ∧ Bs < w'.heap.size ∧ b < w'.heap.size ∧
      w'.cell? ⟨Bs, 0, none⟩ = some (.slice (some ⟨b, 0, none⟩) (rs w).length (rs w).length) ∧ (∀ k (hk : k < (rs w).length), w'.cell? ⟨b, k * 2, none⟩ = some (.int .i64 (rs w)[k].n) ∧ w'.cell? ⟨b, k * 2 + 1, none⟩ = some (.func (.func (rs w)[k].g) #[] (rs w)[k].lb)) ∧
      ∀ r ∈ rs w, Good w' r) (res : Int) (hres : ∀ w, firstOf s (rs w) = res) :
    Ret Tryd.prog 31 #[.string s] w fun v _ => v = .int .i64 res := by
  unfold Ret
  refine calls_of_wp_marks Tryd.func31 rfl ?_
  simp only [Tryd.ntmps31, List.size_toArray, List.length_cons, List.length_nil, Nat.reduceAdd, Nat.reduceSub, Array.replicate_succ, Array.replicate_zero, List.push_toArray, List.append_toArray, List.nil_append, List.cons_append]
  go_wp2_with fail
  go_step3
  go_wp2_with fail
  go_step3
  go_wp2_with fail
  refine (hrules _).mono ?_
  rintro e w' ⟨Bs, b, rfl, hg, hBs, hb, hcB, hcs, hgood⟩
  go_wp2_with fail
  obtain ⟨w2, hw2⟩ : ∃ w2, (w.alloc (.cells #[.string s] 9)).alloc (.cells #[.int .i64 0] 3) = w2 := ⟨_, rfl⟩
  have hG2 : Gr w w2 := by rw [← hw2]; exact ((Gr.refl w).alloc _).alloc _
  have hS2 : w2.cell? ⟨w.heap.size, 0, none⟩ = some (.string s) := by rw [← hw2]; simp
  have hF2 : w2.cell? ⟨w.heap.size + 1, 0, none⟩ = some (.int .i64 0) ∧ w2.frozen? ⟨w.heap.size + 1, 0, none⟩ = false := by rw [← hw2]; simp
  rw [hw2] at hg hcB hcs hgood
  have hres2 := hres w2
  have hlen2 := hlen w2
  clear hw2 hrules hres hlen
  generalize rs w2 = R at *
  have hEw : Env w' := hE.gr (hG2.trans hg)
  have hS := hg.cell hS2
  have hF := hg.cell hF2.1
  have hFf := hg.frozen hF2.1 hF2.2
  have hGw : Gr w w' := hG2.trans hg
  have hFlt : w.heap.size + 1 < w'.heap.size := World.block_lt_of_cell? w' ⟨w.heap.size + 1, 0, none⟩ hF
  clear hS2 hF2 hg hG2
  refine wp_range (α := {r : Rule // Good w' r}) (xs := R.attachWith (Good w') hgood) rfl (enters_of Tryd.func60 (by kernel_rfl) rfl)
    (rules6_stops Subtype.val Bs b (R.attachWith (Good w') hgood) (by simpa using hlen2) w' hBs hb (by simpa using hcB) (fun k hk => by simpa using hcs k (by simpa using hk))) (fun _ => rfl)
    (fun pre W => Below w'.heap.size w' W ∧ ∀ x ∈ pre, x.1.p s = false)
    (fun c pre W => (c = .exit 0 ∧ Below w.heap.size w W) ∧ ∃ pre' x, (pre = pre' ++ [x] ∧ x.1.p s = true ∧ ∀ y ∈ pre', y.1.p s = false) ∧ W.cell? ⟨w.heap.size + 1, 0, none⟩ = some (.int .i64 x.1.n))
    (OwnFrom.and (ownFrom_below (Nat.le_refl _) (Nat.le_refl _)) (ownFrom_pure _ _))
    (fun c => OwnFrom.and (fun pre A B row hs hg hr => ⟨hs.1, ownFrom_below (β := List {r : Rule // Good w' r}) (Nat.le_refl _) hGw.size pre A B row hs.2 hg hr⟩) (Own.from (fun pre A B row hs hg hr => by
      obtain ⟨pre', x, hp, hc⟩ := hs
      exact ⟨pre', x, hp, cell_kept hc hg hr⟩) _))
    ⟨Below.refl _ _, fun _ h => by cases h⟩
    (fun x a' W => ∃ Bx, w'.heap.size ≤ Bx ∧ W.heap[Bx]? = some (.cells #[.int .i64 x.1.n, .func (.func x.1.g) #[] x.1.lb] 94 (0, 0)) ∧
      a' = { tmps := #[.string s, .pointer (some ⟨w.heap.size, 0, none⟩), .int .i64 0, .pointer (some ⟨w.heap.size + 1, 0, none⟩), .pointer (some ⟨Bx, 0, none⟩), .func (.func 60) #[] #[.pointer (some ⟨Bs, 0, none⟩)], .agg #[.int .i64 x.1.n, .func (.func x.1.g) #[] x.1.lb], undef, undef, undef, undef, undef, undef, undef], defers := [] })
    (fun x a' => Own.from (fun _ A B row hs hg hr => by
      obtain ⟨Bx, h1, h2, h3⟩ := hs
      refine ⟨Bx, h1, ?_, h3⟩
      rw [hg.block Bx (Array.getElem?_eq_some_iff.1 h2).1 (fun e => by obtain ⟨o, ho, hc⟩ := hr Bx e.symm; rw [h2] at ho; cases ho; cases hc)]
      exact h2) _)
    ?assign ?body ?done ?stop
  case assign =>
    rintro l pre x W K ⟨hB, hI⟩ hK
    dsimp only [encR]
    gi_wp2
    exact hK _ _ ((KeepsOthers.alloc _ _).from _) ((Below.refl _ W).alloc hB.size _) ⟨hB.alloc hB.size _, hI⟩ ⟨W.heap.size, hB.size, heap_alloc_new W _, rfl⟩
  case body =>
    rintro l pre x a' W hl ⟨r, hr⟩ ⟨hB, hI⟩ ⟨Bx, hBx, hX, rfl⟩ hlt
    obtain ⟨x, hent, hx⟩ := x
    have hSW : W.cell? ⟨w.heap.size, 0, none⟩ = some (.string s) := (hB.cell (p := ⟨w.heap.size, 0, none⟩) (by show w.heap.size < _; omega)).trans hS
    have hX0 : W.cell? ⟨Bx, 0, none⟩ = some (.int .i64 x.n) := by rw [cell_of_row W Bx 0 _ _ _ hX]; rfl
    have hX1 : W.cell? ⟨Bx, 1, none⟩ = some (.func (.func x.g) #[] x.lb) := by rw [cell_of_row W Bx 1 _ _ _ hX]; rfl
    have hcall := hx s W hB (hEw.gr hB) hs
    have HI := Lib.hid hI
    clear hI hX
    cases hp : x.p s
    · rw [hp] at hcall
      gi_wp2_with fail
      refine ⟨trivial, ?_⟩
      refine (CallsIn.inRound l (callsIn_wide.2 hcall)).mono ?_
      rintro e W2 ⟨v, rfl, hg2, rfl⟩
      gi_wp2
      have hK : KeepsFrom w'.heap.size W W2 := ⟨hg2.size, fun k o _ hk _ => hg2.heap hk⟩
      refine ⟨hK, Below.mono hg2 hB.size, hB.trans (Below.mono hg2 hB.size), fun y hy => ?_⟩
      rcases List.mem_append.1 hy with hy | hy
      · exact HI y hy
      · rw [List.mem_singleton.1 hy]; exact hp
    · rw [hp] at hcall
      gi_wp2_with fail
      refine ⟨trivial, ?_⟩
      refine (CallsIn.inRound l (callsIn_wide.2 hcall)).mono ?_
      rintro e W2 ⟨v, rfl, hg2, rfl⟩
      have hX02 := hg2.cell hX0
      have hF2 := hg2.cell ((hB.cell (p := ⟨w.heap.size + 1, 0, none⟩) hFlt).trans hF)
      have hFf2 := hg2.frozen ((hB.cell (p := ⟨w.heap.size + 1, 0, none⟩) hFlt).trans hF) ((hB.frozen (p := ⟨w.heap.size + 1, 0, none⟩) hFlt).trans hFf)
      gi_wp2
      have hne : w'.heap.size ≠ w.heap.size + 1 := by omega
      refine ⟨⟨by rw [World.size_setCell]; exact hg2.size, fun k o hk ho _ => ?_⟩, ⟨rfl, ?_⟩, pre, ⟨x, hent, hx⟩, ⟨rfl, hp, fun y hy => HI y hy⟩, ?_⟩
      · rw [Below.heap_setCell _ _ _ k (by show k ≠ w.heap.size + 1; omega)]; exact hg2.heap ho
      · exact Below.setCell ((hGw.trans hB).trans hg2) (by show w.heap.size ≤ w.heap.size + 1; omega) _
      · exact World.cell?_setCell_same _ _ _ hF2
  case done =>
    rintro D W hD ⟨hB, hI⟩ hK
    have hF2 := (hB.cell (p := ⟨w.heap.size + 1, 0, none⟩) hFlt).trans hF
    have HI := Lib.hid hI
    clear hI
    go_wp2
    refine leaves_marks rfl hK (results_tmp rfl _ _ _) (RetP.mk ?_ ?_)
    · exact Below.trans (hGw.trans hB) (belowK_b (w := w) (Nat.le_refl _) W D _ _ (Nat.le_trans hGw.size hD) hK rfl rfl)
    · rw [← hres2, firstOf_none s R (fun x hx => HI ⟨x, hgood x hx⟩ (by simpa using hx))]; rfl
  case stop =>
    rintro D c pre W hD hpre ⟨⟨rfl, hB⟩, pre', x, ⟨rfl, hx, hI⟩, hF2⟩ hK
    have HI := Lib.hid hI
    clear hI
    go_wp2
    refine leaves_marks rfl hK (results_tmp rfl _ _ _) (RetP.mk ?_ ?_)
    · exact hB.trans (belowK_b (w := w) (Nat.le_refl _) W D _ _ (Nat.le_trans hGw.size hD) hK rfl rfl)
    · obtain ⟨t, ht⟩ := hpre
      have hR : R = pre'.map (·.1) ++ x.1 :: t.map (·.1) := by
        have h3 := congrArg (List.map Subtype.val) ht
        rw [List.attachWith_map_subtype_val] at h3
        rw [← h3]; simp
      rw [← hres2, hR, firstOf_append s _ _ _ (fun y hy => by
        obtain ⟨z, hz, rfl⟩ := List.mem_map.1 hy
        exact HI z hz) hx]
      rfl
end Go.Proofs.YtjngckeeoohegaaDoor
