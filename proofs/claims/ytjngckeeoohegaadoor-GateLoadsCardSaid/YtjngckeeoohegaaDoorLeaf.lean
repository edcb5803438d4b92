/- What the small functions of cmp, dot and vector come to. -/
import Derived.Test.YtjngckeeoohegaaDoorProg
import Derived.Test.YtjngckeeoohegaaDoorRel
import Derived.WalkSpells
import Derived.WalkLawsBesides
namespace Go.Proofs.YtjngckeeoohegaaDoor
open Go.RowKit Go.Rel

def cmpI (a b : Int) : Int := if a < b then -1 else if b < a then 1 else 0
def dotCmp (a b c d : Int) : Int := if cmpI a c = 0 then cmpI b d else cmpI a c
def orI (x y : Int) : Int := if x = 0 then y else x
theorem val_int {k : IntKind} {a b : Int} (h : a = b) : Value.int k a = .int k b := by rw [h]
theorem ret_int {k : IntKind} {a b : Int} (h : a = b) : Ending.returned (.int k a) = .returned (.int k b) := by rw [h]

set_option maxHeartbeats 400000 in
theorem isNaN_any (a : Int) (w : World) :
    Calls Tryd.prog 30 #[.int .i64 a] w fun e w' => e = .returned (.bool false) ∧ w' = w := by
  go_enter Tryd.func30, Tryd.ntmps30
  go_wp2
  go_ret
  exact ⟨rfl, rfl⟩

set_option maxHeartbeats 400000 in
theorem cmp_any (a b : Int) (w : World) :
    Calls Tryd.prog 23 #[.int .i64 a, .int .i64 b] w fun e w' => e = .returned (.int .i64 (cmpI a b)) ∧ w' = w := by
  go_enter Tryd.func23, Tryd.ntmps23
  go_wp2_with (go_at_call 30; refine (isNaN_any _ _).mono ?_; rintro e w' ⟨rfl, rfl⟩)
  all_goals go_ret
  all_goals (refine ⟨ret_int ?_, rfl⟩; unfold cmpI)
  · rw [if_pos ‹_›]
  · rw [if_neg (by omega), if_pos ‹_›]
  · rw [if_neg (by omega), if_neg (by omega)]

set_option maxHeartbeats 400000 in
/-- cmp.Or of two ints in a row of two cells -/
theorem or_two (b : Nat) (c : Nat) (x y : Int) (w : World) (h0 : w.cell? ⟨b, 0, none⟩ = some (.int .i64 x)) (h1 : w.cell? ⟨b, 1, none⟩ = some (.int .i64 y)) :
    Calls Tryd.prog 22 #[.slice (some ⟨b, 0, none⟩) 2 c] w fun e w' => e = .returned (.int .i64 (orI x y)) ∧ w' = w := by
  go_enter Tryd.func22, Tryd.ntmps22
  go_wp2
  go_loop [5, 8] (fun _ i => ∃ k : Nat, k ≤ 2 ∧ i = .int .i64 k ∧ (1 ≤ k → x = 0) ∧ (2 ≤ k → y = 0)) (fun _ i => 2 - (intOf i).toNat)
  case atStart => exact ⟨0, by omega, rfl, by omega, by omega⟩
  case round =>
    obtain ⟨k, hk, rfl, hx, hy⟩ := hrel
    by_cases h2 : k = 2
    · subst h2
      have ex := hx (by omega)
      have ey := hy (by omega)
      go_wp2
      go_ret
      exact ⟨ret_int (by simp [orI, ex, ey]), rfl⟩
    · by_cases h1k : k = 1
      · subst h1k
        by_cases e : y = 0
        · have hb : (y != 0) = false := by simp [e]
          go_wp2
          go_round
          case rel => exact ⟨2, by omega, rfl, fun _ => hx (by omega), fun _ => e⟩
          case measure => simp [intOf]
        · have hb : (y != 0) = true := by simp [e]
          go_wp2
          go_ret
          exact ⟨ret_int (by simp [orI, hx (by omega)]), rfl⟩
      · obtain rfl : k = 0 := by omega
        by_cases e : x = 0
        · have hb : (x != 0) = false := by simp [e]
          go_wp2
          go_round
          case rel => exact ⟨1, by omega, rfl, fun _ => e, by omega⟩
          case measure => simp [intOf]
        · have hb : (x != 0) = true := by simp [e]
          go_wp2
          go_ret
          exact ⟨ret_int (by simp [orI, e]), rfl⟩

set_option maxRecDepth 100000 in
set_option maxHeartbeats 400000 in
theorem dotCompare_any (a b c d : Int) (w : World) :
    Ret Tryd.prog 15 #[.agg #[.int .i64 a, .int .i64 b], .agg #[.int .i64 c, .int .i64 d]] w fun v _ => v = .int .i64 (dotCmp a b c d) := by
  unfold Ret
  go_enter Tryd.func15, Tryd.ntmps15
  go_wp2_with fail
  refine wp_region_steps (by kernel_rfl) (by kernel_rfl) rfl ?_
  simp only [List.map_cons, List.map_nil, stepOf, Oper.looksAt, gd, Op.operands, Call.operands, List.filterMap_cons, List.filterMap_nil, List.append_nil, List.append_toArray, List.cons_append, List.nil_append, List.toList_toArray, Option.map_some, Option.map_none, Option.bind_some, Option.toList, List.getElem?_toArray, List.getElem?_cons_succ, List.getElem?_cons_zero]
  repeat (
      apply sWalk_eq
      · intro f W hW hE
        have hc := hW.cells
        have he := evalF_all f
        simp only [EnvAt, slotP, Option.some.injEq, Nat.reduceEqDiff, reduceCtorEq, if_true, if_false, and_true, Array.getD_eq_getD_getElem?, List.getElem?_toArray, List.getElem?_cons_succ, List.getElem?_cons_zero, Option.getD_some] at hE
        first
          | exact stepOb_off (by first | exact hE | exact hE.2 | exact hE.2.2 | exact hE.2.2.2 | exact hE.2.2.2.2 | exact hE.2.2.2.2.2 | exact hE.2.2.2.2.2.2) (by decide)
          | exact stepOb_undef (by first | exact hE | exact hE.2 | exact hE.2.2 | exact hE.2.2.2 | exact hE.2.2.2.2 | exact hE.2.2.2.2.2 | exact hE.2.2.2.2.2.2)
          | (first | refine stepOb_plain ?_ | refine stepOb_on (by first | exact hE | exact hE.2 | exact hE.2.2 | exact hE.2.2.2 | exact hE.2.2.2.2 | exact hE.2.2.2.2.2 | exact hE.2.2.2.2.2.2) ?_ | (apply stepOb_gd2 (by first | exact hE | exact hE.2 | exact hE.2.2 | exact hE.2.2.2 | exact hE.2.2.2.2 | exact hE.2.2.2.2.2 | exact hE.2.2.2.2.2.2); intro hg hg2; (try simp only [hg, hg2, true_and, if_true, reduceCtorEq, if_false, Bool.not_eq_true] at hE)) | (apply stepOb_gd (by first | exact hE | exact hE.2 | exact hE.2.2 | exact hE.2.2.2 | exact hE.2.2.2.2 | exact hE.2.2.2.2.2 | exact hE.2.2.2.2.2.2); intro hg; (try simp only [hg, true_and, if_true, reduceCtorEq, if_false, Bool.not_eq_true] at hE))
             first
               | (with_reducible exact relUpon_or hE.1 hE.2)
               | (with_reducible exact relUpon_and hE.1 hE.2)
               | (with_reducible exact relUpon_or hE.1 hE.2.1)
               | (with_reducible exact relUpon_and hE.1 hE.2.1)
               | (simp only [bare]; go_simp; simp only [relUpon]; first | exact ⟨Gr.refl _, rfl⟩ | (exact ⟨Gr.refl _, Ret.of_same (cmp_any _ _ _)⟩)))
      )
  refine sWalk_cons (RowV 3 2 #[.int .i64 (cmpI a c), .int .i64 (cmpI b d)]) (RowV.stab _ _ _) ?_ ?_
  · intro f W hW hE
    have hc := hW.cells
    have he := evalF_all f
    simp only [EnvAt, slotP, Option.some.injEq, Nat.reduceEqDiff, reduceCtorEq, if_true, if_false, and_true, Array.getD_eq_getD_getElem?, List.getElem?_toArray, List.getElem?_cons_succ, List.getElem?_cons_zero, Option.getD_some] at hE
    simp only [StepOb, bare]
    go_simp
    simp only [relUpon]
    exact ⟨(Gr.refl _).alloc _, RowV.alloc⟩
  refine sWalk_cons (fun v _ => v = .int .i64 (dotCmp a b c d)) (stab_eq _) ?_ ?_
  · intro f W hW hE
    have hc := hW.cells
    have he := evalF_all f
    simp only [EnvAt, slotP, Option.some.injEq, Nat.reduceEqDiff, reduceCtorEq, if_true, if_false, and_true, Array.getD_eq_getD_getElem?, List.getElem?_toArray, List.getElem?_cons_succ, List.getElem?_cons_zero, Option.getD_some] at hE
    obtain ⟨b0, hb0, hr0⟩ := hE
    simp only [StepOb, bare]
    go_simp
    simp only [relUpon]
    exact ⟨Gr.refl _, Ret.of_same (or_two b0 2 (cmpI a c) (cmpI b d) W (cell_of_heap hr0 rfl) (cell_of_heap hr0 rfl))⟩
  repeat (
      apply sWalk_eq
      · intro f W hW hE
        have hc := hW.cells
        have he := evalF_all f
        simp only [EnvAt, slotP, Option.some.injEq, Nat.reduceEqDiff, reduceCtorEq, if_true, if_false, and_true, Array.getD_eq_getD_getElem?, List.getElem?_toArray, List.getElem?_cons_succ, List.getElem?_cons_zero, Option.getD_some] at hE
        first
          | exact stepOb_off (by first | exact hE | exact hE.2 | exact hE.2.2 | exact hE.2.2.2 | exact hE.2.2.2.2 | exact hE.2.2.2.2.2 | exact hE.2.2.2.2.2.2) (by decide)
          | exact stepOb_undef (by first | exact hE | exact hE.2 | exact hE.2.2 | exact hE.2.2.2 | exact hE.2.2.2.2 | exact hE.2.2.2.2.2 | exact hE.2.2.2.2.2.2)
          | (first | refine stepOb_plain ?_ | refine stepOb_on (by first | exact hE | exact hE.2 | exact hE.2.2 | exact hE.2.2.2 | exact hE.2.2.2.2 | exact hE.2.2.2.2.2 | exact hE.2.2.2.2.2.2) ?_ | (apply stepOb_gd2 (by first | exact hE | exact hE.2 | exact hE.2.2 | exact hE.2.2.2 | exact hE.2.2.2.2 | exact hE.2.2.2.2.2 | exact hE.2.2.2.2.2.2); intro hg hg2; (try simp only [hg, hg2, true_and, if_true, reduceCtorEq, if_false, Bool.not_eq_true] at hE)) | (apply stepOb_gd (by first | exact hE | exact hE.2 | exact hE.2.2 | exact hE.2.2.2 | exact hE.2.2.2.2 | exact hE.2.2.2.2.2 | exact hE.2.2.2.2.2.2); intro hg; (try simp only [hg, true_and, if_true, reduceCtorEq, if_false, Bool.not_eq_true] at hE))
             first
               | (with_reducible exact relUpon_or hE.1 hE.2)
               | (with_reducible exact relUpon_and hE.1 hE.2)
               | (with_reducible exact relUpon_or hE.1 hE.2.1)
               | (with_reducible exact relUpon_and hE.1 hE.2.1)
               | (simp only [bare]; go_simp; simp only [relUpon]; first | exact ⟨Gr.refl _, rfl⟩))
      )
  refine sWalk_nil (fun W hW => ?_)
  simp only [List.reverse_cons, List.reverse_nil, List.nil_append, List.cons_append, RelFin]
  iterate 12 (intro _ hx; clear hx)
  iterate 1 (rintro _ rfl)
  go_simp
  go_wp2
  go_ret
  exact RetP.mk ((((Gr.refl w).alloc _).alloc _).trans hW) rfl

/-- Is a dot one? -/
def DotOk (s c : Int) : Prop := 0 ≤ s ∧ s < 16 ∧ 1 ≤ c ∧ c ≤ 4294967295
instance (s c : Int) : Decidable (DotOk s c) := by unfold DotOk; infer_instance
def dotErr (s c : Int) : Int := if DotOk s c then 0 else 50

set_option maxHeartbeats 400000 in
theorem dotCheck_any (s c : Int) (w : World) :
    Ret Tryd.prog 24 #[.agg #[.int .i64 s, .int .i64 c]] w fun v _ => v = .int .i64 (dotErr s c) := by
  unfold Ret
  go_enter Tryd.func24, Tryd.ntmps24
  go_wp2
  all_goals go_ret
  all_goals refine RetP.mk ((Gr.refl w).alloc _) (val_int ?_)
  all_goals (unfold dotErr; first | exact (if_pos (by unfold DotOk; omega)).symm | exact (if_neg (by unfold DotOk; omega)).symm)

set_option maxHeartbeats 400000 in
theorem ref05Check_any (s c : Int) (w : World) :
    Ret Tryd.prog 17 #[.agg #[.int .i64 s, .int .i64 c]] w fun v _ => v = .int .i64 (dotErr s c) := by
  unfold Ret
  go_enter Tryd.func17, Tryd.ntmps17
  go_wp2
  all_goals go_ret
  all_goals refine RetP.mk ((Gr.refl w).alloc _) (val_int ?_)
  all_goals (unfold dotErr; first | exact (if_pos (by unfold DotOk; omega)).symm | exact (if_neg (by unfold DotOk; omega)).symm)

set_option maxHeartbeats 400000 in
theorem ref05Compare_any (a b c d : Int) (w : World) :
    Ret Tryd.prog 12 #[.agg #[.int .i64 a, .int .i64 b], .agg #[.int .i64 c, .int .i64 d]] w fun v _ => v = .int .i64 (dotCmp a b c d) := by
  unfold Ret
  by_cases h1 : a < c
  · go_enter Tryd.func12, Tryd.ntmps12
    go_wp2
    all_goals (go_ret; exact RetP.mk (((Gr.refl w).alloc _).alloc _) (val_int (by simp only [dotCmp, cmpI]; repeat' split <;> omega)))
  · by_cases h2 : c < a
    · have e1 : (a == c) = false := by simp; omega
      go_enter Tryd.func12, Tryd.ntmps12
      go_wp2
      all_goals (go_ret; exact RetP.mk (((Gr.refl w).alloc _).alloc _) (val_int (by simp only [dotCmp, cmpI]; repeat' split <;> omega)))
    · obtain rfl : a = c := by omega
      by_cases h3 : b < d
      · go_enter Tryd.func12, Tryd.ntmps12
        go_wp2
        all_goals (go_ret; exact RetP.mk (((Gr.refl w).alloc _).alloc _) (val_int (by simp only [dotCmp, cmpI]; repeat' split <;> omega)))
      · by_cases h4 : d < b
        · have e1 : (b == d) = false := by simp; omega
          go_enter Tryd.func12, Tryd.ntmps12
          go_wp2
          all_goals (go_ret; exact RetP.mk (((Gr.refl w).alloc _).alloc _) (val_int (by simp only [dotCmp, cmpI]; repeat' split <;> omega)))
        · obtain rfl : b = d := by omega
          go_enter Tryd.func12, Tryd.ntmps12
          go_wp2
          all_goals (go_ret; exact RetP.mk (((Gr.refl w).alloc _).alloc _) (val_int (by simp only [dotCmp, cmpI]; repeat' split <;> omega)))

end Go.Proofs.YtjngckeeoohegaaDoor
