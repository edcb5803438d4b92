/- The order of dots once more, for the sort: no draw is taken back. -/
import Derived.Test.YtjngckeeoohegaaDoorRelD
import Derived.Test.YtjngckeeoohegaaDoorLeaf
namespace Go.Proofs.YtjngckeeoohegaaDoor
open Go.RowKit Go.RelD
attribute [local go_sem] Oper.semAt_some

set_option maxRecDepth 100000 in
set_option maxHeartbeats 400000 in
theorem dotCompare_d (a b c d : Int) (w : World) :
    Ret Tryd.prog 15 #[.agg #[.int .i64 a, .int .i64 b], .agg #[.int .i64 c, .int .i64 d]] w fun v _ => v = .int .i64 (dotCmp a b c d) := by
  unfold Ret
  go_enter Tryd.func15, Tryd.ntmps15
  go_wp2_with fail
  refine wp_region_steps (by kernel_rfl) (by kernel_rfl) rfl ?_
  simp only [List.map_cons, List.map_nil, stepOf, Oper.looksAt, gd, Op.operands, Call.operands, List.filterMap_cons, List.filterMap_nil, List.append_nil, List.append_toArray, List.cons_append, List.nil_append, List.toList_toArray, Option.map_some, Option.map_none, Option.bind_some, Option.toList, List.getElem?_toArray, List.getElem?_cons_succ, List.getElem?_cons_zero]
  repeat (
      apply sWalk_eq
      · intro f W hW hE
        have hc := hW.cells
        have he := evalF_all f
        simp only [EnvAt, slotP, Option.some.injEq, Nat.reduceEqDiff, reduceCtorEq, if_true, if_false, and_true, Array.getD_eq_getD_getElem?, List.getElem?_toArray, List.getElem?_cons_succ, List.getElem?_cons_zero, Option.getD_some] at hE
        first
          | exact stepOb_off (by first | exact hE | exact hE.2 | exact hE.2.2 | exact hE.2.2.2 | exact hE.2.2.2.2 | exact hE.2.2.2.2.2 | exact hE.2.2.2.2.2.2) (by decide)
          | exact stepOb_undef (by first | exact hE | exact hE.2 | exact hE.2.2 | exact hE.2.2.2 | exact hE.2.2.2.2 | exact hE.2.2.2.2.2 | exact hE.2.2.2.2.2.2)
          | (first | refine stepOb_plain ?_ | refine stepOb_on (by first | exact hE | exact hE.2 | exact hE.2.2 | exact hE.2.2.2 | exact hE.2.2.2.2 | exact hE.2.2.2.2.2 | exact hE.2.2.2.2.2.2) ?_ | (apply stepOb_gd2 (by first | exact hE | exact hE.2 | exact hE.2.2 | exact hE.2.2.2 | exact hE.2.2.2.2 | exact hE.2.2.2.2.2 | exact hE.2.2.2.2.2.2); intro hg hg2; (try simp only [hg, hg2, true_and, if_true, reduceCtorEq, if_false, Bool.not_eq_true] at hE)) | (apply stepOb_gd (by first | exact hE | exact hE.2 | exact hE.2.2 | exact hE.2.2.2 | exact hE.2.2.2.2 | exact hE.2.2.2.2.2 | exact hE.2.2.2.2.2.2); intro hg; (try simp only [hg, true_and, if_true, reduceCtorEq, if_false, Bool.not_eq_true] at hE))
             first
               | (with_reducible exact relUpon_or hE.1 hE.2)
               | (with_reducible exact relUpon_and hE.1 hE.2)
               | (with_reducible exact relUpon_or hE.1 hE.2.1)
               | (with_reducible exact relUpon_and hE.1 hE.2.1)
               | (simp only [bare]; go_simp; simp only [relUpon]; first | exact ⟨Gr.refl _, rfl⟩ | (exact ⟨Gr.refl _, Ret.of_same (cmp_any _ _ _)⟩)))
      )
  refine sWalk_cons (RowV 3 2 #[.int .i64 (cmpI a c), .int .i64 (cmpI b d)]) (RowV.stab _ _ _) ?_ ?_
  · intro f W hW hE
    have hc := hW.cells
    have he := evalF_all f
    simp only [EnvAt, slotP, Option.some.injEq, Nat.reduceEqDiff, reduceCtorEq, if_true, if_false, and_true, Array.getD_eq_getD_getElem?, List.getElem?_toArray, List.getElem?_cons_succ, List.getElem?_cons_zero, Option.getD_some] at hE
    simp only [StepOb, bare]
    go_simp
    simp only [relUpon]
    exact ⟨(Gr.refl _).alloc _, RowV.alloc⟩
  refine sWalk_cons (fun v _ => v = .int .i64 (dotCmp a b c d)) (stab_eq _) ?_ ?_
  · intro f W hW hE
    have hc := hW.cells
    have he := evalF_all f
    simp only [EnvAt, slotP, Option.some.injEq, Nat.reduceEqDiff, reduceCtorEq, if_true, if_false, and_true, Array.getD_eq_getD_getElem?, List.getElem?_toArray, List.getElem?_cons_succ, List.getElem?_cons_zero, Option.getD_some] at hE
    obtain ⟨b0, hb0, hr0⟩ := hE
    simp only [StepOb, bare]
    go_simp
    simp only [relUpon]
    exact ⟨Gr.refl _, Ret.of_same (or_two b0 2 (cmpI a c) (cmpI b d) W (cell_of_heap hr0 rfl) (cell_of_heap hr0 rfl))⟩
  repeat (
      apply sWalk_eq
      · intro f W hW hE
        have hc := hW.cells
        have he := evalF_all f
        simp only [EnvAt, slotP, Option.some.injEq, Nat.reduceEqDiff, reduceCtorEq, if_true, if_false, and_true, Array.getD_eq_getD_getElem?, List.getElem?_toArray, List.getElem?_cons_succ, List.getElem?_cons_zero, Option.getD_some] at hE
        first
          | exact stepOb_off (by first | exact hE | exact hE.2 | exact hE.2.2 | exact hE.2.2.2 | exact hE.2.2.2.2 | exact hE.2.2.2.2.2 | exact hE.2.2.2.2.2.2) (by decide)
          | exact stepOb_undef (by first | exact hE | exact hE.2 | exact hE.2.2 | exact hE.2.2.2 | exact hE.2.2.2.2 | exact hE.2.2.2.2.2 | exact hE.2.2.2.2.2.2)
          | (first | refine stepOb_plain ?_ | refine stepOb_on (by first | exact hE | exact hE.2 | exact hE.2.2 | exact hE.2.2.2 | exact hE.2.2.2.2 | exact hE.2.2.2.2.2 | exact hE.2.2.2.2.2.2) ?_ | (apply stepOb_gd2 (by first | exact hE | exact hE.2 | exact hE.2.2 | exact hE.2.2.2 | exact hE.2.2.2.2 | exact hE.2.2.2.2.2 | exact hE.2.2.2.2.2.2); intro hg hg2; (try simp only [hg, hg2, true_and, if_true, reduceCtorEq, if_false, Bool.not_eq_true] at hE)) | (apply stepOb_gd (by first | exact hE | exact hE.2 | exact hE.2.2 | exact hE.2.2.2 | exact hE.2.2.2.2 | exact hE.2.2.2.2.2 | exact hE.2.2.2.2.2.2); intro hg; (try simp only [hg, true_and, if_true, reduceCtorEq, if_false, Bool.not_eq_true] at hE))
             first
               | (with_reducible exact relUpon_or hE.1 hE.2)
               | (with_reducible exact relUpon_and hE.1 hE.2)
               | (with_reducible exact relUpon_or hE.1 hE.2.1)
               | (with_reducible exact relUpon_and hE.1 hE.2.1)
               | (simp only [bare]; go_simp; simp only [relUpon]; first | exact ⟨Gr.refl _, rfl⟩))
      )
  refine sWalk_nil (fun W hW => ?_)
  simp only [List.reverse_cons, List.reverse_nil, List.nil_append, List.cons_append, RelFin]
  iterate 12 (intro _ hx; clear hx)
  iterate 1 (rintro _ rfl)
  go_simp
  go_wp2
  go_ret
  exact RetP.mk ((((Gr.refl w).alloc _).alloc _).trans hW) rfl

end Go.Proofs.YtjngckeeoohegaaDoor
