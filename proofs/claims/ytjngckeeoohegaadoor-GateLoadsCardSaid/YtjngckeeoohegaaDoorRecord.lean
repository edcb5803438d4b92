/- What record.Check and the document's Check come to. -/
import Derived.Test.YtjngckeeoohegaaDoorRules
namespace Go.Proofs.YtjngckeeoohegaaDoor
open Go.RowKit Go.Rel

/-- May a record be? -/
def recOk (r : Rec) : Bool := decide (DotOk r.site r.cnt) && ((vecAt r.ctx r.site.toNat : Int) == r.cnt - 1) && (nameErr r.ref == 0) && (r.has || decide (r.tip = id0))
def recErr (r : Rec) : Int := if recOk r then 0 else 120

theorem dotErr_zero {s c : Int} (h : (dotErr s c != 0) = false) : 0 ≤ s ∧ s < 16 ∧ 1 ≤ c ∧ c ≤ 4294967295 := by
  unfold dotErr at h
  by_cases hd : DotOk s c
  · exact hd
  · simp [hd] at h

theorem vecAt_lt (v : Vec) (i : Nat) : vecAt v i < 4294967296 := (v.toList.getD i 0).toNat_lt

theorem rec_key (r : Rec) : (dotErr r.site r.cnt != 0 || IntKind.i64.wrap ↑(vecAt r.ctx r.site.toNat) != IntKind.i64.wrap (r.cnt - 1) || nameErr r.ref != 0 || !r.has && !decide (r.tip = id0)) = !recOk r := by
  unfold recOk dotErr
  by_cases hd : DotOk r.site r.cnt
  · have h1 : IntKind.i64.wrap ↑(vecAt r.ctx r.site.toNat) = ↑(vecAt r.ctx r.site.toNat) := IntWalk.i64_in _ (by have := vecAt_lt r.ctx r.site.toNat; omega)
    have h2 : IntKind.i64.wrap (r.cnt - 1) = r.cnt - 1 := IntWalk.i64_in _ (by unfold DotOk at hd; omega)
    rw [h1, h2, if_pos hd]
    simp only [hd, decide_true, Bool.true_and, Bool.not_and, Bool.not_or, bne_self_eq_false, Bool.false_or]
    rfl
  · rw [if_neg hd]
    simp [hd]

set_option maxRecDepth 100000 in
set_option maxHeartbeats 4000000 in
theorem recordCheck_any (r : Rec) (w : World) (hEv : Env w) (hs : r.ref.size ≤ 1000) : Ret Tryd.prog 16 #[recV r] w fun v _ => v = .int .i64 (recErr r) := by
  unfold Ret recV
  have hr0 := range_alloc_new w (recCells r) 31
  go_enter Tryd.func16, Tryd.ntmps16
  go_wp2_with fail
  refine wp_region_steps (by kernel_rfl) (by kernel_rfl) rfl ?_
  simp only [List.map_cons, List.map_nil, stepOf, Oper.looksAt, gd, Op.operands, Call.operands, List.filterMap_cons, List.filterMap_nil, List.append_nil, List.append_toArray, List.cons_append, List.nil_append, List.toList_toArray, Option.map_some, Option.map_none, Option.bind_some, Option.toList, List.getElem?_toArray, List.getElem?_cons_succ, List.getElem?_cons_zero]
  repeat (
      apply sWalk_eq
      · intro f W hW hE
        have he := evalF_all f
        simp only [EnvAt, slotP, Option.some.injEq, Nat.reduceEqDiff, reduceCtorEq, if_true, if_false, and_true, Array.getD_eq_getD_getElem?, List.getElem?_toArray, List.getElem?_cons_succ, List.getElem?_cons_zero, Option.getD_some] at hE
        have ⟨h0, h1, h2, h3, hdot, hctx, htip, hca, hta⟩ := recParts0 (Gr.range hW hr0)
        have h4 := hca r.site.toNat
        clear hca hta
        first
          | exact stepOb_off (by first | exact hE | exact hE.2 | exact hE.2.2 | exact hE.2.2.2 | exact hE.2.2.2.2 | exact hE.2.2.2.2.2 | exact hE.2.2.2.2.2.2) (by decide)
          | exact stepOb_undef (by first | exact hE | exact hE.2 | exact hE.2.2 | exact hE.2.2.2 | exact hE.2.2.2.2 | exact hE.2.2.2.2.2 | exact hE.2.2.2.2.2.2)
          | (first | refine stepOb_plain ?_ | refine stepOb_on (by first | exact hE | exact hE.2 | exact hE.2.2 | exact hE.2.2.2 | exact hE.2.2.2.2 | exact hE.2.2.2.2.2 | exact hE.2.2.2.2.2.2) ?_ | (apply stepOb_gd2 (by first | exact hE | exact hE.2 | exact hE.2.2 | exact hE.2.2.2 | exact hE.2.2.2.2 | exact hE.2.2.2.2.2 | exact hE.2.2.2.2.2.2); intro hg hg2; (try simp only [hg, hg2, true_and, if_true, reduceCtorEq, if_false, Bool.not_eq_true] at hE)) | (apply stepOb_gd (by first | exact hE | exact hE.2 | exact hE.2.2 | exact hE.2.2.2 | exact hE.2.2.2.2 | exact hE.2.2.2.2.2 | exact hE.2.2.2.2.2.2); intro hg; (try simp only [hg, true_and, if_true, reduceCtorEq, if_false, Bool.not_eq_true] at hE))
             try (have hd := dotErr_zero hg; have hd1 := hd.1; have hd2 := hd.2.1; clear hd; have h5 := h4 (by omega))
             first
               | (with_reducible exact relUpon_or hE.1 hE.2)
               | (with_reducible exact relUpon_and hE.1 hE.2)
               | (with_reducible exact relUpon_or hE.1 hE.2.1)
               | (with_reducible exact relUpon_and hE.1 hE.2.1)
               | (with_reducible exact ld_dot hE hdot)
               | (with_reducible exact ld_id hE.1 htip)
               | (with_reducible exact bld_id)
               | (with_reducible exact neq_id hE.1 hE.2.1)
               | (simp only [bare]; go_simp; simp only [relUpon]; first | exact ⟨Gr.refl _, rfl⟩ | (exact ⟨Gr.refl _, dotCheck_any _ _ _⟩) | (exact ⟨Gr.refl _, refnameCheck_any _ _ (hEv.gr (((Gr.refl _).alloc _).trans hW)) hs⟩)))
      )
  refine sWalk_nil (fun W hW => ?_)
  simp only [List.reverse_cons, List.reverse_nil, List.nil_append, List.cons_append, RelFin]
  iterate 34 (intro _ hx; clear hx)
  iterate 1 (rintro _ rfl)
  rw [rec_key]
  go_simp
  have hG : Gr w W := ((Gr.refl w).alloc _).trans hW
  have hfin : recErr r = if recOk r then 0 else 120 := rfl
  cases hk : recOk r
  · simp only [hk, Bool.false_eq_true, if_true, if_false] at hfin
    go_wp2
    go_ret
    exact RetP.mk hG (val_int (by simp [hfin]))
  · simp only [hk, Bool.false_eq_true, if_true, if_false] at hfin
    go_wp2
    go_ret
    exact RetP.mk hG (val_int (by simp [hfin]))

end Go.Proofs.YtjngckeeoohegaaDoor
