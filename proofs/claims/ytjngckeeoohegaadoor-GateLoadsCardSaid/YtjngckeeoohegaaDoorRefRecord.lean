/- What the document's Check of a record comes to. -/
import Derived.Test.YtjngckeeoohegaaDoorRecord
import Derived.Test.YtjngckeeoohegaaDoorRefBreaks
namespace Go.Proofs.YtjngckeeoohegaaDoor
open Go.RowKit Go.Rel Go.Shelf

/-- All but the tip. -/
def recOkA (r : Rec) : Bool := decide (DotOk r.site r.cnt) && ((vecAt r.ctx r.site.toNat : Int) == r.cnt - 1) && (nameErr r.ref == 0)
theorem recOk_A (r : Rec) : recOk r = (recOkA r && (r.has || decide (r.tip = id0))) := rfl

theorem refrec_key (r : Rec) : (dotErr r.site r.cnt != 0 || IntKind.i64.wrap (IntKind.i64.wrap ↑(vecAt r.ctx r.site.toNat) + 1) != r.cnt || nameErr r.ref != 0) = !recOkA r := by
  unfold recOkA dotErr
  by_cases hd : DotOk r.site r.cnt
  · have hv := vecAt_lt r.ctx r.site.toNat
    have h1 : IntKind.i64.wrap ↑(vecAt r.ctx r.site.toNat) = ↑(vecAt r.ctx r.site.toNat) := IntWalk.i64_in _ (by omega)
    have h2 : IntKind.i64.wrap ((vecAt r.ctx r.site.toNat : Int) + 1) = (vecAt r.ctx r.site.toNat : Int) + 1 := IntWalk.i64_in _ (by omega)
    rw [h1, h2, if_pos hd]
    have h3 : ((vecAt r.ctx r.site.toNat : Int) + 1 != r.cnt) = !((vecAt r.ctx r.site.toNat : Int) == r.cnt - 1) := by
      rw [Bool.eq_iff_iff]; simp; omega
    rw [h3]
    simp only [hd, decide_true, Bool.true_and, Bool.not_and, bne_self_eq_false, Bool.false_or]
    rfl
  · rw [if_neg hd]
    simp [hd]

theorem id0_of (x : Id) (h : ∀ j, j < 32 → idAt x j = 0) : x = id0 := by
  apply Vector.ext
  intro i hi
  have h1 := h i hi
  unfold idAt at h1
  rw [List.getD_eq_getElem?_getD, List.getElem?_eq_getElem (by simpa using hi)] at h1
  simp only [Option.getD_some] at h1
  have h2 : x[i] = 0 := by
    apply UInt8.toNat_inj.1
    simpa using h1
  rw [h2]
  simp [id0]
theorem id0_not (x : Id) (j : Nat) (hj : j < 32) (h : idAt x j ≠ 0) : x ≠ id0 := by
  rintro rfl
  apply h
  unfold idAt
  rw [List.getD_eq_getElem?_getD, List.getElem?_eq_getElem (by simpa using hj)]
  simp only [Option.getD_some, Vector.getElem_toList, Vector.getElem_replicate]
  rfl

set_option maxRecDepth 100000 in
set_option maxHeartbeats 4000000 in
theorem refRecordCheck_any (r : Rec) (w : World) (hs : r.ref.size ≤ 1000) : Ret Tryd.prog 11 #[recV r] w fun v _ => v = .int .i64 (recErr r) := by
  have hfin : recErr r = if (recOkA r && (r.has || decide (r.tip = id0))) then 0 else 120 := rfl
  generalize recErr r = q at *
  have HQ0 := Lib.hid hfin
  clear hfin
  unfold Ret recV
  have hr0 := range_alloc_new w (recCells r) 31
  go_enter Tryd.func11, Tryd.ntmps11
  go_wp2_with fail
  refine wp_region_steps (by kernel_rfl) (by kernel_rfl) rfl ?_
  simp only [List.map_cons, List.map_nil, stepOf, Oper.looksAt, gd, Op.operands, Call.operands, List.filterMap_cons, List.filterMap_nil, List.append_nil, List.append_toArray, List.cons_append, List.nil_append, List.toList_toArray, Option.map_some, Option.map_none, Option.bind_some, Option.toList, List.getElem?_toArray, List.getElem?_cons_succ, List.getElem?_cons_zero]
  repeat (
      apply sWalk_eq
      · intro f W hW hE
        have he := evalF_all f
        simp only [EnvAt, slotP, Option.some.injEq, Nat.reduceEqDiff, reduceCtorEq, if_true, if_false, and_true, Array.getD_eq_getD_getElem?, List.getElem?_toArray, List.getElem?_cons_succ, List.getElem?_cons_zero, Option.getD_some] at hE
        have ⟨h0, h1, h2, h3, hdot, hctx, htip, hca, hta⟩ := recParts0 (Gr.range hW hr0)
        have h4 := hca r.site.toNat
        clear hca hta
        first
          | exact stepOb_off (by first | exact hE | exact hE.2 | exact hE.2.2 | exact hE.2.2.2 | exact hE.2.2.2.2 | exact hE.2.2.2.2.2 | exact hE.2.2.2.2.2.2) (by decide)
          | exact stepOb_undef (by first | exact hE | exact hE.2 | exact hE.2.2 | exact hE.2.2.2 | exact hE.2.2.2.2 | exact hE.2.2.2.2.2 | exact hE.2.2.2.2.2.2)
          | (first | refine stepOb_plain ?_ | refine stepOb_on (by first | exact hE | exact hE.2 | exact hE.2.2 | exact hE.2.2.2 | exact hE.2.2.2.2 | exact hE.2.2.2.2.2 | exact hE.2.2.2.2.2.2) ?_ | (apply stepOb_gd2 (by first | exact hE | exact hE.2 | exact hE.2.2 | exact hE.2.2.2 | exact hE.2.2.2.2 | exact hE.2.2.2.2.2 | exact hE.2.2.2.2.2.2); intro hg hg2; (try simp only [hg, hg2, true_and, if_true, reduceCtorEq, if_false, Bool.not_eq_true] at hE)) | (apply stepOb_gd (by first | exact hE | exact hE.2 | exact hE.2.2 | exact hE.2.2.2 | exact hE.2.2.2.2 | exact hE.2.2.2.2.2 | exact hE.2.2.2.2.2.2); intro hg; (try simp only [hg, true_and, if_true, reduceCtorEq, if_false, Bool.not_eq_true] at hE))
             try (have hd := dotErr_zero hg; have hd1 := hd.1; have hd2 := hd.2.1; clear hd; have h5 := h4 (by omega))
             first
               | (with_reducible exact relUpon_or hE.1 hE.2)
               | (with_reducible exact relUpon_and hE.1 hE.2)
               | (with_reducible exact relUpon_or hE.1 hE.2.1)
               | (with_reducible exact relUpon_and hE.1 hE.2.1)
               | (with_reducible exact ld_dot hE hdot)
               | (simp only [bare]; go_simp; simp only [relUpon]; first | exact ⟨Gr.refl _, rfl⟩ | (exact ⟨Gr.refl _, ref05Check_any _ _ _⟩) | (exact ⟨Gr.refl _, refCheck_any _ _ hs⟩)))
      )
  refine sWalk_nil (fun W hW => ?_)
  simp only [List.reverse_cons, List.reverse_nil, List.nil_append, List.cons_append, RelFin]
  iterate 23 (intro _ hx; clear hx)
  iterate 1 (rintro _ rfl)
  go_simp
  rw [refrec_key]
  have hG : Gr w W := ((Gr.refl w).alloc _).trans hW
  have hp := recParts0 (Gr.range hW hr0)
  have h3 := hp.2.2.2.1
  have hta := hp.2.2.2.2.2.2.2.2
  clear hp hr0 hW
  cases hk : recOkA r
  · have hq : q = 120 := by rw [HQ0.out, hk]; rfl
    clear HQ0 hk
    subst hq
    go_wp2
    go_ret
    exact RetP.mk hG rfl
  · cases hh : r.has
    · rw [hh] at h3
      have HQ : Hid (q = if r.tip = id0 then 0 else 120) := by
        show _ = _
        rw [HQ0.out, hk, hh]; simp
      clear HQ0 hk hh
      go_wp2
      go_loop [3] (fun i => ∃ k : Nat, k ≤ 32 ∧ i = .int .i64 k ∧ ∀ j, j < k → idAt r.tip j = 0) (fun i => 32 - (intOf i).toNat)
      case atStart => exact ⟨0, Nat.zero_le _, rfl, fun j h => by omega⟩
      case round =>
        obtain ⟨k, hk, rfl, hno⟩ := hrel
        by_cases hlt : k < 32
        · have hc := hta k hlt
          by_cases hz : idAt r.tip k = 0
          · have HN : Hid (∀ j, j < k + 1 → idAt r.tip j = 0) := by
              intro j h
              rcases Nat.lt_succ_iff_lt_or_eq.1 h with h | rfl
              · exact hno j h
              · exact hz
            clear hno
            go_wp2
            go_round
            case rel => exact ⟨k + 1, by omega, by simp, HN.out⟩
            case measure => simp [intOf]; omega
          · have hq1 : q = 120 := by rw [HQ.out, if_neg (id0_not _ k hlt hz)]
            clear hno HQ
            subst hq1
            go_wp2
            go_ret
            exact RetP.mk hG rfl
        · have hq1 : q = 0 := by rw [HQ.out, if_pos (id0_of _ fun j hj => hno j (by omega))]
          clear hno HQ
          subst hq1
          go_wp2
          go_ret
          exact RetP.mk hG rfl
    · rw [hh] at h3
      have hq : q = 0 := by rw [HQ0.out, hk, hh]; rfl
      clear HQ0 hk hh
      subst hq
      go_wp2
      go_ret
      exact RetP.mk hG rfl

end Go.Proofs.YtjngckeeoohegaaDoor
