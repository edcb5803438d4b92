/- Slices of records; are two the same? -/
import Derived.Test.YtjngckeeoohegaaDoorRecEq
import Derived.Test.YtjngckeeoohegaaDoorRefRecord
namespace Go.Proofs.YtjngckeeoohegaaDoor
open Go.RowKit Go.Rel Go.Shelf

/-- A slice of records, as it lies. -/
def Recs (w : World) (v : Value) (L : List Rec) : Prop := ∃ A cap, v = .slice A L.length cap ∧ ∀ k, (hk : k < L.length) → ∃ b o, A = some ⟨b, o, none⟩ ∧ w.rangeAt b (o + k * 52) (recCells L[k])
theorem Recs.gr {w w' : World} {v : Value} {L : List Rec} (h : Recs w v L) (hg : Gr w w') : Recs w' v L := by
  obtain ⟨A, cap, hv, hc⟩ := h
  exact ⟨A, cap, hv, fun k hk => (hc k hk).imp fun b ⟨o, ha, hr⟩ => ⟨o, ha, hg.range hr⟩⟩

set_option maxRecDepth 100000 in
set_option maxHeartbeats 4000000 in
theorem refSame_any (L M : List Rec) (u v : Value) (w : World) (hu : Recs w u L) (hv : Recs w v M) (hl : L.length ≤ 1000) : Ret Tryd.prog 6 #[u, v] w fun v _ => v = .bool (decide (L = M)) := by
  unfold Ret
  obtain ⟨A, c, rfl, hA⟩ := hu
  obtain ⟨B, c2, rfl, hB⟩ := hv
  obtain ⟨q, hq⟩ : ∃ q, decide (L = M) = q := ⟨_, rfl⟩
  rw [hq]
  have HQ := Lib.hid hq
  clear hq
  go_enter Tryd.func6, Tryd.ntmps6
  by_cases hlen : L.length = M.length
  · obtain ⟨n, hn⟩ : ∃ n, L.length = n := ⟨_, rfl⟩
    have HM : Hid (M.length = n) := hlen.symm.trans hn
    rw [← hlen, hn]
    have HL := Lib.hid hn
    rw [hn] at hl
    clear hn hlen
    go_wp2
    go_loopw [5] (fun i wr => ∃ k : Nat, k ≤ n ∧ i = .int .i64 k ∧ L.take k = M.take k ∧ Gr w wr) (fun i _ => n - (intOf i).toNat)
    case atStart => exact ⟨0, Nat.zero_le _, rfl, rfl, Gr.refl w⟩
    case round =>
      obtain ⟨k, hk, rfl, hsame, hG⟩ := hrel
      by_cases hlt : k < n
      · have hl1 : k < L.length := by rw [HL.out]; exact hlt
        have hl2 : k < M.length := by rw [HM.out]; exact hlt
        obtain ⟨b1, o1, rfl, hr1⟩ := hA k hl1
        obtain ⟨b2, o2, rfl, hr2⟩ := hB k hl2
        have hq2 : decide (L[k] = M[k]) = true → (L.take (k + 1) = M.take (k + 1)) := by
          intro h
          rw [List.take_succ_eq_append_getElem hl1, List.take_succ_eq_append_getElem hl2, hsame, of_decide_eq_true h]
        have hq3 : decide (L[k] = M[k]) = false → q = false := by
          intro h
          rw [← HQ.out, decide_eq_false_iff_not]
          rintro rfl
          exact of_decide_eq_false h rfl
        generalize hx : L[k] = x at *
        generalize hy : M[k] = y at *
        have HS := Lib.hid hq2
        have HF := Lib.hid hq3
        clear hq2 hq3 hsame hA hB hx hy hl1 hl2
        go_wp2_with fail
        refine wp_region_steps (by kernel_rfl) (by kernel_rfl) rfl ?_
        simp only [List.map_cons, List.map_nil, stepOf, Oper.looksAt, gd, Op.operands, Call.operands, List.filterMap_cons, List.filterMap_nil, List.append_nil, List.append_toArray, List.cons_append, List.nil_append, List.toList_toArray, Option.map_some, Option.map_none, Option.bind_some, Option.toList, List.getElem?_toArray, List.getElem?_cons_succ, List.getElem?_cons_zero]
        repeat (
            apply sWalk_eq
            · intro f W hW hE
              have he := evalF_all f
              simp only [EnvAt, slotP, Option.some.injEq, Nat.reduceEqDiff, reduceCtorEq, if_true, if_false, and_true, Array.getD_eq_getD_getElem?, List.getElem?_toArray, List.getElem?_cons_succ, List.getElem?_cons_zero, Option.getD_some] at hE
              have hra := hW.range (hG.range hr1)
              have hrb := hW.range (hG.range hr2)
              first
                | exact stepOb_off (by first | exact hE | exact hE.2 | exact hE.2.2 | exact hE.2.2.2 | exact hE.2.2.2.2 | exact hE.2.2.2.2.2 | exact hE.2.2.2.2.2.2) (by decide)
                | exact stepOb_undef (by first | exact hE | exact hE.2 | exact hE.2.2 | exact hE.2.2.2 | exact hE.2.2.2.2 | exact hE.2.2.2.2.2 | exact hE.2.2.2.2.2.2)
                | (first | refine stepOb_plain ?_ | refine stepOb_on (by first | exact hE | exact hE.2 | exact hE.2.2 | exact hE.2.2.2 | exact hE.2.2.2.2 | exact hE.2.2.2.2.2 | exact hE.2.2.2.2.2.2) ?_ | (apply stepOb_gd2 (by first | exact hE | exact hE.2 | exact hE.2.2 | exact hE.2.2.2 | exact hE.2.2.2.2 | exact hE.2.2.2.2.2 | exact hE.2.2.2.2.2.2); intro hg hg2; (try simp only [hg, hg2, true_and, if_true, reduceCtorEq, if_false, Bool.not_eq_true] at hE)) | (apply stepOb_gd (by first | exact hE | exact hE.2 | exact hE.2.2 | exact hE.2.2.2 | exact hE.2.2.2.2 | exact hE.2.2.2.2.2 | exact hE.2.2.2.2.2.2); intro hg; (try simp only [hg, true_and, if_true, reduceCtorEq, if_false, Bool.not_eq_true] at hE))
                   first
                     | (with_reducible exact relUpon_or hE.1 hE.2)
                     | (with_reducible exact relUpon_and hE.1 hE.2)
                     | (with_reducible exact relUpon_or hE.1 hE.2.1)
                     | (with_reducible exact relUpon_and hE.1 hE.2.1)
                     | (with_reducible exact ld_rec hE hra)
                     | (with_reducible exact ld_rec hE hrb)
                     | (with_reducible exact neq_rec hE.1 hE.2)
                     | (simp only [bare]; go_simp; simp only [relUpon]; first | exact ⟨Gr.refl _, rfl⟩))
            )
        refine sWalk_nil (fun W hW => ?_)
        simp only [List.reverse_cons, List.reverse_nil, List.nil_append, List.cons_append, RelFin]
        iterate 8 (intro _ hx; clear hx)
        iterate 1 (rintro _ rfl)
        go_simp
        have hG2 : Gr w W := hG.trans hW
        cases hb : decide (x = y)
        · have hq := HF.out hb
          clear HF HS HQ hr1 hr2 hb
          subst hq
          go_wp2
          go_ret
          exact RetP.mk hG2 rfl
        · have HN := Lib.hid (HS.out hb)
          clear HF HS hr1 hr2 hb
          go_wp2
          go_roundw
          case rel => exact ⟨k + 1, by omega, by simp, HN.out, hG2⟩
          case measure => simp [intOf]; omega
      · have hq : q = true := by
          rw [← HQ.out, decide_eq_true_iff]
          rw [List.take_of_length_le (by rw [HL.out]; omega), List.take_of_length_le (by rw [HM.out]; omega)] at hsame
          exact hsame
        clear HQ hsame hA hB
        subst hq
        go_wp2
        go_ret
        exact RetP.mk hG rfl
  · have hq : q = false := by
      rw [← HQ.out, decide_eq_false_iff_not]
      rintro rfl
      exact hlen rfl
    have hlen2 : ¬ ((L.length : Int) = M.length) := by omega
    clear HQ hA hB
    subst hq
    go_wp2
    go_ret
    exact RetP.mk (Gr.refl w) rfl

end Go.Proofs.YtjngckeeoohegaaDoor
