/- gate.Load. -/
import Derived.Test.YtjngckeeoohegaaDoorPut
import Derived.Test.YtjngckeeoohegaaDoorBox
import Derived.Test.YtjngckeeoohegaaDoorGreat
namespace Go.Proofs.YtjngckeeoohegaaDoor
open Go.RowKit Go.Rel Go.Shelf

theorem dotCmp_neg (a b c d : Int) : dotCmp a b c d = -1 ↔ a < c ∨ a = c ∧ b < d := by
  unfold dotCmp cmpI
  split <;> split <;> (try split) <;> omega
theorem dotCmp_ge (a b c d : Int) : 0 ≤ dotCmp a b c d ↔ ¬ (a < c ∨ a = c ∧ b < d) := by
  unfold dotCmp cmpI
  split <;> split <;> (try split) <;> omega

/-- Each of the first is ahead of the next one. -/
theorem ahead_all {L : List Rec} {k : Nat} (h : okPre L k) : ∀ (m : Nat) (hm : m < L.length), m < k → ∀ j, (hj : j < m) → dotCmp (L[j]'(by omega)).site (L[j]'(by omega)).cnt L[m].site L[m].cnt = -1
  | 0, _, _, j, hj => by omega
  | m + 1, hm, hk, j, hj => by
    have h1 := (h (m + 1) hk hm).2 (by omega)
    have e : m + 1 - 1 = m := by omega
    simp only [e] at h1
    by_cases hjm : j = m
    · subst hjm; exact h1
    · have h2 := ahead_all h m (by omega) (by omega) j (by omega)
      rw [dotCmp_neg] at *
      omega

theorem fresh_dot {L : List Rec} {k : Nat} (hk : k < L.length) (h : okPre L k) (h2 : ∀ h : 0 < k, dotCmp (L[k - 1]).site (L[k - 1]).cnt (L[k]).site (L[k]).cnt = -1) :
    ∀ y ∈ L.take k, ¬ (L[k].site = y.site ∧ L[k].cnt = y.cnt) := by
  intro y hy
  obtain ⟨j, hj, rfl⟩ := List.getElem_of_mem hy
  rw [List.length_take] at hj
  rw [List.getElem_take]
  have h3 := h2 (by omega)
  by_cases hjm : j = k - 1
  · subst hjm
    rw [dotCmp_neg] at h3; omega
  · have h4 := ahead_all h (k - 1) (by omega) (by omega) j (by omega)
    rw [dotCmp_neg] at *
    omega

/-- What gate.Load comes to. -/
def Loaded (base : Nat) (L : List Rec) (w : World) (e : Ending) (w' : World) : Prop := Gr w w' ∧
  ((okPre L L.length ∧ ∃ g, e = .returned (.tuple #[.pointer (some ⟨g, 0, none⟩), .int .i64 0]) ∧ GateAt w' base g L) ∨ (¬ okPre L L.length ∧ e = .returned (.tuple #[.pointer none, .int .i64 220])))

theorem gate_new (w : World) : GateAt (w.alloc (.cells #[.map none] 47)) w.heap.size w.heap.size [] := by
  refine ⟨Nat.le_refl _, by simp, .inl ⟨rfl, by simp⟩⟩

section
attribute [-go_sem] loadVar storeVar
set_option maxRecDepth 100000 in
set_option maxHeartbeats 4000000 in
theorem load_any (L : List Rec) (u : Value) (w : World) (hu : Recs w u L) (hE : Env w) (hl : L.length ≤ 40) (href : ∀ x ∈ L, x.ref.size ≤ 1000) :
    Calls Tryd.prog 4 #[u] w (Loaded w.heap.size L w) := by
  obtain ⟨A, c, rfl, hA⟩ := hu
  obtain ⟨n, hn⟩ : ∃ n, L.length = n := ⟨_, rfl⟩
  have HL := Lib.hid hn
  rw [hn] at hl ⊢
  have HE := Lib.hid hE
  clear hn hE
  go_enter Tryd.func4, Tryd.ntmps4
  go_wp2
  go_loopw [11] (fun i wr => ∃ (k : Nat), k ≤ n ∧ i = .int .i64 k ∧ okPre L k ∧ Gr w wr ∧ GateAt wr w.heap.size w.heap.size (L.take k)) (fun i _ => n - (intOf i).toNat)
  case atStart =>
    refine ⟨0, Nat.zero_le _, rfl, fun j h => by omega, Gr.alloc (Gr.refl w) _, gate_new w⟩
  case round =>
    obtain ⟨k, hk, rfl, hpre, hG, hGt⟩ := hrel
    by_cases hlt : k < n
    · have hl1 : k < L.length := by rw [HL.out]; exact hlt
      obtain ⟨b1, o1, rfl, hr1⟩ := hA k hl1
      have hrs := href _ (List.getElem_mem hl1)
      obtain ⟨j, hj⟩ : ∃ j, j = k - 1 := ⟨_, rfl⟩
      have hjn : j < n := by omega
      have hjL : j < L.length := by omega
      have hcj : 0 < k → IntKind.i64.wrap ((k : Int) - 1) = (j : Int) := fun h => by rw [IntWalk.i64_in _ (by omega)]; omega
      obtain ⟨y, hry, hyk⟩ : ∃ y : Rec, (0 < k → w.rangeAt b1 (o1 + j * 52) (recCells y)) ∧ ∀ h : 0 < k, y = L[j] := by
        by_cases h : 0 < k
        · obtain ⟨b2, o2, e, hr2⟩ := hA j hjL
          cases e
          exact ⟨_, fun _ => hr2, fun _ => rfl⟩
        · exact ⟨L[k], fun h' => absurd h' h, fun h' => absurd h' h⟩
      generalize hx : L[k] = x at *
      have HX := Lib.hid hx
      have HY := Lib.hid hyk
      have HP := Lib.hid hpre
      have HJ := Lib.hid hj
      have HG := Lib.hid hGt
      clear hA hx hyk hpre hj hGt
      have hld : (loadVar 31 ⟨b1, o1 + k * 52, none⟩).run Tryd.prog wr = .ok (.agg (recCells x).toArray) wr := run_loadVar_mid wr b1 (o1 + k * 52) 31 (recCells x) _ (hG.range hr1) Tryd.underlying31 rfl (by rw [length_recCells]; kernel_rfl)
      have hst : (storeVar 31 ⟨wr.heap.size, 0, none⟩ (.agg (recCells x).toArray)).run Tryd.prog (wr.alloc (.cells zeroCells 31)) = .ok () (wr.alloc (.cells (recCells x).toArray 31)) := run_store_box wr _ _ _ _ rfl (by rw [length_recCells]; rfl) (by kernel_rfl) (by
        intro u hu
        simp only [recCells, vecCells, idCells, List.mem_cons, List.mem_append, List.mem_map] at hu
        rcases hu with rfl | rfl | ⟨_, _, rfl⟩ | rfl | rfl | ⟨_, _, rfl⟩ <;> rfl)
      go_wp2_with fail
      have hG1 : Gr wr ((wr.alloc (.cells (recCells x).toArray 31)).drew) := Gr.drew (Gr.alloc (Gr.refl _) _)
      have hrx : ((wr.alloc (.cells (recCells x).toArray 31)).drew).rangeAt wr.heap.size 0 (recCells x) := Gr.range (Gr.drew (Gr.refl _)) (range_alloc_new wr (recCells x) 31)
      refine wp_region_st (by kernel_rfl) ?_
      refine st_rel (hi := 15) (by kernel_rfl) (by kernel_rfl) rfl (by decide) ?_
      simp only [List.take_succ_cons, List.take_zero, List.take_nil, List.drop_succ_cons, List.drop_zero, List.map_cons, List.map_nil, stepOf, Oper.looksAt, gd, Op.operands, Call.operands, List.filterMap_cons, List.filterMap_nil, List.append_nil, List.append_toArray, List.cons_append, List.nil_append, List.toList_toArray, Option.map_some, Option.map_none, Option.bind_some, Option.toList, List.getElem?_toArray, List.getElem?_cons_succ, List.getElem?_cons_zero]
      repeat (
          apply sWalk_eq
          · intro f W hW hE
            have he := evalF_all f
            simp only [EnvAt, slotP, Option.some.injEq, Nat.reduceEqDiff, reduceCtorEq, if_true, if_false, and_true, Array.getD_eq_getD_getElem?, List.getElem?_toArray, List.getElem?_cons_succ, List.getElem?_cons_zero, Option.getD_some] at hE
            have hra := hW.range hrx
            first
              | exact stepOb_off (by first | exact hE | exact hE.2 | exact hE.2.2 | exact hE.2.2.2 | exact hE.2.2.2.2 | exact hE.2.2.2.2.2 | exact hE.2.2.2.2.2.2) (by decide)
              | exact stepOb_undef (by first | exact hE | exact hE.2 | exact hE.2.2 | exact hE.2.2.2 | exact hE.2.2.2.2 | exact hE.2.2.2.2.2 | exact hE.2.2.2.2.2.2)
              | (first | refine stepOb_plain ?_ | refine stepOb_on (by first | exact hE | exact hE.2 | exact hE.2.2 | exact hE.2.2.2 | exact hE.2.2.2.2 | exact hE.2.2.2.2.2 | exact hE.2.2.2.2.2.2) ?_ | (apply stepOb_gd2 (by first | exact hE | exact hE.2 | exact hE.2.2 | exact hE.2.2.2 | exact hE.2.2.2.2 | exact hE.2.2.2.2.2 | exact hE.2.2.2.2.2.2); intro hg hg2; (try simp only [hg, hg2, true_and, if_true, reduceCtorEq, if_false, Bool.not_eq_true] at hE)) | (apply stepOb_gd (by first | exact hE | exact hE.2 | exact hE.2.2 | exact hE.2.2.2 | exact hE.2.2.2.2 | exact hE.2.2.2.2.2 | exact hE.2.2.2.2.2.2); intro hg; (try simp only [hg, true_and, if_true, reduceCtorEq, if_false, Bool.not_eq_true] at hE))
                 try (have hk1 : 0 < k := by simpa using hg)
                 try (have hcw := hcj hk1; simp only [hcw] at hE)
                 try (have hrp := hW.range (hG1.range (hG.range (hry hk1))))
                 first
                   | (with_reducible exact relUpon_or hE.1 hE.2)
                   | (with_reducible exact relUpon_and hE.1 hE.2)
                   | (with_reducible exact relUpon_or hE.1 hE.2.1)
                   | (with_reducible exact relUpon_and hE.1 hE.2.1)
                   | (with_reducible exact ld_rec hE hra)
                   | (with_reducible exact ld_rec hE.1 hrp)
                   | (with_reducible exact ld_rec hE.1 hra)
                   | (simp only [bare]; go_simp; simp only [relUpon]; first | exact ⟨Gr.refl _, rfl⟩ | (exact ⟨Gr.refl _, byDot_any _ _ _⟩)))
          )
      refine sWalk_nil (fun W hW => ?_)
      simp only [List.reverse_cons, List.reverse_nil, List.nil_append, List.cons_append, RelFin]
      iterate 12 (intro _ hx; clear hx)
      iterate 1 (rintro _ rfl)
      iterate 1 (rintro _ rfl)
      iterate 1 (rintro _ rfl)
      have hGW : Gr w W := (hG.trans hG1).trans hW
      cases hcond : (decide (0 < k) && decide (0 ≤ dotCmp y.site y.cnt x.site x.cnt))
      · simp only [if_true]
        have hlast : ∀ h : 0 < k, dotCmp (L[k - 1]).site (L[k - 1]).cnt (L[k]).site (L[k]).cnt = -1 := by
          intro h
          have h4 := HY.out h
          have h5 := HJ.out
          subst h5
          have h6 := HX.out
          rw [h6, ← h4]
          simp only [h, decide_true, Bool.true_and, decide_eq_false_iff_not, dotCmp_ge, Decidable.not_not] at hcond
          rw [dotCmp_neg]; exact hcond
        have hfd := fresh_dot hl1 HP.out hlast
        rw [HX.out] at hfd
        have HF := Lib.hid hfd
        have HT := Lib.hid hlast
        clear hcond hfd hlast hry hcj
        go_simp
        refine st_one (by kernel_rfl) rfl rfl ?_
        refine op_yes rfl (by rfl) ?_
        go_simp
        refine (put_any x (L.take k) w.heap.size w.heap.size W (HG.out.gr (hG1.trans hW)) (Env.gr HE.out hGW) hrs HF.out).mono ?_
        rintro e W4 ⟨hB, hres⟩
        have hG4 : Gr w W4 := Below.trans hGW hB
        rcases hres with ⟨hok, rfl, hg4⟩ | ⟨hok, rfl, hg4⟩
        · go_simp
          refine st_one (by kernel_rfl) rfl rfl ?_
          refine op_yes rfl (by rfl) ?_
          go_simp
          refine st_one (by kernel_rfl) rfl rfl ?_
          refine op_yes rfl (by rfl) ?_
          go_simp
          refine st_end rfl ?_
          have hokk := okPre_succ hl1 HP.out (by rw [HX.out]; exact hok) HT.out
          have HO := Lib.hid hokk
          rw [show L.take k ++ [x] = L.take (k + 1) by rw [List.take_succ_eq_append_getElem hl1, HX.out]] at hg4
          have HG4 := Lib.hid hg4
          clear hokk hok hg4
          go_wp2
          go_roundw
          case rel => exact ⟨k + 1, by omega, by simp, HO.out, hG4, HG4.out⟩
          case measure => simp [intOf]; omega
        · have hbad : ¬ okPre L n := by
            intro hp
            obtain ⟨h1, _⟩ := hp k hlt hl1
            rw [HX.out, hok] at h1
            cases h1
          have HB := Lib.hid hbad
          clear hbad hok hg4
          go_simp
          refine st_one (by kernel_rfl) rfl rfl ?_
          refine op_yes rfl (by rfl) ?_
          go_simp
          refine st_one (by kernel_rfl) rfl rfl ?_
          refine op_yes rfl (by rfl) ?_
          go_simp
          refine st_end rfl ?_
          go_wp2
          refine bodyPost_ret (results_tmp2 rfl _ _ _) rfl ?_
          refine ⟨hG4, .inr ⟨?_, rfl⟩⟩
          rw [HL.out]; exact HB.out
      · have hbad : ¬ okPre L n := by
          intro hp
          obtain ⟨_, h2⟩ := hp k hlt hl1
          rw [Bool.and_eq_true, decide_eq_true_iff, decide_eq_true_iff] at hcond
          have h3 := h2 hcond.1
          have h4 := HY.out hcond.1
          have h5 := HJ.out
          subst h5
          have h6 := HX.out
          rw [h6, ← h4] at h3
          omega
        have HB := Lib.hid hbad
        clear hbad hcond hry hcj
        go_simp
        refine st_one (by kernel_rfl) rfl rfl ?_
        refine op_no rfl (by rfl) ?_
        go_simp
        refine st_one (by kernel_rfl) rfl rfl ?_
        refine op_no rfl (by rfl) ?_
        go_simp
        refine st_one (by kernel_rfl) rfl rfl ?_
        refine op_yes rfl (by rfl) ?_
        go_simp
        refine st_end rfl ?_
        go_wp2
        refine bodyPost_ret (results_tmp2 rfl _ _ _) rfl ?_
        refine ⟨hGW, .inr ⟨?_, rfl⟩⟩
        rw [HL.out]; exact HB.out
    · obtain rfl : k = n := by omega
      have hg : GateAt wr w.heap.size w.heap.size L := by
        rw [List.take_of_length_le (by rw [HL.out]; omega)] at hGt; exact hGt
      have HGt := Lib.hid hg
      have HP := Lib.hid hpre
      clear hg hGt hpre hA
      go_wp2
      refine bodyPost_ret (results_tmp2 rfl _ _ _) rfl ?_
      refine ⟨hG, .inl ⟨?_, _, rfl, HGt.out⟩⟩
      rw [HL.out]; exact HP.out
end
end Go.Proofs.YtjngckeeoohegaaDoor
