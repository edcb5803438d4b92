/- The document's first broken rule. -/
import Derived.Test.YtjngckeeoohegaaDoorRefNames
namespace Go.Proofs.YtjngckeeoohegaaDoor
open Go.RowKit Go.Rel Go.Shelf

theorem refParts_row (s : ByteArray) (w : World) (hs : s.size ≤ 1000) : Calls Tryd.prog 33 #[.string s] w fun e w' => ∃ g cap, e = .returned (.slice (some ⟨g, 0, none⟩) (pieces s).length cap) ∧ Gr w w' ∧
    ∀ k, (hk : k < (pieces s).length) → w'.cell? ⟨g, k, none⟩ = some (.string (pieces s)[k]) := by
  refine (refParts_any s w hs).mono ?_
  rintro e w' ⟨v, rfl, hB, hown⟩
  have hl := length_pieces s
  rcases hown.2 with ⟨_, h0⟩ | ⟨g, cap, cur, rfl, _, hg, hn, _, hsz, hcur⟩
  · omega
  · refine ⟨g, cap, rfl, hB, fun k hk => cell_of_heap hg ?_⟩
    have h2 : ((pieces s).map Value.string)[k]? = some (.string (pieces s)[k]) := by simp [hk]
    rw [← hcur, List.getElem?_take] at h2
    split at h2
    · simpa using h2
    · cases h2

theorem not_any_succ {α : Type} {l : List α} {p : α → Bool} {k : Nat} (h : k < l.length) (h1 : (l.take k).any p = false) (h2 : p l[k] = false) : (l.take (k + 1)).any p = false := by
  rw [List.take_succ_eq_append_getElem h, List.any_append, h1]; simp [h2]
theorem any_at {α : Type} {l : List α} {p : α → Bool} {k : Nat} (h : k < l.length) (h2 : p l[k] = true) : l.any p = true :=
  List.any_eq_true.2 ⟨_, List.getElem_mem h, h2⟩
theorem bad_at {s : ByteArray} {k : Nat} (h : k < s.size) (h2 : badB s[k] = true) : anyBad s = true := by
  have h3 : k < s.data.toList.length := by simpa using h
  exact any_at (p := badB) h3 h2
theorem bad_none {s : ByteArray} (h : ∀ k, (hk : k < s.size) → badB s[k] = false) : anyBad s = false := by
  unfold anyBad
  rw [List.any_eq_false]
  intro x hx
  obtain ⟨k, hk, rfl⟩ := List.getElem_of_mem hx
  have h3 := h k (by simpa using hk)
  have h4 : s.data.toList[k] = s[k]'(by simpa using hk) := rfl
  rw [h4, h3]; decide

theorem brk_eq (s : ByteArray) : brk s = if (s.toList.isEmpty || decide (100 < (s.size : Int))) = true then 1 else if anyBad s = true then 2 else if (pieces s).any (fun x => x.toList.isEmpty) = true then 3 else if (pieces s).any dot1 = true then 4
    else if Lib.contains s.data.toList [46, 46] = true then 5 else if (pieces s).any lockEnd = true then 6 else if Lib.hasSuffix s.data.toList [46] = true then 7 else if Lib.contains s.data.toList [64, 123] = true then 8 else 0 := rfl

theorem toList_size (s : ByteArray) : s.toList.isEmpty = decide (s.size = 0) := by
  have hl : s.data.toList.length = s.size := by simp
  rw [Lib.toList_data, Bool.eq_iff_iff, decide_eq_true_iff, List.isEmpty_iff, ← hl]
  exact List.length_eq_zero_iff.symm

theorem lock_list (x : ByteArray) (h : 5 ≤ x.size) : ((x.extract (x.size - 5) x.size).toList == [46, 108, 111, 99, 107]) = lockEnd x := by
  rw [lock_long x h, Lib.toList_data, Bool.eq_iff_iff, beq_iff_eq, decide_eq_true_iff]
  constructor
  · intro h; ext1; apply Array.ext'; exact h
  · intro h; rw [h]

set_option maxRecDepth 100000 in
set_option maxHeartbeats 4000000 in
theorem refBreaks_any (s : ByteArray) (w : World) (hs : s.size ≤ 1000) : Ret Tryd.prog 26 #[.string s] w fun v _ => v = .int .i64 (brk s) := by
  obtain ⟨q, hq⟩ : ∃ q, brk s = q := ⟨_, rfl⟩
  rw [hq]
  have HQ : Hid (brk s = q) := hq
  clear hq
  unfold Ret
  go_enter Tryd.func26, Tryd.ntmps26
  by_cases h1 : s.size < 1 ∨ 100 < s.size
  · have hq1 : q = 1 := by
      rw [← HQ.out, brk_eq, if_pos]
      rw [toList_size, Bool.or_eq_true, decide_eq_true_iff, decide_eq_true_iff]; omega
    clear HQ
    subst hq1
    go_wp2
    all_goals go_ret
    all_goals first | exact RetP.mk (Gr.refl w) rfl | (exfalso; omega)
  have h11 : ¬ s.size < 1 := by omega
  have h12 : ¬ 100 < s.size := by omega
  have F1 : Hid ((s.toList.isEmpty || decide (100 < (s.size : Int))) = false) := by
    show (s.toList.isEmpty || decide (100 < (s.size : Int))) = false
    rw [toList_size, Bool.or_eq_false_iff, decide_eq_false_iff_not, decide_eq_false_iff_not]; omega
  clear h1
  go_wp2
  go_loop [3] (fun i => ∃ k : Nat, k ≤ s.size ∧ i = .int .i64 k ∧ ∀ j, (hj : j < s.size) → j < k → badB s[j] = false) (fun i => s.size - (intOf i).toNat)
  case atStart => exact ⟨0, Nat.zero_le _, rfl, fun j _ h => by omega⟩
  case round =>
    obtain ⟨k, hk, rfl, hno⟩ := hrel
    by_cases hlt : k < s.size
    · have hm := refMay_any s[k] w
      cases hb : badB s[k]
      · simp only [hb, Bool.not_false] at hm
        have HN : Hid (∀ j, (hj : j < s.size) → j < k + 1 → badB s[j] = false) := fun j hj h => by
          rcases Nat.lt_succ_iff_lt_or_eq.1 h with h | rfl
          · exact hno j hj h
          · exact hb
        clear hno hb
        go_wp2_with (go_at_call 32; refine hm.mono ?_; rintro e w' ⟨rfl, rfl⟩)
        go_round
        case rel => exact ⟨k + 1, by omega, by simp, HN.out⟩
        case measure => simp [intOf]; omega
      · simp only [hb, Bool.not_true] at hm
        have hq1 : q = 2 := by rw [← HQ.out, brk_eq, F1.out, if_neg (by decide), if_pos (bad_at hlt hb)]
        clear HQ hno hb F1
        subst hq1
        go_wp2_with (go_at_call 32; refine hm.mono ?_; rintro e w' ⟨rfl, rfl⟩)
        go_ret
        exact RetP.mk (Gr.refl w) rfl
    · have F2 : Hid (anyBad s = false) := bad_none fun j hj => hno j hj (by omega)
      clear hno
      have hsp := refParts_row s w hs
      have hl := length_pieces s
      have hsz := size_pieces 1000 s hs
      have hcl := Lib.countB_le ⟨#[47]⟩ (by decide) s.size s (Nat.le_refl _)
      have hn : (pieces s).length ≤ 1001 := by omega
      clear hl hcl
      have HE : Hid (brk s = if (pieces s).any (fun x => x.toList.isEmpty) = true then 3 else if (pieces s).any dot1 = true then 4
          else if Lib.contains s.data.toList [46, 46] = true then 5 else if (pieces s).any lockEnd = true then 6 else if Lib.hasSuffix s.data.toList [46] = true then 7 else if Lib.contains s.data.toList [64, 123] = true then 8 else 0) := by
        show _ = _
        rw [brk_eq, F1.out, F2.out]; simp
      generalize pieces s = L at *
      have HQ' : Hid (q = if L.any (fun x => x.toList.isEmpty) = true then 3 else if L.any dot1 = true then 4
          else if Lib.contains s.data.toList [46, 46] = true then 5 else if L.any lockEnd = true then 6 else if Lib.hasSuffix s.data.toList [46] = true then 7 else if Lib.contains s.data.toList [64, 123] = true then 8 else 0) := by
        show _ = _
        rw [← HQ.out, HE.out]
      clear HQ HE F1 F2
      go_wp2_with (go_at_call 33; refine hsp.mono ?_; rintro e W ⟨g, cap, rfl, hG, hcell⟩; clear hsp)
      go_loop [6] (fun i => ∃ k : Nat, k ≤ L.length ∧ i = .int .i64 k ∧ (L.take k).any (fun x => x.toList.isEmpty) = false) (fun i => L.length - (intOf i).toNat)
      case atStart => exact ⟨0, Nat.zero_le _, rfl, rfl⟩
      case round =>
        obtain ⟨k2, hk2, rfl, hno⟩ := hrel
        by_cases hlt2 : k2 < L.length
        · have hc := hcell k2 hlt2
          cases hb : (L[k2]).toList.isEmpty
          · have HN := Lib.hid (not_any_succ (p := fun x : ByteArray => x.toList.isEmpty) hlt2 hno hb)
            clear hno
            go_wp2
            go_round
            case rel => exact ⟨k2 + 1, by omega, by simp, HN.out⟩
            case measure => simp [intOf]; omega
          · have hq1 : q = 3 := by rw [HQ'.out, if_pos (any_at (p := fun x : ByteArray => x.toList.isEmpty) hlt2 hb)]
            clear HQ' hno
            subst hq1
            go_wp2
            go_ret
            exact RetP.mk hG rfl
        · have F3 : Hid (L.any (fun x => x.toList.isEmpty) = false) := by
            show _ = _
            rw [← hno, List.take_of_length_le (by omega)]
          have HQ3 : Hid (q = if L.any dot1 = true then 4
              else if Lib.contains s.data.toList [46, 46] = true then 5 else if L.any lockEnd = true then 6 else if Lib.hasSuffix s.data.toList [46] = true then 7 else if Lib.contains s.data.toList [64, 123] = true then 8 else 0) := by
            show _ = _
            rw [HQ'.out, F3.out]; rfl
          clear hno HQ'
          go_wp2
          go_loop [7] (fun i => ∃ k : Nat, k ≤ L.length ∧ i = .int .i64 k ∧ (L.take k).any dot1 = false) (fun i => L.length - (intOf i).toNat)
          case atStart => exact ⟨0, Nat.zero_le _, rfl, rfl⟩
          case round =>
            obtain ⟨k3, hk3, rfl, hno⟩ := hrel
            by_cases hlt3 : k3 < L.length
            · have hc := hcell k3 hlt3
              have hpos : 0 < (L[k3]).size := by
                have h3 := List.any_eq_false.1 F3.out (L[k3]) (List.getElem_mem hlt3)
                rw [toList_size] at h3
                simp only [decide_eq_true_iff] at h3
                omega
              have hd := dot1_eq (L[k3]) hpos
              cases hb : dot1 L[k3]
              · have HN := Lib.hid (not_any_succ (p := dot1) hlt3 hno hb)
                have hne : ¬ (((L[k3])[0].toNat : Int) = 46) := by
                  rw [hb] at hd
                  have h4 : ¬ (L[k3])[0] = 46 := by simpa using hd.symm
                  intro e; exact h4 (UInt8.toNat_inj.1 (by show _ = 46; omega))
                clear hno hd
                go_wp2
                go_round
                case rel => exact ⟨k3 + 1, by omega, by simp, HN.out⟩
                case measure => simp [intOf]; omega
              · have hq1 : q = 4 := by rw [HQ3.out, if_pos (any_at (p := dot1) hlt3 hb)]
                have heq : (L[k3])[0].toNat = 46 := by
                  rw [hb] at hd
                  have h4 : (L[k3])[0] = 46 := by simpa using hd.symm
                  rw [h4]; rfl
                clear hno hd HQ3
                subst hq1
                go_wp2
                go_ret
                exact RetP.mk hG rfl
            · have F4 : Hid (L.any dot1 = false) := by
                show _ = _
                rw [← hno, List.take_of_length_le (by omega)]
              have HQ4 : Hid (q = if Lib.contains s.data.toList [46, 46] = true then 5 else if L.any lockEnd = true then 6 else if Lib.hasSuffix s.data.toList [46] = true then 7 else if Lib.contains s.data.toList [64, 123] = true then 8 else 0) := by
                show _ = _
                rw [HQ3.out, F4.out]; rfl
              clear hno HQ3 F4
              go_wp2
              go_loop [8] (fun i => ∃ k : Nat, 1 ≤ k ∧ k ≤ s.size ∧ i = .int .i64 k ∧ ∀ j, (hj : j + 1 < s.size) → j + 1 < k → ¬ (s[j] = 46 ∧ s[j + 1] = 46)) (fun i => s.size - (intOf i).toNat)
              case atStart => exact ⟨1, Nat.le_refl _, by omega, rfl, fun j _ h => by omega⟩
              case round =>
                obtain ⟨k4, hk4, hk4', rfl, hno⟩ := hrel
                by_cases hlt4 : k4 < s.size
                · have hp : k4 - 1 < s.size := by omega
                  have hcast : ((k4 : Int) - 1).toNat = k4 - 1 := by omega
                  by_cases hb : s[k4].toNat = 46 ∧ s[k4 - 1].toNat = 46
                  · obtain ⟨hb1, hb2⟩ := hb
                    have hq1 : q = 5 := by
                      rw [HQ4.out, if_pos]
                      refine two_hit s 46 46 (k4 - 1) (by omega) (UInt8.toNat_inj.1 hb2) ?_
                      have e : k4 - 1 + 1 = k4 := by omega
                      simp only [e]
                      exact UInt8.toNat_inj.1 hb1
                    clear hno HQ4
                    subst hq1
                    go_wp2
                    go_ret
                    exact RetP.mk hG rfl
                  · have HN : Hid (∀ j, (hj : j + 1 < s.size) → j + 1 < k4 + 1 → ¬ (s[j] = 46 ∧ s[j + 1] = 46)) := by
                      intro j hj h
                      rcases Nat.lt_succ_iff_lt_or_eq.1 h with h | rfl
                      · exact hno j hj h
                      · intro ⟨e1, e2⟩
                        exact hb ⟨by rw [e2]; rfl, by simp only [Nat.add_sub_cancel]; rw [e1]; rfl⟩
                    clear hno
                    go_wp2
                    all_goals go_round
                    case rel => exact ⟨k4 + 1, by omega, by omega, by simp, HN.out⟩
                    case measure => simp [intOf]; omega
                    case rel => exact ⟨k4 + 1, by omega, by omega, by simp, HN.out⟩
                    case measure => simp [intOf]; omega
                · have F5 : Hid (Lib.contains s.data.toList [46, 46] = false) := two_miss s 46 46 fun i hi => hno i hi (by omega)
                  have HQ5 : Hid (q = if L.any lockEnd = true then 6 else if Lib.hasSuffix s.data.toList [46] = true then 7 else if Lib.contains s.data.toList [64, 123] = true then 8 else 0) := by
                    show _ = _
                    rw [HQ4.out, F5.out]; rfl
                  clear hno HQ4 F5
                  go_wp2
                  go_loop [9] (fun i => ∃ k : Nat, k ≤ L.length ∧ i = .int .i64 k ∧ (L.take k).any lockEnd = false) (fun i => L.length - (intOf i).toNat)
                  case atStart => exact ⟨0, Nat.zero_le _, rfl, rfl⟩
                  case round =>
                    obtain ⟨k5, hk5, rfl, hno⟩ := hrel
                    by_cases hlt5 : k5 < L.length
                    · have hc := hcell k5 hlt5
                      have hx := hsz L[k5] (List.getElem_mem hlt5)
                      by_cases h5 : 5 ≤ (L[k5]).size
                      · have hd := lock_list (L[k5]) h5
                        cases hb : lockEnd L[k5]
                        · rw [hb] at hd
                          have HN := Lib.hid (not_any_succ (p := lockEnd) hlt5 hno hb)
                          clear hno hb
                          go_wp2
                          go_round
                          case rel => exact ⟨k5 + 1, by omega, by simp, HN.out⟩
                          case measure => simp [intOf]; omega
                        · rw [hb] at hd
                          have hq1 : q = 6 := by rw [HQ5.out, if_pos (any_at (p := lockEnd) hlt5 hb)]
                          clear hno hb HQ5
                          subst hq1
                          go_wp2
                          go_ret
                          exact RetP.mk hG rfl
                      · have HN := Lib.hid (not_any_succ (p := lockEnd) hlt5 hno (lock_short _ (by omega)))
                        clear hno
                        go_wp2
                        go_round
                        case rel => exact ⟨k5 + 1, by omega, by simp, HN.out⟩
                        case measure => simp [intOf]; omega
                    · have F6 : Hid (L.any lockEnd = false) := by
                        show _ = _
                        rw [← hno, List.take_of_length_le (by omega)]
                      have HQ6 : Hid (q = if Lib.hasSuffix s.data.toList [46] = true then 7 else if Lib.contains s.data.toList [64, 123] = true then 8 else 0) := by
                        show _ = _
                        rw [HQ5.out, F6.out]; rfl
                      clear hno HQ5 F6
                      have hd := last_eq s (by omega)
                      have hp : s.size - 1 < s.size := by omega
                      have hcast : ((s.size : Int) - 1).toNat = s.size - 1 := by omega
                      cases hb : Lib.hasSuffix s.data.toList [46]
                      · have hne : ¬ ((s[s.size - 1].toNat : Int) = 46) := by
                          rw [hb] at hd
                          have h4 : ¬ s[s.size - 1] = 46 := by simpa using hd.symm
                          intro e; exact h4 (UInt8.toNat_inj.1 (by show _ = 46; omega))
                        have HQ7 : Hid (q = if Lib.contains s.data.toList [64, 123] = true then 8 else 0) := by
                          show _ = _
                          rw [HQ6.out, hb]; rfl
                        clear HQ6 hb hd
                        go_wp2
                        rename (_ == (46 : Int)) = false => hbf
                        clear hbf hne
                        go_loop [11] (fun i => ∃ k : Nat, 1 ≤ k ∧ k ≤ s.size ∧ i = .int .i64 k ∧ ∀ j, (hj : j + 1 < s.size) → j + 1 < k → ¬ (s[j] = 64 ∧ s[j + 1] = 123)) (fun i => s.size - (intOf i).toNat)
                        case atStart => exact ⟨1, Nat.le_refl _, by omega, rfl, fun j _ h => by omega⟩
                        case round =>
                          obtain ⟨k6, hk6, hk6', rfl, hno⟩ := hrel
                          by_cases hlt6 : k6 < s.size
                          · have hp : k6 - 1 < s.size := by omega
                            have hcast : ((k6 : Int) - 1).toNat = k6 - 1 := by omega
                            by_cases hb : s[k6].toNat = 123 ∧ s[k6 - 1].toNat = 64
                            · obtain ⟨hb1, hb2⟩ := hb
                              have hq1 : q = 8 := by
                                rw [HQ7.out, if_pos]
                                refine two_hit s 64 123 (k6 - 1) (by omega) (UInt8.toNat_inj.1 hb2) ?_
                                have e : k6 - 1 + 1 = k6 := by omega
                                simp only [e]
                                exact UInt8.toNat_inj.1 hb1
                              clear hno HQ7
                              subst hq1
                              go_wp2
                              go_ret
                              exact RetP.mk hG rfl
                            · have HN : Hid (∀ j, (hj : j + 1 < s.size) → j + 1 < k6 + 1 → ¬ (s[j] = 64 ∧ s[j + 1] = 123)) := by
                                intro j hj h
                                rcases Nat.lt_succ_iff_lt_or_eq.1 h with h | rfl
                                · exact hno j hj h
                                · intro ⟨e1, e2⟩
                                  exact hb ⟨by rw [e2]; rfl, by simp only [Nat.add_sub_cancel]; rw [e1]; rfl⟩
                              clear hno
                              go_wp2
                              all_goals go_round
                              case rel => exact ⟨k6 + 1, by omega, by omega, by simp, HN.out⟩
                              case measure => simp [intOf]; omega
                              case rel => exact ⟨k6 + 1, by omega, by omega, by simp, HN.out⟩
                              case measure => simp [intOf]; omega
                          · have F8 : Hid (Lib.contains s.data.toList [64, 123] = false) := two_miss s 64 123 fun i hi => hno i hi (by omega)
                            have hq1 : q = 0 := by rw [HQ7.out, F8.out]; rfl
                            clear hno HQ7 F8
                            subst hq1
                            go_wp2
                            go_ret
                            exact RetP.mk hG rfl
                      · have heq : s[s.size - 1].toNat = 46 := by
                          rw [hb] at hd
                          have h4 : s[s.size - 1] = 46 := by simpa using hd.symm
                          rw [h4]; rfl
                        have hq1 : q = 7 := by rw [HQ6.out, if_pos hb]
                        clear HQ6 hb hd
                        subst hq1
                        go_wp2
                        go_ret
                        exact RetP.mk hG rfl

theorem brk_range (s : ByteArray) : 0 ≤ brk s ∧ brk s ≤ 8 := by
  rw [brk_eq]
  repeat' split
  all_goals omega

set_option maxRecDepth 100000 in
theorem refCheck_any (s : ByteArray) (w : World) (hs : s.size ≤ 1000) : Ret Tryd.prog 18 #[.string s] w fun v _ => v = .int .i64 (nameErr s) := by
  have hb := refBreaks_any s w hs
  have hr := brk_range s
  unfold nameErr
  generalize brk s = n at *
  unfold Ret at hb ⊢
  by_cases hn : n = 0
  · subst hn
    rw [if_pos rfl]
    go_enter Tryd.func18, Tryd.ntmps18
    go_wp2_with (go_at_call 26; refine hb.mono ?_; rintro e w' ⟨v, rfl, hg, rfl⟩)
    go_ret
    exact RetP.mk hg rfl
  · rw [if_neg hn]
    have hn' : 0 < n := by omega
    go_enter Tryd.func18, Tryd.ntmps18
    go_wp2_with (go_at_call 26; refine hb.mono ?_; rintro e w' ⟨v, rfl, hg, rfl⟩)
    go_ret
    exact RetP.mk hg rfl

end Go.Proofs.YtjngckeeoohegaaDoor
