/- The document's names, walked. -/
import Derived.Test.YtjngckeeoohegaaDoorRefLaw
import Derived.Laws.AppendOwn
namespace Go.Proofs.YtjngckeeoohegaaDoor
open Go.RowKit Go.Rel Go.Shelf

set_option maxRecDepth 100000 in
set_option maxHeartbeats 1000000 in
theorem refMay_any (c : UInt8) (w : World) : Calls Tryd.prog 32 #[.int .u8 c.toNat] w fun e w' => e = .returned (.bool (!badB c)) ∧ w = w' := by
  rw [badB_may c, Bool.not_not]
  have hc := c.toNat_lt
  generalize c.toNat = n at *
  have hsplit : ∃ b, mayN n = b ∧ b = mayN n := ⟨_, rfl, rfl⟩
  obtain ⟨b, hb, hb'⟩ := hsplit
  rw [hb]
  have HB : Hid (b = mayN n) := hb'
  clear hb hb'
  go_enter Tryd.func32, Tryd.ntmps32
  go_wp2
  all_goals go_ret
  all_goals refine ⟨ret_bool ?_, rfl⟩
  all_goals have hb := HB.out
  all_goals rw [hb]
  all_goals rw [Bool.eq_iff_iff]
  all_goals simp [mayN]
  all_goals omega

theorem news_one (w : World) (x : Value) (T : TypeId) : ∀ j u, ([x] : List Value)[j]? = some u → (w.alloc (.cells #[x] T)).cell? ((⟨w.heap.size, 0, none⟩ : Addr).add j) = some u := by
  intro j u hj
  match j, hj with
  | 0, hj => simp at hj; subst hj; simp [Addr.add]
theorem one_str {x : ByteArray} : ∀ u ∈ ([.string x] : List Value), u.oneCell' = true := by
  intro u hu; simp at hu; subst hu; rfl

theorem stringInfo : (Tryd.prog.info? 9).map (fun i => (i.zero, i.size, i.bytes)) = some (some (.string ⟨#[]⟩), 1, 16) := by kernel_rfl

set_option maxRecDepth 100000 in
set_option maxHeartbeats 1000000 in
theorem refParts_any (s : ByteArray) (w : World) (hs : s.size ≤ 1000) : Calls Tryd.prog 33 #[.string s] w fun e w' => ∃ v, e = .returned v ∧ Below w.heap.size w w' ∧
    w'.ownsRow w.heap.size 9 1 v (pieces s).length ((pieces s).map Value.string) := by
  obtain ⟨i0, hi, hz0, hz1, hz2⟩ := info_parts stringInfo
  go_enter Tryd.func33, Tryd.ntmps33
  go_wp2
  go_loopw [3, 4, 5] (fun v fr i wr => ∃ (f k : Nat) (done : List ByteArray), f ≤ k ∧ k ≤ s.size + 1 ∧ fr = .int .i64 f ∧ i = .int .i64 k ∧ done.length ≤ k ∧
      wr.ownsRow w.heap.size 9 1 v done.length (done.map Value.string) ∧ Below w.heap.size w wr ∧
      ((k ≤ s.size ∧ pieces s = done ++ pieces (s.extract f s.size) ∧ ∀ j, f ≤ j → (hj : j < s.size) → j < k → s[j] ≠ 47) ∨ (k = s.size + 1 ∧ pieces s = done)))
    (fun _ _ i _ => s.size + 1 - (intOf i).toNat)
  case atStart => exact ⟨0, 0, [], Nat.le_refl _, by omega, rfl, rfl, Nat.le_refl _, World.ownsRow_nil _ _ _ _, Below.refl _ _, .inl ⟨by omega, by simp, fun j _ _ h => by omega⟩⟩
  case round =>
    obtain ⟨f, k, done, hf, hk, rfl, rfl, hdl, hown, hB, hD⟩ := hrel
    rcases hD with ⟨hk2, hp, hno⟩ | ⟨rfl, hp⟩
    · have hsz := hB.size
      by_cases hcut : k = s.size ∨ ∃ h : k < s.size, s[k] = 47
      · have hd2 : ((k + 1 ≤ s.size ∧ pieces s = (done ++ [s.extract f k]) ++ pieces (s.extract (k + 1) s.size) ∧ ∀ j, k + 1 ≤ j → (hj : j < s.size) → j < k + 1 → s[j] ≠ 47) ∨ (k + 1 = s.size + 1 ∧ pieces s = done ++ [s.extract f k])) := by
          rcases hcut with rfl | ⟨h, hc⟩
          · exact .inr ⟨rfl, by rw [hp, pieces_last (fun j h1 h2 => hno j h1 h2 h2)]⟩
          · exact .inl ⟨h, by rw [hp, pieces_next hf h hc (fun j h1 h2 => hno j h1 (by omega) h2), List.append_assoc]; rfl, fun j h1 _ h2 => by omega⟩
        have HD := Lib.hid hd2
        have hcase : k = s.size ∨ ∃ h : k < s.size, s[k].toNat = 47 := by
          rcases hcut with rfl | ⟨h, hc⟩
          · exact .inl rfl
          · exact .inr ⟨h, by rw [hc]; rfl⟩
        clear hd2 hp hno hcut
        rcases hcase with rfl | ⟨hlt, hc⟩
        · go_wp2_with (at_builtin; refine wpList_append_own _ rfl _ _ 76 rfl w.heap.size 9 i0 (.string ⟨#[]⟩) 1 16 Tryd.underlying76 hi hz0 hz1 hz2 rfl (by decide) _ _ _ rfl (hown.alloc _) ⟨wr.heap.size, 0, none⟩ 1 1 [.string (s.extract f s.size)] rfl rfl ?c1 ?c2 ?c3 ?c4 ?c5 ?_)
          case c2 => rfl
          case c3 => unfold maxLen; omega
          case c4 => omega
          case c5 => omega
          intro v' w1 hown' hgrow _
          have hB1 : Below w.heap.size w w1 := (hB.alloc hsz _).grown hgrow (by simp; omega) (fun j hj => (hown.lt j hj).1)
          have hO : w1.ownsRow w.heap.size 9 1 v' (done ++ [s.extract f s.size]).length ((done ++ [s.extract f s.size]).map Value.string) := by simpa using hown'
          clear hown hown' hgrow
          go_wp2
          exact ⟨⟨s.size + 1, s.size + 1, _, Nat.le_refl _, Nat.le_refl _, by simp, by simp, by simp; omega, hO, hB1, by simpa using HD.out⟩, by first | (simp [intOf]; done) | (simp [intOf]; omega)⟩
        · have h3 : done.length + 1 ≤ maxLen := by unfold maxLen; omega
          have h4 : (done.length + 1) * 16 ≤ 140737488355328 := by omega
          have h5 : w.heap.size ≤ (wr.alloc (.cells #[.string (s.extract f k)] 9)).heap.size := Nat.le_trans hsz (gr_alloc _ _).size
          go_wp2_with (at_builtin; (refine wpList_append_own _ rfl _ _ 76 rfl w.heap.size 9 i0 (.string ⟨#[]⟩) 1 16 Tryd.underlying76 hi hz0 hz1 hz2 rfl (by decide) _ _ _ rfl (hown.alloc _) ⟨wr.heap.size, 0, none⟩ 1 1 [.string (s.extract f k)] rfl rfl ?_ one_str h3 h4 h5 ?_); exact news_one wr _ _; intro v' w1 hown' hgrow _)
          have hB1 : Below w.heap.size w w1 := (hB.alloc hsz _).grown hgrow (Nat.le_trans hsz (gr_alloc _ _).size) (fun j hj => (hown.lt j hj).1)
          have hO : w1.ownsRow w.heap.size 9 1 v' (done ++ [s.extract f k]).length ((done ++ [s.extract f k]).map Value.string) := by simpa using hown'
          clear hown hown' hgrow
          exact ⟨⟨k + 1, k + 1, _, Nat.le_refl _, by omega, by simp, by simp, by simp; omega, hO, hB1, HD.out⟩, by simp [intOf]; omega⟩
      · have hlt : k < s.size := by omega
        have hc : s[k].toNat ≠ 47 := fun e => hcut (.inr ⟨hlt, UInt8.toNat_inj.1 e⟩)
        have hd2 : pieces s = done ++ pieces (s.extract f s.size) ∧ ∀ j, f ≤ j → (hj : j < s.size) → j < k + 1 → s[j] ≠ 47 := ⟨hp, fun j h1 hj h2 => by
          rcases Nat.lt_succ_iff_lt_or_eq.1 h2 with h3 | rfl
          · exact hno j h1 hj h3
          · intro e; exact hc (by rw [e]; rfl)⟩
        have HD := Lib.hid hd2
        have hk1 : ¬ ((k : Int) = (s.size : Int)) := by omega
        have hc1 : ¬ ((s[k].toNat : Int) = 47) := by omega
        clear hd2 hp hno hcut
        go_wp2_with (at_builtin; (exfalso; clear HD hown hB; simp_all))
        exact ⟨⟨f, k + 1, done, by omega, by omega, rfl, by simp, by omega, hown, hB, .inl ⟨by omega, HD.out⟩⟩, by simp [intOf]; omega⟩
    · go_wp2
      go_ret
      exact ⟨_, rfl, hB, by rw [hp]; exact hown⟩

end Go.Proofs.YtjngckeeoohegaaDoor
