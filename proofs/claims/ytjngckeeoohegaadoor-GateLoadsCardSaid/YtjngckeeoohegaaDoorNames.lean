/- The rules of names, one by one. -/
import Derived.Test.YtjngckeeoohegaaDoorEq
import Derived.Test.YtjngckeeoohegaaDoorShelf
import Derived.Lib.Hide
import Derived.Laws.RangeAny
namespace Go.Proofs.YtjngckeeoohegaaDoor
open Go.RowKit Go.Rel

set_option maxHeartbeats 400000 in
theorem rule1_any (s : ByteArray) (w : World) : Calls Tryd.prog 50 #[.string s] w fun e w' => e = .returned (.bool (s.toList.isEmpty || decide (100 < (s.size : Int)))) ∧ w' = w := by
  go_enter Tryd.func50, Tryd.ntmps50
  go_wp2
  · rename_i h
    have e : s.toList.isEmpty = true := by simp [h]
    go_ret
    exact ⟨by rw [e]; rfl, rfl⟩
  · go_ret
    exact ⟨rfl, rfl⟩

set_option maxHeartbeats 400000 in
theorem rule2_any (s : ByteArray) (w : World) : Calls Tryd.prog 53 #[.string s] w fun e w' => e = .returned (.bool s.toList.isEmpty) ∧ w' = w := by
  go_enter Tryd.func53, Tryd.ntmps53
  go_wp2
  go_ret
  exact ⟨rfl, rfl⟩

set_option maxHeartbeats 400000 in
theorem rule3_any (s : ByteArray) (w : World) : Calls Tryd.prog 54 #[.string s] w fun e w' => e = .returned (.bool (Lib.hasPrefix s.data.toList [46])) ∧ w' = w := by
  go_enter Tryd.func54, Tryd.ntmps54
  go_wp2_with (go_at_call 55; refine (Tryd.strings_HasPrefix _ _ _).mono ?_; rintro e w' ⟨rfl, rfl⟩)
  go_ret
  exact ⟨rfl, rfl⟩

set_option maxHeartbeats 400000 in
theorem rule4_any (s : ByteArray) (w : World) (hs : s.size ≤ 1000) : Calls Tryd.prog 57 #[.string s] w fun e w' => e = .returned (.bool (Lib.hasSuffix s.data.toList [46, 108, 111, 99, 107])) ∧ w' = w := by
  have hs' : s.size ≤ 9223372036854775807 := by omega
  go_enter Tryd.func57, Tryd.ntmps57
  go_wp2_with (go_at_call 58; refine (Tryd.strings_HasSuffix _ _ _ hs').mono ?_; rintro e w' ⟨rfl, rfl⟩)
  go_ret
  exact ⟨rfl, rfl⟩

set_option maxHeartbeats 400000 in
theorem rule5_any (s : ByteArray) (w : World) (hs : s.size ≤ 1000) : Calls Tryd.prog 59 #[.string s] w fun e w' => e = .returned (.bool (Lib.hasSuffix s.data.toList [46])) ∧ w' = w := by
  have hs' : s.size ≤ 9223372036854775807 := by omega
  go_enter Tryd.func59, Tryd.ntmps59
  go_wp2_with (go_at_call 58; refine (Tryd.strings_HasSuffix _ _ _ hs').mono ?_; rintro e w' ⟨rfl, rfl⟩)
  go_ret
  exact ⟨rfl, rfl⟩

set_option maxHeartbeats 400000 in
theorem has1_any (s sub : ByteArray) (b : Nat) (w : World) (hE : Env w) (hs : s.size ≤ 1000) (hb : w.cell? ⟨b, 0, none⟩ = some (.string sub)) :
    Calls Tryd.prog 66 #[.string s, .pointer (some ⟨b, 0, none⟩)] w fun e w' => e = .returned (.bool (Lib.contains s.data.toList sub.data.toList)) ∧ w' = w := by
  have hs' : s.size < 4294967281 := by omega
  obtain ⟨m, hm⟩ := hE
  go_enter Tryd.func66, Tryd.ntmps66
  go_wp2_with (go_at_call 62; refine (Tryd.strings_Contains _ _ m _ hs' hm).mono ?_; rintro e w' ⟨rfl, rfl⟩)
  go_ret
  exact ⟨rfl, rfl⟩

set_option maxHeartbeats 400000 in
theorem has_any (sub : ByteArray) (w : World) : Calls Tryd.prog 56 #[.string sub] w fun e w' => e = .returned (.func (.func 66) #[] #[.pointer (some ⟨w.heap.size, 0, none⟩)]) ∧ w.alloc (.cells #[.string sub] 9) = w' := by
  go_enter Tryd.func56, Tryd.ntmps56
  go_wp2
  go_ret
  exact ⟨rfl, rfl⟩

set_option maxHeartbeats 400000 in
theorem byPart_any (g : Nat) (w : World) : Calls Tryd.prog 52 #[.func (.func g) #[] #[]] w fun e w' => e = .returned (.func (.func 63) #[] #[.pointer (some ⟨w.heap.size, 0, none⟩)]) ∧ w.alloc (.cells #[.func (.func g) #[] #[]] 92) = w' := by
  go_enter Tryd.func52, Tryd.ntmps52
  go_wp2
  go_ret
  exact ⟨rfl, rfl⟩

/-- A closure that tells of a string whether something holds; it only reads. -/
def Says (g : Nat) (lb : Array Value) (p : ByteArray → Bool) : Prop := ∀ (s : ByteArray) (w : World), Env w → s.size ≤ 1000 → Calls Tryd.prog g (#[.string s] ++ lb) w fun e w' => e = .returned (.bool (p s)) ∧ w = w'

theorem ret_bool {a b : Bool} (h : a = b) : Ending.returned (.bool a) = .returned (.bool b) := by rw [h]

/-- What stands between the slashes. -/
def pieces (s : ByteArray) : List ByteArray := Lib.splitB ⟨#[47]⟩ 0 (Lib.countB s ⟨#[47]⟩) s
theorem length_pieces (s : ByteArray) : (pieces s).length = Lib.countB s ⟨#[47]⟩ + 1 := Lib.splitB_all _ (by decide) 0 _ s rfl
theorem pieces_miss {s : ByteArray} (h : Lib.indexB s ⟨#[47]⟩ = -1) : pieces s = [s] := by unfold pieces; rw [Lib.splitB_miss _ _ _ _ h]
theorem pieces_hit {s : ByteArray} {i : Nat} (h : Lib.indexB s ⟨#[47]⟩ = i) : pieces s = s.extract 0 i :: pieces (s.extract (i + 1) s.size) := by
  unfold pieces
  rw [Lib.countB_hit s ⟨#[47]⟩ i (by decide) h, Nat.add_comm 1, Lib.splitB_hit _ _ _ _ _ h]
  rfl
theorem indexB_cases (s : ByteArray) : Lib.indexB s ⟨#[47]⟩ = -1 ∨ ∃ i : Nat, Lib.indexB s ⟨#[47]⟩ = i := by
  have := Lib.index_ge s.data.toList [47]
  by_cases h : Lib.indexB s ⟨#[47]⟩ = -1
  · exact .inl h
  · refine .inr ⟨(Lib.indexB s ⟨#[47]⟩).toNat, ?_⟩
    have h' : Lib.indexB s ⟨#[47]⟩ = Lib.index s.data.toList [47] := rfl
    omega
theorem size_pieces : ∀ (k : Nat) (s : ByteArray), s.size ≤ k → ∀ x ∈ pieces s, x.size ≤ k := by
  intro k
  induction k using Nat.strongRecOn with
  | _ k ih =>
    intro s hs x hx
    rcases indexB_cases s with h | ⟨i, h⟩
    · rw [pieces_miss h] at hx
      simp only [List.mem_singleton] at hx
      rw [hx]; exact hs
    · rw [pieces_hit h] at hx
      rcases List.mem_cons.1 hx with rfl | hx
      · simp only [ByteArray.size_extract]; omega
      · by_cases h0 : s.size = 0
        · exfalso
          have e : s.data.toList = [] := by
            have : s.data.toList.length = 0 := by rw [← Lib.size_eq]; exact h0
            exact List.eq_nil_of_length_eq_zero this
          have h' : Lib.indexB s ⟨#[47]⟩ = Lib.index s.data.toList [47] := rfl
          rw [e] at h'
          have : Lib.index [] [47] = -1 := by decide
          omega
        · exact Nat.le_trans (ih (s.size - 1) (by omega) _ (by simp only [ByteArray.size_extract]; omega) x hx) (by omega)

set_option maxRecDepth 100000 in
set_option maxHeartbeats 1000000 in
theorem byPart1_any (s : ByteArray) (g b : Nat) (p : ByteArray → Bool) (w : World) (hE : Env w) (hs : s.size ≤ 1000) (hb : w.cell? ⟨b, 0, none⟩ = some (.func (.func g) #[] #[])) (hg : Says g #[] p)
    (eg : ∀ args w, (callFunc g args).run Tryd.prog w = .ok (.enter g args) w) :
    Calls Tryd.prog 63 #[.string s, .pointer (some ⟨b, 0, none⟩)] w fun e w' => e = .returned (.bool ((pieces s).any p)) ∧ w.alloc (.cells ((pieces s).map Value.string).toArray 9) = w' := by
  have hs' : s.size < 4294967281 := by omega
  have hE' := hE
  obtain ⟨m, hm⟩ := hE
  have hsp := Tryd.strings_Split s ⟨#[47]⟩ m w hs' hm (by decide)
  have hl := length_pieces s
  have hsz := size_pieces 1000 s hs
  have hcl := Lib.countB_le ⟨#[47]⟩ (by decide) s.size s (Nat.le_refl _)
  rw [← hl] at hsp
  change Calls _ _ _ _ (fun e w' => e = .returned (.slice (some ⟨w.heap.size, 0, none⟩) (pieces s).length (pieces s).length) ∧ w' = w.alloc (.cells ((pieces s).map Value.string).toArray 9)) at hsp
  have hn : (pieces s).length ≤ 1001 := by omega
  clear hl hcl
  generalize pieces s = L at *
  have hcell : ∀ k, (hk : k < L.length) → (w.alloc (.cells (L.map Value.string).toArray 9)).cell? ⟨w.heap.size, k, none⟩ = some (.string L[k]) := by
    intro k hk
    rw [cell_of_row _ w.heap.size k _ 9 (0, 0) (heap_alloc_new w _)]
    simp [hk]
  have hb1 : (w.alloc (.cells (L.map Value.string).toArray 9)).cell? ⟨b, 0, none⟩ = some (.func (.func g) #[] #[]) := (Gr.alloc (Gr.refl w) _).cell hb
  have hE1 : Env (w.alloc (.cells (L.map Value.string).toArray 9)) := hE'.gr (Gr.alloc (Gr.refl w) _)
  generalize hW : w.alloc (.cells (L.map Value.string).toArray 9) = W at *
  have hWW : Hid (w.alloc (.cells (L.map Value.string).toArray 9) = W) := hW
  clear hW hE' hm
  go_enter Tryd.func63, Tryd.ntmps63
  go_wp2_with (go_at_call 64; refine hsp.mono ?_; rintro e w' ⟨rfl, hw⟩; obtain rfl := hw.symm)
  go_loop [5, 9] (fun _ i => ∃ k : Nat, k ≤ L.length ∧ i = .int .i64 k ∧ (L.take k).any p = false) (fun _ i => L.length - (intOf i).toNat)
  case atStart => exact ⟨0, by omega, rfl, by simp⟩
  case round =>
    obtain ⟨k, hk, rfl, hk2⟩ := hrel
    by_cases hlt : k < L.length
    · have hck : W.cell? ⟨w.heap.size, k, none⟩ = some (.string L[k]) := hcell k hlt
      have hx : L[k].size ≤ 1000 := hsz _ (by simp)
      have hcall := hg L[k] W hE1 hx
      rw [show (#[Value.string L[k]] ++ #[] : Array Value) = #[Value.string L[k]] from rfl] at hcall
      have htk : (L.take (k + 1)).any p = ((L.take k).any p || p L[k]) := by
        rw [List.take_succ_eq_append_getElem hlt, List.any_append]; simp
      rw [hk2, Bool.false_or] at htk
      cases hp : p L[k]
      · rw [hp] at htk hcall
        have HT := Lib.hid htk
        clear htk hk2 hp hcell hsz hx
        go_wp2_with (go_at_fn g; refine hcall.mono ?_; rintro e w' ⟨rfl, rfl⟩)
        go_round
        case rel => exact ⟨k + 1, by omega, by go_num, HT.out⟩
        case measure => simp [intOf]; omega
      · rw [hp] at htk hcall
        have HT : Hid (L.any p = true) := by
          have : L = L.take (k + 1) ++ L.drop (k + 1) := (List.take_append_drop _ _).symm
          rw [this, List.any_append, htk]; rfl
        clear htk hk2 hp hcell hsz hx
        go_wp2_with (go_at_fn g; refine hcall.mono ?_; rintro e w' ⟨rfl, rfl⟩)
        go_ret
        exact ⟨ret_bool HT.out.symm, rfl⟩
    · have HT : Hid (L.any p = false) := by rw [← hk2, List.take_of_length_le (by omega)]; rfl
      clear hk2 hcell hsz
      go_wp2
      go_ret
      exact ⟨ret_bool HT.out.symm, rfl⟩

/-- A byte that may stand in no name. -/
def badB (c : UInt8) : Bool := decide (c.toNat < 33) || decide (126 < c.toNat) || Lib.contains [126, 94, 58, 63, 42, 91, 92] [c]

def anyBad (s : ByteArray) : Bool := s.data.toList.any badB

theorem any_take_succ (s : ByteArray) (p : UInt8 → Bool) (k : Nat) (h : k < s.size) : (s.data.toList.take (k + 1)).any p = ((s.data.toList.take k).any p || p s[k]) := by
  rw [List.take_succ_eq_append_getElem (by simpa using h), List.any_append]
  simp
  rfl
theorem any_of_take {l : List UInt8} {p : UInt8 → Bool} {k : Nat} (h : (l.take k).any p = true) : l.any p = true := by
  have : l = l.take k ++ l.drop k := (List.take_append_drop _ _).symm
  rw [this, List.any_append, h]; rfl

theorem encode_ascii (c : UInt8) (h : c.toNat < 128) : Utf8.encode (c.toNat : Int) = ⟨#[c]⟩ := by
  have hv : Utf8.valid (c.toNat : Int) = true := by unfold Utf8.valid; simp; omega
  unfold Utf8.encode
  rw [if_pos hv]
  simp only [Int.toNat_natCast, if_pos h]
  simp

set_option maxRecDepth 100000 in
set_option maxHeartbeats 1000000 in
theorem byByte_any (s : ByteArray) (w : World) (hE : Env w) : Calls Tryd.prog 51 #[.string s] w fun e w' => e = .returned (.bool (anyBad s)) ∧ ∃ pos, w' = w.iter s pos := by
  obtain ⟨m, hm⟩ := hE
  go_enter Tryd.func51, Tryd.ntmps51
  go_wp2
  go_loopw [4] (fun _ w' => ∃ pos : Nat, w' = w.iter s pos ∧ (s.data.toList.take pos).any badB = false) (fun _ w' => s.size - w'.iterPos w.heap.size)
  case atStart => exact ⟨0, rfl, by simp⟩
  case round =>
    obtain ⟨pos, rfl, hno⟩ := hrel
    by_cases hp : pos < s.size
    · have hnx : ∀ ty, (Instr.next (.pointer (some ⟨w.heap.size, 0, none⟩)) true ty).run Tryd.prog (w.iter s pos) = _ := fun ty => run_next_any w s pos ty hp
      have hts := any_take_succ s badB pos hp
      rw [hno, Bool.false_or] at hts
      by_cases ha : s[pos].toNat < 128
      · rw [decode_ascii s pos hp ha] at hnx
        by_cases h1 : s[pos].toNat < 33
        · have hb : badB s[pos] = true := by simp [badB, h1]
          rw [hb] at hts
          have HT : Hid (anyBad s = true) := any_of_take hts
          have h1' : (s[pos].toNat : Int) < 33 := by omega
          clear hts hb hno
          go_wp2
          go_ret
          exact ⟨ret_bool HT.out.symm, _, rfl⟩
        · by_cases h2 : 126 < s[pos].toNat
          · have hb : badB s[pos] = true := by simp [badB, h2]
            rw [hb] at hts
            have HT : Hid (anyBad s = true) := any_of_take hts
            have h1' : 33 ≤ (s[pos].toNat : Int) := by omega
            have h2' : 126 < (s[pos].toNat : Int) := by omega
            clear hts hb hno
            go_wp2
            go_ret
            exact ⟨ret_bool HT.out.symm, _, rfl⟩
          · have henc := encode_ascii s[pos] ha
            have hb : badB s[pos] = Lib.contains [126, 94, 58, 63, 42, 91, 92] [s[pos]] := by simp [badB, h1, h2]
            have hm' : (w.iter s (pos + 1)).cell? ⟨0, 0, none⟩ = some (.int .i64 m) := (Gr.alloc (Gr.refl w) _).cell hm
            have hcon := Tryd.strings_Contains ⟨#[126, 94, 58, 63, 42, 91, 92]⟩ ⟨#[s[pos]]⟩ m (w.iter s (pos + 1)) (by decide) hm'
            change Calls _ _ _ _ (fun e w' => e = .returned (.bool (Lib.contains [126, 94, 58, 63, 42, 91, 92] [s[pos]])) ∧ w' = w.iter s (pos + 1)) at hcon
            rw [← hb] at hcon
            have h1' : 33 ≤ (s[pos].toNat : Int) := by omega
            have h2' : (s[pos].toNat : Int) ≤ 126 := by omega
            cases hbb : badB s[pos]
            · rw [hbb] at hts hcon
              have HT := Lib.hid hts
              clear hts hb hno hbb hm' h1 h2
              go_wp2_with fail
              clear henc hnx
              refine hcon.mono ?_
              rintro e w' ⟨rfl, hw⟩
              subst hw
              go_wp2
              go_roundw
              case rel => exact ⟨pos + 1, rfl, HT.out⟩
              case measure => simp; omega
            · rw [hbb] at hts hcon
              have HT : Hid (anyBad s = true) := any_of_take hts
              clear hts hb hno hbb hm' h1 h2
              go_wp2_with (go_at_call 62; refine hcon.mono ?_; rintro e w' ⟨rfl, rfl⟩)
              go_ret
              exact ⟨ret_bool HT.out.symm, _, rfl⟩
      · have hhi := (decode_high s pos hp (by omega)).1
        have hb : badB s[pos] = true := by simp [badB]; omega
        rw [hb] at hts
        have HT : Hid (anyBad s = true) := any_of_take hts
        generalize Utf8.decode s pos = d at *
        obtain ⟨c, wd⟩ := d
        simp only at hhi hnx
        have h1' : 33 ≤ (c : Int) := by omega
        have h2' : 126 < (c : Int) := by omega
        clear hts hb hno
        go_wp2
        go_ret
        exact ⟨ret_bool HT.out.symm, _, rfl⟩
    · have hnx : ∀ ty, (Instr.next (.pointer (some ⟨w.heap.size, 0, none⟩)) true ty).run Tryd.prog (w.iter s pos) = _ := fun ty => run_next_end w s pos ty hp
      have HT : Hid (anyBad s = false) := by unfold anyBad; rw [← hno, List.take_of_length_le (by simp; omega)]; rfl
      clear hno
      go_wp2
      go_ret
      exact ⟨ret_bool HT.out.symm, _, rfl⟩

end Go.Proofs.YtjngckeeoohegaaDoor
