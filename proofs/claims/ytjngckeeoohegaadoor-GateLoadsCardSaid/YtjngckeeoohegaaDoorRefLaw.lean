/- Plain laws on names: what the document's loops look for. -/
import Derived.Test.YtjngckeeoohegaaDoorRules
import Derived.Lib.IndexLaws
namespace Go.Proofs.YtjngckeeoohegaaDoor
open Go.RowKit Go.Rel Go.Shelf

theorem occ_one (l : List UInt8) (c : UInt8) (j : Nat) : Lib.occAt l [c] j = true ↔ l[j]? = some c := by
  unfold Lib.occAt
  cases h : l.drop j with
  | nil => 
    have : l.length ≤ j := by simpa using h
    simp [List.getElem?_eq_none this]
  | cons x t =>
    have h2 : l[j]? = some x := by
      have := congrArg (fun l => l[0]?) h
      simpa using this
    rw [h2]
    simp [List.isPrefixOf]
    exact eq_comm

theorem occ_two (l : List UInt8) (a b : UInt8) (j : Nat) : Lib.occAt l [a, b] j = true ↔ l[j]? = some a ∧ l[j + 1]? = some b := by
  unfold Lib.occAt
  have h1 : (l.drop j)[0]? = l[j]? := by simp
  have h2 : (l.drop j)[1]? = l[j + 1]? := by simp
  rw [← h1, ← h2]
  generalize l.drop j = t
  match t with
  | [] => simp [List.isPrefixOf]
  | [x] => simp [List.isPrefixOf]
  | x :: y :: t =>
    have e1 : (a == x) = (x == a) := Bool.beq_comm
    have e2 : (b == y) = (y == b) := Bool.beq_comm
    simp [List.isPrefixOf, e1, e2]

theorem contains_iff (l sub : List UInt8) : Lib.contains l sub = true ↔ ∃ j, j ≤ l.length ∧ Lib.occAt l sub j = true := by
  unfold Lib.contains
  rcases Lib.index_spec l sub with ⟨h, hn⟩ | ⟨i, h, hi, ho, _⟩
  · rw [h]
    constructor
    · intro h; simp at h
    · rintro ⟨j, hj, ho⟩; rw [hn j hj] at ho; cases ho
  · rw [h]
    constructor
    · intro _; exact ⟨i, hi, ho⟩
    · intro _; simp

theorem at_eq (s : ByteArray) (i : Nat) (h : i < s.size) : s.data.toList[i]? = some s[i] := by
  have h2 : i < s.data.toList.length := by simpa using h
  rw [List.getElem?_eq_getElem h2]; rfl

theorem two_hit (s : ByteArray) (a b : UInt8) (i : Nat) (h : i + 1 < s.size) (h1 : s[i] = a) (h2 : s[i + 1] = b) : Lib.contains s.data.toList [a, b] = true :=
  (contains_iff _ _).2 ⟨i, by have : s.data.toList.length = s.size := by simp
                              omega, (occ_two _ _ _ _).2 ⟨by rw [at_eq s i (by omega), h1], by rw [at_eq s (i + 1) h, h2]⟩⟩
theorem two_miss (s : ByteArray) (a b : UInt8) (h : ∀ i, (hi : i + 1 < s.size) → ¬ (s[i] = a ∧ s[i + 1] = b)) : Lib.contains s.data.toList [a, b] = false := by
  rw [Bool.eq_false_iff]
  intro hc
  obtain ⟨j, hj, ho⟩ := (contains_iff _ _).1 hc
  obtain ⟨h1, h2⟩ := (occ_two _ _ _ _).1 ho
  have hl : j + 1 < s.size := by
    have := (List.getElem?_eq_some_iff.1 h2).1
    simpa using this
  rw [at_eq s j (by omega)] at h1
  rw [at_eq s (j + 1) hl] at h2
  exact h j hl ⟨by injection h1, by injection h2⟩

theorem pieces_last {s : ByteArray} {f : Nat} (hno : ∀ j, f ≤ j → (hj : j < s.size) → s[j] ≠ 47) : pieces (s.extract f s.size) = [s.extract f s.size] := by
  refine pieces_miss (Lib.index_none fun j hj => ?_)
  rw [Bool.eq_false_iff]
  intro ho
  have h1 := (occ_one _ _ _).1 ho
  have h2 : j < (s.extract f s.size).size := by
    have := (List.getElem?_eq_some_iff.1 h1).1
    simpa using this
  rw [at_eq _ j h2] at h1
  simp only [ByteArray.size_extract] at h2
  rw [ByteArray.getElem_extract] at h1
  exact hno (f + j) (by omega) (by omega) (by injection h1)

theorem pieces_next {s : ByteArray} {f i : Nat} (hf : f ≤ i) (hi : i < s.size) (hc : s[i] = 47) (hno : ∀ j, f ≤ j → (hj : j < i) → s[j] ≠ 47) :
    pieces (s.extract f s.size) = s.extract f i :: pieces (s.extract (i + 1) s.size) := by
  have hsz : (s.extract f s.size).size = s.size - f := by simp
  have hidx : Lib.indexB (s.extract f s.size) ⟨#[47]⟩ = ((i - f : Nat) : Int) := by
    refine Lib.index_hit (fun j hj => ?_) ?_ ?_
    · rw [Bool.eq_false_iff]
      intro ho
      have h1 := (occ_one _ _ _).1 ho
      rw [at_eq _ j (by omega), ByteArray.getElem_extract] at h1
      exact hno (f + j) (by omega) (by omega) (by injection h1)
    · have : (s.extract f s.size).data.toList.length = (s.extract f s.size).size := by simp
      omega
    · refine (occ_one _ _ _).2 ?_
      rw [at_eq _ (i - f) (by omega), ByteArray.getElem_extract]
      have : f + (i - f) = i := by omega
      simp only [this, hc]
  rw [pieces_hit hidx]
  have e1 : (s.extract f s.size).extract 0 (i - f) = s.extract f i := by
    rw [ByteArray.extract_extract]
    congr 1 <;> omega
  have e2 : (s.extract f s.size).extract (i - f + 1) (s.extract f s.size).size = s.extract (i + 1) s.size := by
    rw [ByteArray.extract_extract, hsz]
    congr 1 <;> omega
  rw [e1, e2]

def mayN (n : Nat) : Bool := !(n < 33 || 126 < n) && (n != 126 && n != 94 && n != 58 && n != 63 && n != 42 && n != 91 && n != 92)
theorem mayN_all : ∀ n : Fin 256, badB (UInt8.ofNat n.1) = !mayN n.1 := by decide +kernel
theorem badB_may (c : UInt8) : badB c = !mayN c.toNat := by
  have h := mayN_all ⟨c.toNat, c.toNat_lt⟩
  rw [UInt8.ofNat_toNat] at h
  exact h

theorem dot1_eq (x : ByteArray) (h : 0 < x.size) : dot1 x = (x[0] == 46) := by
  have h1 := at_eq x 0 h
  unfold dot1 Lib.hasPrefix
  match hx : x.data.toList with
  | [] => rw [hx] at h1; simp at h1
  | b :: t =>
    rw [hx] at h1
    have : b = x[0] := by simpa using h1
    rw [← this]
    have e1 : ((46 : UInt8) == b) = (b == 46) := Bool.beq_comm
    simp [List.isPrefixOf, e1]

theorem suffix_drop (l p : List UInt8) (h : p.length ≤ l.length) : Lib.hasSuffix l p = decide (l.drop (l.length - p.length) = p) := by
  unfold Lib.hasSuffix
  rw [Bool.eq_iff_iff, List.isSuffixOf_iff_suffix, decide_eq_true_iff]
  constructor
  · rintro ⟨t, rfl⟩
    simp
  · intro h; rw [← h]; exact List.drop_suffix _ _

theorem lock_long (x : ByteArray) (h : 5 ≤ x.size) : lockEnd x = decide (x.extract (x.size - 5) x.size = ⟨#[46, 108, 111, 99, 107]⟩) := by
  unfold lockEnd
  have hl : x.data.toList.length = x.size := by simp
  have hsd := suffix_drop x.data.toList [46, 108, 111, 99, 107] (by rw [hl]; exact h)
  rw [hsd, decide_eq_decide, hl]
  have e : (x.extract (x.size - 5) x.size).data.toList = x.data.toList.drop (x.size - 5) := by
    rw [ByteArray.data_extract, Array.toList_extract, List.extract_eq_take_drop, List.take_of_length_le]
    rw [List.length_drop, hl]; exact Nat.le_refl _
  show x.data.toList.drop (x.size - 5) = _ ↔ _
  rw [← e]
  constructor
  · intro h; ext1; apply Array.ext'; exact h
  · intro h; rw [h]
theorem lock_short (x : ByteArray) (h : x.size < 5) : lockEnd x = false := by
  unfold lockEnd Lib.hasSuffix
  rw [Bool.eq_false_iff]
  intro hc
  have := (List.isSuffixOf_iff_suffix.1 hc).length_le
  simp at this
  omega
theorem last_eq (x : ByteArray) (h : 0 < x.size) : Lib.hasSuffix x.data.toList [46] = (x[x.size - 1] == 46) := by
  have hl : x.data.toList.length = x.size := by simp
  rw [suffix_drop x.data.toList [46] (by rw [hl]; exact h), hl]
  have h1 := at_eq x (x.size - 1) (by omega)
  have e : x.data.toList.drop (x.size - 1) = [x[x.size - 1]] := by
    have h2 : x.size - 1 < x.data.toList.length := by omega
    rw [List.drop_eq_getElem_cons h2, List.drop_of_length_le (by omega)]
    rw [List.getElem?_eq_getElem h2] at h1
    injection h1 with h1
    rw [h1]
  rw [Bool.eq_iff_iff, decide_eq_true_iff]
  show x.data.toList.drop (x.size - 1) = _ ↔ _
  rw [e]
  simp
end Go.Proofs.YtjngckeeoohegaaDoor
