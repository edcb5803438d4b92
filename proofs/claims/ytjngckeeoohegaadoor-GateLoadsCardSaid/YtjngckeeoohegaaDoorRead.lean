/- Arguments opened: records out of what a slice reads as; and a law's end. -/
import Derived.Test.YtjngckeeoohegaaDoorLaw22L
import Derived.Deep.Slices
import Derived.OpenShut
import Derived.ReadAgain
import Derived.ChangeSame
import Derived.ChangeCalls
import Derived.ProofKit
namespace Go.Proofs.YtjngckeeoohegaaDoor
open Go.RowKit Go.Rel Go.ChangeShapes Go.WideShapes Go.ChangeAt

section
variable {H : Type} {enc : TypeId × Value → H} {P : Program} {w : World} {base : Nat} {spare : Nat → Bool} {held : Bool}

/-- An array of whole numbers, cell by cell. -/
theorem ints_of_trod {t e : TypeId} {n fuel : Nat} {k : IntKind} {cs : List Value} {x : DataW H × List MemPlace} (ht : P.underlying t = some (.array n e)) (he : P.underlying e = some (.int k)) (hc : P.cellsOf e = 1) (hC : P.cellsOf t = n)
    (h : DataW.trod enc P w base spare held fuel t cs = some x) : cs.length = n ∧ ∀ i, i < n → ∃ z, cs[i]? = some (.int k z) ∧ (Lit.int k z).wf = true := by
  obtain ⟨xs, m, _, _, hl, hxl, hat⟩ := DataW.trod_array ht h
  refine ⟨by rw [hl, hC], fun i hi => ?_⟩
  have h1 := hat i hi
  rw [hc, Nat.mul_one, List.getElem?_eq_getElem (by omega)] at h1
  obtain ⟨z, e1, _, hw⟩ := DataW.trod_int he h1
  refine ⟨z, ?_, hw⟩
  have h2 : ((cs.drop i).take 1)[0]? = some (.int k z) := by rw [e1]; rfl
  simpa using h2

theorem vec_of (cs : List Value) (hl : cs.length = 16) (h : ∀ i, i < 16 → ∃ z, cs[i]? = some (.int .u32 z) ∧ (Lit.int .u32 z).wf = true) : ∃ v : Vec, cs = vecCells v := by
  have hz : ∀ i : Fin 16, ∃ u : UInt32, cs[i.val]? = some (.int .u32 (u.toNat : Int)) := by
    intro i
    obtain ⟨z, h1, h2⟩ := h i.val i.isLt
    simp only [Lit.wf, IntKind.min, IntKind.max, Bool.and_eq_true, decide_eq_true_eq] at h2
    have h3 : 0 ≤ z ∧ z < 4294967296 := by
      have a1 := h2.1
      have a2 := h2.2
      simp [IntKind.bits, IntKind.signed] at a1 a2
      omega
    refine ⟨UInt32.ofNat z.toNat, ?_⟩
    rw [h1]
    have : ((UInt32.ofNat z.toNat).toNat : Int) = z := by
      rw [UInt32.toNat_ofNat']
      have : z.toNat % 2 ^ 32 = z.toNat := Nat.mod_eq_of_lt (by omega)
      rw [this]; omega
    rw [this]
  refine ⟨Vector.ofFn fun i => (hz i).choose, ?_⟩
  apply List.ext_getElem?
  intro i
  by_cases hi : i < 16
  · rw [vecCells_at _ hi, (hz ⟨i, hi⟩).choose_spec]
    simp [vecAt, hi]
  · rw [List.getElem?_eq_none (by omega), List.getElem?_eq_none (by simp; omega)]

theorem id_of (cs : List Value) (hl : cs.length = 32) (h : ∀ i, i < 32 → ∃ z, cs[i]? = some (.int .u8 z) ∧ (Lit.int .u8 z).wf = true) : ∃ v : Id, cs = idCells v := by
  have hz : ∀ i : Fin 32, ∃ u : UInt8, cs[i.val]? = some (.int .u8 (u.toNat : Int)) := by
    intro i
    obtain ⟨z, h1, h2⟩ := h i.val i.isLt
    simp only [Lit.wf, IntKind.min, IntKind.max, Bool.and_eq_true, decide_eq_true_eq] at h2
    have h3 : 0 ≤ z ∧ z < 256 := by
      have a1 := h2.1
      have a2 := h2.2
      simp [IntKind.bits, IntKind.signed] at a1 a2
      omega
    refine ⟨UInt8.ofNat z.toNat, ?_⟩
    rw [h1]
    have : ((UInt8.ofNat z.toNat).toNat : Int) = z := by
      rw [UInt8.toNat_ofNat']
      have : z.toNat % 2 ^ 8 = z.toNat := Nat.mod_eq_of_lt (by omega)
      rw [this]; omega
    rw [this]
  refine ⟨Vector.ofFn fun i => (hz i).choose, ?_⟩
  apply List.ext_getElem?
  intro i
  by_cases hi : i < 32
  · rw [idCells_at _ hi, (hz ⟨i, hi⟩).choose_spec]
    simp [idAt, hi]
  · rw [List.getElem?_eq_none (by omega), List.getElem?_eq_none (by simp; omega)]
end

section
variable {H : Type} {enc : TypeId × Value → H} {w : World} {base : Nat} {spare : Nat → Bool} {held : Bool}

theorem rec_of_trod {fuel : Nat} {cs : List Value} {x : DataW H × List MemPlace} (h : DataW.trod enc Tryd.prog w base spare held fuel 31 cs = some x) : ∃ r : Rec, cs = recCells r := by
  obtain ⟨xs, n, _, _, hl, hxl, hat⟩ := DataW.trod_struct Tryd.underlying31 h
  have hl52 : cs.length = 52 := hl.trans (by kernel_rfl)
  have h5 : xs.length = 5 := hxl
  have hx : ∀ i (hi : i < 5), xs[i]? = some (xs[i]'(by omega)) := fun i hi => List.getElem?_eq_getElem _
  have c0 : DataW.trod enc Tryd.prog w base spare held n 24 ((cs.drop 0).take (Tryd.prog.cellsOf 24)) = xs[0]? := hat 0 _ rfl
  have c1 : DataW.trod enc Tryd.prog w base spare held n 27 ((cs.drop 2).take (Tryd.prog.cellsOf 27)) = xs[1]? := hat 1 _ rfl
  have c2 : DataW.trod enc Tryd.prog w base spare held n 9 ((cs.drop 18).take (Tryd.prog.cellsOf 9)) = xs[2]? := hat 2 _ rfl
  have c3 : DataW.trod enc Tryd.prog w base spare held n 4 ((cs.drop 19).take (Tryd.prog.cellsOf 4)) = xs[3]? := hat 3 _ rfl
  have c4 : DataW.trod enc Tryd.prog w base spare held n 29 ((cs.drop 20).take (Tryd.prog.cellsOf 29)) = xs[4]? := hat 4 _ rfl
  have k0 : Tryd.prog.cellsOf 24 = 2 := by kernel_rfl
  have k1 : Tryd.prog.cellsOf 27 = 16 := by kernel_rfl
  have k2 : Tryd.prog.cellsOf 9 = 1 := by kernel_rfl
  have k3 : Tryd.prog.cellsOf 4 = 1 := by kernel_rfl
  have k4 : Tryd.prog.cellsOf 29 = 32 := by kernel_rfl
  have ki : Tryd.prog.cellsOf 3 = 1 := by kernel_rfl
  have kw : Tryd.prog.cellsOf 25 = 1 := by kernel_rfl
  have kb : Tryd.prog.cellsOf 5 = 1 := by kernel_rfl
  rw [k0, hx 0 (by omega)] at c0
  rw [k1, hx 1 (by omega)] at c1
  rw [k2, hx 2 (by omega)] at c2
  rw [k3, hx 3 (by omega)] at c3
  rw [k4, hx 4 (by omega)] at c4
  obtain ⟨ys, n', _, _, _, hyl, hat2⟩ := DataW.trod_struct Tryd.underlying24 c0
  have h2 : ys.length = 2 := hyl
  have d0 : DataW.trod enc Tryd.prog w base spare held n' 3 ((((cs.drop 0).take 2).drop 0).take (Tryd.prog.cellsOf 3)) = ys[0]? := hat2 0 _ rfl
  have d1 : DataW.trod enc Tryd.prog w base spare held n' 3 ((((cs.drop 0).take 2).drop 1).take (Tryd.prog.cellsOf 3)) = ys[1]? := hat2 1 _ rfl
  rw [ki, List.getElem?_eq_getElem (by omega)] at d0 d1
  obtain ⟨z0, e0, _, _⟩ := DataW.trod_int Tryd.underlying3 d0
  obtain ⟨z1, e1, _, _⟩ := DataW.trod_int Tryd.underlying3 d1
  obtain ⟨s, e2, _, _⟩ := DataW.trod_string Tryd.underlying9 c2
  obtain ⟨b, e3, _⟩ := DataW.trod_bool Tryd.underlying4 c3
  obtain ⟨l1, a1⟩ := ints_of_trod Tryd.underlying27 Tryd.underlying25 kw k1 c1
  obtain ⟨l4, a4⟩ := ints_of_trod Tryd.underlying29 Tryd.underlying5 kb k4 c4
  obtain ⟨v, ev⟩ := vec_of _ l1 a1
  obtain ⟨i, ei⟩ := id_of _ l4 a4
  refine ⟨⟨z0, z1, v, s, b, i⟩, ?_⟩
  have s0 : cs = cs.take 1 ++ cs.drop 1 := (List.take_append_drop 1 cs).symm
  have s1 : cs.drop 1 = (cs.drop 1).take 1 ++ cs.drop 2 := (List.take_append_drop 1 (cs.drop 1)).symm.trans (by rw [List.drop_drop])
  have s2 : cs.drop 2 = (cs.drop 2).take 16 ++ cs.drop 18 := (List.take_append_drop 16 (cs.drop 2)).symm.trans (by rw [List.drop_drop])
  have s3 : cs.drop 18 = (cs.drop 18).take 1 ++ cs.drop 19 := (List.take_append_drop 1 (cs.drop 18)).symm.trans (by rw [List.drop_drop])
  have s4 : cs.drop 19 = (cs.drop 19).take 1 ++ cs.drop 20 := (List.take_append_drop 1 (cs.drop 19)).symm.trans (by rw [List.drop_drop])
  have s5 : (cs.drop 20).take 32 = cs.drop 20 := List.take_of_length_le (by rw [List.length_drop]; omega)
  have f0 : cs.take 1 = [.int .i64 z0] := by rw [← e0]; simp [List.take_take]
  have f1 : (cs.drop 1).take 1 = [.int .i64 z1] := by rw [← e1]; simp [List.drop_take, List.take_take]
  rw [s5] at ei
  rw [s0, s1, s2, s3, s4, f0, f1, ev, e2, e3, ei]
  simp [recCells]

set_option maxRecDepth 100000 in
/-- A slice of records that came in. -/
theorem recs_of_trod {v : Value} {d : DataW H} {p : List MemPlace} {r : Reach} {b0 : Nat} (hv : Value.okWide Tryd.prog w r b0 22 v) (h : DataW.Trod enc Tryd.prog w 0 (fun _ => true) true 22 v d p) :
    ∃ A c, ∃ L : List Rec, v = .slice A L.length c ∧ RecsIn w A c L := by
  obtain ⟨A, n, c, rfl⟩ := okWide_slice Tryd.underlying22 hv
  obtain ⟨fuel, hf⟩ := h
  have hcell : (Value.slice A n c).cells.toList = [.slice A n c] := rfl
  rw [hcell] at hf
  rcases Go.Deep.open_slice Tryd.underlying22 hf with ⟨e, _⟩ | ⟨a, len, cap, m, n', D, Pl, e, _, hl, _, hm, _, hat⟩
  · simp only [List.cons.injEq, Value.slice.injEq, and_true] at e
    obtain ⟨rfl, rfl, rfl⟩ := e
    exact ⟨none, 0, [], rfl, .inl ⟨rfl, rfl, rfl⟩⟩
  · simp only [List.cons.injEq, Value.slice.injEq, and_true] at e
    obtain ⟨rfl, rfl, rfl⟩ := e
    have k52 : Tryd.prog.cellsOf 31 = 52 := by kernel_rfl
    have hrec : ∀ i : Fin n, ∃ x : Rec, ∀ j, j < 52 → w.cell? (a.add (i.val * 52 + j)) = (recCells x)[j]? := by
      intro i
      obtain ⟨cs, hc, ht⟩ := hat i.val (by have := i.isLt; simp at hm; omega)
      obtain ⟨x, rfl⟩ := rec_of_trod ht
      rw [k52] at hc
      obtain ⟨_, _, h3⟩ := World.cells?_some hc
      exact ⟨x, fun j hj => by rw [← Go.Deep.add_add]; exact h3 j hj⟩
    refine ⟨some a, c, List.ofFn fun i => (hrec i).choose, by simp, .inr ⟨a, rfl, fun j u hj => ?_⟩⟩
    have hlen := length_flatMap recCells 52 length_recCells (List.ofFn fun i => (hrec i).choose)
    have hjl := (List.getElem?_eq_some_iff.1 hj).1
    rw [hlen, List.length_ofFn] at hjl
    have hi : j / 52 < n := by omega
    have hjj := flat_at (List.ofFn fun i => (hrec i).choose) (j / 52) (j % 52) (by simpa using hi) (by omega)
    have e : j / 52 * 52 + j % 52 = j := by omega
    rw [e, hj] at hjj
    have h4 := (hrec ⟨j / 52, hi⟩).choose_spec (j % 52) (by omega)
    simp only [e] at h4
    rw [h4, hjj]
    simp
end
end Go.Proofs.YtjngckeeoohegaaDoor
