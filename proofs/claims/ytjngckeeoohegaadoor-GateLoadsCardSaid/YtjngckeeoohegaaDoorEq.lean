/- Go's '==' on dots, vectors, ids, records. -/
import Derived.Test.YtjngckeeoohegaaDoorData
import Derived.ChangeKeysEq
namespace Go.Proofs.YtjngckeeoohegaaDoor
open Go.RowKit Go.Rel

section
variable {P : Program} (w : World)

theorem run_part_agg {T : TypeId} {cs : Array Value} {off : Nat} {d : TypeDesc} {n : Nat} (hu : P.underlying T = some d) (hd : d.isRow = true) (hi : (P.info? T).map (·.size) = some n) :
    (part T cs off).run P w = .ok (.agg (cs.extract off (off + n))) w := by
  cases hq : P.info? T with
  | none => simp [hq] at hi
  | some i =>
    have hs : i.size = n := by simpa [hq] using hi
    have hagg : (isAgg T).run P w = .ok true w := by
      unfold isAgg
      rw [Sem.run_bind, run_underlying hu w]
      cases d <;> simp_all [TypeDesc.isRow]
    simp [part, Sem.run_bind, hagg, sizeOf, typeInfo, hq, hs]

theorem run_part_one {T : TypeId} {cs : Array Value} {off : Nat} {d : TypeDesc} {v : Value} (hu : P.underlying T = some d) (hd : d.isRow = false) (hv : cs[off]? = some v) :
    (part T cs off).run P w = .ok v w := by
  have hagg : (isAgg T).run P w = .ok false w := by
    unfold isAgg
    rw [Sem.run_bind, run_underlying hu w]
    cases d <;> simp_all [TypeDesc.isRow]
  simp [part, Sem.run_bind, hagg, hv]

theorem eqItems_ints {e : TypeId} {k : IntKind} (d : Nat) (hu : P.underlying e = some (.int k)) (xs ys : List Int) (hl : xs.length = ys.length) : ∀ (m a : Nat), a + m = xs.length →
    (Op.eqItems (d + 1) e 1 (xs.map (Value.int k)).toArray (ys.map (Value.int k)).toArray (List.range' a m)).run P w = .ok (decide (xs.drop a = ys.drop a)) w := by
  intro m
  induction m with
  | zero =>
    intro a ha
    have h1 : xs.drop a = [] := List.drop_eq_nil_of_le (by omega)
    have h2 : ys.drop a = [] := List.drop_eq_nil_of_le (by omega)
    simp [Op.eqItems, h1, h2]
  | succ m ih =>
    intro a ha
    have hx : a < xs.length := by omega
    have hy : a < ys.length := by omega
    rw [List.range'_succ]
    simp only [Op.eqItems, Sem.run_bind, Nat.mul_one]
    rw [run_part_one (P := P) w (v := .int k xs[a]) hu rfl (by simp [hx])]
    simp only [Result.andThen_ok]
    rw [run_part_one (P := P) w (v := .int k ys[a]) hu rfl (by simp [hy])]
    simp only [Result.andThen_ok]
    rw [run_equalIn_int w d e k k _ _ hu]
    simp only [Result.andThen_ok]
    rw [List.drop_eq_getElem_cons hx, List.drop_eq_getElem_cons hy]
    by_cases h : xs[a] = ys[a]
    · simp only [h, beq_self_eq_true, Bool.not_true, Bool.false_eq_true, if_false, List.cons.injEq, true_and]
      exact ih (a + 1) (by omega)
    · have hne : ¬ (xs[a] :: xs.drop (a + 1) = ys[a] :: ys.drop (a + 1)) := fun e => h (List.cons.inj e).1
      have hb : (xs[a] == ys[a]) = false := by simp [h]
      rw [decide_eq_false hne, hb]
      rfl

theorem eq_array_ints {t e : TypeId} {n : Nat} {k : IntKind} (d : Nat) (hu : P.underlying t = some (.array n e)) (hi : (P.info? e).isSome = true) (hc : P.cellsOf e = 1) (he : P.underlying e = some (.int k)) (xs ys : List Int) (hx : xs.length = n) (hy : ys.length = n) :
    (Op.equalIn (d + 2) t (.agg (xs.map (Value.int k)).toArray) (.agg (ys.map (Value.int k)).toArray)).run P w = .ok (decide (xs = ys)) w := by
  obtain ⟨i, hi⟩ := Option.isSome_iff_exists.1 hi
  rw [run_equalIn_array w (d + 1) _ _ hu hi, hc, List.range_eq_range']
  have := eqItems_ints (P := P) w d he xs ys (by omega) n 0 (by omega)
  simpa using this

theorem relUpon_eql {t t' type : TypeId} {a b : Nat} {xs ys : Array Value} {r : Bool} {f : Nat → Value} {W : World} (ha : f a = .agg xs) (hb : f b = .agg ys) (hm : P.eqGuardType P.depth t = false)
    (he : (Op.equalIn 10000 t (.agg xs) (.agg ys)).run P W = .ok r W) : relUpon P (fun v _ => v = .bool r) W ((execOp (evalF f) (bare (.binOp .eql t (.tmp a) (.tmp b) t') type)).run P W) := by
  have e : (execOp (evalF f) (bare (.binOp .eql t (.tmp a) (.tmp b) t') type)).run P W = .ok (.value (.bool r)) W := by
    simp only [execOp, bare, evalF, ha, hb, Sem.run_bind, run_eqGuard_agg W .eql t (.tmp a) (.tmp b) xs ys hm, Result.andThen_ok, run_eql_struct, he, Sem.run_pure]
  rw [e]; exact ⟨Gr.refl _, rfl⟩

theorem relUpon_neq {t t' type : TypeId} {a b : Nat} {xs ys : Array Value} {r : Bool} {f : Nat → Value} {W : World} (ha : f a = .agg xs) (hb : f b = .agg ys) (hm : P.eqGuardType P.depth t = false)
    (he : (Op.equalIn 10000 t (.agg xs) (.agg ys)).run P W = .ok r W) : relUpon P (fun v _ => v = .bool (!r)) W ((execOp (evalF f) (bare (.binOp .neq t (.tmp a) (.tmp b) t') type)).run P W) := by
  have e : (execOp (evalF f) (bare (.binOp .neq t (.tmp a) (.tmp b) t') type)).run P W = .ok (.value (.bool !r)) W := by
    simp only [execOp, bare, evalF, ha, hb, Sem.run_bind, run_eqGuard_agg W .neq t (.tmp a) (.tmp b) xs ys hm, Result.andThen_ok, run_neq_struct, he, Sem.run_pure]
  rw [e]; exact ⟨Gr.refl _, rfl⟩
end

theorem toNat_list_inj8 {xs ys : List UInt8} (h : xs.map (fun x => (x.toNat : Int)) = ys.map fun x => (x.toNat : Int)) : xs = ys := by
  refine List.map_inj_right (f := fun x : UInt8 => (x.toNat : Int)) (fun a b h => ?_) |>.1 h
  exact UInt8.toNat_inj.1 (by omega)
theorem toNat_list_inj32 {xs ys : List UInt32} (h : xs.map (fun x => (x.toNat : Int)) = ys.map fun x => (x.toNat : Int)) : xs = ys := by
  refine List.map_inj_right (f := fun x : UInt32 => (x.toNat : Int)) (fun a b h => ?_) |>.1 h
  exact UInt32.toNat_inj.1 (by omega)

theorem eqIn_id (d : Nat) (x y : Id) (w : World) : (Op.equalIn (d + 2) 29 (.agg (idCells x).toArray) (.agg (idCells y).toArray)).run Tryd.prog w = .ok (decide (x = y)) w := by
  have h := eq_array_ints (P := Tryd.prog) w d (t := 29) (e := 5) (n := 32) (k := .u8) Tryd.underlying29 (by kernel_rfl) (by kernel_rfl) Tryd.underlying5
    (x.toList.map fun c => (c.toNat : Int)) (y.toList.map fun c => (c.toNat : Int)) (by simp) (by simp)
  simp only [List.map_map] at h
  have e : ∀ z : Id, (z.toList.map (Value.int IntKind.u8 ∘ fun c => (c.toNat : Int))) = idCells z := fun z => rfl
  rw [e, e] at h
  have : (x.toList.map fun c => (c.toNat : Int)) = (y.toList.map fun c => (c.toNat : Int)) ↔ x = y :=
    ⟨fun h => Vector.toList_inj.1 (toNat_list_inj8 h), fun h => by rw [h]⟩
  exact h.trans (congrArg (fun b => Result.ok b w) (decide_eq_decide.2 this))

theorem eqIn_vec (d : Nat) (x y : Vec) (w : World) : (Op.equalIn (d + 2) 27 (.agg (vecCells x).toArray) (.agg (vecCells y).toArray)).run Tryd.prog w = .ok (decide (x = y)) w := by
  have h := eq_array_ints (P := Tryd.prog) w d (t := 27) (e := 25) (n := 16) (k := .u32) Tryd.underlying27 (by kernel_rfl) (by kernel_rfl) Tryd.underlying25
    (x.toList.map fun c => (c.toNat : Int)) (y.toList.map fun c => (c.toNat : Int)) (by simp) (by simp)
  simp only [List.map_map] at h
  have e : ∀ z : Vec, (z.toList.map (Value.int IntKind.u32 ∘ fun c => (c.toNat : Int))) = vecCells z := fun z => rfl
  rw [e, e] at h
  have : (x.toList.map fun c => (c.toNat : Int)) = (y.toList.map fun c => (c.toNat : Int)) ↔ x = y :=
    ⟨fun h => Vector.toList_inj.1 (toNat_list_inj32 h), fun h => by rw [h]⟩
  exact h.trans (congrArg (fun b => Result.ok b w) (decide_eq_decide.2 this))

theorem guard_id : (Tryd.prog).eqGuardType (Tryd.prog).depth 29 = false := by kernel_rfl
theorem neq_id {f : Nat → Value} {W : World} {a b : Nat} {t' type : TypeId} {x y : Id} (ha : f a = idV x) (hb : f b = idV y) :
    relUpon Tryd.prog (fun v _ => v = .bool (!decide (x = y))) W ((execOp (evalF f) (bare (.binOp .neq 29 (.tmp a) (.tmp b) t') type)).run Tryd.prog W) := relUpon_neq ha hb guard_id (eqIn_id 9998 x y W)
theorem eql_id {f : Nat → Value} {W : World} {a b : Nat} {t' type : TypeId} {x y : Id} (ha : f a = idV x) (hb : f b = idV y) :
    relUpon Tryd.prog (fun v _ => v = .bool (decide (x = y))) W ((execOp (evalF f) (bare (.binOp .eql 29 (.tmp a) (.tmp b) t') type)).run Tryd.prog W) := relUpon_eql ha hb guard_id (eqIn_id 9998 x y W)

/-- The id of zeros. -/
abbrev id0 : Id := Vector.replicate 32 0
theorem run_build_id (w : World) : (Instr.build 29 #[]).run Tryd.prog w = .ok (idV id0) w := by kernel_rfl
theorem bld_id {f : Nat → Value} {W : World} {type : TypeId} : relUpon Tryd.prog (fun v _ => v = idV id0) W ((execOp (evalF f) (bare (.build 29 #[]) type)).run Tryd.prog W) := by
  have e : (execOp (evalF f) (bare (.build 29 #[]) type)).run Tryd.prog W = .ok (.value (idV id0)) W := by
    have h := run_build_id W
    simp only [execOp, bare, Array.map_empty, Sem.run_bind, h, Result.andThen_ok, Sem.run_pure]
  rw [e]; exact ⟨Gr.refl _, rfl⟩

end Go.Proofs.YtjngckeeoohegaaDoor
