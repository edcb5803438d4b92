/- Go's '==' on dots and records. -/
import Derived.Test.YtjngckeeoohegaaDoorEq
namespace Go.Proofs.YtjngckeeoohegaaDoor
open Go.RowKit Go.Rel

section
variable {P : Program} (w : World)
theorem eqIn_struct (d : Nat) (t : TypeId) (xs ys : Array Value) {fs : Array Field} (hu : P.underlying t = some (.struct fs)) (hp : P.stoodInHeld t = false) :
    (Op.equalIn (d + 1) t (.agg xs) (.agg ys)).run P w = (Op.eqFields d xs ys fs.toList).run P w := by
  have hf : P.fieldsOf t = fs := by unfold Program.fieldsOf; rw [hu]
  have := run_equalIn_struct (P := P) w d t xs ys (by rw [hf]; exact hu) hp
  rw [this, hf]
theorem eqFields_step (d : Nat) (xs ys : Array Value) (f : Field) (fs : List Field) {a b : Value} {r1 r2 : Bool} (hn : f.name ≠ "_") (ha : (part f.type xs f.offset).run P w = .ok a w) (hb : (part f.type ys f.offset).run P w = .ok b w)
    (he : (Op.equalIn d f.type a b).run P w = .ok r1 w) (hr : (Op.eqFields d xs ys fs).run P w = .ok r2 w) : (Op.eqFields d xs ys (f :: fs)).run P w = .ok (r1 && r2) w := by
  simp only [Op.eqFields, if_pos hn, Sem.run_bind, ha, hb, he, Result.andThen_ok]
  cases r1
  · simp
  · simp [hr]
end

theorem eqIn_dot (d : Nat) (a b a' b' : Int) (w : World) : (Op.equalIn (d + 2) 24 (.agg #[.int .i64 a, .int .i64 b]) (.agg #[.int .i64 a', .int .i64 b'])).run Tryd.prog w = .ok (decide (a = a' ∧ b = b')) w := by
  rw [eqIn_struct w (d + 1) _ _ _ Tryd.underlying24 (by kernel_rfl)]
  have p1 : ∀ a b : Int, (part 3 #[.int .i64 a, .int .i64 b] 0).run Tryd.prog w = .ok (.int .i64 a) w := fun a b => run_part_one w Tryd.underlying3 rfl rfl
  have p2 : ∀ a b : Int, (part 3 #[.int .i64 a, .int .i64 b] 1).run Tryd.prog w = .ok (.int .i64 b) w := fun a b => run_part_one w Tryd.underlying3 rfl rfl
  have e1 : ∀ a b : Int, (Op.equalIn (d + 1) 3 (.int .i64 a) (.int .i64 b)).run Tryd.prog w = .ok (a == b) w := fun a b => run_equalIn_int w d _ _ _ _ _ Tryd.underlying3
  have n1 : ("Site" : String) ≠ "_" := by decide
  have n2 : ("Counter" : String) ≠ "_" := by decide
  refine Eq.trans (eqFields_step w (d + 1) _ _ _ _ (a := .int .i64 a) (b := .int .i64 a') (r1 := a == a') ?_ ?_ ?_ ?_ (eqFields_step w (d + 1) _ _ _ _ (a := .int .i64 b) (b := .int .i64 b') (r1 := b == b') ?_ ?_ ?_ ?_ (r2 := true) rfl)) ?_
  · exact n1
  · exact p1 a b
  · exact p1 a' b'
  · exact e1 a a'
  · exact n2
  · exact p2 a b
  · exact p2 a' b'
  · exact e1 b b'
  congr 1
  rw [Bool.eq_iff_iff]
  simp

theorem dot_part (x : Rec) : (recCells x).toArray.extract 0 2 = #[.int .i64 x.site, .int .i64 x.cnt] := by
  simp [recCells]
theorem ctx_part (x : Rec) : (recCells x).toArray.extract 2 18 = (vecCells x.ctx).toArray := by
  have h : (vecCells x.ctx).length = 16 := length_vecCells _
  rw [List.extract_toArray]
  congr 1
  simp only [recCells, List.extract_eq_take_drop, List.drop_succ_cons, List.drop_zero]
  rw [List.take_append_of_le_length (by omega), List.take_of_length_le (by omega)]
theorem tip_part (x : Rec) : (recCells x).toArray.extract 20 52 = (idCells x.tip).toArray := by
  have h : (vecCells x.ctx).length = 16 := length_vecCells _
  rw [List.extract_toArray]
  congr 1
  simp only [recCells, List.extract_eq_take_drop, List.drop_succ_cons]
  rw [List.drop_append, h]
  rw [List.drop_eq_nil_of_le (by omega)]
  simp only [List.nil_append]
  show ((Value.string x.ref :: .bool x.has :: idCells x.tip).drop 2).take 32 = _
  simp only [List.drop_succ_cons, List.drop_zero]
  exact List.take_of_length_le (by simp)
theorem ref_part (x : Rec) : (recCells x).toArray[18]? = some (.string x.ref) := by
  rw [List.getElem?_toArray]
  have h : (vecCells x.ctx).length = 16 := length_vecCells _
  show (Value.int .i64 x.site :: .int .i64 x.cnt :: (vecCells x.ctx ++ (.string x.ref :: .bool x.has :: idCells x.tip)))[16 + 1 + 1]? = _
  simp only [List.getElem?_cons_succ]
  rw [List.getElem?_append_right (by omega)]
  simp
theorem has_part (x : Rec) : (recCells x).toArray[19]? = some (.bool x.has) := by
  rw [List.getElem?_toArray]
  have h : (vecCells x.ctx).length = 16 := length_vecCells _
  show (Value.int .i64 x.site :: .int .i64 x.cnt :: (vecCells x.ctx ++ (.string x.ref :: .bool x.has :: idCells x.tip)))[17 + 1 + 1]? = _
  simp only [List.getElem?_cons_succ]
  rw [List.getElem?_append_right (by omega)]
  simp

theorem rec_ext (x y : Rec) : x = y ↔ (x.site = y.site ∧ x.cnt = y.cnt) ∧ x.ctx = y.ctx ∧ x.ref = y.ref ∧ x.has = y.has ∧ x.tip = y.tip := by
  obtain ⟨⟩ := x
  obtain ⟨⟩ := y
  simp [and_assoc]

instance : DecidableEq Rec := fun x y => decidable_of_iff _ (rec_ext x y).symm

theorem part_dot (x : Rec) (w : World) : (part 24 (recCells x).toArray 0).run Tryd.prog w = .ok (.agg #[.int .i64 x.site, .int .i64 x.cnt]) w := by
  rw [run_part_agg w (n := 2) Tryd.underlying24 rfl (by kernel_rfl), dot_part]
theorem part_ctx (x : Rec) (w : World) : (part 27 (recCells x).toArray 2).run Tryd.prog w = .ok (.agg (vecCells x.ctx).toArray) w := by
  rw [run_part_agg w (n := 16) Tryd.underlying27 rfl (by kernel_rfl), ctx_part]
theorem part_tip (x : Rec) (w : World) : (part 29 (recCells x).toArray 20).run Tryd.prog w = .ok (.agg (idCells x.tip).toArray) w := by
  rw [run_part_agg w (n := 32) Tryd.underlying29 rfl (by kernel_rfl), tip_part]

theorem eqIn_rec (d : Nat) (x y : Rec) (w : World) : (Op.equalIn (d + 3) 31 (.agg (recCells x).toArray) (.agg (recCells y).toArray)).run Tryd.prog w = .ok (decide (x = y)) w := by
  rw [eqIn_struct w (d + 2) _ _ _ Tryd.underlying31 (by kernel_rfl)]
  have n1 : ("Dot" : String) ≠ "_" := by decide
  have n2 : ("Ctx" : String) ≠ "_" := by decide
  have n3 : ("Ref" : String) ≠ "_" := by decide
  have n4 : ("Has" : String) ≠ "_" := by decide
  have n5 : ("Tip" : String) ≠ "_" := by decide
  have r1 : ∀ x : Rec, (part 9 (recCells x).toArray 18).run Tryd.prog w = .ok (.string x.ref) w := fun x => run_part_one w Tryd.underlying9 rfl (ref_part x)
  have h1 : ∀ x : Rec, (part 4 (recCells x).toArray 19).run Tryd.prog w = .ok (.bool x.has) w := fun x => run_part_one w Tryd.underlying4 rfl (has_part x)
  refine Eq.trans (eqFields_step w (d + 2) _ _ _ _ (a := .agg #[.int .i64 x.site, .int .i64 x.cnt]) (b := .agg #[.int .i64 y.site, .int .i64 y.cnt]) (r1 := decide (x.site = y.site ∧ x.cnt = y.cnt)) ?_ ?_ ?_ ?_ (eqFields_step w (d + 2) _ _ _ _ (a := .agg (vecCells x.ctx).toArray) (b := .agg (vecCells y.ctx).toArray) (r1 := decide (x.ctx = y.ctx)) ?_ ?_ ?_ ?_ (eqFields_step w (d + 2) _ _ _ _ (a := .string x.ref) (b := .string y.ref) (r1 := x.ref.toList == y.ref.toList) ?_ ?_ ?_ ?_ (eqFields_step w (d + 2) _ _ _ _ (a := .bool x.has) (b := .bool y.has) (r1 := x.has == y.has) ?_ ?_ ?_ ?_ (eqFields_step w (d + 2) _ _ _ _ (a := .agg (idCells x.tip).toArray) (b := .agg (idCells y.tip).toArray) (r1 := decide (x.tip = y.tip)) ?_ ?_ ?_ ?_ (r2 := true) rfl))))) ?_
  · exact n1
  · exact part_dot x w
  · exact part_dot y w
  · exact eqIn_dot d _ _ _ _ w
  · exact n2
  · exact part_ctx x w
  · exact part_ctx y w
  · exact eqIn_vec d _ _ w
  · exact n3
  · exact r1 x
  · exact r1 y
  · exact run_equalIn_string w (d + 1) _ _ _ Tryd.underlying9
  · exact n4
  · exact h1 x
  · exact h1 y
  · exact run_equalIn_bool' w (d + 1) _ _ _ Tryd.underlying4
  · exact n5
  · exact part_tip x w
  · exact part_tip y w
  · exact eqIn_id d _ _ w
  congr 1
  rw [Bool.eq_iff_iff, decide_eq_true_iff, rec_ext]
  have hb : ∀ a b : ByteArray, (a.toList == b.toList) = true ↔ a = b := by
    intro a b
    rw [← beq_toListBytes]
    constructor
    · intro h
      rw [beq_toListBytes, ByteArray.toList_eq, ByteArray.toList_eq] at h
      have h2 : a.data.toList = b.data.toList := by simpa using h
      ext1; apply Array.ext'; exact h2
    · rintro rfl
      rw [beq_toListBytes]; simp
  simp only [Bool.and_eq_true, decide_eq_true_iff, hb, beq_iff_eq, and_true]

theorem guard_rec : (Tryd.prog).eqGuardType (Tryd.prog).depth 31 = false := by kernel_rfl
theorem neq_rec {f : Nat → Value} {W : World} {a b : Nat} {t' type : TypeId} {x y : Rec} (ha : f a = recV x) (hb : f b = recV y) :
    relUpon Tryd.prog (fun v _ => v = .bool (!decide (x = y))) W ((execOp (evalF f) (bare (.binOp .neq 31 (.tmp a) (.tmp b) t') type)).run Tryd.prog W) := relUpon_neq ha hb guard_rec (eqIn_rec 9997 x y W)

end Go.Proofs.YtjngckeeoohegaaDoor
