/- A map from dots to records. -/
import Derived.Test.YtjngckeeoohegaaDoorRefLoad
import Derived.RangeFuncRecord
import Derived.WideKeyRuns
import Derived.DeepKeys3
namespace Go.Proofs.YtjngckeeoohegaaDoor
open Go.RowKit Go.Rel

def dotV (s c : Int) : Value := .agg #[.int .i64 s, .int .i64 c]

theorem ask_miss (s c : Int) (w : World) : ∀ (es : List MapEntry) (i : Nat), (∀ e ∈ es, ∃ a b, e.key = dotV a b ∧ ¬ (s = a ∧ c = b)) → (Instr.findAsking 24 (dotV s c) es i).run Tryd.prog w = .ok none w
  | [], _, _ => rfl
  | e :: es, i, h => by
    obtain ⟨a, b, hk, hn⟩ := h e (List.mem_cons_self)
    have h1 := eqIn_dot 9998 s c a b w
    rw [decide_eq_false hn] at h1
    unfold Instr.findAsking
    rw [hk]
    simp only [Sem.run_bind, Op.equal, Op.maxDepth]
    unfold dotV at *
    rw [h1]
    simp only [Result.andThen_ok, Bool.false_eq_true, if_false]
    exact ask_miss s c w es (i + 1) (fun e he => h e (List.mem_cons_of_mem _ he))

theorem find_miss (s c : Int) (w : World) (es : List MapEntry) (h : ∀ e ∈ es, ∃ a b, e.key = dotV a b ∧ ¬ (s = a ∧ c = b)) : (Instr.findKey 24 (dotV s c) es).run Tryd.prog w = .ok none w := by
  exact (run_findKey_eq w (by kernel_rfl) _ _).trans (ask_miss s c w es 0 h)

theorem check_int (em : Bool) (n : Nat) (x : Int) (w : World) : (Instr.checkKey em (n + 1) 3 (.int .i64 x)).run Tryd.prog w = .ok () w := by
  simp [Instr.checkKey, run_underlying Tryd.underlying3]

theorem check_dot (em : Bool) (s c : Int) (w : World) : (Instr.checkKey em 10000 24 (dotV s c)).run Tryd.prog w = .ok () w := by
  have p1 : (part 3 #[.int .i64 s, .int .i64 c] 0).run Tryd.prog w = .ok (.int .i64 s) w := run_part_one w Tryd.underlying3 rfl rfl
  have p2 : (part 3 #[.int .i64 s, .int .i64 c] 1).run Tryd.prog w = .ok (.int .i64 c) w := run_part_one w Tryd.underlying3 rfl rfl
  show (Instr.checkKey em (9998 + 1 + 1) 24 (dotV s c)).run Tryd.prog w = .ok () w
  unfold Instr.checkKey dotV
  simp only [Sem.run_bind, run_underlying Tryd.underlying24, Result.andThen_ok]
  rw [← Array.forIn_toList]
  simp [p1, p2, check_int em 9998 s w, check_int em 9998 c w]

theorem zero_rec (w : World) : (zeroValue 31).run Tryd.prog w = .ok recZero w := by
  obtain ⟨i0, hi, hi2⟩ := Option.map_eq_some_iff.1 recInfo
  simp only [Prod.mk.injEq] at hi2
  simp [zeroValue, typeInfo, hi, hi2.1]

/-- No record of that dot waits. -/
def NoDot (es : Array MapEntry) (s c : Int) : Prop := ∀ e ∈ es.toList, ∃ a b, e.key = dotV a b ∧ ¬ (s = a ∧ c = b)

theorem lookup_none (s c : Int) (w : World) : (Instr.lookup 45 (.map none) (dotV s c) true).run Tryd.prog w = .ok (.tuple #[recZero, .bool false]) w := by
  unfold Instr.lookup
  simp only [Sem.run_bind, run_underlying Tryd.underlying45, Result.andThen_ok, Sem.run_pure]
  rw [check_dot]
  simp only [Result.andThen_ok]
  rw [find_miss s c w [] (fun e he => by cases he)]
  simp only [Result.andThen_ok, Sem.run_bind, zero_rec, Sem.run_pure, if_true]

theorem lookup_miss (s c : Int) (w : World) (r : Nat) (es : Array MapEntry) (clock : Nat) (hr : w.heap[r]? = some (.map es clock)) (h : NoDot es s c) :
    (Instr.lookup 45 (.map (some r)) (dotV s c) true).run Tryd.prog w = .ok (.tuple #[recZero, .bool false]) w := by
  unfold Instr.lookup
  have hg : (getObj r).run Tryd.prog w = .ok (.map es clock) w := by simp [getObj, Sem.run, hr]
  simp only [Sem.run_bind, run_underlying Tryd.underlying45, Result.andThen_ok, hg, Sem.run_pure]
  rw [check_dot]
  simp only [Result.andThen_ok]
  rw [find_miss s c w es.toList h]
  simp only [Result.andThen_ok, Sem.run_bind, zero_rec, Sem.run_pure, if_true]

theorem update_miss (s c : Int) (v : Value) (w : World) (r : Nat) (es : Array MapEntry) (clock : Nat) (hr : w.heap[r]? = some (.map es clock)) (h : NoDot es s c) :
    (Instr.mapUpdate 45 (.map (some r)) (dotV s c) v).run Tryd.prog w = .ok () (w.putObj r (.map (es.push { key := dotV s c, val := v, born := clock }) (clock + 1))) := by
  unfold Instr.mapUpdate
  have hg : (getObj r).run Tryd.prog w = .ok (.map es clock) w := by simp [getObj, Sem.run, hr]
  simp only [Sem.run_bind, run_underlying Tryd.underlying45, Result.andThen_ok, hg]
  rw [check_dot]
  simp only [Result.andThen_ok]
  rw [find_miss s c w es.toList h]
  simp only [Result.andThen_ok]
  simp [setObj, Sem.run, hr, World.putObj]
theorem storeVar_cell {P : Program} {w : World} {t : TypeId} {a : Addr} {u v : Value} (hc : w.cell? a = some u) (ha : a.spot = none) (hf : w.frozen? a = false) (hi : (P.info? t).map (·.size) = some 1) (hv : v.cells = #[v]) (h1 : v.oneCell' = true) :
    (storeVar t a v).run P w = .ok () (w.setCell a v) := by
  cases hq : P.info? t with
  | none => simp [hq] at hi
  | some i =>
    have hs : i.size = 1 := by simpa [hq] using hi
    simp [storeVar, sizeOf, typeInfo, hq, hs, hv, storeCells, hc, hf]
    have ha0 : a.add 0 = a := by
      obtain ⟨b, o, s⟩ := a
      cases ha
      simp [Addr.add]
    rw [ha0, run_store P w a v .plain h1]
    simp [stored, hc, hf]

end Go.Proofs.YtjngckeeoohegaaDoor
