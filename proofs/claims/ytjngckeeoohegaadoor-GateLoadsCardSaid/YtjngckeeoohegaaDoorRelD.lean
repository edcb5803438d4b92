/- Plain lemmas on regions that draw their order: whatever order is drawn, each operation by itself. -/
import Derived.WalkKit
import Derived.Deep.MidRow
namespace Go.RelD
open Go Go.RowKit

/-! Worlds that grow: whatever lay lies as it lay. -/
def Gr (w w' : World) : Prop := Below w.heap.size w w' ∧ w.drawn ≤ w'.drawn
theorem Gr.refl (w : World) : Gr w w := ⟨Below.refl _ _, Nat.le_refl _⟩
theorem Gr.trans {a b c : World} (h : Gr a b) (k : Gr b c) : Gr a c := ⟨Below.trans h.1 (Below.mono k.1 h.1.size), Nat.le_trans h.2 k.2⟩
theorem Gr.drew {a b : World} (h : Gr a b) : Gr a b.drew := ⟨Below.drew h.1, Nat.le_succ_of_le h.2⟩
theorem Gr.alloc {a b : World} (h : Gr a b) (o : Obj) : Gr a (b.alloc o) := ⟨Below.alloc h.1 h.1.size o, h.2⟩
theorem Gr.heap {a b : World} (h : Gr a b) {k : Nat} {o : Obj} (hk : a.heap[k]? = some o) : b.heap[k]? = some o :=
  (h.1.block k (Array.getElem?_eq_some_iff.1 hk).1).trans hk
theorem Gr.cell {a b : World} (h : Gr a b) {p : Addr} {v : Value} (hv : a.cell? p = some v) : b.cell? p = some v := by
  have hb := World.block_lt_of_cell? a p hv
  exact (Below.cell h.1 (p := p) hb).trans hv
theorem Gr.frozen {a b : World} (h : Gr a b) {p : Addr} {v : Value} (hv : a.cell? p = some v) (hf : a.frozen? p = false) : b.frozen? p = false := by
  have hb := World.block_lt_of_cell? a p hv
  exact (Below.frozen h.1 (p := p) hb).trans hf

abbrev VP := Value → World → Prop
def Stab (p : VP) : Prop := ∀ v W W', p v W → Gr W W' → p v W'
theorem stab_eq (c : Value) : Stab (fun v _ => v = c) := fun _ _ _ h _ => h

def evalF (f : Nat → Value) : Operand → Value
  | .tmp t => f t
  | .const v => v
  | .global g => .pointer (some ⟨g, 0, none⟩)
  | .func f => .func (.func f) #[] #[]

theorem evalF_all (f : Nat → Value) : (∀ t, evalF f (.tmp t) = f t) ∧ (∀ v, evalF f (.const v) = v) ∧ (∀ g, evalF f (.global g) = .pointer (some ⟨g, 0, none⟩)) ∧ ∀ g, evalF f (.func g) = .func (.func g) #[] #[] :=
  ⟨fun _ => rfl, fun _ => rfl, fun _ => rfl, fun _ => rfl⟩

theorem eval_eq (a : Act) : a.eval = evalF (fun t => a.tmps.getD t undef) := by funext x; cases x <;> rfl

/-- A call has come back with a value of that property; the world has grown. (Under a name: the walk leaves it alone.) -/
def RetP (w : World) (p : VP) (e : Ending) (w' : World) : Prop := ∃ v, e = .returned v ∧ Gr w w' ∧ p v w'
theorem RetP.mk {w w' : World} {p : VP} {v : Value} (hg : Gr w w') (hp : p v w') : RetP w p (.returned v) w' := ⟨v, rfl, hg, hp⟩
/-- What a call that only grows the world comes to. -/
def Ret (P : Program) (f : FuncId) (args : Array Value) (w : World) (p : VP) : Prop := Calls P f args w (RetP w p)
theorem Ret.mono {P : Program} {f : FuncId} {args : Array Value} {w : World} {p p' : VP} (h : Ret P f args w p) (hp : ∀ v w', Gr w w' → p v w' → p' v w') : Ret P f args w p' :=
  Calls.mono h fun _ w' ⟨v, he, hg, hv⟩ => ⟨v, he, hg, hp v w' hg hv⟩
theorem Ret.of_same {P : Program} {f : FuncId} {args : Array Value} {w : World} {c : Value} (h : Calls P f args w fun e w' => e = .returned c ∧ w' = w) : Ret P f args w (fun v _ => v = c) :=
  Calls.mono h fun _ w' ⟨he, hw⟩ => ⟨c, he, by rw [hw]; exact Gr.refl _, rfl⟩

def relUpon (P : Program) (p : VP) (w : World) : Result Next → Prop
  | .ok (.value v) w' => Gr w w' ∧ p v w'
  | .ok .skip w' => Gr w w' ∧ p undef w'
  | .ok (.enter f args) w' => Gr w w' ∧ Ret P f args w' p
  | .ok (.row row args) w' => Gr w w' ∧ Rows P row args w' (fun v w'' => Gr w' w'' ∧ p v w'')
  | _ => False

/-- The slot of the guard, and what it has to hold. -/
def gd (ops : Array Oper) (o : Oper) : Option (Nat × Bool) :=
  match o.guard with
  | none => none
  | some (g, want) => ((ops[g]?).bind (·.dst)).map fun d => (d, want)

def OpOb (P : Program) (ops : Array Oper) (p : VP) (o : Oper) (f : Nat → Value) (W : World) : Prop :=
  match gd ops o with
  | none => relUpon P p W ((execOp (evalF f) o).run P W)
  | some (d, want) => (f d = .bool want → relUpon P p W ((execOp (evalF f) o).run P W)) ∧ (f d ≠ .bool want → p undef W)

def slotP : List (Option Nat × VP) → (Nat → Value) → Nat → VP
  | [], f0, t => fun v _ => v = f0 t
  | (d, p) :: env, f0, t => if d = some t then p else slotP env f0 t

def EnvAt (env : List (Option Nat × VP)) (f0 f : Nat → Value) (W : World) : List Nat → Prop
  | [] => True
  | t :: ts => slotP env f0 t (f t) W ∧ EnvAt env f0 f W ts

def RelFin (Q : Act → World → Prop) (W : World) : List (Option Nat × VP) → Act → Prop
  | [], a => Q a W
  | (none, _) :: env, a => RelFin Q W env a
  | (some d, p) :: env, a => ∀ v, p v W → RelFin Q W env (a.put (some d) v)

/-- The walk in the order of the text: of each operation a property of what it yields, that stays; shown of it alone, of what its operands are known to be. -/
def RelWalk (P : Program) (ops : Array Oper) (w0 : World) (a0 : Act) (Q : Act → World → Prop) : List Oper → List (Option Nat × VP) → Prop
  | [], env => ∀ W, Gr w0 W → RelFin Q W env.reverse a0
  | o :: rest, env => ∃ p, Stab p ∧ (∀ f W, Gr w0 W → EnvAt env (fun t => a0.tmps.getD t undef) f W (o.looksAt ops) → OpOb P ops p o f W) ∧ RelWalk P ops w0 a0 Q rest ((o.dst, p) :: env)

/-- What is asked of a region's text. -/
def relB (ops : Array Oper) (n : Nat) : Bool :=
  let l := ops.toList.zipIdx
  l.all fun (o, i) =>
    (match o.dst with | some d => decide (d < n) && l.all (fun (o', j) => i == j || o'.dst != some d) | none => true) &&
    o.after.all (fun e => !Region.binds .any e || decide (e.on < i)) &&
    (o.looksAt ops).all (fun t => l.all fun (o', j) => o'.dst != some t || (decide (j < i) && o.after.any (fun e => Region.binds .any e && e.on == j))) &&
    (match o.guard with | none => true | some (g, _) => ((ops[g]?).bind (·.dst)).isSome)

section
variable {P : Program} {ops : Array Oper} {w0 : World} {a0 : Act} {Q : Act → World → Prop}

theorem slotP_of {env : List (Option Nat × VP)} {f0 : Nat → Value} {t : Nat} {v : Value} {W : World}
    (h1 : ∀ e ∈ env, e.1 = some t → e.2 v W) (h2 : (∀ e ∈ env, e.1 ≠ some t) → v = f0 t) : slotP env f0 t v W := by
  induction env with
  | nil => exact h2 (fun _ h => by cases h)
  | cons e env ih =>
    obtain ⟨d, p⟩ := e
    simp only [slotP]
    split
    · rename_i hd; exact h1 _ (List.mem_cons_self) hd
    · rename_i hd
      exact ih (fun e he => h1 e (List.mem_cons_of_mem _ he)) (fun h => h2 (fun e he => by
        rcases List.mem_cons.1 he with rfl | he
        · exact hd
        · exact h e he))

theorem envAt_of {env : List (Option Nat × VP)} {f0 f : Nat → Value} {W : World} : ∀ {ts : List Nat}, (∀ t ∈ ts, slotP env f0 t (f t) W) → EnvAt env f0 f W ts
  | [], _ => trivial
  | _ :: _, h => ⟨h _ List.mem_cons_self, envAt_of fun t ht => h t (List.mem_cons_of_mem _ ht)⟩

/-- The walk's properties, in a row. -/
theorem RelWalk.posts : ∀ {l : List Oper} {env : List (Option Nat × VP)}, RelWalk P ops w0 a0 Q l env →
    ∃ ps : List VP, ps.length = l.length ∧
      (∀ k o p, l[k]? = some o → ps[k]? = some p → Stab p ∧ ∀ f W, Gr w0 W →
        EnvAt ((((l.map (·.dst)).zip ps).take k).reverse ++ env) (fun t => a0.tmps.getD t undef) f W (o.looksAt ops) → OpOb P ops p o f W) ∧
      ∀ W, Gr w0 W → RelFin Q W (env.reverse ++ (l.map (·.dst)).zip ps) a0
  | [], env, h => ⟨[], rfl, fun k o p hk _ => by simp at hk, fun W hW => by simpa using h W hW⟩
  | o :: l, env, ⟨p, hp, hob, hr⟩ => by
    obtain ⟨ps, hl, h1, h2⟩ := RelWalk.posts hr
    refine ⟨p :: ps, by simp [hl], ?_, fun W hW => by simpa using h2 W hW⟩
    intro k o' p' ho hp'
    cases k with
    | zero =>
      simp only [List.getElem?_cons_zero, Option.some.injEq] at ho hp'
      subst ho; subst hp'
      exact ⟨hp, fun f W hW hE => hob f W hW (by simpa using hE)⟩
    | succ k =>
      simp only [List.getElem?_cons_succ] at ho hp'
      obtain ⟨hs, hob'⟩ := h1 k o' p' ho hp'
      exact ⟨hs, fun f W hW hE => hob' f W hW (by simpa using hE)⟩

theorem relFin_done {W : World} {a : Act} : ∀ {env : List (Option Nat × VP)} {a' : Act}, RelFin Q W env a' → a.tmps.size = a'.tmps.size → a.defers = a'.defers →
    (∀ d p, (some d, p) ∈ env → d < a.tmps.size ∧ p (a.tmps.getD d undef) W) →
    (∀ t, (∀ e ∈ env, e.1 ≠ some t) → a.tmps[t]? = a'.tmps[t]?) → Q a W
  | [], a', h, hs, hd, _, ht => by
    have : a = a' := by
      obtain ⟨at1, ad⟩ := a
      obtain ⟨bt1, bd⟩ := a'
      simp only at hs hd ht
      subst hd
      congr 1
      exact Array.ext_getElem? fun i => ht i (fun _ h => by cases h)
    rw [this]; exact h
  | (none, p) :: env, a', h, hs, hd, hp, ht => relFin_done (env := env) h hs hd (fun d q hq => hp d q (List.mem_cons_of_mem _ hq))
      (fun t h' => ht t fun e he => by
        rcases List.mem_cons.1 he with rfl | he
        · simp
        · exact h' e he)
  | (some d, p) :: env, a', h, hs, hd, hp, ht => by
    obtain ⟨hlt, hpv⟩ := hp d p List.mem_cons_self
    refine relFin_done (env := env) (h _ hpv) (by simpa [Act.put] using hs) (by simpa [Act.put] using hd) (fun d q hq => hp d q (List.mem_cons_of_mem _ hq)) (fun t h' => ?_)
    by_cases e : d = t
    · subst e
      simp only [Act.put, Array.getElem?_setIfInBounds]
      rw [← hs]; simp [hlt]
    · simp only [Act.put]
      rw [Array.getElem?_setIfInBounds_ne e]
      exact ht t fun x hx => by
        rcases List.mem_cons.1 hx with rfl | hx
        · simpa using e
        · exact h' x hx

/-- What holds while the region runs: `full` has the slots and properties. -/
structure Inv (w0 : World) (a0 : Act) (full : List (Option Nat × VP)) (listed : Array Bool) (a : Act) (W : World) : Prop where
  gr : Gr w0 W
  size : a.tmps.size = a0.tmps.size
  defers : a.defers = a0.defers
  post : ∀ i d p, listed.getD i false = true → full[i]? = some (some d, p) → p (a.tmps.getD d undef) W
  out : ∀ t, (∀ i p, listed.getD i false = true → full[i]? ≠ some (some t, p)) → a.tmps[t]? = a0.tmps[t]?

theorem Inv.put {full : List (Option Nat × VP)} {listed : Array Bool} {a : Act} {W W' : World} {i : Nat} {dst : Option Nat} {p : VP} {v : Value}
    (h : Inv w0 a0 full listed a W) (hg : Gr W W') (hst : ∀ (j : Nat) (d : Option Nat) (q : VP), full[j]? = some (d, q) → Stab q) (hi : full[i]? = some (dst, p)) (hil : i < listed.size) (hlt : ∀ d, dst = some d → d < a0.tmps.size)
    (hne : ∀ (j d : Nat) (q : VP), dst = some d → j ≠ i → full[j]? ≠ some (some d, q)) (hv : p v W') : Inv w0 a0 full (listed.setIfInBounds i true) (a.put dst v) W' := by
  have old : ∀ j, j ≠ i → (listed.setIfInBounds i true).getD j false = listed.getD j false := fun j hj => getD_set_ne false (Ne.symm hj)
  have new : (listed.setIfInBounds i true).getD i false = true := by simp [hil]
  refine ⟨h.gr.trans hg, ?_, ?_, ?_, ?_⟩
  · cases dst <;> simp [Act.put, h.size]
  · cases dst <;> simp [Act.put, h.defers]
  · intro j d q hl hq
    by_cases e : j = i
    · subst e
      rw [hi] at hq
      simp only [Option.some.injEq, Prod.mk.injEq] at hq
      obtain ⟨rfl, rfl⟩ := hq
      have : d < a.tmps.size := by rw [h.size]; exact hlt d rfl
      simpa [Act.put, this] using hv
    · rw [old j e] at hl
      have hp := hst j _ _ hq _ _ _ (h.post j d q hl hq) hg
      cases dst with
      | none => exact hp
      | some d' =>
        have : d' ≠ d := fun e' => hne j d' q rfl e (by rw [e']; exact hq)
        have e2 : (a.put (some d') v).tmps.getD d undef = a.tmps.getD d undef := by
          simp [Act.put, Array.getElem?_setIfInBounds_ne this]
        rw [e2]; exact hp
  · intro t ht
    have h0 : a.tmps[t]? = a0.tmps[t]? := h.out t fun j q hl => ht j q (by
      by_cases e : j = i
      · subst e; exact new
      · rw [old j e]; exact hl)
    cases dst with
    | none => exact h0
    | some d' =>
      have : d' ≠ t := fun e => ht i p new (by rw [← e]; exact hi)
      simp only [Act.put]
      rw [Array.getElem?_setIfInBounds_ne this]; exact h0


theorem Oper.upon_of_rel {o : Oper} {a : Act} {W : World} {p : VP} {K : Act → World → Prop} {Q' : Exit → Act → World → Prop} {r : Result Next}
    (hK : ∀ v W', Gr W W' → p v W' → K (a.put o.dst v) W') (h : relUpon P p W r) : o.upon P a K Q' r := by
  cases r with
  | halt x w' => simp only [relUpon] at h
  | ok n w' =>
    cases n <;> simp only [relUpon] at h <;> simp only [Oper.upon]
    case value v => exact hK _ _ h.1 h.2
    case skip => exact hK _ _ h.1 h.2
    case enter f args => exact Calls.mono h.2 fun e w'' ⟨v, he, hg, hp⟩ => by subst he; exact hK _ _ (h.1.trans hg) hp
    case row row args => exact Rows.mono h.2 fun v w'' ⟨hg, hp⟩ => hK _ _ (h.1.trans hg) hp

def unl (ops : Array Oper) (listed : Array Bool) : Nat := (List.range ops.size).countP fun i => !listed.getD i true

theorem countP_drop {n i : Nat} {f g : Nat → Bool} (hi : i < n) (hf : f i = true) (hg : g i = false) (h : ∀ j, j ≠ i → g j = f j) : (List.range n).countP f = (List.range n).countP g + 1 := by
  induction n with
  | zero => omega
  | succ n ih =>
    rw [List.range_succ, List.countP_append, List.countP_append]
    by_cases e : i = n
    · subst e
      have : (List.range i).countP g = (List.range i).countP f := by
        apply List.countP_congr
        intro x hx
        have : x ≠ i := by have := List.mem_range.1 hx; omega
        rw [h x this]
      simp [this, hf, hg]
    · have := ih (by omega)
      simp only [List.countP_singleton, h n (Ne.symm e)]
      omega

theorem relB_dst {n : Nat} (hB : relB ops n = true) {i : Nat} {o : Oper} (ho : ops[i]? = some o) {d : Nat} (hd : o.dst = some d) : d < n ∧ ∀ j o', ops[j]? = some o' → j ≠ i → o'.dst ≠ some d := by
  have hm : (o, i) ∈ ops.toList.zipIdx := by rw [List.mk_mem_zipIdx_iff_getElem?]; simpa using ho
  have h := List.all_eq_true.1 hB _ hm
  simp only [hd, Bool.and_eq_true, decide_eq_true_eq] at h
  refine ⟨h.1.1.1.1, fun j o' hj hne => ?_⟩
  have hm' : (o', j) ∈ ops.toList.zipIdx := by rw [List.mk_mem_zipIdx_iff_getElem?]; simpa using hj
  have h2 := List.all_eq_true.1 h.1.1.1.2 _ hm'
  simp only [Bool.or_eq_true, beq_iff_eq, bne_iff_ne] at h2
  rcases h2 with h2 | h2
  · exact absurd h2.symm hne
  · exact h2

theorem relB_after {n : Nat} (hB : relB ops n = true) {i : Nat} {o : Oper} (ho : ops[i]? = some o) : ∀ e ∈ o.after, Region.binds .any e = true → e.on < i := by
  have hm : (o, i) ∈ ops.toList.zipIdx := by rw [List.mk_mem_zipIdx_iff_getElem?]; simpa using ho
  have h := List.all_eq_true.1 hB _ hm
  simp only [Bool.and_eq_true] at h
  intro e he hb
  have h2 := Array.all_eq_true'.1 h.1.1.2 e he
  simpa [hb] using h2

theorem relB_looks {n : Nat} (hB : relB ops n = true) {i : Nat} {o : Oper} (ho : ops[i]? = some o) {t : Nat} (ht : t ∈ o.looksAt ops) {j : Nat} {o' : Oper} (hj : ops[j]? = some o') (hd : o'.dst = some t) :
    j < i ∧ ∃ e ∈ o.after, Region.binds .any e = true ∧ e.on = j := by
  have hm : (o, i) ∈ ops.toList.zipIdx := by rw [List.mk_mem_zipIdx_iff_getElem?]; simpa using ho
  have h := List.all_eq_true.1 hB _ hm
  simp only [Bool.and_eq_true] at h
  have h2 := List.all_eq_true.1 h.1.2 t ht
  have hm' : (o', j) ∈ ops.toList.zipIdx := by rw [List.mk_mem_zipIdx_iff_getElem?]; simpa using hj
  have h3 := List.all_eq_true.1 h2 _ hm'
  simp only [hd, bne_self_eq_false, Bool.false_or, Bool.and_eq_true, decide_eq_true_eq] at h3
  refine ⟨h3.1, ?_⟩
  obtain ⟨e, he, hb⟩ := Array.any_eq_true'.1 h3.2
  simp only [Bool.and_eq_true, beq_iff_eq] at hb
  exact ⟨e, he, hb.1, hb.2⟩

theorem relB_guard {n : Nat} (hB : relB ops n = true) {i : Nat} {o : Oper} (ho : ops[i]? = some o) {g : Nat} {want : Bool} (hg : o.guard = some (g, want)) : ∃ d, (ops[g]?).bind (·.dst) = some d := by
  have hm : (o, i) ∈ ops.toList.zipIdx := by rw [List.mk_mem_zipIdx_iff_getElem?]; simpa using ho
  have h := List.all_eq_true.1 hB _ hm
  simp only [Bool.and_eq_true] at h
  have h2 := h.2
  simp only [hg] at h2
  exact Option.isSome_iff_exists.1 h2

/-- One operation whose operands' writers have been carried out. -/
theorem inv_step {Q' : Exit → Act → World → Prop} {ps : List VP} (hB : relB ops a0.tmps.size = true) (hl : ps.length = ops.toList.length)
    (hps : ∀ k o p, ops.toList[k]? = some o → ps[k]? = some p → Stab p ∧ ∀ f W, Gr w0 W →
        EnvAt ((((ops.toList.map (·.dst)).zip ps).take k).reverse ++ []) (fun t => a0.tmps.getD t undef) f W (o.looksAt ops) → OpOb P ops p o f W)
    {listed : Array Bool} {a : Act} {W : World} (hs : listed.size = ops.size) (hI : Inv w0 a0 ((ops.toList.map (·.dst)).zip ps) listed a W)
    {i : Nat} {o : Oper} (ho : ops[i]? = some o) (hall : ∀ t ∈ o.looksAt ops, ∀ j o', ops[j]? = some o' → o'.dst = some t → listed.getD j false = true) {K : Act → World → Prop}
    (hK : ∀ a' W', Inv w0 a0 ((ops.toList.map (·.dst)).zip ps) (listed.setIfInBounds i true) a' W' → K a' W') : wpOp P ops Q' i K a W := by
  have full_at : ∀ (k : Nat) (d : Option Nat) (q : VP), ((ops.toList.map (·.dst)).zip ps)[k]? = some (d, q) → ∃ o, ops[k]? = some o ∧ o.dst = d ∧ ps[k]? = some q := by
    intro k d q h
    rw [List.getElem?_zip_eq_some] at h
    obtain ⟨h1, h2⟩ := h
    simp only [List.getElem?_map, Option.map_eq_some_iff] at h1
    obtain ⟨o, ho, hd⟩ := h1
    exact ⟨o, by simpa using ho, hd, h2⟩
  have hio : i < ops.size := (Array.getElem?_eq_some_iff.1 ho).1
  have hip : i < ps.length := by rw [hl]; simpa using hio
  obtain ⟨p, hp⟩ : ∃ p, ps[i]? = some p := ⟨ps[i], by simp [hip]⟩
  have hfull : ((ops.toList.map (·.dst)).zip ps)[i]? = some (o.dst, p) := by
    rw [List.getElem?_zip_eq_some]
    exact ⟨by simp [ho], hp⟩
  obtain ⟨hst, hob⟩ := hps i o p (by simpa using ho) hp
  have stab : ∀ (j : Nat) (d : Option Nat) (q : VP), ((ops.toList.map (·.dst)).zip ps)[j]? = some (d, q) → Stab q := by
    intro j d q h
    obtain ⟨o', ho', _, hq⟩ := full_at j d q h
    exact (hps j o' q (by simpa using ho') hq).1
  have next : ∀ v W', Gr W W' → p v W' → K (a.put o.dst v) W' := by
    intro v W' hg hv
    refine hK _ _ (hI.put hg stab hfull (by omega) (fun d hd => (relB_dst hB ho hd).1) (fun j d q hd hj h => ?_) hv)
    obtain ⟨o', ho', hd', _⟩ := full_at j _ q h
    exact (relB_dst hB ho hd).2 j o' ho' hj hd'
  have hE : EnvAt ((((ops.toList.map (·.dst)).zip ps).take i).reverse ++ []) (fun t => a0.tmps.getD t undef) (fun t => a.tmps.getD t undef) W (o.looksAt ops) := by
    refine envAt_of fun t ht => slotP_of ?_ ?_
    · intro e he hd
      simp only [List.append_nil, List.mem_reverse] at he
      obtain ⟨k, hk⟩ := List.getElem?_of_mem he
      rw [List.getElem?_take] at hk
      split at hk
      · obtain ⟨d, q⟩ := e
        simp only at hd
        subst hd
        obtain ⟨o', ho', hd', _⟩ := full_at k _ q hk
        exact hI.post k t q (hall t ht k o' ho' hd') hk
      · cases hk
    · intro hno
      have : a.tmps[t]? = a0.tmps[t]? := by
        refine hI.out t fun k q hlk hk => ?_
        obtain ⟨o', ho', hd', _⟩ := full_at k _ q hk
        obtain ⟨hlt, _⟩ := relB_looks hB ho ht ho' hd'
        refine hno (some t, q) ?_ rfl
        simp only [List.append_nil, List.mem_reverse]
        exact List.mem_of_getElem? (i := k) (by rw [List.getElem?_take, if_pos hlt]; exact hk)
      simp [this]
  have hOb := hob _ W hI.gr hE
  unfold wpOp
  simp only [ho]
  unfold OpOb gd at hOb
  rw [← eval_eq] at hOb
  cases hgu : o.guard with
  | none =>
    simp only [hgu] at hOb
    have hw : Region.wanted o (yielded ops a.tmps) = true := by simp [Region.wanted, hgu]
    rw [if_pos hw]
    exact .inl (Oper.upon_of_rel next hOb)
  | some gw =>
    obtain ⟨g, want⟩ := gw
    obtain ⟨d, hd⟩ := relB_guard hB ho hgu
    simp only [hgu, hd, Option.map_some] at hOb
    have hdn : d < a.tmps.size := by
      rw [hI.size]
      cases hog : ops[g]? with
      | none => simp [hog] at hd
      | some og => simp [hog] at hd; exact (relB_dst hB hog hd).1
    by_cases hv : a.tmps.getD d undef = .bool want
    · have hw : Region.wanted o (yielded ops a.tmps) = true := by
        have : a.tmps[d]? = some (.bool want) := by
          have h1 : a.tmps.getD d undef = a.tmps[d] := by simp [hdn]
          rw [h1] at hv; simp [hdn, hv]
        simp [Region.wanted, hgu, yielded, hd, this]
      rw [if_pos hw]
      exact .inl (Oper.upon_of_rel next (hOb.1 hv))
    · have hw : ¬ Region.wanted o (yielded ops a.tmps) = true := by
        intro hw
        apply hv
        have h1 : a.tmps.getD d undef = a.tmps[d] := by simp [hdn]
        rw [h1]
        have h2 : a.tmps[d]? = some a.tmps[d] := by simp [hdn]
        simp only [Region.wanted, hgu, yielded, hd, Option.bind_some, h2, beq_iff_eq] at hw
        split at hw
        · rename_i b hb
          simp only [Option.some.injEq] at hw hb
          rw [hb, hw]
        · cases hw
      rw [if_neg hw]
      exact next _ _ (Gr.refl _) (hOb.2 hv)

theorem wpAny_of_inv {Q' : Exit → Act → World → Prop} {ps : List VP} (hB : relB ops a0.tmps.size = true) (hl : ps.length = ops.toList.length)
    (hps : ∀ k o p, ops.toList[k]? = some o → ps[k]? = some p → Stab p ∧ ∀ f W, Gr w0 W →
        EnvAt ((((ops.toList.map (·.dst)).zip ps).take k).reverse ++ []) (fun t => a0.tmps.getD t undef) f W (o.looksAt ops) → OpOb P ops p o f W)
    (hQ : ∀ a W, Inv w0 a0 ((ops.toList.map (·.dst)).zip ps) (Array.replicate ops.size true) a W → Q' .normal a W) :
    ∀ (fuel : Nat) (listed : Array Bool) (a : Act) (W : World), listed.size = ops.size → unl ops listed = fuel → Inv w0 a0 ((ops.toList.map (·.dst)).zip ps) listed a W → wpAny P .any ops Q' fuel listed a W := by
  have all : ∀ listed : Array Bool, listed.size = ops.size → (∀ i, i < ops.size → listed.getD i true = true) → listed = Array.replicate ops.size true := by
    intro listed hs h
    apply Array.ext (by simpa using hs)
    intro i h1 h2
    have := h i (by omega)
    simpa [h1] using this
  -- whatever is not listed: the first one may come up
  have none_ready : ∀ listed : Array Bool, Region.ready .any ops listed = [] → ∀ i, i < ops.size → listed.getD i true = true := by
    intro listed hr i
    induction i using Nat.strongRecOn with
    | _ i ih =>
      intro hi
      cases hc : listed.getD i true with
      | true => rfl
      | false =>
        exfalso
        have hm : i ∈ Region.ready .any ops listed := by
          rw [mem_ready]
          refine ⟨hc, ops[i], by simp [hi], fun e he hb => ?_⟩
          have hlt := relB_after hB (i := i) (o := ops[i]) (by simp [hi]) e he hb
          have := ih e.on hlt (by omega)
          by_cases hs : e.on < listed.size
          · simpa [hs] using this
          · exfalso
            have : i ≥ listed.size := by omega
            simp [Array.getElem?_eq_none this] at hc
        rw [hr] at hm; cases hm
  intro fuel
  induction fuel with
  | zero =>
    intro listed a W hs hu hI
    have hall : ∀ i, i < ops.size → listed.getD i true = true := by
      intro i hi
      have := List.countP_eq_zero.1 hu i (List.mem_range.2 hi)
      simpa using this
    refine ⟨?_, ?_⟩
    · cases hr : Region.ready .any ops listed with
      | nil => rfl
      | cons i l =>
        have hm : i ∈ Region.ready .any ops listed := by rw [hr]; exact List.mem_cons_self
        obtain ⟨h0, o, ho, _⟩ := mem_ready.1 hm
        have hi : i < ops.size := (Array.getElem?_eq_some_iff.1 ho).1
        rw [hall i hi] at h0; cases h0
    · rw [all listed hs hall] at hI; exact hQ _ _ hI
  | succ fuel ih =>
    intro listed a W hs hu hI
    refine ⟨fun hr => ?_, fun i hi => ?_⟩
    · have := none_ready listed hr
      rw [all listed hs this] at hI; exact hQ _ _ hI
    · obtain ⟨h0, o, ho, hall⟩ := mem_ready.1 hi
      have hio : i < ops.size := (Array.getElem?_eq_some_iff.1 ho).1
      refine inv_step hB hl hps hs hI ho (fun t ht j o' hj hd => ?_) (fun a' W' hI' => ih _ _ _ (by simpa using hs) ?_ hI')
      · obtain ⟨_, e, he, hb, hon⟩ := relB_looks hB ho ht hj hd
        have hlk := hall e he hb
        rwa [hon] at hlk
      · have := countP_drop (n := ops.size) (i := i) (f := fun i => !listed.getD i true) (g := fun j => !(listed.setIfInBounds i true).getD j true) hio (by simpa using h0) (by simp [hs, hio]) (fun j hj => by
            show (!(listed.setIfInBounds i true).getD j true) = _
            rw [getD_set_ne true (Ne.symm hj)])
        unfold unl at hu ⊢
        omega

/-- The order of the text. -/
theorem wpOps_of_inv {Q' : Exit → Act → World → Prop} {ps : List VP} (hB : relB ops a0.tmps.size = true) (hl : ps.length = ops.toList.length)
    (hps : ∀ k o p, ops.toList[k]? = some o → ps[k]? = some p → Stab p ∧ ∀ f W, Gr w0 W →
        EnvAt ((((ops.toList.map (·.dst)).zip ps).take k).reverse ++ []) (fun t => a0.tmps.getD t undef) f W (o.looksAt ops) → OpOb P ops p o f W)
    (hQ : ∀ a W, Inv w0 a0 ((ops.toList.map (·.dst)).zip ps) (Array.replicate ops.size true) a W → Q' .normal a W) :
    ∀ (m k : Nat) (listed : Array Bool) (a : Act) (W : World), k + m = ops.size → listed.size = ops.size → (∀ i, i < k → listed.getD i false = true) → Inv w0 a0 ((ops.toList.map (·.dst)).zip ps) listed a W →
      wpOps P ops Q' (List.range' k m) a W := by
  intro m
  induction m with
  | zero =>
    intro k listed a W hk hs hlt hI
    have : listed = Array.replicate ops.size true := by
      apply Array.ext (by simpa using hs)
      intro i h1 h2
      have := hlt i (by omega)
      simpa [h1] using this
    rw [this] at hI
    exact hQ _ _ hI
  | succ m ih =>
    intro k listed a W hk hs hlt hI
    rw [List.range'_succ, wpOps_cons]
    have hkn : k < ops.size := by omega
    refine inv_step hB hl hps hs hI (i := k) (o := ops[k]) (by simp [hkn]) (fun t ht j o' hj hd => ?_) (fun a' W' hI' => ih (k + 1) _ _ _ (by omega) (by simpa using hs) (fun i hi => ?_) hI')
    · exact hlt j (relB_looks hB (by simp [hkn]) ht hj hd).1
    · by_cases e : i = k
      · subst e; simp [hs, hkn]
      · rw [getD_set_ne false (Ne.symm e)]; exact hlt i (by omega)

theorem unl_start (ops : Array Oper) : unl ops (Array.replicate ops.size false) = ops.size := by
  unfold unl
  have : (List.range ops.size).countP (fun i => !(Array.replicate ops.size false).getD i true) = (List.range ops.size).length := by
    rw [List.countP_eq_length]
    intro i hi
    have := List.mem_range.1 hi
    simp [this]
  rw [this, List.length_range]

/-- **A region that draws its order: each operation by itself.** -/
theorem wp_region_rel {id : Nat} {Q' : Exit → Act → World → Prop} {l : List Oper} (hm : P.follows .mixedOrders = true) (hB : relB l.toArray a0.tmps.size = true)
    (h : RelWalk P l.toArray w0 a0 (fun a w => Q' .normal a w) l []) : (Code.region id l.toArray true).wp P Q' a0 w0 := by
  obtain ⟨ps, hl, h1, h2⟩ := RelWalk.posts h
  refine wp_region_any hm (wpAny_of_inv (w0 := w0) (a0 := a0) (ps := ps) hB (by simpa using hl) (by simpa using h1) ?_ _ _ _ _ (by simp) (unl_start _) ?_)
  · intro a W hI
    refine relFin_done (by simpa using h2 W hI.gr) hI.size hI.defers ?_ ?_
    · intro d p hm
      obtain ⟨k, hk⟩ := List.getElem?_of_mem hm
      have hk' := hk
      rw [List.getElem?_zip_eq_some] at hk
      simp only [List.getElem?_map, Option.map_eq_some_iff] at hk
      obtain ⟨⟨o, ho, hd⟩, hp⟩ := hk
      have hkl : k < l.length := (List.getElem?_eq_some_iff.1 ho).1
      refine ⟨by rw [hI.size]; exact (relB_dst hB (i := k) (o := o) (by simpa using ho) hd).1, hI.post k d p (by simp [hkl]) (by simpa using hk')⟩
    · intro t ht
      refine hI.out t fun k p _ hk => ht _ (List.mem_of_getElem? (by simpa using hk)) rfl
  · exact ⟨(Gr.refl _).drew, rfl, rfl, fun i d p h => by simp [Array.getElem?_replicate] at h; split at h <;> simp at h, fun _ _ => rfl⟩

theorem relWalk_end {Q' : Exit → Act → World → Prop} {l : List Oper} {ps : List VP} (hB : relB l.toArray a0.tmps.size = true)
    (h2 : ∀ W, Gr w0 W → RelFin (fun a w => Q' .normal a w) W ((l.map (·.dst)).zip ps) a0) (a : Act) (W : World) (hI : Inv w0 a0 ((l.toArray.toList.map (·.dst)).zip ps) (Array.replicate l.toArray.size true) a W) : Q' .normal a W := by
  refine relFin_done (by simpa using h2 W hI.gr) hI.size hI.defers ?_ ?_
  · intro d p hm
    obtain ⟨k, hk⟩ := List.getElem?_of_mem hm
    have hk' := hk
    rw [List.getElem?_zip_eq_some] at hk
    simp only [List.getElem?_map, Option.map_eq_some_iff] at hk
    obtain ⟨⟨o, ho, hd⟩, hp⟩ := hk
    have hkl : k < l.length := (List.getElem?_eq_some_iff.1 ho).1
    refine ⟨by rw [hI.size]; exact (relB_dst hB (i := k) (o := o) (by simpa using ho) hd).1, hI.post k d p (by simp [hkl]) (by simpa using hk')⟩
  · intro t ht
    refine hI.out t fun k p _ hk => ht _ (List.mem_of_getElem? (by simpa using hk)) rfl

/-- A region in the order of the text, each operation by itself. -/
theorem wp_region_rel_text {id : Nat} {Q' : Exit → Act → World → Prop} {l : List Oper} (hB : relB l.toArray a0.tmps.size = true)
    (h : RelWalk P l.toArray w0 a0 (fun a w => Q' .normal a w) l []) : (Code.region id l.toArray false).wp P Q' a0 w0 := by
  obtain ⟨ps, hl, h1, h2⟩ := RelWalk.posts h
  refine wp_region ?_
  rw [List.range_eq_range']
  refine wpOps_of_inv (w0 := w0) (a0 := a0) (ps := ps) hB (by simpa using hl) (by simpa using h1) (relWalk_end hB (by simpa using h2)) _ _ (Array.replicate l.toArray.size false) _ _ (by simp) (by simp) (fun i hi => absurd hi (by omega)) ?_
  exact ⟨Gr.refl _, rfl, rfl, fun i d p h => by simp [Array.getElem?_replicate] at h; split at h <;> simp at h, fun _ _ => rfl⟩

/-- An operation: its slot, what it does, the slots that it looks at, its guard's slot. -/
structure Step where
  dst : Option Nat
  op : Op
  type : TypeId
  ts : List Nat
  g : Option (Nat × Bool)

def tmpsOf : List Operand → List Nat
  | [] => []
  | .tmp t :: l => t :: tmpsOf l
  | _ :: l => tmpsOf l

def stepOf (ops : Array Oper) (o : Oper) : Step := ⟨o.dst, o.op, o.type, o.looksAt ops, gd ops o⟩

/-- The operation by itself. -/
def bare (op : Op) (type : TypeId) : Oper := { dst := none, op, type, pos := "", after := #[], guard := none }

def StepOb (P : Program) (p : VP) (s : Step) (f : Nat → Value) (W : World) : Prop :=
  match s.g with
  | none => relUpon P p W ((execOp (evalF f) (bare s.op s.type)).run P W)
  | some (d, want) => (f d = .bool want → relUpon P p W ((execOp (evalF f) (bare s.op s.type)).run P W)) ∧ (f d ≠ .bool want → p undef W)

def SWalk (P : Program) (w0 : World) (a0 : Act) (Q : Act → World → Prop) : List Step → List (Option Nat × VP) → Prop
  | [], env => ∀ W, Gr w0 W → RelFin Q W env.reverse a0
  | s :: rest, env => ∃ p, Stab p ∧ (∀ f W, Gr w0 W → EnvAt env (fun t => a0.tmps.getD t undef) f W s.ts → StepOb P p s f W) ∧ SWalk P w0 a0 Q rest ((s.dst, p) :: env)

theorem execOp_bare (ρ : Operand → Value) (o : Oper) : execOp ρ (bare o.op o.type) = execOp ρ o := rfl

theorem SWalk.rel {ops : Array Oper} : ∀ {l : List Oper} {env : List (Option Nat × VP)}, SWalk P w0 a0 Q (l.map (stepOf ops)) env → RelWalk P ops w0 a0 Q l env
  | [], _, h => h
  | o :: _, _, ⟨p, h1, h2, h3⟩ => ⟨p, h1, fun f W hW hE => by
      have := h2 f W hW hE
      unfold StepOb at this
      unfold OpOb
      simp only [stepOf, execOp_bare] at this
      exact this, SWalk.rel h3⟩

/-- A region in the order of the text, by steps. -/
theorem wp_region_steps_text {id : Nat} {Q' : Exit → Act → World → Prop} {l : List Oper} {w : World} {a : Act} (hB : relB l.toArray a.tmps.size = true) {ss : List Step}
    (hs : l.map (stepOf l.toArray) = ss) (h : SWalk P w a (fun a w => Q' .normal a w) ss []) : (Code.region id l.toArray false).wp P Q' a w :=
  wp_region_rel_text hB (SWalk.rel (by rw [hs]; exact h))

/-- **A region that draws its order, by steps.** -/
theorem wp_region_steps {id : Nat} {Q' : Exit → Act → World → Prop} {l : List Oper} {w : World} {a : Act} (hm : P.follows .mixedOrders = true) (hB : relB l.toArray a.tmps.size = true) {ss : List Step}
    (hs : l.map (stepOf l.toArray) = ss) (h : SWalk P w a (fun a w => Q' .normal a w) ss []) : (Code.region id l.toArray true).wp P Q' a w :=
  wp_region_rel hm hB (SWalk.rel (by rw [hs]; exact h))

theorem sWalk_cons {dst : Option Nat} {op : Op} {type : TypeId} {ts : List Nat} {g : Option (Nat × Bool)} {rest : List Step} {env : List (Option Nat × VP)} (p : VP) (hp : Stab p)
    (h : ∀ f W, Gr w0 W → EnvAt env (fun t => a0.tmps.getD t undef) f W ts → StepOb P p ⟨dst, op, type, ts, g⟩ f W) (hr : SWalk P w0 a0 Q rest ((dst, p) :: env)) : SWalk P w0 a0 Q (⟨dst, op, type, ts, g⟩ :: rest) env := ⟨p, hp, h, hr⟩

theorem sWalk_eq {dst : Option Nat} {op : Op} {type : TypeId} {ts : List Nat} {g : Option (Nat × Bool)} {rest : List Step} {env : List (Option Nat × VP)} {c : Value}
    (h : ∀ f W, Gr w0 W → EnvAt env (fun t => a0.tmps.getD t undef) f W ts → StepOb P (fun v _ => v = c) ⟨dst, op, type, ts, g⟩ f W) (hr : SWalk P w0 a0 Q rest ((dst, fun v _ => v = c) :: env)) : SWalk P w0 a0 Q (⟨dst, op, type, ts, g⟩ :: rest) env := ⟨_, stab_eq c, h, hr⟩

theorem stepOb_plain {p : VP} {dst : Option Nat} {op : Op} {type : TypeId} {ts : List Nat} {f : Nat → Value} {W : World} (h : relUpon P p W ((execOp (evalF f) (bare op type)).run P W)) :
    StepOb P p ⟨dst, op, type, ts, none⟩ f W := h

/-- A guarded operation: its value where the guard says so, else nothing. -/
theorem stepOb_gd {dst : Option Nat} {op : Op} {type : TypeId} {ts : List Nat} {d : Nat} {want g : Bool} {c : Value} {f : Nat → Value} {W : World} (hf : f d = .bool g)
    (h : g = want → relUpon P (fun v _ => v = c) W ((execOp (evalF f) (bare op type)).run P W)) : StepOb P (fun v _ => v = if g = want then c else undef) ⟨dst, op, type, ts, some (d, want)⟩ f W := by
  unfold StepOb
  refine ⟨fun hw => ?_, fun hw => ?_⟩
  · have e : g = want := by rw [hf] at hw; simpa using hw
    simp only [e, if_true]
    exact h e
  · have e : ¬ g = want := fun e => hw (by rw [hf, e])
    show undef = _
    rw [if_neg e]

/-- A guard that is guarded itself. -/
theorem stepOb_gd2 {dst : Option Nat} {op : Op} {type : TypeId} {ts : List Nat} {d : Nat} {w1 want G g : Bool} {c : Value} {f : Nat → Value} {W : World} (hf : f d = if G = w1 then .bool g else undef)
    (h : G = w1 → g = want → relUpon P (fun v _ => v = c) W ((execOp (evalF f) (bare op type)).run P W)) : StepOb P (fun v _ => v = if G = w1 ∧ g = want then c else undef) ⟨dst, op, type, ts, some (d, want)⟩ f W := by
  unfold StepOb
  by_cases e1 : G = w1
  · rw [if_pos e1] at hf
    refine ⟨fun hw => ?_, fun hw => ?_⟩
    · have e : g = want := by rw [hf] at hw; simpa using hw
      simp only [e1, e, and_self, if_true]
      exact h e1 e
    · have e : ¬ g = want := fun e => hw (by rw [hf, e])
      show undef = _
      rw [if_neg (fun x => e x.2)]
  · rw [if_neg e1] at hf
    refine ⟨fun hw => ?_, fun hw => ?_⟩
    · rw [hf] at hw; simp [undef] at hw
    · show undef = _
      rw [if_neg (fun x => e1 x.1)]

theorem stepOb_gd_rel {p : VP} {dst : Option Nat} {op : Op} {type : TypeId} {ts : List Nat} {d : Nat} {want g : Bool} {f : Nat → Value} {W : World} (hf : f d = .bool g)
    (h : g = want → relUpon P p W ((execOp (evalF f) (bare op type)).run P W)) : StepOb P (fun v W => g = want → p v W) ⟨dst, op, type, ts, some (d, want)⟩ f W := by
  unfold StepOb
  refine ⟨fun hw => ?_, fun hw => ?_⟩
  · have e : g = want := by rw [hf] at hw; simpa using hw
    simp only [e, true_imp_iff]
    exact h e
  · have e : ¬ g = want := fun e => hw (by rw [hf, e])
    exact fun e' => absurd e' e

theorem stab_imp {p : VP} (b : Prop) (h : Stab p) : Stab (fun v W => b → p v W) := fun _ _ _ hp hg hb => h _ _ _ (hp hb) hg

/-- A load of a whole struct or array. -/
theorem relUpon_load {ty type : TypeId} {t b o : Nat} {cs : List Value} {d : TypeDesc} {f : Nat → Value} {W : World} (hf : f t = .pointer (some ⟨b, o, none⟩)) (hr : W.rangeAt b o cs)
    (hu : P.underlying ty = some d) (hd : d.isRow = true) (hi : (P.info? ty).map (·.size) = some cs.length) :
    relUpon P (fun v _ => v = .agg cs.toArray) W ((execOp (evalF f) (bare (.load ty (.tmp t)) type)).run P W) := by
  have h := run_loadAt_mid (P := P) W b o ty cs d hr hu hd hi
  have e : (execOp (evalF f) (bare (.load ty (.tmp t)) type)).run P W = .ok (.value (.agg cs.toArray)) W := by
    simp only [execOp, bare, evalF, hf, Sem.run_bind, h, Result.andThen, Sem.run_pure]
  rw [e]
  exact ⟨Gr.refl _, rfl⟩

theorem Gr.range {a b : World} (h : Gr a b) {k o : Nat} {cs : List Value} (hr : a.rangeAt k o cs) : b.rangeAt k o cs := fun j v hv => h.cell (hr j v hv)
theorem range_sub {w : World} {b o : Nat} {cs : List Value} (h : w.rangeAt b o cs) (i n : Nat) : w.rangeAt b (o + i) ((cs.drop i).take n) := fun j v hv => by
  rw [List.getElem?_take] at hv
  split at hv
  · rw [List.getElem?_drop] at hv
    have := h (i + j) v hv
    rwa [Nat.add_assoc]
  · cases hv

/-- Go's '||' and '&&'. -/
theorem relUpon_or {type : TypeId} {c t : Nat} {g b : Bool} {f : Nat → Value} {W : World} (hc : f c = .bool g) (ht : f t = if g = false then .bool b else undef) :
    relUpon P (fun v _ => v = .bool (g || b)) W ((execOp (evalF f) (bare (.pick (.tmp c) (.const (.bool true)) (.tmp t)) type)).run P W) := by
  cases g <;> simp [execOp, bare, evalF, hc, ht, relUpon, asBool, Gr.refl]
theorem relUpon_and {type : TypeId} {c t : Nat} {g b : Bool} {f : Nat → Value} {W : World} (hc : f c = .bool g) (ht : f t = if g = true then .bool b else undef) :
    relUpon P (fun v _ => v = .bool (g && b)) W ((execOp (evalF f) (bare (.pick (.tmp c) (.tmp t) (.const (.bool false))) type)).run P W) := by
  cases g <;> simp [execOp, bare, evalF, hc, ht, relUpon, asBool, Gr.refl]

theorem sWalk_nil {env : List (Option Nat × VP)} (h : ∀ W, Gr w0 W → RelFin Q W env.reverse a0) : SWalk P w0 a0 Q [] env := h

/-- A slice over a block of its own. -/
def RowV (T : TypeId) (n : Nat) (C : Array Value) : VP := fun v W => ∃ b, v = .slice (some ⟨b, 0, none⟩) n n ∧ W.heap[b]? = some (.cells C T)
theorem RowV.stab (T : TypeId) (n : Nat) (C : Array Value) : Stab (RowV T n C) := fun _ _ _ ⟨b, hv, hb⟩ hg => ⟨b, hv, hg.heap hb⟩
theorem RowV.alloc {T : TypeId} {n : Nat} {C : Array Value} {W : World} : RowV T n C (.slice (some ⟨W.heap.size, 0, none⟩) n n) (W.alloc (.cells C T)) := ⟨_, rfl, heap_alloc_new W _⟩
theorem cell_of_heap {W : World} {b o : Nat} {C : Array Value} {T : TypeId} {v : Value} (h : W.heap[b]? = some (.cells C T)) (hv : C[o]? = some v) : W.cell? ⟨b, o, none⟩ = some v := by
  rw [cell_of_row W b o C T (0, 0) h]; exact hv

theorem Gr.cells {a b : World} (h : Gr a b) : ∀ k o, k < a.heap.size → b.cell? ⟨k, o, none⟩ = a.cell? ⟨k, o, none⟩ := fun k o hk => Below.cell h.1 (p := ⟨k, o, none⟩) hk
end
end Go.RelD
