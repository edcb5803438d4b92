/- Plain lemmas on regions that draw their order, stage by stage: a stage of operations that each stand by themselves, or one operation that all later ones wait for. -/
import Derived.Test.YtjngckeeoohegaaDoorRel
namespace Go.Rel
open Go Go.RowKit

def firstN (n lo : Nat) : Array Bool := ((List.range n).map fun i => decide (i < lo)).toArray
theorem firstN_size (n lo : Nat) : (firstN n lo).size = n := by simp [firstN]
theorem firstN_get (n lo i : Nat) (d : Bool) (h : i < n) : (firstN n lo).getD i d = decide (i < lo) := by simp [firstN, h]

theorem firstN_out (n lo i : Nat) (h : n ≤ i) : (firstN n lo).getD i false = false := by
  have : ¬ i < (firstN n lo).size := by rw [firstN_size]; omega
  rw [Array.getD, dif_neg this]

/-- The first operations have been carried out, and no other. -/
def St (P : Program) (ops : Array Oper) (Q : Exit → Act → World → Prop) (lo : Nat) (a : Act) (w : World) : Prop :=
  wpAny P .any ops Q (ops.size - lo) (firstN ops.size lo) a w

def edgeB (ops : Array Oper) (j i : Nat) : Bool := ((ops[j]?).map fun o => o.after.any fun e => Region.binds .any e && e.on == i).getD false

/-- Each operation from hi on waits for all ahead of hi. -/
def cutB (ops : Array Oper) (hi : Nat) : Bool :=
  decide (hi ≤ ops.size) && (List.range hi).all fun i => ((List.range hi).any fun i' => decide (i < i') && edgeB ops i' i) ||
    ((List.range ops.size).all fun j => decide (j < hi) || edgeB ops j i || ((List.range ops.size).any fun j' => decide (hi ≤ j') && edgeB ops j j'))

/-- What is listed has all that it waits for. -/
def DC (ops : Array Oper) (listed : Array Bool) : Prop := ∀ j i, listed.getD j false = true → edgeB ops j i = true → listed.getD i false = true

theorem edge_of {ops : Array Oper} {j i : Nat} (h : edgeB ops j i = true) : ∃ o, ops[j]? = some o ∧ ∃ e ∈ o.after, Region.binds .any e = true ∧ e.on = i := by
  unfold edgeB at h
  cases ho : ops[j]? with
  | none => simp [ho] at h
  | some o =>
    simp only [ho, Option.map_some, Option.getD_some] at h
    obtain ⟨e, he, hb⟩ := Array.any_eq_true'.1 h
    simp only [Bool.and_eq_true, beq_iff_eq] at hb
    exact ⟨o, rfl, e, he, hb.1, hb.2⟩

section
variable {P : Program} {ops : Array Oper} {w0 : World} {a0 : Act} {Q : Exit → Act → World → Prop}

theorem DC.set {listed : Array Bool} (h : DC ops listed) {i : Nat} (hi : i ∈ Region.ready .any ops listed) : DC ops (listed.setIfInBounds i true) := by
  intro j x hj he
  obtain ⟨h0, o, ho, hall⟩ := mem_ready.1 hi
  have key : listed.getD x false = true → (listed.setIfInBounds i true).getD x false = true := by
    intro hx
    by_cases e : i = x
    · subst e
      by_cases hs : i < listed.size
      · simp [hs]
      · simp [Array.getElem?_eq_none (Nat.le_of_not_lt hs)] at hx
    · rw [getD_set_ne false e]; exact hx
  by_cases e : i = j
  · subst e
    obtain ⟨o', ho', e', he', hb, hon⟩ := edge_of he
    rw [ho] at ho'
    cases ho'
    exact key (by rw [← hon]; exact hall e' he' hb)
  · rw [getD_set_ne false e] at hj
    exact key (h j x hj he)

theorem ready_all {listed : Array Bool} {hi j : Nat} (hc : cutB ops hi = true) (hdc : DC ops listed) (hno : ∀ x, hi ≤ x → listed.getD x false = false) (hj : j ∈ Region.ready .any ops listed) (hge : hi ≤ j) :
    ∀ i, i < hi → listed.getD i false = true := by
  obtain ⟨h0, o, ho, hall⟩ := mem_ready.1 hj
  have hjs : j < ops.size := (Array.getElem?_eq_some_iff.1 ho).1
  unfold cutB at hc
  rw [Bool.and_eq_true] at hc
  have hc := List.all_eq_true.1 hc.2
  have down : ∀ m i, hi - i = m → i < hi → listed.getD i false = true := by
    intro m
    induction m using Nat.strongRecOn with
    | _ m ih =>
      intro i hm hi1
      have h1 := hc i (List.mem_range.2 hi1)
      rw [Bool.or_eq_true] at h1
      rcases h1 with h1 | h1
      · obtain ⟨i', hi', h2⟩ := List.any_eq_true.1 h1
        rw [Bool.and_eq_true, decide_eq_true_eq] at h2
        have h3 := List.mem_range.1 hi'
        exact hdc i' i (ih (hi - i') (by omega) i' rfl h3) h2.2
      · have h2 := List.all_eq_true.1 h1 j (List.mem_range.2 hjs)
        simp only [Bool.or_eq_true, decide_eq_true_eq] at h2
        rcases h2 with (h2 | h2) | h2
        · omega
        · obtain ⟨o', ho', e, he, hb, hon⟩ := edge_of h2
          rw [ho] at ho'; cases ho'
          rw [← hon]; exact hall e he hb
        · obtain ⟨j', _, h3⟩ := List.any_eq_true.1 h2
          rw [Bool.and_eq_true, decide_eq_true_eq] at h3
          obtain ⟨o', ho', e, he, hb, hon⟩ := edge_of h3.2
          rw [ho] at ho'; cases ho'
          have := hall e he hb
          rw [hon, hno j' h3.1] at this
          cases this
  exact fun i h => down _ i rfl h

/-- What holds while a stage runs. -/
structure Inv2 (w0 : World) (a0 : Act) (full : List (Option Nat × VP)) (done : Nat → Bool) (a : Act) (W : World) : Prop where
  gr : Gr w0 W
  size : a.tmps.size = a0.tmps.size
  defers : a.defers = a0.defers
  post : ∀ i d p, done i = true → full[i]? = some (some d, p) → p (a.tmps.getD d undef) W
  out : ∀ t, (∀ i p, done i = true → full[i]? ≠ some (some t, p)) → a.tmps[t]? = a0.tmps[t]?

theorem Inv2.put {full : List (Option Nat × VP)} {done done' : Nat → Bool} {a : Act} {W W' : World} {i : Nat} {dst : Option Nat} {p : VP} {v : Value}
    (h : Inv2 w0 a0 full done a W) (hg : Gr W W') (hst : ∀ (j : Nat) (d : Option Nat) (q : VP), full[j]? = some (d, q) → Stab q) (hi : full[i]? = some (dst, p)) (hlt : ∀ d, dst = some d → d < a0.tmps.size)
    (hne : ∀ (j d : Nat) (q : VP), dst = some d → j ≠ i → full[j]? ≠ some (some d, q)) (hv : p v W') (new : done' i = true) (old : ∀ j, j ≠ i → done' j = done j) : Inv2 w0 a0 full done' (a.put dst v) W' := by
  refine ⟨h.gr.trans hg, ?_, ?_, ?_, ?_⟩
  · cases dst <;> simp [Act.put, h.size]
  · cases dst <;> simp [Act.put, h.defers]
  · intro j d q hl hq
    by_cases e : j = i
    · subst e
      rw [hi] at hq
      simp only [Option.some.injEq, Prod.mk.injEq] at hq
      obtain ⟨rfl, rfl⟩ := hq
      have : d < a.tmps.size := by rw [h.size]; exact hlt d rfl
      simpa [Act.put, this] using hv
    · rw [old j e] at hl
      have hp := hst j _ _ hq _ _ _ (h.post j d q hl hq) hg
      cases dst with
      | none => exact hp
      | some d' =>
        have : d' ≠ d := fun e' => hne j d' q rfl e (by rw [e']; exact hq)
        have e2 : (a.put (some d') v).tmps.getD d undef = a.tmps.getD d undef := by
          simp [Act.put, Array.getElem?_setIfInBounds_ne this]
        rw [e2]; exact hp
  · intro t ht
    have h0 : a.tmps[t]? = a0.tmps[t]? := h.out t fun j q hl => ht j q (by
      by_cases e : j = i
      · subst e; exact new
      · rw [old j e]; exact hl)
    cases dst with
    | none => exact h0
    | some d' =>
      have : d' ≠ t := fun e => ht i p new (by rw [← e]; exact hi)
      simp only [Act.put]
      rw [Array.getElem?_setIfInBounds_ne this]; exact h0

/-- One operation of a stage. -/
theorem stage_step {lo hi : Nat} {Q' : Exit → Act → World → Prop} {ps : List VP} (hB : relB ops a0.tmps.size = true) (hhi : hi ≤ ops.size) (hl : ps.length = hi - lo)
    (hps : ∀ k o p, lo + k < hi → ops[lo + k]? = some o → ps[k]? = some p → Stab p ∧ ∀ f W, Gr w0 W →
        EnvAt ((((((ops.toList.take hi).drop lo).map (·.dst)).zip ps).take k).reverse ++ []) (fun t => a0.tmps.getD t undef) f W (o.looksAt ops) → OpOb P ops p o f W)
    {listed : Array Bool} {a : Act} {W : World} (hI : Inv2 w0 a0 ((((ops.toList.take hi).drop lo).map (·.dst)).zip ps) (fun k => listed.getD (lo + k) false) a W) (hs : listed.size = ops.size)
    {i : Nat} {o : Oper} (hlo : lo ≤ i) (hih : i < hi) (ho : ops[i]? = some o) (hall : ∀ t ∈ o.looksAt ops, ∀ j o', ops[j]? = some o' → o'.dst = some t → listed.getD j false = true) {K : Act → World → Prop}
    (hK : ∀ a' W', Inv2 w0 a0 ((((ops.toList.take hi).drop lo).map (·.dst)).zip ps) (fun k => (listed.setIfInBounds i true).getD (lo + k) false) a' W' → K a' W') : wpOp P ops Q' i K a W := by
  have full_at : ∀ (k : Nat) (d : Option Nat) (q : VP), ((((ops.toList.take hi).drop lo).map (·.dst)).zip ps)[k]? = some (d, q) → ∃ o, lo + k < hi ∧ ops[lo + k]? = some o ∧ o.dst = d ∧ ps[k]? = some q := by
    intro k d q h
    rw [List.getElem?_zip_eq_some] at h
    obtain ⟨h1, h2⟩ := h
    simp only [List.getElem?_map, Option.map_eq_some_iff, List.getElem?_drop, List.getElem?_take] at h1
    obtain ⟨o, ho, hd⟩ := h1
    split at ho
    · exact ⟨o, by assumption, by simpa using ho, hd, h2⟩
    · cases ho
  obtain ⟨k, rfl⟩ : ∃ k, i = lo + k := ⟨i - lo, by omega⟩
  have hio : lo + k < ops.size := by omega
  have hip : k < ps.length := by omega
  obtain ⟨p, hp⟩ : ∃ p, ps[k]? = some p := ⟨ps[k], by simp [hip]⟩
  have hfull : ((((ops.toList.take hi).drop lo).map (·.dst)).zip ps)[k]? = some (o.dst, p) := by
    rw [List.getElem?_zip_eq_some]
    refine ⟨?_, hp⟩
    rw [List.getElem?_map, List.getElem?_drop, List.getElem?_take, if_pos hih]
    simp [ho]
  obtain ⟨hst, hob⟩ := hps k o p hih (by simpa using ho) hp
  have stab : ∀ (j : Nat) (d : Option Nat) (q : VP), ((((ops.toList.take hi).drop lo).map (·.dst)).zip ps)[j]? = some (d, q) → Stab q := by
    intro j d q h
    obtain ⟨o', hj, ho', _, hq⟩ := full_at j d q h
    exact (hps j o' q hj (by simpa using ho') hq).1
  have next : ∀ v W', Gr W W' → p v W' → K (a.put o.dst v) W' := by
    intro v W' hg hv
    refine hK _ _ (hI.put hg stab hfull (fun d hd => (relB_dst hB ho hd).1) (fun j d q hd hj h => ?_) hv ?_ ?_)
    · obtain ⟨o', _, ho', hd', _⟩ := full_at j _ q h
      exact (relB_dst hB ho hd).2 (lo + j) o' ho' (by omega) hd'
    · have : lo + k < listed.size := by omega
      simp [this]
    · intro j hj
      show (listed.setIfInBounds (lo + k) true).getD (lo + j) false = _
      rw [getD_set_ne false (by omega)]
  have hE : EnvAt ((((((ops.toList.take hi).drop lo).map (·.dst)).zip ps).take k).reverse ++ []) (fun t => a0.tmps.getD t undef) (fun t => a.tmps.getD t undef) W (o.looksAt ops) := by
    refine envAt_of fun t ht => slotP_of ?_ ?_
    · intro e he hd
      simp only [List.append_nil, List.mem_reverse] at he
      obtain ⟨k', hk⟩ := List.getElem?_of_mem he
      rw [List.getElem?_take] at hk
      split at hk
      · obtain ⟨d, q⟩ := e
        simp only at hd
        subst hd
        obtain ⟨o', _, ho', hd', _⟩ := full_at k' _ q hk
        exact hI.post k' t q (hall t ht (lo + k') o' ho' hd') hk
      · cases hk
    · intro hno
      have : a.tmps[t]? = a0.tmps[t]? := by
        refine hI.out t fun k' q hlk hk => ?_
        obtain ⟨o', _, ho', hd', _⟩ := full_at k' _ q hk
        obtain ⟨hlt, _⟩ := relB_looks hB ho ht ho' hd'
        refine hno (some t, q) ?_ rfl
        simp only [List.append_nil, List.mem_reverse]
        exact List.mem_of_getElem? (i := k') (by rw [List.getElem?_take, if_pos (by omega)]; exact hk)
      simp [this]
  have hOb := hob _ W hI.gr hE
  unfold wpOp
  simp only [ho]
  unfold OpOb gd at hOb
  rw [← eval_eq] at hOb
  cases hgu : o.guard with
  | none =>
    simp only [hgu] at hOb
    have hw : Region.wanted o (yielded ops a.tmps) = true := by simp [Region.wanted, hgu]
    rw [if_pos hw]
    exact .inl (Oper.upon_of_rel next hOb)
  | some gw =>
    obtain ⟨g, want⟩ := gw
    obtain ⟨d, hd⟩ := relB_guard hB ho hgu
    simp only [hgu, hd, Option.map_some] at hOb
    have hdn : d < a.tmps.size := by
      rw [hI.size]
      cases hog : ops[g]? with
      | none => simp [hog] at hd
      | some og => simp [hog] at hd; exact (relB_dst hB hog hd).1
    by_cases hv : a.tmps.getD d undef = .bool want
    · have hw : Region.wanted o (yielded ops a.tmps) = true := by
        have : a.tmps[d]? = some (.bool want) := by
          have h1 : a.tmps.getD d undef = a.tmps[d] := by simp [hdn]
          rw [h1] at hv; simp [hdn, hv]
        simp [Region.wanted, hgu, yielded, hd, this]
      rw [if_pos hw]
      exact .inl (Oper.upon_of_rel next (hOb.1 hv))
    · have hw : ¬ Region.wanted o (yielded ops a.tmps) = true := by
        intro hw
        apply hv
        have h1 : a.tmps.getD d undef = a.tmps[d] := by simp [hdn]
        rw [h1]
        have h2 : a.tmps[d]? = some a.tmps[d] := by simp [hdn]
        simp only [Region.wanted, hgu, yielded, hd, Option.bind_some, h2, beq_iff_eq] at hw
        split at hw
        · rename_i b hb
          simp only [Option.some.injEq] at hw hb
          rw [hb, hw]
        · cases hw
      rw [if_neg hw]
      exact next _ _ (Gr.refl _) (hOb.2 hv)

theorem firstN_of {listed : Array Bool} {n hi : Nat} (hs : listed.size = n) (h1 : ∀ i, i < hi → i < n → listed.getD i false = true) (h2 : ∀ i, hi ≤ i → listed.getD i false = false) : listed = firstN n hi := by
  apply Array.ext (by rw [hs, firstN_size])
  intro i hi1 hi2
  have e1 : listed[i] = listed.getD i false := by simp [hi1]
  have e2 : (firstN n hi)[i] = (firstN n hi).getD i false := by simp [hi2]
  rw [e1, e2, firstN_get _ _ _ _ (by omega)]
  by_cases h : i < hi
  · rw [h1 i h (by omega)]; simp [h]
  · rw [h2 i (by omega)]; simp [h]

theorem unl_first (ops : Array Oper) (hi : Nat) (h : hi ≤ ops.size) : unl ops (firstN ops.size hi) = ops.size - hi := by
  have key : ∀ n, n ≤ ops.size → (List.range n).countP (fun i => !(firstN ops.size hi).getD i true) = n - hi := by
    intro n
    induction n with
    | zero => intro _; simp
    | succ n ih =>
      intro hn
      rw [List.range_succ, List.countP_append, ih (by omega)]
      simp only [List.countP_singleton]
      rw [firstN_get _ _ _ _ (by omega)]
      by_cases h1 : n < hi
      · simp [h1]; omega
      · simp [h1]; omega
  exact key _ (Nat.le_refl _)

theorem unl_pos {listed : Array Bool} {i : Nat} (hi : i < ops.size) (h : listed.getD i true = false) : 0 < unl ops listed := by
  unfold unl
  exact List.countP_pos_iff.2 ⟨i, List.mem_range.2 hi, by simp only [h, Bool.not_false]⟩

theorem stage_run {lo hi : Nat} {ps : List VP} (hB : relB ops a0.tmps.size = true) (hcut : cutB ops hi = true) (hl : ps.length = hi - lo)
    (hps : ∀ k o p, lo + k < hi → ops[lo + k]? = some o → ps[k]? = some p → Stab p ∧ ∀ f W, Gr w0 W →
        EnvAt ((((((ops.toList.take hi).drop lo).map (·.dst)).zip ps).take k).reverse ++ []) (fun t => a0.tmps.getD t undef) f W (o.looksAt ops) → OpOb P ops p o f W)
    (hQ : ∀ a W, Inv2 w0 a0 ((((ops.toList.take hi).drop lo).map (·.dst)).zip ps) (fun k => decide (lo + k < hi)) a W → St P ops Q hi a W) :
    ∀ (fuel : Nat) (listed : Array Bool) (a : Act) (W : World), listed.size = ops.size → DC ops listed → (∀ i, i < lo → listed.getD i false = true) → (∀ i, hi ≤ i → listed.getD i false = false) →
      unl ops listed = fuel → Inv2 w0 a0 ((((ops.toList.take hi).drop lo).map (·.dst)).zip ps) (fun k => listed.getD (lo + k) false) a W → wpAny P .any ops Q fuel listed a W := by
  have hhi : hi ≤ ops.size := by
    unfold cutB at hcut; rw [Bool.and_eq_true, decide_eq_true_eq] at hcut; exact hcut.1
  intro fuel
  induction fuel with
  | zero =>
    intro listed a W hs hdc h1 h2 hu hI
    have hall : ∀ i, i < hi → i < ops.size → listed.getD i false = true := by
      intro i hi1 hi2
      have := List.countP_eq_zero.1 hu i (List.mem_range.2 hi2)
      have : listed.getD i true = true := by simpa using this
      have h3 : i < listed.size := by omega
      simpa [h3] using this
    have e := firstN_of hs hall h2
    have hq := hQ a W (by
      have : (fun k => listed.getD (lo + k) false) = fun k => decide (lo + k < hi) := by
        funext k
        by_cases h : lo + k < hi
        · rw [hall _ h (by omega)]; simp [h]
        · rw [h2 _ (by omega)]; simp [h]
      rw [← this]; exact hI)
    unfold St at hq
    rw [← e] at hq
    have : ops.size - hi = 0 := by rw [← unl_first ops hi hhi, ← e]; exact hu
    rw [this] at hq; exact hq
  | succ fuel ih =>
    intro listed a W hs hdc h1 h2 hu hI
    by_cases hall : ∀ i, i < hi → listed.getD i false = true
    · have e := firstN_of hs (fun i h _ => hall i h) h2
      have hq := hQ a W (by
        have : (fun k => listed.getD (lo + k) false) = fun k => decide (lo + k < hi) := by
          funext k
          by_cases h : lo + k < hi
          · rw [hall _ h]; simp [h]
          · rw [h2 _ (by omega)]; simp [h]
        rw [← this]; exact hI)
      unfold St at hq
      rw [← e] at hq
      have : ops.size - hi = fuel + 1 := by rw [← unl_first ops hi hhi, ← e]; exact hu
      rw [this] at hq; exact hq
    · -- the least that is not listed is ready
      obtain ⟨i0, hi0, hn0, hmin⟩ : ∃ i, i < hi ∧ listed.getD i false = false ∧ ∀ j, j < i → listed.getD j false = true := by
        have : ∃ i, i < hi ∧ listed.getD i false = false := by
          refine Classical.byContradiction fun hno => hall fun i hi => ?_
          cases h : listed.getD i false with
          | true => rfl
          | false => exact absurd ⟨i, hi, h⟩ hno
        obtain ⟨i, hi, hn⟩ := this
        clear hI hQ hps ih
        revert hi hn
        induction i using Nat.strongRecOn with
        | _ i ihi =>
          intro hi hn
          by_cases h : ∀ j, j < i → listed.getD j false = true
          · exact ⟨i, hi, hn, h⟩
          · have : ∃ j, j < i ∧ listed.getD j false = false := by
              refine Classical.byContradiction fun hno => h fun j hj => ?_
              cases hh : listed.getD j false with
              | true => rfl
              | false => exact absurd ⟨j, hj, hh⟩ hno
            obtain ⟨j, hj, hjn⟩ := this
            exact ihi j hj (by omega) hjn
      have hi0s : i0 < ops.size := by omega
      have hr0 : i0 ∈ Region.ready .any ops listed := by
        rw [mem_ready]
        refine ⟨?_, ops[i0], by simp [hi0s], fun e he hb => hmin _ (relB_after hB (i := i0) (o := ops[i0]) (by simp [hi0s]) e he hb)⟩
        have h3 : i0 < listed.size := by omega
        simpa [h3] using hn0
      refine ⟨fun hr => (by rw [hr] at hr0; cases hr0), fun i hi1 => ?_⟩
      obtain ⟨hz, o, ho, hedge⟩ := mem_ready.1 hi1
      have hio : i < ops.size := (Array.getElem?_eq_some_iff.1 ho).1
      have hih : i < hi := by
        refine Nat.lt_of_not_le fun hge => ?_
        have := ready_all hcut hdc h2 hi1 hge i0 hi0
        rw [hn0] at this; cases this
      have hz2 : listed.getD i false = false := by
        have h3 : i < listed.size := by omega
        simpa [h3] using hz
      have hlo : lo ≤ i := by
        refine Nat.le_of_not_lt fun h => ?_
        rw [h1 i h] at hz2; cases hz2
      refine stage_step hB hhi hl hps hI hs hlo hih ho (fun t ht j o' hj hd => ?_) (fun a' W' hI' => ih _ _ _ (by simpa using hs) (hdc.set hi1) ?_ ?_ ?_ hI')
      · obtain ⟨_, e, he, hb, hon⟩ := relB_looks hB ho ht hj hd
        have hlk := hedge e he hb
        rwa [hon] at hlk
      · intro j hj
        by_cases e : i = j
        · omega
        · rw [getD_set_ne false e]; exact h1 j hj
      · intro j hj
        rw [getD_set_ne false (by omega)]; exact h2 j hj
      · have := countP_drop (n := ops.size) (i := i) (f := fun i => !listed.getD i true) (g := fun j => !(listed.setIfInBounds i true).getD j true) hio (by simpa using hz) (by simp [hs, hio]) (fun j hj => by
            show (!(listed.setIfInBounds i true).getD j true) = _
            rw [getD_set_ne true (Ne.symm hj)])
        unfold unl at hu ⊢
        omega

theorem dc_first (hB : relB ops a0.tmps.size = true) (lo : Nat) (hlo : lo ≤ ops.size) : DC ops (firstN ops.size lo) := by
  intro j i hj he
  obtain ⟨o, ho, e, hm, hb, hon⟩ := edge_of he
  have hjs : j < ops.size := (Array.getElem?_eq_some_iff.1 ho).1
  have := relB_after hB ho e hm hb
  rw [firstN_get _ _ _ _ hjs, decide_eq_true_eq] at hj
  rw [firstN_get _ _ _ _ (by omega), decide_eq_true_eq]
  omega

end

section
variable {P : Program}
/-- A guarded operation whose guard is against it. -/
theorem stepOb_off {dst : Option Nat} {op : Op} {type : TypeId} {ts : List Nat} {d : Nat} {want g : Bool} {f : Nat → Value} {W : World} (hf : f d = .bool g) (hne : g ≠ want) :
    StepOb P (fun v _ => v = undef) ⟨dst, op, type, ts, some (d, want)⟩ f W := by
  unfold StepOb
  refine ⟨fun hw => ?_, fun _ => rfl⟩
  rw [hf] at hw
  exact absurd (by simpa using hw) hne
/-- One whose guard was not carried out. -/
theorem stepOb_undef {dst : Option Nat} {op : Op} {type : TypeId} {ts : List Nat} {d : Nat} {want : Bool} {f : Nat → Value} {W : World} (hf : f d = undef) :
    StepOb P (fun v _ => v = undef) ⟨dst, op, type, ts, some (d, want)⟩ f W := by
  unfold StepOb
  refine ⟨fun hw => ?_, fun _ => rfl⟩
  rw [hf] at hw
  simp [undef] at hw
/-- A guarded operation whose guard lets it. -/
theorem stepOb_on {p : VP} {dst : Option Nat} {op : Op} {type : TypeId} {ts : List Nat} {d : Nat} {want : Bool} {f : Nat → Value} {W : World} (hf : f d = .bool want) (h : relUpon P p W ((execOp (evalF f) (bare op type)).run P W)) :
    StepOb P p ⟨dst, op, type, ts, some (d, want)⟩ f W := by
  unfold StepOb
  exact ⟨fun _ => h, fun hw => absurd hf hw⟩
end

section
variable {P : Program} {l : List Oper} {w0 w : World} {a : Act} {Q : Exit → Act → World → Prop}

/-- A region that draws its order, stage by stage. -/
theorem wp_region_st {id : Nat} (hm : P.follows .mixedOrders = true) (h : St P l.toArray Q 0 a w.drew) : (Code.region id l.toArray true).wp P Q a w := by
  refine wp_region_any hm ?_
  have e : firstN l.toArray.size 0 = Array.replicate l.toArray.size false := by
    apply Array.ext (by simp [firstN_size])
    intro i h1 h2
    simp [firstN]
  unfold St at h
  rw [e] at h
  exact h

theorem st_end {n : Nat} (hn : n = l.toArray.size) (h : Q .normal a w) : St P l.toArray Q n a w := by
  subst hn
  unfold St
  rw [Nat.sub_self]
  refine ⟨?_, h⟩
  cases hr : Region.ready .any l.toArray (firstN l.toArray.size l.toArray.size) with
  | nil => rfl
  | cons i r =>
    have hm : i ∈ Region.ready .any l.toArray (firstN l.toArray.size l.toArray.size) := by rw [hr]; exact List.mem_cons_self
    obtain ⟨h0, o, ho, _⟩ := mem_ready.1 hm
    have hi : i < l.toArray.size := (Array.getElem?_eq_some_iff.1 ho).1
    rw [firstN_get _ _ _ _ hi] at h0
    simp at h0; simp at hi; omega

/-- One operation that comes up alone. -/
theorem st_one {lo m : Nat} {o : Oper} (hr : Region.ready .any l.toArray (firstN l.toArray.size lo) = [lo]) (ho : l[lo]? = some o) (hm : m = lo + 1)
    (h : wpOp P l.toArray Q lo (fun a' w' => St P l.toArray Q m a' w') a w) : St P l.toArray Q lo a w := by
  subst hm
  have hlo : lo < l.toArray.size := by simpa using (List.getElem?_eq_some_iff.1 ho).1
  unfold St
  have e : l.toArray.size - lo = (l.toArray.size - (lo + 1)) + 1 := by omega
  rw [e]
  refine ⟨fun h0 => (by rw [hr] at h0; cases h0), fun i hi => ?_⟩
  rw [hr] at hi
  obtain rfl := List.mem_singleton.1 hi
  have e2 : (firstN l.toArray.size i).setIfInBounds i true = firstN l.toArray.size (i + 1) := by
    refine firstN_of (by simp [firstN_size]) (fun j hj hjs => ?_) (fun j hj => ?_)
    · by_cases e : i = j
      · subst e; simp [firstN_size]; simpa using hlo
      · rw [getD_set_ne false e, firstN_get _ _ _ _ hjs]; simp; omega
    · rw [getD_set_ne false (by omega)]
      by_cases hjs : j < l.toArray.size
      · rw [firstN_get _ _ _ _ hjs]; simp; omega
      · exact firstN_out _ _ _ (by omega)
  rw [e2]
  exact h

/-- An operation that is not guarded. -/
theorem op_plain {ops : Array Oper} {i : Nat} {o : Oper} {K : Act → World → Prop} (ho : ops[i]? = some o) (hg : o.guard = none) (h : o.wp P a w K Q) : wpOp P ops Q i K a w := by
  unfold wpOp
  simp only [ho]
  rw [if_pos (by simp [Region.wanted, hg])]
  exact .inl h

/-- One whose guard lets it. -/
theorem op_yes {ops : Array Oper} {i : Nat} {o : Oper} {K : Act → World → Prop} (ho : ops[i]? = some o) (hg : Region.wanted o (yielded ops a.tmps) = true) (h : o.wp P a w K Q) : wpOp P ops Q i K a w := by
  unfold wpOp
  simp only [ho]
  rw [if_pos hg]
  exact .inl h

/-- One whose guard does not. -/
theorem op_no {ops : Array Oper} {i : Nat} {o : Oper} {K : Act → World → Prop} (ho : ops[i]? = some o) (hg : Region.wanted o (yielded ops a.tmps) = false) (h : K (a.put o.dst undef) w) : wpOp P ops Q i K a w := by
  unfold wpOp
  simp only [ho]
  rw [if_neg (by simp [hg])]
  exact h

/-- A stage of operations that each stand by themselves. -/
theorem st_rel {lo hi : Nat} (hB : relB l.toArray a.tmps.size = true) (hcut : cutB l.toArray hi = true) {ss : List Step} (hs : ((l.take hi).drop lo).map (stepOf l.toArray) = ss) (hlo : lo ≤ hi)
    (h : SWalk P w a (fun a w => St P l.toArray Q hi a w) ss []) : St P l.toArray Q lo a w := by
  have hhi : hi ≤ l.toArray.size := by
    unfold cutB at hcut; rw [Bool.and_eq_true, decide_eq_true_eq] at hcut; exact hcut.1
  have hhl : hi ≤ l.length := by simpa using hhi
  obtain ⟨ps, hl, h1, h2⟩ := RelWalk.posts (SWalk.rel (l := (l.take hi).drop lo) (by rw [hs]; exact h))
  have hlen : ps.length = hi - lo := by rw [hl]; simp; omega
  unfold St
  refine stage_run (w0 := w) (a0 := a) (ps := ps) (lo := lo) (hi := hi) hB hcut hlen ?_ ?_ _ _ _ _ (firstN_size _ _) (dc_first hB lo (by omega)) ?_ ?_ (unl_first _ _ (by omega)) ?_
  · intro k o p hk ho hp
    refine h1 k o p ?_ hp
    rw [List.getElem?_drop, List.getElem?_take, if_pos hk]
    simpa using ho
  · intro a' W hI
    refine relFin_done (by simpa using h2 W hI.gr) hI.size hI.defers ?_ ?_
    · intro d p hm
      obtain ⟨k, hk⟩ := List.getElem?_of_mem hm
      have hk' := hk
      rw [List.getElem?_zip_eq_some] at hk
      have hk3 := (List.getElem?_eq_some_iff.1 hk.1).1
      simp at hk3
      have hlt : lo + k < hi := by omega
      simp only [List.getElem?_map, Option.map_eq_some_iff, List.getElem?_drop, List.getElem?_take, if_pos hlt] at hk
      obtain ⟨⟨o, ho, hd⟩, hp⟩ := hk
      refine ⟨by rw [hI.size]; exact (relB_dst hB (i := lo + k) (o := o) (by simpa using ho) hd).1, hI.post k d p (by simp [hlt]) ?_⟩
      simpa using hk'
    · intro t ht
      refine hI.out t fun k p _ hk => ht _ (List.mem_of_getElem? (by simpa using hk)) rfl
  · intro i hi1
    rw [firstN_get _ _ _ _ (by omega)]; simp [hi1]
  · intro i hi1
    by_cases hjs : i < l.toArray.size
    · rw [firstN_get _ _ _ _ hjs]; simp; omega
    · exact firstN_out _ _ _ (by omega)
  · refine ⟨Gr.refl _, rfl, rfl, fun k d p hd hk => ?_, fun _ _ => rfl⟩
    have hk2 := hk
    rw [List.getElem?_zip_eq_some] at hk2
    have hk3 := (List.getElem?_eq_some_iff.1 hk2.1).1
    simp at hk3
    have : (firstN l.toArray.size lo).getD (lo + k) false = false := by
      rw [firstN_get _ _ _ _ (by simp; omega)]; simp
    rw [this] at hd; cases hd

end
end Go.Rel
