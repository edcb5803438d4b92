/- The law GateLoads, walked. -/
import Derived.Test.YtjngckeeoohegaaDoorAll
import Derived.Laws.AppendOwnNone
import Derived.Laws.OwnMore
import Derived.Maps.AppendAt
namespace Go.Proofs.YtjngckeeoohegaaDoor
open Go.RowKit Go.Rel Go.Shelf

/-- A slice of records that came in. -/
def RecsIn (w : World) (A : Option Addr) (c : Nat) (L : List Rec) : Prop := (A = none ∧ c = 0 ∧ L = []) ∨ ∃ a, A = some a ∧ ∀ j u, (L.flatMap recCells)[j]? = some u → w.cell? (a.add j) = some u
theorem RecsIn.recs {w : World} {A : Option Addr} {c : Nat} {L : List Rec} (h : RecsIn w A c L) : Recs w (.slice A L.length c) L := by
  refine ⟨A, c, rfl, fun k hk => ?_⟩
  rcases h with ⟨_, _, rfl⟩ | ⟨a, rfl, hr⟩
  · cases hk
  · have h0 := hr 0 (.int .i64 (L[0]'(by omega)).site) (by
      have := flat_at L 0 0 (by omega) (by omega)
      simpa [recCells] using this)
    have hs := World.cell?_spot h0
    obtain ⟨b, o, s⟩ := a
    have hs2 : s = none := by simpa [Addr.add] using hs
    subst hs2
    refine ⟨b, o, rfl, fun j v hj => ?_⟩
    have hj2 : j < 52 := by have := (List.getElem?_eq_some_iff.1 hj).1; simpa using this
    have h5 := flat_at L k j hk hj2
    have := hr (k * 52 + j) v (by rw [h5]; exact hj)
    rw [Addr.add_mid] at this
    rwa [← Nat.add_assoc] at this
theorem RecsIn.rec {w : World} {A : Option Addr} {c : Nat} {L : List Rec} (h : RecsIn w A c L) (k : Nat) (hk : k < L.length) : ∃ b o, A = some ⟨b, o, none⟩ ∧ w.rangeAt b (o + k * 52) (recCells L[k]) := by
  obtain ⟨A', c', e, hr⟩ := h.recs
  cases e
  exact hr k hk
theorem RecsIn.gr {w w' : World} {A : Option Addr} {c : Nat} {L : List Rec} (h : RecsIn w A c L) (hg : Gr w w') : RecsIn w' A c L := by
  rcases h with h | ⟨a, h1, h2⟩
  · exact .inl h
  · exact .inr ⟨a, h1, fun j u hj => hg.cell (h2 j u hj)⟩

theorem flat_one (L : List Rec) : ∀ u ∈ L.flatMap recCells, u.oneCell' = true := by
  intro u hu
  obtain ⟨x, _, hx⟩ := List.mem_flatMap.1 hu
  exact rec_one' x u hx

/-- A fresh copy: 'append([]api.Record{}, l...)'. -/
theorem wpList_copy_recs {ops : Array Oper} {rest : List Oper} {o : Oper} {a : Act} {w : World} {Q : Exit → Act → World → Prop} (hgd : o.guard = none) (s x : Operand)
    (ho : o.op = .call { callee := .builtin .append, args := #[s, x], argTypes := #[22, 22] }) (base g0 c0 : Nat) (hs : a.eval s = .slice (some ⟨g0, 0, none⟩) 0 c0)
    (hown : w.ownsRow base 31 52 (.slice (some ⟨g0, 0, none⟩) 0 c0) 0 []) (A : Option Addr) (c m : Nat) (L : List Rec) (hm : L.length = m) (hx : a.eval x = .slice A m c) (hr : RecsIn w A c L) (hL : m ≤ 1000000) (hbase : base ≤ w.heap.size)
    (h : ∀ g cap w', w'.ownsRow base 31 52 (.slice (some ⟨g, 0, none⟩) m cap) m (L.flatMap recCells) → base ≤ g → g < w'.heap.size → Below base w w' → wpList Tryd.prog ops Q rest (a.put o.dst (.slice (some ⟨g, 0, none⟩) m cap)) w') :
    wpList Tryd.prog ops Q (o :: rest) a w := by
  subst hm
  obtain ⟨i0, hi, hi2⟩ := Option.map_eq_some_iff.1 recInfo
  simp only [Prod.mk.injEq] at hi2
  obtain ⟨hz0, hz1, hz2⟩ := hi2
  have hlt := hown.lt g0 rfl
  rcases hr with ⟨rfl, rfl, rfl⟩ | ⟨ad, rfl, hr⟩
  · exact wpList_append_own_none hgd s x 22 ho base 31 i0 52 Tryd.underlying22 hi _ 0 [] hs hown hx (h g0 c0 w hown hlt.1 hlt.2 (Below.refl _ _))
  · refine wpList_append_own_at w hgd s x 22 ho base 31 i0 recZero 52 136 Tryd.underlying22 hi hz0 hz1 hz2 recZero_size (by omega) _ 0 [] hs hown ad L.length c (L.flatMap recCells) hx
      (length_flatMap recCells 52 length_recCells L) (fun j u hj => ?_) (flat_one L) (by unfold maxLen; omega) (by omega) hbase ?_
    · exact hr j u hj
    · intro v' w' hown' hgrow hnil hat
      have hne : v' ≠ .slice none 0 0 := by
        intro e
        have := (hnil.1 e).1
        cases this
      simp only [Nat.zero_add, List.nil_append] at hown'
      rcases hown'.2 with ⟨e, _⟩ | ⟨g, cap, cur, rfl, hb, hh, _⟩
      · exact absurd e hne
      · exact h g cap w' hown' hb (Array.getElem?_eq_some_iff.1 hh).1 ((Below.refl base w).grown hgrow hbase (fun j e => by cases e; exact hlt.1))

/-- What the law comes to. -/
def Truly (w : World) (e : Ending) (w' : World) : Prop := e = .returned (.bool true) ∧ Gr w w'

theorem asc_pair {L : List Rec} (h : okPre L L.length) : L.Pairwise (fun x y => dotCmp x.site x.cnt y.site y.cnt = -1) := by
  rw [List.pairwise_iff_getElem]
  intro i j hi hj hij
  exact ahead_all h j hj hj i hij
theorem asc_sorted {L : List Rec} (h : okPre L L.length) : dotSort L = L := by
  refine dotSort_of ((asc_pair h).imp fun {x y} hxy => ?_)
  rw [dotCmp_neg] at hxy
  rw [dotLe_iff]; omega
theorem asc_apart {L : List Rec} (h : okPre L L.length) : Apart L := by
  intro x hx y hy h1 h2
  obtain ⟨i, hi, rfl⟩ := List.getElem_of_mem hx
  obtain ⟨j, hj, rfl⟩ := List.getElem_of_mem hy
  rcases Nat.lt_trichotomy i j with h3 | h3 | h3
  · have := ahead_all h j hj hj i h3
    rw [dotCmp_neg] at this; omega
  · subst h3; rfl
  · have := ahead_all h i hi hi j h3
    rw [dotCmp_neg] at this; omega

theorem gate_grown {w w' : World} {base G g : Nat} {L : List Rec} (h : GateAt w base G L) (hg : w.grownBy w' (some g)) (hb : g < base) : GateAt w' base G L := by
  obtain ⟨h1, h2, h3⟩ := h
  have hc : ∀ {v}, w.cell? ⟨G, 0, none⟩ = some v → w'.cell? ⟨G, 0, none⟩ = some v := fun {v} hv => (hg.cell_far ⟨G, 0, none⟩ (World.block_lt_of_cell? w _ hv) (fun e => by simp at e; omega)).trans hv
  have hf : ∀ {v}, w.cell? ⟨G, 0, none⟩ = some v → w'.frozen? ⟨G, 0, none⟩ = false := fun {v} hv => (hg.frozen_far ⟨G, 0, none⟩ (World.block_lt_of_cell? w _ hv) (fun e => by simp at e; omega)).trans h2
  rcases h3 with ⟨h3, h4⟩ | ⟨r, h3, h4, h5⟩
  · exact ⟨h1, hf h4, .inl ⟨h3, hc h4⟩⟩
  · exact ⟨h1, hf h4, .inr ⟨r, h3, hc h4, (hg.block r (Array.getElem?_eq_some_iff.1 h5).1 (fun e => by simp at e; omega)).trans h5⟩⟩

theorem owns_grown {w w' : World} {base g : Nat} {e : TypeId} {size : Nat} {v : Value} {n : Nat} {xs : List Value} (h : w.ownsRow base e size v n xs) (hg : w.grownBy w' (some g)) (hb : g < base) : w'.ownsRow base e size v n xs := by
  refine h.kept hg ?_
  rcases h.2 with ⟨rfl, _⟩ | ⟨g', cap, cur, rfl, h1, _⟩
  · exact .inl rfl
  · refine .inr ?_
    simp [Value.ownBlock]; omega

section
set_option maxRecDepth 100000 in
set_option maxHeartbeats 4000000 in
theorem law_any (L : List Rec) (A : Option Addr) (c : Nat) (w : World) (hu : RecsIn w A c L) (hE : Env w) :
    Calls Tryd.prog 3 #[.slice A L.length c] w (Truly w) := by
  go_enter Tryd.func3, Tryd.ntmps3
  have hre := hu.recs
  obtain ⟨n, hn⟩ : ∃ n, L.length = n := ⟨_, rfl⟩
  have HN := Lib.hid hn
  have HU := Lib.hid hu
  have HE := Lib.hid hE
  have HR := Lib.hid hre
  rw [hn]
  clear hn hu hE hre
  by_cases hbig : 40 < n
  · go_wp2
    go_ret
    exact ⟨rfl, Gr.refl _⟩
  · go_wp2
    go_loop [15] (fun i => ∃ k, k ≤ n ∧ i = .int .i64 k ∧ ∀ j, j < k → (hj : j < L.length) → L[j].ref.size ≤ 300) (fun i => n - (intOf i).toNat)
    case atStart => exact ⟨0, Nat.zero_le _, rfl, fun j h => by omega⟩
    case round =>
      obtain ⟨k, hk, rfl, hsm⟩ := hrel
      have HS := Lib.hid hsm
      clear hsm
      by_cases hlt : k < n
      · have hl1 : k < L.length := by rw [HN.out]; exact hlt
        obtain ⟨b, o, rfl, hr⟩ := HU.out.rec k hl1
        · have hcR : w.cell? ⟨b, o + k * 52 + 18, none⟩ = some (.string L[k].ref) := (recParts hr).ref
          have hsz : 0 ≤ (L[k].ref.size : Int) := by omega
          generalize hx : L[k].ref = s at *
          have HX := Lib.hid hx
          clear hx
          by_cases hs : s.size ≤ 300
          · have hs' : ¬ 300 < s.size := by omega
            have hnext : ∀ j, j < k + 1 → (hj : j < L.length) → L[j].ref.size ≤ 300 := by
              intro j hj hjl
              rcases Nat.lt_succ_iff_lt_or_eq.1 hj with h | rfl
              · exact HS.out j h hjl
              · rw [HX.out]; exact hs
            have HN2 := Lib.hid hnext
            clear hnext
            go_wp2
            go_round
            case rel => exact ⟨k + 1, by omega, by go_num, HN2.out⟩
            case measure => simp [intOf]; omega
          · have hs' : 300 < s.size := by omega
            go_wp2
            go_ret
            exact ⟨rfl, Gr.refl _⟩
      · obtain rfl : k = n := by omega
        go_wp2_with (first | (at_builtin; refine wpList_copy_recs rfl _ _ rfl w.heap.size w.heap.size 0 rfl (World.ownsRow_lit w #[] 0 (Nat.le_refl _) (by unfold maxLen; omega) rfl) A c k L HN.out rfl (HU.out.gr (Gr.alloc (Gr.refl _) _)) (by omega) (by simp) ?_; intro g cap W1 hown hg1 hg2 hb) | fail)
        obtain rfl := HN.out
        have hG1 : Gr w W1 := Below.trans (Gr.alloc (Gr.refl w) _) hb
        have href : ∀ x ∈ L, x.ref.size ≤ 1000 := by
          intro x hx
          obtain ⟨j, hj, rfl⟩ := List.getElem_of_mem hx
          have := HS.out j hj hj
          omega
        have hrecs := recs_owns hown
        have hl40 : L.length ≤ 40 := by omega
        have hld := Lib.hid (load_any L _ W1 hrecs (Env.gr HE.out hG1) hl40 href)
        have HRO := Lib.hid hrecs
        have HO := Lib.hid hown
        clear hrecs hown HS
        have HF := Lib.hid href
        clear href
        go_wp2_with fail
        refine hld.out.mono ?_
        rintro e W2 ⟨hG2, hres⟩
        have hG02 : Gr w W2 := hG1.trans hG2
        have hrl := Lib.hid (refLoad_any L _ W2 (RecsIn.recs (RecsIn.gr HU.out hG02)) hl40 HF.out)
        rcases hres with ⟨hp, G, rfl, hgt⟩ | ⟨hp, rfl⟩
        · have HP := Lib.hid hp
          have HGT := Lib.hid hgt
          clear hp hgt
          go_wp2_with fail
          refine hrl.out.mono ?_
          rintro e W3 ⟨hG3, hres⟩
          rcases hres with ⟨_, v, rfl, hcv, hov⟩ | ⟨hn, _⟩
          · have hG03 : Gr w W3 := hG02.trans hG3
            have hsame := refSame_any L L _ _ W3 (HRO.out.gr (hG2.trans hG3)) (HR.out.gr hG03) (by omega)
            rw [decide_eq_true rfl] at hsame
            have HSM := Lib.hid hsame
            have HOV := Lib.hid hov
            clear hsame hov
            go_wp2_with fail
            refine Calls.mono HSM.out ?_
            rintro e W4 ⟨b4, rfl, hG4, rfl⟩
            have HO4 := Lib.hid (owns_gr HO.out ((hG2.trans hG3).trans hG4))
            go_wp2_with fail
            go_loopw [57] (fun i wr => ∃ k : Nat, k ≤ L.length ∧ i = .int .i64 k ∧ W4.grownBy wr (some g) ∧ ∃ xs, wr.ownsRow w.heap.size 31 52 (.slice (some ⟨g, 0, none⟩) L.length cap) L.length xs) (fun i _ => L.length - (intOf i).toNat)
            case atStart => exact ⟨0, Nat.zero_le _, rfl, World.grownBy.refl _ _, _, HO4.out⟩
            case round =>
              obtain ⟨k, hk, rfl, hgr, xs, hox⟩ := hrel
              by_cases hlt : k < L.length
              · have hj : k * 52 + 18 < L.length * 52 := by omega
                have hxl := hox.1
                obtain ⟨u0, hcl⟩ : ∃ u0, wr.cell? ⟨g, k * 52 + 18, none⟩ = some u0 := ⟨_, by rw [hox.cellAt (k * 52 + 18) hj, List.getElem?_eq_getElem (by omega)]⟩
                have hfz := hox.frozenAt (k * 52 + 18)
                have hst := hox.stored (k * 52 + 18) (.string ⟨#[120]⟩)
                have HST := Lib.hid hst
                have HGR := Lib.hid hgr
                clear hst hox hxl hgr
                go_wp2
                go_roundw
                case rel => exact ⟨k + 1, by omega, by simp, HGR.out.andThen HST.out.2 (fun j e => .inr e), _, HST.out.1⟩
                case measure => simp [intOf]; omega
              · obtain rfl : k = L.length := by omega
                have HOX := Lib.hid hox
                clear hox hk hlt
                have hGr : Gr w wr := Below.grown (hG03.trans hG4) hgr ((hG03.trans hG4).size) (fun j e => by cases e; exact hg1)
                have hgW2 : g < W2.heap.size := Nat.lt_of_lt_of_le hg2 hG2.size
                have hgt5 := gate_grown (HGT.out.gr (hG3.trans hG4)) hgr hg2
                have hov5 := recs_owns (owns_grown (owns_gr HOV.out hG4) hgr hgW2)
                have hcv5 : wr.cell? ⟨W2.heap.size, 0, none⟩ = some v := (hgr.cell_far ⟨W2.heap.size, 0, none⟩ (World.block_lt_of_cell? _ _ (hG4.cell hcv)) (fun e => by simp at e; omega)).trans (hG4.cell hcv)
                have HG5 := Lib.hid hgt5
                have HV5 := Lib.hid hov5
                have has := Lib.hid (asc_sorted HP.out)
                have hap := Lib.hid (asc_apart HP.out)
                clear hgt5 hov5 hgr
                go_wp2_with fail
                refine wp_region_steps (by kernel_rfl) (by kernel_rfl) rfl ?_
                simp only [List.map_cons, List.map_nil, stepOf, Oper.looksAt, gd, Op.operands, Call.operands, List.filterMap_cons, List.filterMap_nil, List.append_nil, List.append_toArray, List.cons_append, List.nil_append, List.toList_toArray, Option.map_some, Option.map_none, Option.bind_some, Option.toList, List.getElem?_toArray, List.getElem?_cons_succ, List.getElem?_cons_zero]
                iterate 4 (
                    apply sWalk_eq
                    · intro f W hW hE
                      have he := evalF_all f
                      simp only [EnvAt, slotP, Option.some.injEq, Nat.reduceEqDiff, reduceCtorEq, if_true, if_false, and_true, Array.getD_eq_getD_getElem?, List.getElem?_toArray, List.getElem?_cons_succ, List.getElem?_cons_zero, Option.getD_some] at hE
                      first
                        | exact stepOb_off (by first | exact hE | exact hE.2 | exact hE.2.2 | exact hE.2.2.2 | exact hE.2.2.2.2 | exact hE.2.2.2.2.2 | exact hE.2.2.2.2.2.2) (by decide)
                        | exact stepOb_undef (by first | exact hE | exact hE.2 | exact hE.2.2 | exact hE.2.2.2 | exact hE.2.2.2.2 | exact hE.2.2.2.2.2 | exact hE.2.2.2.2.2.2)
                        | (first | refine stepOb_plain ?_ | refine stepOb_on (by first | exact hE | exact hE.2 | exact hE.2.2 | exact hE.2.2.2 | exact hE.2.2.2.2 | exact hE.2.2.2.2.2 | exact hE.2.2.2.2.2.2) ?_ | (apply stepOb_gd2 (by first | exact hE | exact hE.2 | exact hE.2.2 | exact hE.2.2.2 | exact hE.2.2.2.2 | exact hE.2.2.2.2.2 | exact hE.2.2.2.2.2.2); intro hg hg2; (try simp only [hg, hg2, true_and, if_true, reduceCtorEq, if_false, Bool.not_eq_true] at hE)) | (apply stepOb_gd (by first | exact hE | exact hE.2 | exact hE.2.2 | exact hE.2.2.2 | exact hE.2.2.2.2 | exact hE.2.2.2.2.2 | exact hE.2.2.2.2.2.2); intro hg; (try simp only [hg, true_and, if_true, reduceCtorEq, if_false, Bool.not_eq_true] at hE))
                           first
                             | (with_reducible exact relUpon_or hE.1 hE.2)
                             | (with_reducible exact relUpon_and hE.1 hE.2)
                             | (with_reducible exact relUpon_or hE.1 hE.2.1)
                             | (with_reducible exact relUpon_and hE.1 hE.2.1)
                             | (simp only [bare]; go_simp; simp only [relUpon]; first | exact ⟨Gr.refl _, rfl⟩))
                    )
                refine sWalk_cons (fun v W => Recs W v L) (fun _ _ _ h hg => h.gr hg) ?_ ?_
                · intro f W hW hE
                  have he := evalF_all f
                  simp only [EnvAt, slotP, Option.some.injEq, Nat.reduceEqDiff, reduceCtorEq, if_true, if_false, and_true, Array.getD_eq_getD_getElem?, List.getElem?_toArray, List.getElem?_cons_succ, List.getElem?_cons_zero, Option.getD_some] at hE
                  refine stepOb_on hE.2 ?_
                  simp only [bare]
                  go_simp
                  simp only [relUpon]
                  refine ⟨Gr.refl _, Calls.mono (all_any L W1.heap.size G W (HG5.out.gr hW) (by omega) hap.out) ?_⟩
                  rintro e W' ⟨v', rfl, hg', hr'⟩
                  rw [has.out] at hr'
                  exact RetP.mk hg' (recs_owns hr')
                iterate 4 (
                    apply sWalk_eq
                    · intro f W hW hE
                      have he := evalF_all f
                      simp only [EnvAt, slotP, Option.some.injEq, Nat.reduceEqDiff, reduceCtorEq, if_true, if_false, and_true, Array.getD_eq_getD_getElem?, List.getElem?_toArray, List.getElem?_cons_succ, List.getElem?_cons_zero, Option.getD_some] at hE
                      have hcvW := hW.cell hcv5
                      first
                        | exact stepOb_off (by first | exact hE | exact hE.2 | exact hE.2.2 | exact hE.2.2.2 | exact hE.2.2.2.2 | exact hE.2.2.2.2.2 | exact hE.2.2.2.2.2.2) (by decide)
                        | exact stepOb_undef (by first | exact hE | exact hE.2 | exact hE.2.2 | exact hE.2.2.2 | exact hE.2.2.2.2 | exact hE.2.2.2.2.2 | exact hE.2.2.2.2.2.2)
                        | (first | refine stepOb_plain ?_ | refine stepOb_on (by first | exact hE | exact hE.2 | exact hE.2.2 | exact hE.2.2.2 | exact hE.2.2.2.2 | exact hE.2.2.2.2.2 | exact hE.2.2.2.2.2.2) ?_ | (apply stepOb_gd2 (by first | exact hE | exact hE.2 | exact hE.2.2 | exact hE.2.2.2 | exact hE.2.2.2.2 | exact hE.2.2.2.2.2 | exact hE.2.2.2.2.2.2); intro hg hg2; (try simp only [hg, hg2, true_and, if_true, reduceCtorEq, if_false, Bool.not_eq_true] at hE)) | (apply stepOb_gd (by first | exact hE | exact hE.2 | exact hE.2.2 | exact hE.2.2.2 | exact hE.2.2.2.2 | exact hE.2.2.2.2.2 | exact hE.2.2.2.2.2.2); intro hg; (try simp only [hg, true_and, if_true, reduceCtorEq, if_false, Bool.not_eq_true] at hE))
                           first
                             | (with_reducible exact relUpon_or hE.1 hE.2)
                             | (with_reducible exact relUpon_and hE.1 hE.2)
                             | (with_reducible exact relUpon_or hE.1 hE.2.1)
                             | (with_reducible exact relUpon_and hE.1 hE.2.1)
                             | (simp only [bare]; go_simp; simp only [relUpon]; first | exact ⟨Gr.refl _, rfl⟩))
                    )
                refine sWalk_eq (c := .bool true) ?_ ?_
                · intro f W hW hE
                  have he := evalF_all f
                  simp only [EnvAt, slotP, Option.some.injEq, Nat.reduceEqDiff, reduceCtorEq, if_true, if_false, and_true, Array.getD_eq_getD_getElem?, List.getElem?_toArray, List.getElem?_cons_succ, List.getElem?_cons_zero, Option.getD_some] at hE
                  obtain ⟨h1, h2, h3⟩ := hE
                  refine stepOb_on h3 ?_
                  have hsm := refSame_any L L _ _ W h1 (HV5.out.gr hW) (by omega)
                  rw [decide_eq_true rfl] at hsm
                  simp only [bare]
                  go_simp
                  simp only [relUpon]
                  exact ⟨Gr.refl _, hsm⟩
                repeat (
                    apply sWalk_eq
                    · intro f W hW hE
                      have he := evalF_all f
                      simp only [EnvAt, slotP, Option.some.injEq, Nat.reduceEqDiff, reduceCtorEq, if_true, if_false, and_true, Array.getD_eq_getD_getElem?, List.getElem?_toArray, List.getElem?_cons_succ, List.getElem?_cons_zero, Option.getD_some] at hE
                      first
                        | exact stepOb_off (by first | exact hE | exact hE.2 | exact hE.2.2 | exact hE.2.2.2 | exact hE.2.2.2.2 | exact hE.2.2.2.2.2 | exact hE.2.2.2.2.2.2) (by decide)
                        | exact stepOb_undef (by first | exact hE | exact hE.2 | exact hE.2.2 | exact hE.2.2.2 | exact hE.2.2.2.2 | exact hE.2.2.2.2.2 | exact hE.2.2.2.2.2.2)
                        | (first | refine stepOb_plain ?_ | refine stepOb_on (by first | exact hE | exact hE.2 | exact hE.2.2 | exact hE.2.2.2 | exact hE.2.2.2.2 | exact hE.2.2.2.2.2 | exact hE.2.2.2.2.2.2) ?_ | (apply stepOb_gd2 (by first | exact hE | exact hE.2 | exact hE.2.2 | exact hE.2.2.2 | exact hE.2.2.2.2 | exact hE.2.2.2.2.2 | exact hE.2.2.2.2.2.2); intro hg hg2; (try simp only [hg, hg2, true_and, if_true, reduceCtorEq, if_false, Bool.not_eq_true] at hE)) | (apply stepOb_gd (by first | exact hE | exact hE.2 | exact hE.2.2 | exact hE.2.2.2 | exact hE.2.2.2.2 | exact hE.2.2.2.2.2 | exact hE.2.2.2.2.2.2); intro hg; (try simp only [hg, true_and, if_true, reduceCtorEq, if_false, Bool.not_eq_true] at hE))
                           first
                             | (with_reducible exact relUpon_or hE.1 hE.2)
                             | (with_reducible exact relUpon_and hE.1 hE.2)
                             | (with_reducible exact relUpon_or hE.1 hE.2.1)
                             | (with_reducible exact relUpon_and hE.1 hE.2.1)
                             | (simp only [bare]; go_simp; simp only [relUpon]; first | exact ⟨Gr.refl _, rfl⟩ | (exact ⟨Gr.refl _, Ret.of_same ((great_nil _).mono fun _ _ h => ⟨h.1, h.2.symm⟩)⟩)))
                    )
                refine sWalk_nil (fun W hW => ?_)
                simp only [List.reverse_cons, List.reverse_nil, List.nil_append, List.cons_append, RelFin]
                iterate 15 (intro _ hx; clear hx)
                iterate 1 (rintro _ rfl)
                go_simp
                go_wp2
                go_ret
                exact ⟨rfl, hGr.trans hW⟩
          · exact absurd HP.out hn
        · have HP := Lib.hid hp
          clear hp
          go_wp2_with fail
          refine hrl.out.mono ?_
          rintro e W3 ⟨hG3, hres⟩
          rcases hres with ⟨hn, _⟩ | ⟨_, rfl⟩
          · exact absurd hn HP.out
          · have hG03 : Gr w W3 := hG02.trans hG3
            have hsame := refSame_any L L _ _ W3 (HRO.out.gr (hG2.trans hG3)) (HR.out.gr hG03) (by omega)
            rw [decide_eq_true rfl] at hsame
            have HSM := Lib.hid hsame
            clear hsame
            go_wp2_with fail
            refine Calls.mono HSM.out ?_
            rintro e W4 ⟨b4, rfl, hG4, rfl⟩
            have HO4 := Lib.hid (owns_gr HO.out ((hG2.trans hG3).trans hG4))
            go_wp2_with fail
            go_loopw [57] (fun i wr => ∃ k : Nat, k ≤ L.length ∧ i = .int .i64 k ∧ W4.grownBy wr (some g) ∧ ∃ xs, wr.ownsRow w.heap.size 31 52 (.slice (some ⟨g, 0, none⟩) L.length cap) L.length xs) (fun i _ => L.length - (intOf i).toNat)
            case atStart => exact ⟨0, Nat.zero_le _, rfl, World.grownBy.refl _ _, _, HO4.out⟩
            case round =>
              obtain ⟨k, hk, rfl, hgr, xs, hox⟩ := hrel
              by_cases hlt : k < L.length
              · have hj : k * 52 + 18 < L.length * 52 := by omega
                have hxl := hox.1
                obtain ⟨u0, hcl⟩ : ∃ u0, wr.cell? ⟨g, k * 52 + 18, none⟩ = some u0 := ⟨_, by rw [hox.cellAt (k * 52 + 18) hj, List.getElem?_eq_getElem (by omega)]⟩
                have hfz := hox.frozenAt (k * 52 + 18)
                have hst := hox.stored (k * 52 + 18) (.string ⟨#[120]⟩)
                have HST := Lib.hid hst
                have HGR := Lib.hid hgr
                clear hst hox hxl hgr
                go_wp2
                go_roundw
                case rel => exact ⟨k + 1, by omega, by simp, HGR.out.andThen HST.out.2 (fun j e => .inr e), _, HST.out.1⟩
                case measure => simp [intOf]; omega
              · obtain rfl : k = L.length := by omega
                have HOX := Lib.hid hox
                clear hox hk hlt
                have hGr : Gr w wr := Below.grown (hG03.trans hG4) hgr ((hG03.trans hG4).size) (fun j e => by cases e; exact hg1)
                go_wp2_with fail
                refine wp_region_steps (by kernel_rfl) (by kernel_rfl) rfl ?_
                simp only [List.map_cons, List.map_nil, stepOf, Oper.looksAt, gd, Op.operands, Call.operands, List.filterMap_cons, List.filterMap_nil, List.append_nil, List.append_toArray, List.cons_append, List.nil_append, List.toList_toArray, Option.map_some, Option.map_none, Option.bind_some, Option.toList, List.getElem?_toArray, List.getElem?_cons_succ, List.getElem?_cons_zero]
                repeat (
                    apply sWalk_eq
                    · intro f W hW hE
                      have he := evalF_all f
                      simp only [EnvAt, slotP, Option.some.injEq, Nat.reduceEqDiff, reduceCtorEq, if_true, if_false, and_true, Array.getD_eq_getD_getElem?, List.getElem?_toArray, List.getElem?_cons_succ, List.getElem?_cons_zero, Option.getD_some] at hE
                      first
                        | exact stepOb_off (by first | exact hE | exact hE.2 | exact hE.2.2 | exact hE.2.2.2 | exact hE.2.2.2.2 | exact hE.2.2.2.2.2 | exact hE.2.2.2.2.2.2) (by decide)
                        | exact stepOb_undef (by first | exact hE | exact hE.2 | exact hE.2.2 | exact hE.2.2.2 | exact hE.2.2.2.2 | exact hE.2.2.2.2.2 | exact hE.2.2.2.2.2.2)
                        | (first | refine stepOb_plain ?_ | refine stepOb_on (by first | exact hE | exact hE.2 | exact hE.2.2 | exact hE.2.2.2 | exact hE.2.2.2.2 | exact hE.2.2.2.2.2 | exact hE.2.2.2.2.2.2) ?_ | (apply stepOb_gd2 (by first | exact hE | exact hE.2 | exact hE.2.2 | exact hE.2.2.2 | exact hE.2.2.2.2 | exact hE.2.2.2.2.2 | exact hE.2.2.2.2.2.2); intro hg hg2; (try simp only [hg, hg2, true_and, if_true, reduceCtorEq, if_false, Bool.not_eq_true] at hE)) | (apply stepOb_gd (by first | exact hE | exact hE.2 | exact hE.2.2 | exact hE.2.2.2 | exact hE.2.2.2.2 | exact hE.2.2.2.2.2 | exact hE.2.2.2.2.2.2); intro hg; (try simp only [hg, true_and, if_true, reduceCtorEq, if_false, Bool.not_eq_true] at hE))
                           first
                             | (with_reducible exact relUpon_or hE.1 hE.2)
                             | (with_reducible exact relUpon_and hE.1 hE.2)
                             | (with_reducible exact relUpon_or hE.1 hE.2.1)
                             | (with_reducible exact relUpon_and hE.1 hE.2.1)
                             | (simp only [bare]; go_simp; simp only [relUpon]; first | exact ⟨Gr.refl _, rfl⟩))
                    )
                refine sWalk_nil (fun W hW => ?_)
                simp only [List.reverse_cons, List.reverse_nil, List.nil_append, List.cons_append, RelFin]
                iterate 15 (intro _ hx; clear hx)
                iterate 1 (rintro _ rfl)
                go_simp
                go_wp2
                go_ret
                exact ⟨rfl, hGr.trans hW⟩
end

end Go.Proofs.YtjngckeeoohegaaDoor
