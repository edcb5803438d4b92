/- Sorting records by their dots; gate.All. -/
import Derived.Test.YtjngckeeoohegaaDoorCollect
import Derived.Test.YtjngckeeoohegaaDoorSort
import Derived.Test.YtjngckeeoohegaaDoorShelfS
namespace Go.Proofs.YtjngckeeoohegaaDoor
open Go.RowKit Go.Rel Go.Shelf Go.Sort

theorem flatMap_at {α : Type} (enc : α → List Value) (k : Nat) (hk : ∀ x, (enc x).length = k) : ∀ (L : List α) (i j : Nat) (hi : i < L.length) (_ : j < k), (L.flatMap enc)[i * k + j]? = (enc L[i])[j]?
  | x :: L, 0, j, _, hj => by
    rw [List.flatMap_cons, List.getElem?_append_left (by rw [hk]; omega)]; simp
  | x :: L, i + 1, j, hi, hj => by
    rw [List.flatMap_cons, List.getElem?_append_right (by rw [hk, Nat.add_mul]; omega), hk]
    have e : (i + 1) * k + j - k = i * k + j := by rw [Nat.add_mul]; omega
    rw [e]
    exact flatMap_at enc k hk L i j (by simpa using hi) hj

theorem length_flatMap {α : Type} (enc : α → List Value) (k : Nat) (hk : ∀ x, (enc x).length = k) : ∀ (L : List α), (L.flatMap enc).length = L.length * k
  | [] => by simp
  | x :: L => by rw [List.flatMap_cons, List.length_append, hk, length_flatMap enc k hk L, List.length_cons, Nat.add_mul]; omega

theorem flatK_eq {α : Type} [Inhabited α] (enc : α → List Value) (k : Nat) (h0 : 0 < k) (hk : ∀ x, (enc x).length = k) (d : Array α) : flatK enc k d = (d.toList.flatMap enc).toArray := by
  apply Array.ext
  · rw [size_flatK]; simp only [List.size_toArray]; rw [length_flatMap enc k hk]; simp
  · intro i h1 h2
    rw [size_flatK] at h1
    have hd : i / k < d.size := (Nat.div_lt_iff_lt_mul h0).2 h1
    have hm : i % k < k := Nat.mod_lt _ h0
    have h3 := flatMap_at enc k hk d.toList (i / k) (i % k) (by simpa using hd) hm
    have e : i / k * k + i % k = i := by rw [Nat.mul_comm]; exact Nat.div_add_mod i k
    rw [e] at h3
    have h4 := get_flatK enc k d i h1
    rw [getElem!_pos _ _ (by rw [size_flatK]; exact h1), getElem!_pos d _ hd, getElem!_pos _ _ (by rw [hk]; exact hm)] at h4
    rw [h4]
    have h5 : (d.toList.flatMap enc)[i]? = some (d.toList.flatMap enc)[i] := List.getElem?_eq_getElem (by simpa using h2)
    rw [h5] at h3
    have h6 : (enc d.toList[i / k])[i % k]? = some ((enc d.toList[i / k])[i % k]'(by rw [hk]; exact hm)) := List.getElem?_eq_getElem (by rw [hk]; exact hm)
    rw [h6] at h3
    simpa using (Option.some.inj h3).symm

/-- Records in the order of their dots. -/
def dotSort (M : List Rec) : List Rec := M.mergeSort fun x y => !decide (dotCmp y.site y.cnt x.site x.cnt < 0)
theorem dotSort_perm (M : List Rec) : (dotSort M).Perm M := List.mergeSort_perm _ _
theorem dotSort_length (M : List Rec) : (dotSort M).length = M.length := (dotSort_perm M).length_eq

theorem attach_sort (M : List Rec) : ((M.attach.mergeSort fun x y => !(ltOf (dotR (L := M))) y x)).map Subtype.val = dotSort M := by
  unfold dotSort
  rw [List.map_mergeSort (s := fun x y => !decide (dotCmp y.site y.cnt x.site x.cnt < 0))]
  · simp
  · intro a _ b _; rfl

/-- What sorting comes to. -/
def Sorted (base : Nat) (v : Value) (M : List Rec) (w : World) (e : Ending) (w' : World) : Prop := e = .returned (.tuple #[]) ∧ Below base w w' ∧ w'.ownsRow base 31 52 v M.length ((dotSort M).flatMap recCells)

theorem enters_byDot : ∀ args w, (callFunc 9 args).run Tryd.prog w = .ok (.enter 9 args) w := enters_of Tryd.func9 (by kernel_rfl) rfl

theorem sort_none (p : Option Addr) (cap : Nat) (base : Nat) (w : World) (h : w.ownsRow base 31 52 (.slice p 0 cap) 0 []) :
    Calls Tryd.prog 20 #[.slice p 0 cap, .func (.func 9) #[] #[]] w (Sorted base (.slice p 0 cap) [] w) :=
  (AnyF.slices_SortFunc_none Tryd.sortRecord p cap _ w).mono fun e w' ⟨he, hw⟩ => ⟨he, by rw [hw]; exact Below.refl _ _, by rw [hw]; simpa [dotSort] using h⟩

theorem sort_some (M : List Rec) (h0 : 0 < M.length) (g cap : Nat) (cur : Array Value) (base : Nat) (w : World) (hb : base ≤ g) (hh : w.heap[g]? = some (.cells cur 31 (0, 0))) (hn : M.length ≤ cap) (hcap : cap ≤ maxLen) (hsz : cur.size = cap * 52)
    (htk : cur.toList.take (M.length * 52) = M.flatMap recCells) (hap : Apart M) (hlen : M.length ≤ 1000000) :
    Calls Tryd.prog 20 #[.slice (some ⟨g, 0, none⟩) M.length cap, .func (.func 9) #[] #[]] w (Sorted base (.slice (some ⟨g, 0, none⟩) M.length cap) M w) := by
  have inst : Inhabited {x : Rec // x ∈ M} := ⟨⟨M[0], List.getElem_mem h0⟩⟩
  have hgl : g < w.heap.size := (Array.getElem?_eq_some_iff.1 hh).1
  have hsize : M.attach.toArray.size = M.length := by simp
  have hfl : ∀ (D : Array {x : Rec // x ∈ M}), flatK (fun x : {x : Rec // x ∈ M} => recCells x.1) 52 D = ((D.toList.map Subtype.val).flatMap recCells).toArray := fun D => by
    rw [flatK_eq (fun x : {x : Rec // x ∈ M} => recCells x.1) 52 (by omega) (fun x => length_recCells x.1) D, List.flatMap_map]
  have hH : HoldsK (fun x : {x : Rec // x ∈ M} => recCells x.1) 52 w g 0 M.attach.toArray := by
    intro j hj
    rw [size_flatK, hsize] at hj
    have e1 : flatK (fun x : {x : Rec // x ∈ M} => recCells x.1) 52 M.attach.toArray = (M.flatMap recCells).toArray := by rw [hfl]; simp
    refine ⟨?_, by unfold World.frozen?; simp [hh]⟩
    rw [e1, getElem!_pos _ _ (by simp [length_flatMap recCells 52 length_recCells]; omega)]
    rw [Nat.zero_add, cell_of_row w g j _ _ _ hh]
    have h3 : (cur.toList.take (M.length * 52))[j]? = cur.toList[j]? := by rw [List.getElem?_take, if_pos (by omega)]
    rw [htk] at h3
    have hjl : j < (M.flatMap recCells).length := by rw [length_flatMap recCells 52 length_recCells]; omega
    have h4 : (M.flatMap recCells)[j]? = some (M.flatMap recCells)[j] := List.getElem?_eq_getElem hjl
    rw [h4] at h3
    simp only [id_eq, List.getElem_toArray]
    rw [← Array.getElem?_toList]; exact h3.symm
  have key := AnyQ.slices_SortFunc_total Tryd.sortRecord 52 (fun w => by kernel_rfl) (fun w => by kernel_rfl) (fun x : {x : Rec // x ∈ M} => recCells x.1) (fun x => length_recCells x.1) (fun x => rec_one x.1) dotR swo_dot 9 #[] g 0 cap M.attach.toArray w
    enters_byDot (cmp_lays g 0 M.attach.toArray.size w) hH hgl (by rw [hsize]; omega) (tot_dot hap)
  rw [hsize] at key
  refine key.mono ?_
  rintro e w' ⟨he, n, os, hw⟩
  rw [List.toList_toArray] at hw
  have hput : (putRowK (fun x : {x : Rec // x ∈ M} => recCells x.1) 52 (Sort.ahead w n) g 0 (M.attach.mergeSort fun x y => !(ltOf (dotR (L := M))) y x).toArray).heap[g]? = some (.cells (putCells id 0 ((dotSort M).flatMap recCells).toArray cur) 31 (0, 0)) := by
    unfold putRowK
    rw [hfl, List.toList_toArray, attach_sort]
    unfold putRow mapBlock Sort.ahead
    simp only [Array.getElem?_modify, if_true, hh, Option.map_some, onCells]
  have hlenD : ((dotSort M).flatMap recCells).length = M.length * 52 := by rw [length_flatMap recCells 52 length_recCells, dotSort_length]
  refine ⟨he, ?_, hlenD, .inr ⟨g, cap, putCells id 0 ((dotSort M).flatMap recCells).toArray cur, rfl, hb, ?_, hn, hcap, ?_, ?_⟩⟩
  · rw [hw]
    refine ⟨rfl, rfl, rfl, ?_, fun k hk => ?_⟩
    · show w.heap.size ≤ (_ ++ os).size
      simp [putRowK, putRow, mapBlock, Sort.ahead]
    · unfold sortWorldK
      rw [heap_grow_old _ _ (by simp [putRowK, Sort.ahead]; omega)]
      unfold putRowK putRow mapBlock Sort.ahead
      simp only
      rw [Array.getElem?_modify, if_neg (by omega)]
  · rw [hw]
    unfold sortWorldK
    rw [heap_grow_old _ _ (by simp [putRowK, Sort.ahead]; omega)]
    exact hput
  · simp [putCells, hsz]
  · apply List.ext_getElem?
    intro i
    rw [List.getElem?_take]
    split
    · rename_i hi
      have hic : i < cur.size := by rw [hsz]; have := Nat.mul_le_mul_right 52 hn; omega
      have hii : i < ((dotSort M).flatMap recCells).length := by rw [hlenD]; exact hi
      simp only [putCells, Array.getElem?_toList, Array.getElem?_mapIdx, Array.getElem?_eq_getElem hic, Option.map_some]
      rw [if_pos ⟨Nat.zero_le _, by simp only [List.size_toArray]; omega⟩, List.getElem?_eq_getElem hii]
      simp only [Nat.sub_zero, id_eq]
      rw [getElem!_pos _ _ (by simpa using hii)]; simp
    · rename_i hi
      rw [List.getElem?_eq_none (by rw [hlenD]; omega)]

theorem sort_any (M : List Rec) (v : Value) (base : Nat) (w : World) (hv : w.ownsRow base 31 52 v M.length (M.flatMap recCells)) (hap : Apart M) (hlen : M.length ≤ 1000000) :
    Calls Tryd.prog 20 #[v, .func (.func 9) #[] #[]] w (Sorted base v M w) := by
  cases M with
  | nil =>
    rcases hv.2 with ⟨rfl, _⟩ | ⟨g, cap, cur, rfl, _⟩
    · exact sort_none _ _ base w hv
    · exact sort_none _ _ base w hv
  | cons x M =>
    rcases hv.2 with ⟨_, h⟩ | ⟨g, cap, cur, rfl, hb, hh, hn, hcap, hsz, htk⟩
    · cases h
    · exact sort_some (x :: M) (by simp) g cap cur base w hb hh hn hcap hsz htk hap hlen

def dotLe (x y : Rec) : Bool := !decide (dotCmp y.site y.cnt x.site x.cnt < 0)
theorem dotLe_iff (x y : Rec) : dotLe x y = true ↔ x.site < y.site ∨ x.site = y.site ∧ x.cnt ≤ y.cnt := by
  unfold dotLe
  simp only [Bool.not_eq_true', decide_eq_false_iff_not, dotCmp_lt]
  omega
theorem dotSort_sorted (M : List Rec) : (dotSort M).Pairwise (fun x y => dotLe x y = true) := by
  refine List.pairwise_mergeSort (le := dotLe) (fun a b c h1 h2 => ?_) (fun a b => ?_) M
  · rw [dotLe_iff] at *; omega
  · rw [Bool.or_eq_true, dotLe_iff, dotLe_iff]; omega
theorem dotSort_eq {M L : List Rec} (hp : M.Perm L) (hap : Apart L) : dotSort M = dotSort L := by
  refine List.Perm.eq_of_pairwise ?_ (dotSort_sorted M) (dotSort_sorted L) (((dotSort_perm M).trans hp).trans (dotSort_perm L).symm)
  intro a b ha hb h1 h2
  rw [dotLe_iff] at h1 h2
  exact hap a (hp.mem_iff.1 ((dotSort_perm M).mem_iff.1 ha)) b ((dotSort_perm L).mem_iff.1 hb) (by omega) (by omega)
theorem dotSort_of {L : List Rec} (h : L.Pairwise (fun x y => dotLe x y = true)) : dotSort L = L := List.mergeSort_of_pairwise (le := dotLe) h
theorem Apart.perm {M L : List Rec} (hap : Apart L) (hp : M.Perm L) : Apart M := fun x hx y hy => hap x (hp.mem_iff.1 hx) y (hp.mem_iff.1 hy)

theorem owns_base {w : World} {base base' : Nat} {e : TypeId} {size : Nat} {v : Value} {n : Nat} {xs : List Value} (h : w.ownsRow base e size v n xs) (hb : base' ≤ base) : w.ownsRow base' e size v n xs := by
  refine ⟨h.1, ?_⟩
  rcases h.2 with h2 | ⟨g, cap, cur, h1, h2, h3⟩
  · exact .inl h2
  · exact .inr ⟨g, cap, cur, h1, Nat.le_trans hb h2, h3⟩

/-- A fresh row of records in the order of their dots. -/
def Alled (w : World) (L : List Rec) (e : Ending) (W : World) : Prop := ∃ v, e = .returned v ∧ Gr w W ∧ W.ownsRow w.heap.size 31 52 v L.length ((dotSort L).flatMap recCells)

set_option maxRecDepth 100000 in
set_option maxHeartbeats 1000000 in
theorem sorted_any (gf : Nat) (lb : Array Value) (L : List Rec) (hL : L.length ≤ 1000000) (hap : Apart L) (w : World) (eg : ∀ args w, (callFunc gf args).run Tryd.prog w = .ok (.enter gf args) w) (hseq : ∀ w', Gr w w' → StopsW Tryd.prog gf lb encRec L w') :
    Calls Tryd.prog 13 #[.func (.func gf) #[] lb, .func (.func 9) #[] #[]] w (Alled w L) := by
  have H := Lib.hid (collect_any gf lb L hL w eg hseq)
  clear hseq eg
  go_enter Tryd.func13, Tryd.ntmps13
  go_wp2_with fail
  refine H.out.mono ?_
  rintro e W ⟨M, v, rfl, hp, hg, hr⟩
  have hlen := hp.length_eq
  have H2 := Lib.hid (sort_any M v w.heap.size W hr (hap.perm hp) (by omega))
  have HP := Lib.hid hp
  clear hr hp H hlen
  go_wp2_with fail
  refine H2.out.mono ?_
  rintro e W2 ⟨rfl, hb, hr2⟩
  go_wp2
  go_ret
  refine ⟨v, rfl, Below.trans hg hb, ?_⟩
  rw [← dotSort_eq HP.out hap, ← HP.out.length_eq]
  exact hr2

set_option maxRecDepth 100000 in
set_option maxHeartbeats 1000000 in
theorem values_any (m : Option Nat) (w : World) : Calls Tryd.prog 14 #[.map m] w fun e w' =>
    e = .returned (.func (.func 21) #[] #[.pointer (some ⟨w.heap.size, 0, none⟩)]) ∧ w' = w.alloc (.cells #[.map m] 45) := by
  go_enter Tryd.func14, Tryd.ntmps14
  go_wp2
  go_ret
  exact ⟨rfl, rfl⟩

theorem mapAt_gr {w w' : World} {m : Option Nat} {l : List (Rec × Nat)} {clock : Nat} (h : MapAt w m l clock) (hg : Gr w w') : MapAt w' m l clock := by
  rcases h with h | ⟨b, h1, h2, h3⟩
  · exact .inl h
  · exact .inr ⟨b, h1, hg.heap h2, h3⟩

theorem gate_map {w : World} {base G : Nat} {L : List Rec} (h : GateAt w base G L) : ∃ m, w.cell? ⟨G, 0, none⟩ = some (.map m) ∧ MapAt w m L.zipIdx L.length := by
  rcases h.2.2 with ⟨rfl, hc⟩ | ⟨r, _, hc, hm⟩
  · exact ⟨none, hc, .inl ⟨rfl, rfl⟩⟩
  · refine ⟨some r, hc, .inr ⟨r, rfl, hm, ?_, fun e he => ?_⟩⟩
    · rw [List.zipIdx_map_snd]; exact List.nodup_range'
    · have := List.mem_zipIdx he
      omega

theorem fst_zipIdx (L : List Rec) : L.zipIdx.map (·.1) = L := List.zipIdx_map_fst _ _

set_option maxRecDepth 100000 in
set_option maxHeartbeats 1000000 in
theorem all_any (L : List Rec) (base G : Nat) (w : World) (hG : GateAt w base G L) (hL : L.length ≤ 1000000) (hap : Apart L) :
    Calls Tryd.prog 7 #[.pointer (some ⟨G, 0, none⟩)] w (Alled w L) := by
  obtain ⟨m, hc, hm⟩ := gate_map hG
  have HM := Lib.hid hm
  clear hG hm
  go_enter Tryd.func7, Tryd.ntmps7
  go_wp2_with fail
  refine (values_any m _).mono ?_
  rintro e w1 ⟨rfl, rfl⟩
  go_wp2_with fail
  have hga := Gr.alloc (Gr.refl w) (.cells #[.map m] 45)
  have hbox : (w.alloc (.cells #[.map m] 45)).cell? ⟨w.heap.size, 0, none⟩ = some (.map m) := cell_of_heap (Go.heap_alloc_new w _) rfl
  refine Calls.mono (sorted_any _ _ L hL hap _ (enters_of Tryd.func21 (by kernel_rfl) rfl) (fun w' hw' => ?_)) ?_
  · have := values_stops w.heap.size m L.zipIdx L.length w' (hw'.cell hbox) (mapAt_gr HM.out (hga.trans hw'))
    rwa [fst_zipIdx] at this
  · rintro e W ⟨v, rfl, hg, hr⟩
    go_wp2
    go_ret
    refine ⟨v, rfl, hga.trans hg, ?_⟩
    exact owns_base hr (by simp)

end Go.Proofs.YtjngckeeoohegaaDoor
