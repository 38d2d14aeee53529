/- slices.SortFunc of labels, by the kit's contract, carried over to what is owned. -/
import Derived.Test.YtbidjnjbiibdeaaDoorChecked
import Derived.Test.YtbidjnjbiibdeaaDoorLbW7
import Derived.Shelf.SlSortCmp.NoneTotal
import Derived.Shelf.SlicesG.Cmp
import Derived.Ground.SlsfProg
import Derived.Ground.SlgcProg
import Derived.WalkKit
set_option linter.unusedVariables false
set_option linter.unusedSimpArgs false
namespace Go.Proofs
open Go.Shelf Go.RowKit Go.Lib Go.Sort
def Tryd.sortL_ren : Go.Shelf.Ren := ⟨fun | 6 => 79 | 15 => 98 | 14 => 97 | 28 => 120 | 29 => 121 | 20 => 112 | 21 => 113 | 22 => 114 | 23 => 115 | 24 => 116 | 25 => 117 | 26 => 118 | 27 => 119 | 46 => 139 | 47 => 140 | 48 => 141 | 49 => 142 | 50 => 143 | 57 => 155 | n => n, fun | 22 => 61 | 24 => 24 | 25 => 33 | 3 => 3 | 39 => 94 | 0 => 0 | 53 => 118 | 55 => 22 | 4 => 4 | 46 => 111 | 45 => 110 | 50 => 115 | 5 => 5 | 9 => 9 | 66 => 137 | 70 => 141 | 76 => 150 | 77 => 151 | n => n, fun | n => n⟩
theorem Tryd.sortL : Go.Proofs.SlLaysF0.n6 Tryd.prog Tryd.sortL_ren := {
  mixed := by kernel_rfl
  f6 := ⟨Tryd.f79.name, by decide, Tryd.func79.trans (congrArg some (by kernel_rfl))⟩
  f14 := ⟨Tryd.f97.name, by decide, Tryd.func97.trans (congrArg some (by kernel_rfl))⟩
  f15 := Tryd.func98.trans (congrArg some (by kernel_rfl))
  f20 := ⟨Tryd.f112.name, by decide, Tryd.func112.trans (congrArg some (by kernel_rfl))⟩
  f21 := ⟨Tryd.f113.name, by decide, Tryd.func113.trans (congrArg some (by kernel_rfl))⟩
  f22 := ⟨Tryd.f114.name, by decide, Tryd.func114.trans (congrArg some (by kernel_rfl))⟩
  f23 := ⟨Tryd.f115.name, by decide, Tryd.func115.trans (congrArg some (by kernel_rfl))⟩
  f24 := ⟨Tryd.f116.name, by decide, Tryd.func116.trans (congrArg some (by kernel_rfl))⟩
  f25 := ⟨Tryd.f117.name, by decide, Tryd.func117.trans (congrArg some (by kernel_rfl))⟩
  f26 := ⟨Tryd.f118.name, by decide, Tryd.func118.trans (congrArg some (by kernel_rfl))⟩
  f27 := ⟨Tryd.f119.name, by decide, Tryd.func119.trans (congrArg some (by kernel_rfl))⟩
  f28 := Tryd.func120.trans (congrArg some (by kernel_rfl))
  f29 := Tryd.func121.trans (congrArg some (by kernel_rfl))
  f46 := ⟨Tryd.f139.name, by decide, Tryd.func139.trans (congrArg some (by kernel_rfl))⟩
  f47 := Tryd.func140.trans (congrArg some (by kernel_rfl))
  f48 := Tryd.func141.trans (congrArg some (by kernel_rfl))
  f49 := ⟨Tryd.f142.name, by decide, Tryd.func142.trans (congrArg some (by kernel_rfl))⟩
  f50 := ⟨Tryd.f143.name, by decide, Tryd.func143.trans (congrArg some (by kernel_rfl))⟩
  f57 := ⟨Tryd.f155.name, by decide, Tryd.func155.trans (congrArg some (by kernel_rfl))⟩
  t0 := Tryd.underlying0
  a0 := Tryd.isAgg0
  z0 := Tryd.sizeOf0
  v0 := Tryd.zeroValue0
  t3 := Tryd.underlying3
  a3 := Tryd.isAgg3
  z3 := Tryd.sizeOf3
  v3 := Tryd.zeroValue3
  t4 := Tryd.underlying4
  a4 := Tryd.isAgg4
  z4 := Tryd.sizeOf4
  v4 := Tryd.zeroValue4
  t5 := Tryd.underlying5
  a5 := Tryd.isAgg5
  z5 := Tryd.sizeOf5
  v5 := Tryd.zeroValue5
  t9 := Tryd.underlying9
  a9 := Tryd.isAgg9
  z9 := Tryd.sizeOf9
  v9 := Tryd.zeroValue9
  t22 := Tryd.underlying61
  a22 := Tryd.isAgg61
  z22 := Tryd.sizeOf61
  v22 := Tryd.zeroValue61
  t25 := Tryd.underlying33
  a25 := Tryd.isAgg33
  z25 := Tryd.sizeOf33
  v25 := Tryd.zeroValue33
  t39 := Tryd.underlying94
  a39 := Tryd.isAgg94
  z39 := Tryd.sizeOf94
  v39 := Tryd.zeroValue94
  t45 := Tryd.underlying110
  a45 := Tryd.isAgg110
  z45 := Tryd.sizeOf110
  v45 := Tryd.zeroValue110
  t46 := Tryd.underlying111
  a46 := Tryd.isAgg111
  z46 := Tryd.sizeOf111
  v46 := Tryd.zeroValue111
  t50 := Tryd.underlying115
  a50 := Tryd.isAgg115
  z50 := Tryd.sizeOf115
  v50 := Tryd.zeroValue115
  t53 := Tryd.underlying118
  a53 := Tryd.isAgg118
  z53 := Tryd.sizeOf118
  v53 := Tryd.zeroValue118
  t55 := Tryd.underlying22
  a55 := Tryd.isAgg22
  z55 := Tryd.sizeOf22
  v55 := Tryd.zeroValue22
  t66 := Tryd.underlying137
  a66 := Tryd.isAgg137
  z66 := Tryd.sizeOf137
  v66 := Tryd.zeroValue137
  t70 := Tryd.underlying141
  a70 := Tryd.isAgg141
  z70 := Tryd.sizeOf141
  v70 := Tryd.zeroValue141
  t76 := Tryd.underlying150
  a76 := Tryd.isAgg150
  z76 := Tryd.sizeOf150
  v76 := Tryd.zeroValue150
  t77 := Tryd.underlying151
  a77 := Tryd.isAgg151
  z77 := Tryd.sizeOf151
  v77 := Tryd.zeroValue151 }
end Go.Proofs
namespace Go.SL
open Go.RowKit
theorem grow_of {w w' : World} (h : Below w.heap.size w w') (hd : w.drawn ≤ w'.drawn) : ∃ q os', w' = Go.Sort.grow (w.drewN q) os' := by
  refine ⟨w'.drawn - w.drawn, w'.heap.extract w.heap.size w'.heap.size, ?_⟩
  have e : w'.heap = w.heap ++ w'.heap.extract w.heap.size w'.heap.size := by
    apply Array.ext_getElem?
    intro i
    rw [Array.getElem?_append]
    split
    · rename_i hi; exact h.block i hi
    · rename_i hi
      rw [Array.getElem?_extract]
      have := h.size
      split
      · congr 1; omega
      · rw [Array.getElem?_eq_none (by omega)]
  obtain ⟨heap, tape, drawn, os, output⟩ := w
  obtain ⟨heap', tape', drawn', os', output'⟩ := w'
  obtain ⟨h1, h2, h3, h4, h5⟩ := h
  simp only at *
  subst h1 h2 h3
  simp only [Go.Sort.grow, World.drewN, World.mk.injEq, true_and, and_true]
  exact ⟨e, by omega⟩
section
variable {α : Type} [Inhabited α]
theorem flat_get {enc : α → List Value} {k : Nat} (hk : ∀ x, (enc x).length = k) : ∀ (l : List α) (t : Nat), t < l.length * k → (l.flatMap enc)[t]? = (enc l[t / k]!)[t % k]?
  | [], t, h => by simp at h
  | x :: l, t, h => by
    have h' : t < l.length * k + k := by simpa [Nat.add_mul] using h
    have k0 : 0 < k := by exact Nat.pos_of_ne_zero fun e => by subst e; simp at h
    rw [List.flatMap_cons]
    rcases Nat.lt_or_ge t k with a | a
    · rw [List.getElem?_append_left (by rw [hk]; exact a), Nat.div_eq_of_lt a, Nat.mod_eq_of_lt a]; simp
    · obtain ⟨u, rfl⟩ : ∃ u, t = u + k := ⟨t - k, by omega⟩
      rw [List.getElem?_append_right (by rw [hk]; omega), hk, Nat.add_sub_cancel, flat_get hk l u (by omega), Nat.add_div_right _ k0, Nat.add_mod_right]
      simp
theorem flatK_list {enc : α → List Value} {k : Nat} (hk : ∀ x, (enc x).length = k) (d : Array α) : (Go.Sort.flatK enc k d).toList = d.toList.flatMap enc := by
  apply List.ext_getElem?
  intro t
  by_cases ht : t < d.size * k
  · have k0 : 0 < k := by exact Nat.pos_of_ne_zero fun e => by subst e; simp at ht
    rw [flat_get hk _ _ (by simpa using ht)]
    have h1 := Go.Sort.get_flatK enc k d t ht
    have hs : t < (Go.Sort.flatK enc k d).size := by simpa using ht
    have hm : t % k < (enc d[t / k]!).length := by rw [hk]; exact Nat.mod_lt _ k0
    rw [getElem!_pos (Go.Sort.flatK enc k d) t hs, getElem!_pos (enc d[t / k]!) (t % k) hm] at h1
    have e2 : d.toList[t / k]! = d[t / k]! := by
      have : t / k < d.size := Nat.div_lt_of_lt_mul (by rwa [Nat.mul_comm] at ht)
      rw [getElem!_pos d.toList _ (by simpa using this), getElem!_pos d _ this]; simp
    rw [e2, List.getElem?_eq_getElem hm, ← h1]
    simp [hs]
  · rw [List.getElem?_eq_none (by simp; omega), List.getElem?_eq_none]
    rw [List.length_flatMap, show (List.map (fun a => (enc a).length) d.toList) = List.replicate d.size k from by simp only [hk]; rw [List.map_const']; simp]
    simp; omega
theorem Rep.sorted {w0 w : World} {S : SS} {k E sz blk cap n : Nat} {os : Array Obj} {enc : α → List Value} (hk : ∀ x, (enc x).length = sz) {d d' : Array α} (h : Rep w0 S w) (hs : S[k]? = some [(blk, .cells (d.toList.flatMap enc) E (cap * sz))]) (hd : d'.size = d.size)
    (hc : d.size ≤ cap) : Rep w0 (S.set k [(blk, .cells (d'.toList.flatMap enc) E (cap * sz))]) (Go.Proofs.sortWorldK enc sz w blk 0 n d' os) := by
  obtain ⟨hge, C, hC, htot, hpre⟩ := h.own (blk, .cells (d.toList.flatMap enc) E (cap * sz)) (List.mem_flatten.2 ⟨_, List.mem_of_getElem? hs, by simp⟩)
  have hlt : blk < w.heap.size := h.lt (List.mem_flatten.2 ⟨_, List.mem_of_getElem? hs, List.mem_singleton.2 rfl⟩)
  have hheap : ∀ i, i < w.heap.size → i ≠ blk → (Go.Proofs.sortWorldK enc sz w blk 0 n d' os).heap[i]? = w.heap[i]? := by
    intro i hi hne
    show (w.heap.modify blk _ ++ os)[i]? = _
    rw [Array.getElem?_append, if_pos (by simpa using hi), Array.getElem?_modify, if_neg (Ne.symm hne)]
  have hnew : (Go.Proofs.sortWorldK enc sz w blk 0 n d' os).heap[blk]? = some (.cells (Go.Sort.putCells id 0 (Go.Sort.flatK enc sz d') C) E (0, 0)) := by
    show (w.heap.modify blk _ ++ os)[blk]? = _
    rw [Array.getElem?_append, if_pos (by simpa using hlt), Array.getElem?_modify, if_pos rfl, hC]
    rfl
  refine h.replace hs ?_ (fun i hi hne => hheap i hi (by simpa using hne)) (by simp) ?_ (Nat.le_add_right _ _)
  · refine ⟨rfl, rfl, rfl, ?_, fun i hi => hheap i (by omega) (by omega)⟩
    show _ ≤ (w.heap.modify blk _ ++ os).size
    simp
  · intro p hp
    simp only [List.mem_singleton] at hp
    subst hp
    refine ⟨hge, ⟨_, hnew, ?_, ?_⟩, .inl (by simp)⟩
    · rw [← htot]; simp [Go.Sort.putCells]
    · have hsz : (d'.toList.flatMap enc).length = d.size * sz := by
        rw [← flatK_list hk, Array.length_toList, Go.Sort.size_flatK, hd]
      have hcs : d.size * sz ≤ C.size := by rw [htot]; exact Nat.mul_le_mul_right _ hc
      rw [hsz, ← flatK_list hk]
      apply List.ext_getElem?
      intro t
      rw [List.getElem?_take]
      split
      · rename_i ht
        have hF : t < (Go.Sort.flatK enc sz d').size := by simpa [hd] using ht
        have hF' : t < d'.size * sz := by simpa using hF
        rw [Array.getElem?_toList, Array.getElem?_toList]
        simp only [Go.Sort.putCells, Array.getElem?_mapIdx]
        rw [Array.getElem?_eq_getElem (by omega : t < C.size), Array.getElem?_eq_getElem hF]
        simp [getElem!_pos (Go.Sort.flatK enc sz d') t hF, hF']
      · rename_i ht
        rw [List.getElem?_eq_none (by simp [hd]; omega)]
end
end Go.SL
namespace Go.Proofs
open Go.SL Go.RowKit Go.Sort
def labC (a : LabB) : List Value := [.int .i64 a.1, .int .u64 (a.2.toNat : Int)]
def sortL (l : List LabB) : List LabB := l.mergeSort fun x y => !(ltOf orZ) y x
theorem ltOf_orZ (a b : LabB) : ltOf orZ a b = decide (a.1 < b.1 ∨ (a.1 = b.1 ∧ a.2.toNat < b.2.toNat)) := by
  unfold ltOf orZ cmpI
  rw [decide_eq_decide]
  repeat' split
  all_goals omega
theorem orZ_swo : SWO (ltOf orZ) where
  irrefl x := by rw [ltOf_orZ]; simp
  trans x y z h1 h2 := by rw [ltOf_orZ, decide_eq_true_eq] at *; omega
  ntrans x y z h1 h2 := by rw [ltOf_orZ, decide_eq_false_iff_not] at *; omega
theorem orZ_tot (x y : LabB) (h1 : ltOf orZ x y = false) (h2 : ltOf orZ y x = false) : x = y := by
  rw [ltOf_orZ, decide_eq_false_iff_not] at h1 h2
  exact Prod.ext (by omega) (BitVec.eq_of_toNat_eq (by omega))
theorem labC_len (x : LabB) : (labC x).length = 2 := rfl
theorem order_lays (blk off size : Nat) (w : World) : CmpLays Tryd.prog 25 #[] labC 2 orZ blk off size w := by
  intro m os dk hs x y
  refine (order_l (a := x) (b := y) (S := []) _ (Rep.start _)).mono ?_
  rintro e w' ⟨u, S', rfl, hr, rfl, rfl⟩
  refine ⟨rfl, grow_of hr.below (hr.drawn.resolve_left ?_)⟩
  unfold Loose
  exact id
theorem sort_fc {w0 : World} {S : SS} {k : Nat} {v : Value} {seg : Seg} {l : List LabB} (hs : S[k]? = some seg) (hv : SlV 24 2 v l.length (l.flatMap labC) seg) (hm : l.length < 4611686018427387904) :
    FC Tryd.prog w0 79 [v, .func (.func 25) #[] #[]] S (fun u S' => u = .tuple #[] ∧ ∃ seg', SlV 24 2 v l.length ((sortL l).flatMap labC) seg' ∧ S' = S.set k seg') := by
  intro w hr
  obtain ⟨hl, ⟨rfl, h0, rfl⟩ | ⟨r, cap, rfl, rfl, h1, h2⟩⟩ := hv
  · obtain rfl : l = [] := List.length_eq_zero_iff.1 h0
    refine (AnyF.slices_SortFunc_none Tryd.sortL none 0 _ w).mono ?_
    rintro e w' ⟨rfl, rfl⟩
    have e0 : sortL [] = [] := by simp [sortL]
    rw [e0]
    refine ⟨_, S, rfl, hr, rfl, [], SlV.nil 24 2, ?_⟩
    apply List.ext_getElem?
    intro i
    rw [List.getElem?_set]
    split
    · rename_i h; subst h; rw [hs]; split
      · rfl
      · rename_i h; rw [List.getElem?_eq_none (by omega)] at hs; cases hs
    · rfl
  · have hlt : r < w.heap.size := hr.lt (List.mem_flatten.2 ⟨_, List.mem_of_getElem? hs, List.mem_singleton.2 rfl⟩)
    obtain ⟨hge, C, hC, htot, hpre⟩ := hr.own (r, .cells (l.flatMap labC) 24 (cap * 2)) (List.mem_flatten.2 ⟨_, List.mem_of_getElem? hs, by simp⟩)
    have hH : HoldsK labC 2 w r 0 l.toArray := by
      intro j hj
      have hj' : j < l.length * 2 := by simpa using hj
      have e1 : (flatK labC 2 l.toArray)[j]? = C[j]? := by
        have := congrArg (·[j]?) hpre
        simp only [List.getElem?_take, Array.getElem?_toList] at this
        rw [if_pos (by rw [hl]; exact hj')] at this
        rw [this, ← Array.getElem?_toList, flatK_list labC_len]
      rw [Array.getElem?_eq_getElem hj] at e1
      constructor
      · simp only [World.cell?, hC, Nat.zero_add]
        rw [getElem!_pos _ j hj]
        exact e1.symm
      · simp [World.frozen?, hC]
    have hcon := AnyQ.slices_SortFunc_total Tryd.sortL 2 Tryd.isAgg24 Tryd.sizeOf24 labC labC_len (fun x v hv => by simp [labC] at hv; rcases hv with rfl | rfl <;> rfl) orZ orZ_swo 25 #[] r 0 cap l.toArray w
      (enters_of Tryd.func25 (by kernel_rfl) rfl) (order_lays r 0 _ w) hH hlt (by simpa using hm) orZ_tot
    rw [List.size_toArray] at hcon
    refine hcon.mono ?_
    rintro e w' ⟨rfl, n, os, rfl⟩
    have hlen : (sortL l).length = l.length := by simp [sortL]
    refine ⟨_, _, rfl, hr.sorted (d := l.toArray) (d' := (sortL l).toArray) labC_len (by simpa using hs) (by simp [hlen]) (by simpa using h1), rfl, [(r, .cells ((sortL l).flatMap labC) 24 (cap * 2))], ?_, by simp⟩
    have := SlV.mk' (E := 24) (r := r) (xs := (sortL l).flatMap labC) (sz := 2) (m := l.length) (cap := cap) (by rw [List.length_flatMap]; simp [labC_len, List.map_const', hlen]) h1 h2
    exact this
end Go.Proofs
