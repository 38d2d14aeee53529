/- Walks. -/
import Derived.Test.YtbejcoeajlhmcaaGreatPart6
import Derived.Shelf.SlSortCmp.NoneTotal
import Derived.Shelf.SlicesG.Cmp
import Derived.Ground.SlsfProg
import Derived.Ground.SlgcProg
import Derived.WalkKit
import Derived.Test.YtbejcoeajlhmcaaGreatChecked
import Derived.Laws.Externs
import Derived.Laws.RangeAny
import Derived.Laws.RangeString
set_option linter.unusedVariables false
set_option linter.unusedSimpArgs false
set_option linter.unusedSectionVars false

namespace Go.Proofs.Gr
open Go.SL Go.RowKit Go.Proofs Go.GP
def Row (ps : List PartP) (L : List LineP) : Prop := L.Pairwise fun a b => a.v ≠ b.v /\ befP ps b.v a.v = false
section
variable {ps : List PartP} {L : List LineP}
theorem Row.at (h : Row ps L) {i j : Nat} (hi : i < j) (hj : j < L.length) : (L[i]'(by omega)).v ≠ L[j].v /\ befP ps L[j].v (L[i]'(by omega)).v = false :=
 List.pairwise_iff_getElem.1 h i j (by omega) hj hi
theorem Row.bef (h : Row ps L) {i j : Nat} (hi : i < j) (hj : j < L.length) (ho : ordP ps (L[i]'(by omega)).v L[j].v = true) : befP ps (L[i]'(by omega)).v L[j].v = true := by
 unfold ordP at ho
 rw [(h.at hi hj).2, Bool.or_false] at ho
 exact ho
theorem Row.ne (h : Row ps L) {i j : Nat} (hi : i < L.length) (hj : j < L.length) (hn : i ≠ j) : L[i].v ≠ L[j].v := by
 rcases Nat.lt_or_gt_of_ne hn with h1 | h1
 ·exact (h.at h1 hj).1
 exact (h.at h1 hi).1.symm
theorem solid_ix (h : Row ps L) {i : Nat} (hi : i < L.length) : solidP ps L L[i] = true ↔ ∀ (k : Nat) (hk : k < L.length), k ≠ i -> ordP ps L[i].v L[k].v = true := by
 unfold solidP
 rw [List.all_eq_true]
 constructor
 ·intro h1 k hk hn
  have := h1 L[k] (List.getElem_mem hk)
  rw [decide_eq_false (h.ne hi hk (fun e => hn e.symm)), Bool.false_or] at this
  exact this
 intro h1 x hx
 obtain ⟨k, hk, rfl⟩ := List.getElem_of_mem hx
 by_cases e : k = i
 ·subst e; simp
 rw [h1 k hk e, Bool.or_true]
theorem lone (hs : Sq ps) (h : Row ps L) {p : Nat} (hp : p < L.length) (hn : solidP ps L L[p] = false) (h1 : ∀ q, q + 1 = p -> ∀ hq : q < L.length, solidP ps L L[q] = true) (h2 : ∀ hq : p + 1 < L.length, solidP ps L L[p + 1] = true) : False := by
 have hall : solidP ps L L[p] = true := by
  rw [solid_ix h hp]
  intro k hk hne
  rcases Nat.lt_or_gt_of_ne hne with hlt | hgt
  ·-- k < p
   by_cases e : k + 1 = p
   ·have hs1 := (solid_ix h hk).1 (h1 k e hk) p hp (by omega)
    rw [ordP_comm]
    exact hs1
   have hq : p - 1 < L.length := by omega
   have hsq := (solid_ix h hq).1 (h1 (p - 1) (by omega) hq)
   have b1 := h.bef (i := k) (j := p - 1) (by omega) hq (by rw [ordP_comm]; exact hsq k hk (by omega))
   have b2 := h.bef (i := p - 1) (j := p) (by omega) hp (hsq p hp (by omega))
   unfold ordP
   rw [befP_trans hs b1 b2, Bool.or_true]
  by_cases e : k = p + 1
  ·subst e
   have hs1 := (solid_ix h hk).1 (h2 hk) p hp (by omega)
   rw [ordP_comm]
   exact hs1
  have hq : p + 1 < L.length := by omega
  have hsq := (solid_ix h hq).1 (h2 hq)
  have b1 := h.bef (i := p) (j := p + 1) (by omega) hq (by rw [ordP_comm]; exact hsq p hp (by omega))
  have b2 := h.bef (i := p + 1) (j := k) (by omega) hk (hsq k hk (by omega))
  unfold ordP
  rw [befP_trans hs b1 b2, Bool.true_or]
 rw [hn] at hall
 cases hall
structure GoodI (ps : List PartP) (L : List LineP) (I : List ItemP) : Prop where
 one : ∀ x ∈ I, (x.block = true -> 2 <= x.lines.length) /\ (x.block = false -> x.lines.length = 1) /\ ∀ y ∈ x.lines, solidP ps L y = !x.block
 adj : ∀ (i : Nat) (a b : ItemP), I[i]? = some a -> I[i + 1]? = some b -> a.block = true -> b.block = true -> False
theorem GoodI.snoc {I : List ItemP} {x : ItemP} (h : GoodI ps L I) (h1 : (x.block = true -> 2 <= x.lines.length) /\ (x.block = false -> x.lines.length = 1) /\ ∀ y ∈ x.lines, solidP ps L y = !x.block)
  (h2 : x.block = true -> ∀ a, I.getLast? = some a -> a.block = false) : GoodI ps L (I ++ [x]) where
 one := fun y hy => by
  rcases List.mem_append.1 hy with hy | hy
  ·exact h.one y hy
  rw [List.mem_singleton.1 hy]; exact h1
 adj := fun i a b ha hb hab hbb => by
  have hi := (List.getElem?_eq_some_iff.1 hb).1
  rw [List.length_append] at hi
  simp only [List.length_cons, List.length_nil] at hi
  rw [List.getElem?_append_left (by omega)] at ha
  by_cases e : i + 1 < I.length
  ·rw [List.getElem?_append_left e] at hb
   exact h.adj i a b ha hb hab hbb
  have e2 : i + 1 = I.length := by omega
  rw [List.getElem?_append_right (by omega), e2, Nat.sub_self] at hb
  have hbx : x = b := by simpa using hb
  subst hbx
  have := h2 hbb a (by rw [List.getLast?_eq_getElem?, <- ha]; congr 1; omega)
  rw [hab] at this
  cases this
structure St (ps : List PartP) (L : List LineP) (k : Nat) (I : List ItemP) (op : List LineP) : Prop where
 good : GoodI ps L I
 all : I.flatMap (·.lines) ++ op = L.take k
 last : ∀ a, I.getLast? = some a -> a.block = false
 open_ : ∀ x ∈ op, solidP ps L x = false
 ahead : ∀ q, q + op.length + 1 = k -> ∀ hq : q < L.length, solidP ps L L[q] = true
theorem St.opAt {k : Nat} {I : List ItemP} {op : List LineP} (h : St ps L k I op) (hk : k <= L.length) {x : LineP} (hx : op = [x]) : ∃ p, ∃ hp : p < L.length, p + 1 = k /\ L[p] = x := by
 subst hx
 have hl := congrArg List.length h.all
 rw [List.length_append, List.length_take] at hl
 simp only [List.length_cons, List.length_nil] at hl
 refine ⟨k - 1, by omega, by omega, ?_⟩
 have e : (L.take k)[k - 1]? = some x := by
  rw [<- h.all, List.getElem?_append_right (by omega), show k - 1 - (I.flatMap (·.lines)).length = 0 by omega]
  rfl
 rw [List.getElem?_take_of_lt (by omega), List.getElem?_eq_getElem (by omega)] at e
 exact Option.some.inj e
theorem St.shut {k : Nat} {I : List ItemP} {op : List LineP} (hs : Sq ps) (hr : Row ps L) (h : St ps L k I op) (hk : k <= L.length) (hn : ∀ hq : k < L.length, solidP ps L L[k] = true) :
  GoodI ps L (I ++ shut ps op) /\ (I ++ shut ps op).flatMap (·.lines) = L.take k := by
 unfold Gr.shut
 by_cases e : op = []
 ·rw [if_pos e, List.append_nil]
  have := h.all
  rw [e, List.append_nil] at this
  exact ⟨h.good, this⟩
 rw [if_neg e]
 refine ⟨h.good.snoc ⟨fun _ => ?_, (fun hb => by cases hb), fun y hy => h.open_ y hy⟩ fun _ => h.last, ?_⟩
 ·show 2 <= op.length
  match op, e, h with
  | [x], _, h =>
   exfalso
   obtain ⟨p, hp, hpk, hx⟩ := h.opAt hk rfl
   have hns : solidP ps L L[p] = false := by rw [hx]; exact h.open_ x (by simp)
   subst hpk
   exact lone hs hr hp hns (fun q hq hql => h.ahead q (by simp only [List.length_cons, List.length_nil]; omega) hql) hn
  | _ :: _ :: _, _, _ => simp only [List.length_cons]; omega
 rw [List.flatMap_append, <- h.all]
 simp [blockP]
theorem St.step {k : Nat} {I : List ItemP} {op : List LineP} (hs : Sq ps) (hr : Row ps L) (h : St ps L k I op) (hk : k < L.length) : St ps L (k + 1) (stepI ps L (I, op) L[k]).1 (stepI ps L (I, op) L[k]).2 := by
 unfold stepI
 by_cases e : solidP ps L L[k] = true
 ·rw [if_pos e]
  obtain ⟨g, a⟩ := h.shut hs hr (by omega) (fun _ => e)
  refine ⟨g.snoc ⟨(fun hb => by cases hb), fun _ => rfl, fun y hy => ?_⟩ (fun hb => by cases hb), ?_, fun a ha => ?_, (fun x hx => by cases hx), fun q hq hql => ?_⟩
  ·rw [List.mem_singleton.1 hy]; exact e
  ·show (I ++ Gr.shut ps op ++ [(⟨[L[k]], false, []⟩ : ItemP)]).flatMap (fun x : ItemP => x.lines) ++ [] = _
   rw [List.flatMap_append, a, List.append_nil, ltake_snoc hk]
   rfl
  ·have : (I ++ Gr.shut ps op ++ [(⟨[L[k]], false, []⟩ : ItemP)]).getLast? = some ⟨[L[k]], false, []⟩ := by rw [List.getLast?_append]; rfl
   rw [show (I ++ Gr.shut ps op ++ [(⟨[L[k]], false, []⟩ : ItemP)]).getLast? = some a from ha] at this
   cases this
   rfl
  have : q = k := by simp only [List.length_nil] at hq; omega
  subst this
  exact e
 rw [if_neg e]
 refine ⟨h.good, ?_, h.last, fun x hx => ?_, fun q hq hql => h.ahead q ?_ hql⟩
 ·show I.flatMap (·.lines) ++ (op ++ [L[k]]) = _
  rw [<- List.append_assoc, h.all, ltake_snoc hk]
 ·rcases List.mem_append.1 hx with hx | hx
  ·exact h.open_ x hx
  rw [List.mem_singleton.1 hx]
  exact Bool.eq_false_iff.2 e
 have : (op ++ [L[k]]).length = op.length + 1 := by simp
 have hq : q + (op ++ [L[k]]).length + 1 = k + 1 := hq
 omega
theorem St.fold (hs : Sq ps) (hr : Row ps L) : ∀ k, k <= L.length -> St ps L k (foldI ps L k).1 (foldI ps L k).2
 | 0, _ => ⟨⟨(fun x hx => by cases hx), fun i a b ha => by cases ha⟩, rfl, (fun a ha => by cases ha), (fun x hx => by cases hx), fun q hq => by omega⟩
 | k + 1, hk => by
  have := (St.fold hs hr k (by omega)).step hs hr hk
  rw [foldI_succ hk]
  exact this
theorem itemsL_good (hs : Sq ps) (hr : Row ps L) : GoodI ps L (itemsL ps L) /\ (itemsL ps L).flatMap (·.lines) = L := by
 have := (St.fold hs hr L.length (Nat.le_refl _)).shut hs hr (Nat.le_refl _) fun h => absurd h (Nat.lt_irrefl _)
 rw [List.take_length] at this
 exact this
theorem linesP_row {ps : List PartP} (hs : Sq ps) : Row ps (live (linesP ps)) := by
 refine List.Pairwise.sublist List.filter_sublist ?_
 rw [List.pairwise_iff_getElem]
 intro i j hi hj hij
 refine ⟨fun e => ?_, linesP_order hs hj (by omega)⟩
 have hn := topoF_nodup hs
 have hlt : (linesP ps).length = (topoF ps).length := List.length_map _
 have e1 : ∀ (k : Nat) (hk : k < (linesP ps).length), (linesP ps)[k].v = (topoF ps)[k]'(by omega) := fun k hk => by simp [linesP, lineP]
 rw [e1, e1] at e
 have := (List.getElem_inj hn).1 e
 omega
theorem itemsP_good {ps : List PartP} (hs : Sq ps) : GoodI ps (live (linesP ps)) (itemsP ps) /\ (itemsP ps).flatMap (·.lines) = live (linesP ps) := itemsL_good hs (linesP_row hs)
end
end Go.Proofs.Gr

























namespace Go.SL
open Go.RowKit
theorem grow_of {w w' : World} (h : Below w.heap.size w w') (hd : w.drawn <= w'.drawn) : ∃ q os', w' = Go.Sort.grow (w.drewN q) os' := by
 refine ⟨w'.drawn - w.drawn, w'.heap.extract w.heap.size w'.heap.size, ?_⟩
 have e : w'.heap = w.heap ++ w'.heap.extract w.heap.size w'.heap.size := by
  apply Array.ext_getElem?
  intro i
  rw [Array.getElem?_append]
  split
  ·rename_i hi; exact h.block i hi
  rename_i hi
  rw [Array.getElem?_extract]
  have := h.size
  split
  ·congr 1; omega
  rw [Array.getElem?_eq_none (by omega)]
 obtain ⟨heap, tape, drawn, os, output⟩ := w
 obtain ⟨heap', tape', drawn', os', output'⟩ := w'
 obtain ⟨h1, h2, h3, h4, h5⟩ := h
 simp only at *
 subst h1 h2 h3
 simp only [Go.Sort.grow, World.drewN, World.mk.injEq, true_and, and_true]
 exact ⟨e, by omega⟩
section
variable {α : Type} [Inhabited α]
theorem flat_get {enc : α -> List Value} {k : Nat} (hk : ∀ x, (enc x).length = k) : ∀ (l : List α) (t : Nat), t < l.length * k -> (l.flatMap enc)[t]? = (enc l[t / k]!)[t % k]?
 | [], t, h => by simp at h
 | x :: l, t, h => by
  have h' : t < l.length * k + k := by simpa [Nat.add_mul] using h
  have k0 : 0 < k := by exact Nat.pos_of_ne_zero fun e => by subst e; simp at h
  rw [List.flatMap_cons]
  rcases Nat.lt_or_ge t k with a | a
  ·rw [List.getElem?_append_left (by rw [hk]; exact a), Nat.div_eq_of_lt a, Nat.mod_eq_of_lt a]; simp
  obtain ⟨u, rfl⟩ : ∃ u, t = u + k := ⟨t - k, by omega⟩
  rw [List.getElem?_append_right (by rw [hk]; omega), hk, Nat.add_sub_cancel, flat_get hk l u (by omega), Nat.add_div_right _ k0, Nat.add_mod_right]
  simp
theorem flatK_list {enc : α -> List Value} {k : Nat} (hk : ∀ x, (enc x).length = k) (d : Array α) : (Go.Sort.flatK enc k d).toList = d.toList.flatMap enc := by
 apply List.ext_getElem?
 intro t
 by_cases ht : t < d.size * k
 ·have k0 : 0 < k := by exact Nat.pos_of_ne_zero fun e => by subst e; simp at ht
  rw [flat_get hk _ _ (by simpa using ht)]
  have h1 := Go.Sort.get_flatK enc k d t ht
  have hs : t < (Go.Sort.flatK enc k d).size := by simpa using ht
  have hm : t % k < (enc d[t / k]!).length := by rw [hk]; exact Nat.mod_lt _ k0
  rw [getElem!_pos (Go.Sort.flatK enc k d) t hs, getElem!_pos (enc d[t / k]!) (t % k) hm] at h1
  have e2 : d.toList[t / k]! = d[t / k]! := by
   have : t / k < d.size := Nat.div_lt_of_lt_mul (by rwa [Nat.mul_comm] at ht)
   rw [getElem!_pos d.toList _ (by simpa using this), getElem!_pos d _ this]; simp
  rw [e2, List.getElem?_eq_getElem hm, <- h1]
  simp [hs]
 rw [List.getElem?_eq_none (by simp; omega), List.getElem?_eq_none]
 rw [List.length_flatMap, show (List.map (fun a => (enc a).length) d.toList) = List.replicate d.size k from by simp only [hk]; rw [List.map_const']; simp]
 simp; omega
theorem Rep.sorted {w0 w : World} {S : SS} {k E sz blk cap n : Nat} {os : Array Obj} {enc : α -> List Value} (hk : ∀ x, (enc x).length = sz) {d d' : Array α} (h : Rep w0 S w) (hs : S[k]? = some [(blk, .cells (d.toList.flatMap enc) E (cap * sz))]) (hd : d'.size = d.size)
  (hc : d.size <= cap) : Rep w0 (S.set k [(blk, .cells (d'.toList.flatMap enc) E (cap * sz))]) (Go.Proofs.sortWorldK enc sz w blk 0 n d' os) := by
 obtain ⟨hge, C, hC, htot, hpre⟩ := h.own (blk, .cells (d.toList.flatMap enc) E (cap * sz)) (List.mem_flatten.2 ⟨_, List.mem_of_getElem? hs, by simp⟩)
 have hlt : blk < w.heap.size := h.lt (List.mem_flatten.2 ⟨_, List.mem_of_getElem? hs, List.mem_singleton.2 rfl⟩)
 have hheap : ∀ i, i < w.heap.size -> i ≠ blk -> (Go.Proofs.sortWorldK enc sz w blk 0 n d' os).heap[i]? = w.heap[i]? := by
  intro i hi hne
  show (w.heap.modify blk _ ++ os)[i]? = _
  rw [Array.getElem?_append, if_pos (by simpa using hi), Array.getElem?_modify, if_neg (Ne.symm hne)]
 have hnew : (Go.Proofs.sortWorldK enc sz w blk 0 n d' os).heap[blk]? = some (.cells (Go.Sort.putCells id 0 (Go.Sort.flatK enc sz d') C) E (0, 0)) := by
  show (w.heap.modify blk _ ++ os)[blk]? = _
  rw [Array.getElem?_append, if_pos (by simpa using hlt), Array.getElem?_modify, if_pos rfl, hC]
  rfl
 refine h.replace hs ?_ (fun i hi hne => hheap i hi (by simpa using hne)) (by simp) ?_ (Nat.le_add_right _ _)
 ·refine ⟨rfl, rfl, rfl, ?_, fun i hi => hheap i (by omega) (by omega)⟩
  show _ <= (w.heap.modify blk _ ++ os).size
  simp
 intro p hp
 simp only [List.mem_singleton] at hp
 subst hp
 refine ⟨hge, ⟨_, hnew, ?_, ?_⟩, .inl (by simp)⟩
 ·rw [<- htot]; simp [Go.Sort.putCells]
 have hsz : (d'.toList.flatMap enc).length = d.size * sz := by
  rw [<- flatK_list hk, Array.length_toList, Go.Sort.size_flatK, hd]
 have hcs : d.size * sz <= C.size := by rw [htot]; exact Nat.mul_le_mul_right _ hc
 rw [hsz, <- flatK_list hk]
 apply List.ext_getElem?
 intro t
 rw [List.getElem?_take]
 split
 ·rename_i ht
  have hF : t < (Go.Sort.flatK enc sz d').size := by simpa [hd] using ht
  have hF' : t < d'.size * sz := by simpa using hF
  rw [Array.getElem?_toList, Array.getElem?_toList]
  simp only [Go.Sort.putCells, Array.getElem?_mapIdx]
  rw [Array.getElem?_eq_getElem (by omega : t < C.size), Array.getElem?_eq_getElem hF]
  simp [getElem!_pos (Go.Sort.flatK enc sz d') t hF, hF']
 rename_i ht
 rw [List.getElem?_eq_none (by simp [hd]; omega)]
end
end Go.SL

namespace Go.Proofs
open Go.Shelf Go.RowKit Go.Lib Go.Sort
def Tryz.sortL_ren : Go.Shelf.Ren := ⟨fun | 6 => 71 | 15 => 101 | 14 => 100 | 28 => 122 | 29 => 123 | 20 => 114 | 21 => 115 | 22 => 116 | 23 => 117 | 24 => 118 | 25 => 119 | 26 => 120 | 27 => 121 | 46 => 128 | 47 => 129 | 48 => 130 | 49 => 131 | 50 => 132 | 57 => 133 | n => n, fun | 22 => 44 | 24 => 27 | 25 => 141 | 3 => 3 | 39 => 178 | 0 => 0 | 53 => 205 | 55 => 41 | 4 => 4 | 46 => 199 | 45 => 198 | 50 => 196 | 5 => 5 | 9 => 9 | 66 => 210 | 70 => 214 | 76 => 216 | 77 => 217 | n => n, fun | n => n⟩
theorem Tryz.sortL : Go.Proofs.SlLaysF0.n6 Tryz.prog Tryz.sortL_ren := {
 mixed := by kernel_rfl
 f6 := ⟨Tryz.f71.name, by decide, Tryz.func71.trans (congrArg some (by kernel_rfl))⟩
 f14 := ⟨Tryz.f100.name, by decide, Tryz.func100.trans (congrArg some (by kernel_rfl))⟩
 f15 := Tryz.func101.trans (congrArg some (by kernel_rfl))
 f20 := ⟨Tryz.f114.name, by decide, Tryz.func114.trans (congrArg some (by kernel_rfl))⟩
 f21 := ⟨Tryz.f115.name, by decide, Tryz.func115.trans (congrArg some (by kernel_rfl))⟩
 f22 := ⟨Tryz.f116.name, by decide, Tryz.func116.trans (congrArg some (by kernel_rfl))⟩
 f23 := ⟨Tryz.f117.name, by decide, Tryz.func117.trans (congrArg some (by kernel_rfl))⟩
 f24 := ⟨Tryz.f118.name, by decide, Tryz.func118.trans (congrArg some (by kernel_rfl))⟩
 f25 := ⟨Tryz.f119.name, by decide, Tryz.func119.trans (congrArg some (by kernel_rfl))⟩
 f26 := ⟨Tryz.f120.name, by decide, Tryz.func120.trans (congrArg some (by kernel_rfl))⟩
 f27 := ⟨Tryz.f121.name, by decide, Tryz.func121.trans (congrArg some (by kernel_rfl))⟩
 f28 := Tryz.func122.trans (congrArg some (by kernel_rfl))
 f29 := Tryz.func123.trans (congrArg some (by kernel_rfl))
 f46 := ⟨Tryz.f128.name, by decide, Tryz.func128.trans (congrArg some (by kernel_rfl))⟩
 f47 := Tryz.func129.trans (congrArg some (by kernel_rfl))
 f48 := Tryz.func130.trans (congrArg some (by kernel_rfl))
 f49 := ⟨Tryz.f131.name, by decide, Tryz.func131.trans (congrArg some (by kernel_rfl))⟩
 f50 := ⟨Tryz.f132.name, by decide, Tryz.func132.trans (congrArg some (by kernel_rfl))⟩
 f57 := ⟨Tryz.f133.name, by decide, Tryz.func133.trans (congrArg some (by kernel_rfl))⟩
 t0 := Tryz.underlying0
 a0 := Tryz.isAgg0
 z0 := Tryz.sizeOf0
 v0 := Tryz.zeroValue0
 t3 := Tryz.underlying3
 a3 := Tryz.isAgg3
 z3 := Tryz.sizeOf3
 v3 := Tryz.zeroValue3
 t4 := Tryz.underlying4
 a4 := Tryz.isAgg4
 z4 := Tryz.sizeOf4
 v4 := Tryz.zeroValue4
 t5 := Tryz.underlying5
 a5 := Tryz.isAgg5
 z5 := Tryz.sizeOf5
 v5 := Tryz.zeroValue5
 t9 := Tryz.underlying9
 a9 := Tryz.isAgg9
 z9 := Tryz.sizeOf9
 v9 := Tryz.zeroValue9
 t22 := Tryz.underlying44
 a22 := Tryz.isAgg44
 z22 := Tryz.sizeOf44
 v22 := Tryz.zeroValue44
 t25 := Tryz.underlying141
 a25 := Tryz.isAgg141
 z25 := Tryz.sizeOf141
 v25 := Tryz.zeroValue141
 t39 := Tryz.underlying178
 a39 := Tryz.isAgg178
 z39 := Tryz.sizeOf178
 v39 := Tryz.zeroValue178
 t45 := Tryz.underlying198
 a45 := Tryz.isAgg198
 z45 := Tryz.sizeOf198
 v45 := Tryz.zeroValue198
 t46 := Tryz.underlying199
 a46 := Tryz.isAgg199
 z46 := Tryz.sizeOf199
 v46 := Tryz.zeroValue199
 t50 := Tryz.underlying196
 a50 := Tryz.isAgg196
 z50 := Tryz.sizeOf196
 v50 := Tryz.zeroValue196
 t53 := Tryz.underlying205
 a53 := Tryz.isAgg205
 z53 := Tryz.sizeOf205
 v53 := Tryz.zeroValue205
 t55 := Tryz.underlying41
 a55 := Tryz.isAgg41
 z55 := Tryz.sizeOf41
 v55 := Tryz.zeroValue41
 t66 := Tryz.underlying210
 a66 := Tryz.isAgg210
 z66 := Tryz.sizeOf210
 v66 := Tryz.zeroValue210
 t70 := Tryz.underlying214
 a70 := Tryz.isAgg214
 z70 := Tryz.sizeOf214
 v70 := Tryz.zeroValue214
 t76 := Tryz.underlying216
 a76 := Tryz.isAgg216
 z76 := Tryz.sizeOf216
 v76 := Tryz.zeroValue216
 t77 := Tryz.underlying217
 a77 := Tryz.isAgg217
 z77 := Tryz.sizeOf217
 v77 := Tryz.zeroValue217 }
end Go.Proofs
namespace Go.Proofs.Gr
open Go.SL Go.RowKit Go.Sort Go.Proofs Go.GP
def sortL (l : List Vtx) : List Vtx := l.mergeSort fun x y => !(ltOf ordV) y x
theorem ordV_swo : SWO (ltOf ordV) where
 irrefl x := by
  show ltV x x = false
  cases e : ltV x x with
  | false => rfl
  | true => have := ltV_ord.asymm x x e; rw [e] at this; cases this
 trans x y z h1 h2 := by
  show ltV x z = true
  cases e : ltV x z with
  | true => rfl
  | false => have := ltV_ord.trans z x y e (ltV_ord.asymm x y h1); rw [show ltV y z = true from h2] at this; cases this
 ntrans x y z h1 h2 := ltV_ord.trans z y x h2 h1
theorem ordV_tot (x y : Vtx) (h1 : ltOf ordV x y = false) (h2 : ltOf ordV y x = false) : x = y := ltV_tot x y h1 h2
theorem order_lays (blk off size : Nat) (w : World) : CmpLays Tryz.prog 72 #[] vtxL 33 ordV blk off size w := by
 intro m os dk hs x y
 refine (order_fc (a := x) (b := y) (S := []) _ (Rep.start _)).mono ?_
 rintro e w' ⟨u, S', rfl, hr, rfl, rfl⟩
 refine ⟨rfl, grow_of hr.below (hr.drawn.resolve_left ?_)⟩
 unfold Loose
 exact id
set_option maxRecDepth 100000 in
theorem sort_fc {w0 : World} {S : SS} {k : Nat} {v : Value} {seg : Seg} {l : List Vtx} (hs : S[k]? = some seg) (hv : SlV 27 33 v l.length (l.flatMap vtxL) seg) (hm : l.length < 4611686018427387904) :
  FC Tryz.prog w0 71 [v, .func (.func 72) #[] #[]] S (fun u S' => u = .tuple #[] /\ ∃ seg', SlV 27 33 v l.length ((sortL l).flatMap vtxL) seg' /\ S' = S.set k seg') := by
 intro w hr
 obtain ⟨hl, ⟨rfl, h0, rfl⟩ | ⟨r, cap, rfl, rfl, h1, h2⟩⟩ := hv
 ·obtain rfl : l = [] := List.length_eq_zero_iff.1 h0
  refine (AnyF.slices_SortFunc_none Tryz.sortL none 0 _ w).mono ?_
  rintro e w' ⟨rfl, rfl⟩
  have e0 : sortL [] = [] := by simp [sortL]
  rw [e0]
  refine ⟨_, S, rfl, hr, rfl, [], SlV.nil 27 33, ?_⟩
  apply List.ext_getElem?
  intro i
  rw [List.getElem?_set]
  split
  ·rename_i h; subst h; rw [hs]; split
   ·rfl
   rename_i h; rw [List.getElem?_eq_none (by omega)] at hs; cases hs
  rfl
 have hlt : r < w.heap.size := hr.lt (List.mem_flatten.2 ⟨_, List.mem_of_getElem? hs, List.mem_singleton.2 rfl⟩)
 obtain ⟨hge, C, hC, htot, hpre⟩ := hr.own (r, .cells (l.flatMap vtxL) 27 (cap * 33)) (List.mem_flatten.2 ⟨_, List.mem_of_getElem? hs, by simp⟩)
 have hH : HoldsK vtxL 33 w r 0 l.toArray := by
  intro j hj
  have hj' : j < l.length * 33 := by simpa using hj
  have e1 : (flatK vtxL 33 l.toArray)[j]? = C[j]? := by
   have := congrArg (·[j]?) hpre
   simp only [List.getElem?_take, Array.getElem?_toList] at this
   rw [if_pos (by rw [hl]; exact hj')] at this
   rw [this, <- Array.getElem?_toList, flatK_list vtxL_len]
  rw [Array.getElem?_eq_getElem hj] at e1
  constructor
  ·simp only [World.cell?, hC, Nat.zero_add]
   rw [getElem!_pos _ j hj]
   exact e1.symm
  simp [World.frozen?, hC]
 have hcon := AnyQ.slices_SortFunc_total Tryz.sortL 33 Tryz.isAgg27 Tryz.sizeOf27 vtxL vtxL_len (fun x v hv => List.all_eq_true.1 (vtxL_one x) v hv) ordV ordV_swo 72 #[] r 0 cap l.toArray w
  (enters_of Tryz.func72 (by kernel_rfl) rfl) (order_lays r 0 _ w) hH hlt (by simpa using hm) ordV_tot
 rw [List.size_toArray] at hcon
 refine hcon.mono ?_
 rintro e w' ⟨rfl, n, os, rfl⟩
 have hlen : (sortL l).length = l.length := by simp [sortL]
 refine ⟨_, _, rfl, hr.sorted (d := l.toArray) (d' := (sortL l).toArray) vtxL_len (by simpa using hs) (by simp [hlen]) (by simpa using h1), rfl, [(r, .cells ((sortL l).flatMap vtxL) 27 (cap * 33))], ?_, by simp⟩
 have := SlV.mk' (E := 27) (r := r) (xs := (sortL l).flatMap vtxL) (sz := 33) (m := l.length) (cap := cap) (by rw [List.length_flatMap]; simp [vtxL_len, List.map_const', hlen]) h1 h2
 exact this
end Go.Proofs.Gr





namespace Go.Proofs.Ln
open Go.SL Go.RowKit
def strs (ls : List ByteArray) : List Value := ls.map .string
theorem strs_len (ls : List ByteArray) : (strs ls).length = ls.length := by simp [strs]
theorem toL (s : ByteArray) : s.toList = s.data.toList := ByteArray.toList_eq s
set_option maxHeartbeats 1000000
theorem OL.nxt {P : Program} {w0 : World} {n : Nat} {T : TT} {S : SS} {x : PV} {s : ByteArray} {b k p d1 d2 : Nat} {rest : List PI} {K : TT -> SS -> Prop} (hx : x.val T = some (.pointer (some ⟨b, 0, none⟩))) (hk : S[k]? = some [(b, .obj (.stringIter s p))])
  (h1 : p < s.size -> OL P w0 n rest ((d2, .bool true) :: (d1, .tuple #[.bool true, .int .i64 (p : Int), .int .i32 ((Utf8.decode s p).1 : Int)]) :: T) (S.set k [(b, .obj (.stringIter s (p + (Utf8.decode s p).2)))]) K)
  (h2 : ¬ p < s.size -> OL P w0 n rest ((d2, .bool false) :: (d1, .tuple #[.bool false]) :: T) S K) :
  OL P w0 n (⟨some d1, none, .more (.nxtS x)⟩ :: ⟨some d2, none, .ext 0 (.t d1)⟩ :: rest) T S K := by
 have hl : ∀ v : Value, (PV.t d1).val ((d1, v) :: T) = some v := fun v => look_put_same d1 v T
 by_cases hp : p < s.size
 ·refine OL.cons trivial (OW.nxtS hx hk hp) ?_
  rintro _ _ ⟨rfl, rfl⟩
  refine OL.det trivial (.pure (v := .bool true) ?_) (h1 hp)
  show evalP _ _ = _
  unfold evalP
  simp only [put, hl]
  rfl
 refine OL.det trivial (OW.nxtS_end hx hk hp) ?_
 refine OL.det trivial (.pure (v := .bool false) ?_) (h2 hp)
 show evalP _ _ = _
 unfold evalP
 simp only [put, hl]
 rfl
def okB (b : UInt8) : Bool := decide (b.toNat = 9) || (decide (32 <= b.toNat) && decide (b.toNat <= 126))
def plainP (s : ByteArray) : Bool := s.data.toList.all okB && decide (s.size <= 80)
theorem ba_get {s : ByteArray} {k : Nat} (h : k < s.size) : ∃ b, s[k]? = some b /\ s.data.toList[k]? = some b /\ s.data.toList.take (k + 1) = s.data.toList.take k ++ [b] /\ s[k]'h = b := by
 have h' : k < s.data.toList.length := by simpa using h
 refine ⟨s[k], by rw [getElem?_pos s k h], ?_, ?_, rfl⟩
 ·rw [List.getElem?_eq_getElem h']; rfl
 rw [List.take_add_one, List.getElem?_eq_getElem h']; rfl
theorem plain_bad {s : ByteArray} {k : Nat} {b : UInt8} (h : s.data.toList[k]? = some b) (hb : okB b = false) : plainP s = false := by
 unfold plainP
 have : s.data.toList.all okB = false := by
  rw [List.all_eq_false]
  exact ⟨b, List.mem_of_getElem? h, by rw [hb]; simp⟩
 rw [this]; rfl
theorem plain_all {s : ByteArray} {k : Nat} (hk : k = s.size) (h : (s.data.toList.take k).all okB = true) : plainP s = decide ((s.size : Int) <= 80) := by
 subst hk
 rw [List.take_of_length_le (by simp)] at h
 unfold plainP
 rw [h]
 simp; omega
theorem dec_ok {s : ByteArray} {p : Nat} {b : UInt8} (hp : p < s.size) (hb : s[p]'hp = b) : (b.toNat < 128 /\ (Utf8.decode s p).1 = b.toNat /\ (Utf8.decode s p).2 = 1) ∨ (128 <= b.toNat /\ 128 <= (Utf8.decode s p).1) := by
 by_cases h : b.toNat < 128
 ·have := decode_ascii s p hp (by rw [hb]; exact h)
  rw [this, hb]
  exact .inl ⟨h, rfl, rfl⟩
 exact .inr ⟨by omega, (decode_high s p hp (by rw [hb]; omega)).1⟩
theorem rplain_fc {w0 : World} {S : SS} {s : ByteArray} (hs : s.size <= 1000000000000000) : FC Tryz.prog w0 78 [.string s] S (fun v S' => v = .bool (plainP s) /\ S' = S) := by
 refine FC.of Tryz.known78 (by simp) ?_
 unfold Tryz.pc78
 simp only [argT]
 refine PW.seqOps (OL.dp rfl (OL.nil (PW.k1 0 rfl ?_)))
 refine PW.seq fun K1 hK1 => ?_
 refine PW.seqOps (OL.dp rfl (OL.nil (PW.k2 0 3 rfl (PW.block (PW.k2 0 3 rfl ?_)))))
 refine PW.loopK (I := fun m T S' => ∃ (k : Nat), (k <= s.size /\ m = s.size - k /\ (s.data.toList.take k).all okB = true) /\ T = ([(0, .string s), (3, .int .i64 k)] : TT) /\ S' = S) (m := s.size) ⟨0, ⟨by omega, by omega, rfl⟩, rfl, rfl⟩ ?_
 rintro m _ _ ⟨k, ⟨hk, hm, hall⟩, rfl, rfl⟩
 refine PW.seq fun K2 hK2 => ?_
 refine PW.seqOps (OL.dp rfl (OL.dp rfl (OL.dp rfl (OL.dp rfl (OL.nil (PW.k3 0 3 7 rfl ?_))))))
 refine PW.cond rfl (fun c7 => ?_) (fun c7 => ?_)
 ·try simp only [decide_eq_true_eq, decide_eq_false_iff_not, beq_iff_eq, bne_iff_ne, beq_eq_false_iff_ne, bne_eq_false_iff_eq, Bool.not_eq_true', Bool.not_eq_false', Bool.not_eq_true, ne_eq, Decidable.not_not] at c7
  have hkl : k < s.size := by omega
  obtain ⟨b, hb, hb2, htk, _⟩ := ba_get hkl
  refine PW.skip ?_
  refine hK2 _ _ ?_
  refine PW.k2 0 3 rfl ?_
  refine PW.seq fun K3 hK3 => ?_
  refine PW.block (PW.seqOps (OL.dp rfl (OL.dp rfl (OL.det trivial (Yields.ixStr rfl rfl hb) (OL.dp rfl ?_)))))
  refine OL.bool trivial (Yields.pure rfl) (fun g14 => ?_) (fun g14 => ?_)
  ·try simp only [decide_eq_true_eq, decide_eq_false_iff_not, beq_iff_eq, bne_iff_ne, beq_eq_false_iff_ne, bne_eq_false_iff_eq, Bool.not_eq_true', Bool.not_eq_false', Bool.not_eq_true, ne_eq, Decidable.not_not] at g14
   refine OL.det rfl (.pure rfl) (OL.det rfl (.pure rfl) (OL.det rfl (Yields.ixStr rfl rfl hb) (OL.det rfl (.pure rfl) ?_)))
   refine OL.bool rfl (Yields.pure rfl) (fun g19 => ?_) (fun g19 => ?_)
   ·try simp only [decide_eq_true_eq, decide_eq_false_iff_not, beq_iff_eq, bne_iff_ne, beq_eq_false_iff_ne, bne_eq_false_iff_eq, Bool.not_eq_true', Bool.not_eq_false', Bool.not_eq_true, ne_eq, Decidable.not_not] at g19
    refine OL.off rfl rfl (OL.off rfl rfl (OL.off rfl rfl (OL.off rfl rfl (OL.det rfl (.pure rfl) (OL.dp rfl (OL.nil (PW.k3 0 3 25 rfl (PW.ite (b := true) rfl ?_))))))))
    rw [if_pos rfl]
    refine PW.seqOps (OL.dp rfl (OL.nil (PW.k1 2 rfl (PW.ret ?_))))
    change (Exit.ret = Exit.normal ∨ Exit.ret = Exit.ret) /\ ∃ v, resV _ _ = some v /\ _
    have hbad : okB b = false := by simp [okB]; omega
    exact ⟨.inr rfl, _, rfl, by rw [plain_bad hb2 hbad], rfl⟩
   try simp only [decide_eq_true_eq, decide_eq_false_iff_not, beq_iff_eq, bne_iff_ne, beq_eq_false_iff_ne, bne_eq_false_iff_eq, Bool.not_eq_true', Bool.not_eq_false', Bool.not_eq_true, ne_eq, Decidable.not_not] at g19
   refine OL.det rfl (.pure rfl) (OL.det rfl (.pure rfl) (OL.det rfl (Yields.ixStr rfl rfl hb) (OL.det rfl (.pure rfl) (OL.det rfl (.pure rfl) (OL.dp rfl (OL.nil (PW.k3 0 3 25 rfl ?_)))))))
   refine PW.cond rfl (fun c25 => ?_) (fun c25 => ?_)
   ·try simp only [decide_eq_true_eq, decide_eq_false_iff_not, beq_iff_eq, bne_iff_ne, beq_eq_false_iff_ne, bne_eq_false_iff_eq, Bool.not_eq_true', Bool.not_eq_false', Bool.not_eq_true, ne_eq, Decidable.not_not] at c25
    refine PW.seqOps (OL.dp rfl (OL.nil (PW.k1 2 rfl (PW.ret ?_))))
    change (Exit.ret = Exit.normal ∨ Exit.ret = Exit.ret) /\ ∃ v, resV _ _ = some v /\ _
    have hbad : okB b = false := by simp [okB]; omega
    exact ⟨.inr rfl, _, rfl, by rw [plain_bad hb2 hbad], rfl⟩
   try simp only [decide_eq_true_eq, decide_eq_false_iff_not, beq_iff_eq, bne_iff_ne, beq_eq_false_iff_ne, bne_eq_false_iff_eq, Bool.not_eq_true', Bool.not_eq_false', Bool.not_eq_true, ne_eq, Decidable.not_not] at c25
   refine PW.skip ?_
   refine hK3 _ _ ?_
   refine PW.k2 0 3 rfl (PW.ops (OL.dp rfl ?_))
   refine OL.det trivial (.add64 rfl rfl (by omega) (by omega)) ?_
   refine OL.dp rfl (OL.nil ?_)
   repeat rw [inBlk_n]
   try rw [thenK_n]
   refine LoopEnd.mk (T'' := [(0, _), (3, _)]) (wi rfl) ?_
   refine ⟨s.size - (k + 1), by omega, k + 1, ⟨by omega, rfl, ?_⟩, by simp, rfl⟩
   rw [htk, List.all_append, hall]; simp [okB]; omega
  try simp only [decide_eq_true_eq, decide_eq_false_iff_not, beq_iff_eq, bne_iff_ne, beq_eq_false_iff_ne, bne_eq_false_iff_eq, Bool.not_eq_true', Bool.not_eq_false', Bool.not_eq_true, ne_eq, Decidable.not_not] at g14
  refine OL.off rfl rfl (OL.off rfl rfl (OL.off rfl rfl (OL.off rfl rfl (OL.off rfl rfl (OL.off rfl rfl (OL.off rfl rfl (OL.off rfl rfl (OL.off rfl rfl (OL.off rfl rfl (OL.dp rfl (OL.nil ?_)))))))))))
  refine PW.k3 0 3 25 rfl (PW.ite (b := false) rfl ?_)
  rw [if_neg Bool.false_ne_true]
  refine PW.skip ?_
  refine hK3 _ _ ?_
  refine PW.k2 0 3 rfl (PW.ops (OL.dp rfl ?_))
  refine OL.det trivial (.add64 rfl rfl (by omega) (by omega)) ?_
  refine OL.dp rfl (OL.nil ?_)
  repeat rw [inBlk_n]
  try rw [thenK_n]
  refine LoopEnd.mk (T'' := [(0, _), (3, _)]) (wi rfl) ?_
  refine ⟨s.size - (k + 1), by omega, k + 1, ⟨by omega, rfl, ?_⟩, by simp, rfl⟩
  rw [htk, List.all_append, hall]; simp [okB]; omega
 try simp only [decide_eq_true_eq, decide_eq_false_iff_not, beq_iff_eq, bne_iff_ne, beq_eq_false_iff_ne, bne_eq_false_iff_eq, Bool.not_eq_true', Bool.not_eq_false', Bool.not_eq_true, ne_eq, Decidable.not_not] at c7
 refine PW.exit ?_
 refine hK1 _ _ ?_
 refine PW.k1 0 rfl (PW.seqOps (OL.dp rfl (OL.dp rfl (OL.dp rfl (OL.dp rfl (OL.nil (PW.k1 2 rfl (PW.ret ?_))))))))
 change (Exit.ret = Exit.normal ∨ Exit.ret = Exit.ret) /\ ∃ v, resV _ _ = some v /\ _
 exact ⟨.inr rfl, _, rfl, by rw [plain_all (k := k) (by omega) hall], rfl⟩
theorem plain_fc {w0 : World} {S : SS} {s : ByteArray} (hs : s.size <= 1000000000000000) : FC Tryz.prog w0 44 [.string s] S (fun v S' => v = .bool (plainP s) /\ S' = S) := by
 refine FC.ofD Tryz.known44 (by simp) ?_
 unfold Tryz.pc44
 simp only [argT]
 refine PW.seqOps (OL.dp rfl (OL.nil (PW.k1 0 rfl ?_)))
 refine PW.seq fun K1 hK1 => ?_
 refine PW.seqOps (OL.dp rfl (OL.cons trivial (OW.rngS rfl) ?_))
 rintro _ _ ⟨r6, rfl, rfl⟩
 refine OL.nil (PW.k2 0 6 rfl (PW.block (PW.k2 0 6 rfl ?_)))
 refine PW.loopK (I := fun m T S' => ∃ (k : Nat), (k <= s.size /\ m = s.size - k /\ (s.data.toList.take k).all okB = true) /\ T = ([(0, .string s), (6, .pointer (some ⟨r6, 0, none⟩))] : TT) /\ S' = [(r6, .obj (.stringIter s k))] :: S) (m := s.size) ⟨0, ⟨by omega, by omega, rfl⟩, rfl, rfl⟩ ?_
 rintro m _ _ ⟨k, ⟨hk, hm, hall⟩, rfl, rfl⟩
 refine PW.seqOps ?_
 refine OL.nxt (k := 0) rfl rfl ?_ ?_
 ·intro hp
  refine OL.nil (PW.k4 0 6 7 8 rfl ?_)
  refine PW.seq fun K2 hK2 => ?_
  refine PW.ite (b := true) rfl ?_
  rw [if_pos rfl]
  refine PW.skip ?_
  refine hK2 _ _ ?_
  refine PW.k3 0 6 7 rfl (PW.block (PW.seqOps ?_))
  obtain ⟨b, hb, hb2, htk, hbe⟩ := ba_get hp
  have hdec := dec_ok hp hbe
  refine OL.dp rfl (OL.dp rfl (OL.nil (PW.k3 0 4 6 rfl (PW.seqOps (OL.dp rfl (OL.dp rfl ?_))))))
  refine OL.bool trivial (Yields.pure rfl) (fun g12 => ?_) (fun g12 => ?_)
  ·try simp only [decide_eq_true_eq, decide_eq_false_iff_not, beq_iff_eq, bne_iff_ne, beq_eq_false_iff_ne, bne_eq_false_iff_eq, Bool.not_eq_true', Bool.not_eq_false', Bool.not_eq_true, ne_eq, Decidable.not_not] at g12
   refine OL.det rfl (.pure rfl) (OL.det rfl (.pure rfl) ?_)
   refine OL.bool rfl (Yields.pure rfl) (fun g15 => ?_) (fun g15 => ?_)
   ·try simp only [decide_eq_true_eq, decide_eq_false_iff_not, beq_iff_eq, bne_iff_ne, beq_eq_false_iff_ne, bne_eq_false_iff_eq, Bool.not_eq_true', Bool.not_eq_false', Bool.not_eq_true, ne_eq, Decidable.not_not] at g15
    refine OL.off rfl rfl (OL.off rfl rfl (OL.det rfl (.pure rfl) (OL.dp rfl (OL.nil (PW.k3 0 6 19 rfl (PW.ite (b := true) rfl ?_))))))
    rw [if_pos rfl]
    refine PW.seqOps (OL.dp rfl (OL.nil (PW.k1 2 rfl (PW.ret ?_))))
    change (Exit.ret = Exit.normal ∨ Exit.ret = Exit.ret) /\ ∃ v, resV _ _ = some v /\ _
    have hbad : okB b = false := by simp [okB]; omega
    exact ⟨.inr rfl, _, rfl, _, Sub.drop (Sub.refl _), by rw [plain_bad hb2 hbad], rfl⟩
   try simp only [decide_eq_true_eq, decide_eq_false_iff_not, beq_iff_eq, bne_iff_ne, beq_eq_false_iff_ne, bne_eq_false_iff_eq, Bool.not_eq_true', Bool.not_eq_false', Bool.not_eq_true, ne_eq, Decidable.not_not] at g15
   refine OL.det rfl (.pure rfl) (OL.det rfl (.pure rfl) (OL.det rfl (.pure rfl) (OL.dp rfl (OL.nil (PW.k3 0 6 19 rfl ?_)))))
   refine PW.cond rfl (fun c19 => ?_) (fun c19 => ?_)
   ·try simp only [decide_eq_true_eq, decide_eq_false_iff_not, beq_iff_eq, bne_iff_ne, beq_eq_false_iff_ne, bne_eq_false_iff_eq, Bool.not_eq_true', Bool.not_eq_false', Bool.not_eq_true, ne_eq, Decidable.not_not] at c19
    refine PW.seqOps (OL.dp rfl (OL.nil (PW.k1 2 rfl (PW.ret ?_))))
    change (Exit.ret = Exit.normal ∨ Exit.ret = Exit.ret) /\ ∃ v, resV _ _ = some v /\ _
    have hbad : okB b = false := by simp [okB]; omega
    exact ⟨.inr rfl, _, rfl, _, Sub.drop (Sub.refl _), by rw [plain_bad hb2 hbad], rfl⟩
   try simp only [decide_eq_true_eq, decide_eq_false_iff_not, beq_iff_eq, bne_iff_ne, beq_eq_false_iff_ne, bne_eq_false_iff_eq, Bool.not_eq_true', Bool.not_eq_false', Bool.not_eq_true, ne_eq, Decidable.not_not] at c19
   refine PW.skip ?_
   repeat rw [inBlk_n]
   try rw [thenK_n]
   refine LoopEnd.mk (T'' := [(0, _), (6, _)]) (wi rfl) ?_
   rcases hdec with ⟨e0, e1, e2⟩ | ⟨e0, e1⟩
   ·refine ⟨s.size - (k + 1), by omega, k + 1, ⟨by omega, rfl, ?_⟩, rfl, by rw [e2]; rfl⟩
    rw [htk, List.all_append, hall]; simp [okB]; omega
   exfalso; omega
  try simp only [decide_eq_true_eq, decide_eq_false_iff_not, beq_iff_eq, bne_iff_ne, beq_eq_false_iff_ne, bne_eq_false_iff_eq, Bool.not_eq_true', Bool.not_eq_false', Bool.not_eq_true, ne_eq, Decidable.not_not] at g12
  refine OL.off rfl rfl (OL.off rfl rfl (OL.off rfl rfl (OL.off rfl rfl (OL.off rfl rfl (OL.off rfl rfl (OL.dp rfl (OL.nil (PW.k3 0 6 19 rfl (PW.ite (b := false) rfl ?_)))))))))
  rw [if_neg Bool.false_ne_true]
  refine PW.skip ?_
  repeat rw [inBlk_n]
  try rw [thenK_n]
  refine LoopEnd.mk (T'' := [(0, _), (6, _)]) (wi rfl) ?_
  rcases hdec with ⟨e0, e1, e2⟩ | ⟨e0, e1⟩
  ·refine ⟨s.size - (k + 1), by omega, k + 1, ⟨by omega, rfl, ?_⟩, rfl, by rw [e2]; rfl⟩
   rw [htk, List.all_append, hall]; simp [okB]; omega
  exfalso; omega
 intro hp
 refine OL.nil (PW.k4 0 6 7 8 rfl ?_)
 refine PW.seq fun K3 hK3 => ?_
 refine PW.ite (b := false) rfl ?_
 rw [if_neg Bool.false_ne_true]
 refine PW.exit ?_
 refine hK1 _ _ ?_
 refine PW.k1 0 rfl (PW.seqOps (OL.dp rfl (OL.dp rfl (OL.dp rfl (OL.dp rfl (OL.nil (PW.k1 2 rfl (PW.ret ?_))))))))
 change (Exit.ret = Exit.normal ∨ Exit.ret = Exit.ret) /\ ∃ v, resV _ _ = some v /\ _
 exact ⟨.inr rfl, _, rfl, _, Sub.drop (Sub.refl _), by rw [plain_all (k := k) (by omega) hall], rfl⟩
end Go.Proofs.Ln

namespace Go.Proofs.Ln
open Go.SL Go.RowKit
set_option maxHeartbeats 1000000
def mA : ByteArray := ⟨#[62, 62, 62, 62, 62, 62, 62]⟩
def mB : ByteArray := ⟨#[61, 61, 61, 61, 61, 61, 61]⟩
def mC : ByteArray := ⟨#[60, 60, 60, 60, 60, 60, 60]⟩
def markP (s : ByteArray) : Bool := s.toList == mA.toList || s.toList == mB.toList || s.toList == mC.toList
theorem mark_iff (s : ByteArray) : markP s = true ↔ s.data.toList = List.replicate 7 62 ∨ s.data.toList = List.replicate 7 61 ∨ s.data.toList = List.replicate 7 60 := by
 unfold markP
 rw [toL, toL, toL, toL, show mA.data.toList = List.replicate 7 62 from rfl, show mB.data.toList = List.replicate 7 61 from rfl, show mC.data.toList = List.replicate 7 60 from rfl]
 simp only [Bool.or_eq_true, beq_iff_eq, or_assoc]
theorem mark_fc {w0 : World} {S : SS} {s : ByteArray} : FC Tryz.prog w0 18 [.string s] S (fun v S' => v = .bool (markP s) /\ S' = S) := by
 refine FC.of Tryz.known18 (by simp) ?_
 unfold Tryz.pc18
 simp only [argT]
 refine PW.seqOps (OL.dp rfl (OL.nil (PW.k1 0 rfl (PW.seqOps (OL.dp rfl (OL.dp rfl ?_))))))
 refine OL.bool trivial (Yields.pure rfl) (fun g5 => ?_) (fun g5 => ?_)
 ·try simp only [decide_eq_true_eq, decide_eq_false_iff_not, beq_iff_eq, bne_iff_ne, beq_eq_false_iff_ne, bne_eq_false_iff_eq, Bool.not_eq_true', Bool.not_eq_false', Bool.not_eq_true, ne_eq, Decidable.not_not] at g5
  have h1 : (s.toList == mA.toList) = true := by simpa [mA] using g5
  refine OL.off rfl rfl (OL.off rfl rfl (OL.dp rfl (OL.dp rfl (OL.off rfl rfl (OL.off rfl rfl (OL.dp rfl (OL.dp rfl (OL.nil (PW.k1 2 rfl (PW.ret ?_))))))))))
  change (Exit.ret = Exit.normal ∨ Exit.ret = Exit.ret) /\ ∃ v, resV _ _ = some v /\ _
  exact ⟨.inr rfl, _, rfl, by first | (unfold markP; rw [h1, h2]; rfl) | (unfold markP; rw [h1]; rfl), rfl⟩
 try simp only [decide_eq_true_eq, decide_eq_false_iff_not, beq_iff_eq, bne_iff_ne, beq_eq_false_iff_ne, bne_eq_false_iff_eq, Bool.not_eq_true', Bool.not_eq_false', Bool.not_eq_true, ne_eq, Decidable.not_not] at g5
 have h1 : (s.toList == mA.toList) = false := by simpa [mA] using g5
 refine OL.det rfl (.pure rfl) (OL.det rfl (.pure rfl) (OL.dp rfl ?_))
 refine OL.bool trivial (Yields.pure rfl) (fun g9 => ?_) (fun g9 => ?_)
 ·try simp only [decide_eq_true_eq, decide_eq_false_iff_not, beq_iff_eq, bne_iff_ne, beq_eq_false_iff_ne, bne_eq_false_iff_eq, Bool.not_eq_true', Bool.not_eq_false', Bool.not_eq_true, ne_eq, Decidable.not_not] at g9
  have h2 : (s.toList == mB.toList) = true := by simpa [mB] using g9
  refine OL.off rfl rfl (OL.off rfl rfl (OL.dp rfl (OL.dp rfl (OL.nil (PW.k1 2 rfl (PW.ret ?_))))))
  change (Exit.ret = Exit.normal ∨ Exit.ret = Exit.ret) /\ ∃ v, resV _ _ = some v /\ _
  exact ⟨.inr rfl, _, rfl, by first | (unfold markP; rw [h1, h2]; rfl) | (unfold markP; rw [h1]; rfl), rfl⟩
 try simp only [decide_eq_true_eq, decide_eq_false_iff_not, beq_iff_eq, bne_iff_ne, beq_eq_false_iff_ne, bne_eq_false_iff_eq, Bool.not_eq_true', Bool.not_eq_false', Bool.not_eq_true, ne_eq, Decidable.not_not] at g9
 have h2 : (s.toList == mB.toList) = false := by simpa [mB] using g9
 refine OL.det rfl (.pure rfl) (OL.det rfl (.pure rfl) (OL.dp rfl (OL.dp rfl (OL.nil (PW.k1 2 rfl (PW.ret ?_))))))
 change (Exit.ret = Exit.normal ∨ Exit.ret = Exit.ret) /\ ∃ v, resV _ _ = some v /\ _
 exact ⟨.inr rfl, _, rfl, by first | (unfold markP; rw [h1, h2]; rfl) | (unfold markP; rw [h1]; rfl), rfl⟩
def isP (s : ByteArray) : Bool := plainP s && !(markP s)
theorem strs_at {w0 : World} {S : SS} {a : Addr} {ls : List ByteArray} (h : Rd w0 S (some a) (strs ls)) {k : Nat} (hk : k < ls.length) : Cell w0 S (a.add k) (.string ls[k]) := h.at (by simp [strs, hk])
theorem strs_ne {ls : List ByteArray} (h : 0 < ls.length) : strs ls ≠ [] := by intro e; have := congrArg List.length e; rw [strs_len, List.length_nil] at this; omega
theorem is_fc {w0 : World} {S : SS} {s : ByteArray} (hs : s.size <= 1000000000000000) : FC Tryz.prog w0 20 [.string s] S (fun v S' => v = .bool (isP s) /\ S' = S) := by
 refine FC.of Tryz.known20 (by simp) ?_
 unfold Tryz.pc20
 simp only [argT]
 refine PW.seqOps (OL.dp rfl (OL.nil (PW.k1 0 rfl (PW.seqOps (OL.dp rfl (OL.call trivial rfl (plain_fc hs) ?_))))))
 rintro _ Sx ⟨rfl, hSx⟩
 rw [hSx]
 clear hSx
 refine OL.bool trivial (Yields.pure rfl) (fun g5 => ?_) (fun g5 => ?_)
 ·try simp only [decide_eq_true_eq, decide_eq_false_iff_not, beq_iff_eq, bne_iff_ne, beq_eq_false_iff_ne, bne_eq_false_iff_eq, Bool.not_eq_true', Bool.not_eq_false', Bool.not_eq_true, ne_eq, Decidable.not_not] at g5
  refine OL.det rfl (.pure rfl) (OL.call rfl rfl (mark_fc) ?_)
  rintro _ Sx ⟨rfl, hSx⟩
  rw [hSx]
  clear hSx
  refine OL.det rfl (.pure rfl) (OL.dp rfl (OL.dp rfl (OL.nil (PW.k1 2 rfl (PW.ret ?_)))))
  change (Exit.ret = Exit.normal ∨ Exit.ret = Exit.ret) /\ ∃ v, resV _ _ = some v /\ _
  exact ⟨.inr rfl, _, rfl, by unfold isP; rw [g5]; rfl, rfl⟩
 try simp only [decide_eq_true_eq, decide_eq_false_iff_not, beq_iff_eq, bne_iff_ne, beq_eq_false_iff_ne, bne_eq_false_iff_eq, Bool.not_eq_true', Bool.not_eq_false', Bool.not_eq_true, ne_eq, Decidable.not_not] at g5
 refine OL.off rfl rfl (OL.off rfl rfl (OL.off rfl rfl (OL.dp rfl (OL.dp rfl (OL.nil (PW.k1 2 rfl (PW.ret ?_)))))))
 change (Exit.ret = Exit.normal ∨ Exit.ret = Exit.ret) /\ ∃ v, resV _ _ = some v /\ _
 exact ⟨.inr rfl, _, rfl, by unfold isP; rw [g5]; rfl, rfl⟩
def idxQ (q : ByteArray -> Bool) (ls : List ByteArray) (z : Int) : Prop := (0 <= z ↔ ls.any q = true)
theorem any_take {q : ByteArray -> Bool} {ls : List ByteArray} {k : Nat} (h : k < ls.length) : (ls.take (k + 1)).any q = ((ls.take k).any q || q ls[k]) := by
 rw [List.take_add_one, List.getElem?_eq_getElem h, List.any_append]
 simp only [Option.toList, List.any_cons, List.any_nil, Bool.or_false]
theorem indexF_fc {w0 : World} {S : SS} {A : Option Addr} {cap g : Nat} {ls : List ByteArray} {q : ByteArray -> Bool} (hx : Rd w0 S A (strs ls)) (hb : ls.length <= 1000000000) (hok : fnOk Tryz.prog g = true) (hq : ∀ s ∈ ls, FC Tryz.prog w0 g [.string s] S (fun v S' => v = .bool (q s) /\ S' = S)) :
  FC Tryz.prog w0 97 [.slice A ls.length cap, .func (.func g) #[] #[]] S (fun v S' => ∃ z, v = .int .i64 z /\ idxQ q ls z /\ S' = S) := by
 refine FC.of Tryz.known97 (by simp) ?_
 unfold Tryz.pc97
 simp only [argT]
 refine PW.seqOps (OL.dp rfl (OL.nil (PW.k2 0 1 rfl ?_)))
 refine PW.seq fun K1 hK1 => ?_
 refine PW.seqOps (OL.dp rfl (OL.dp rfl (OL.dp rfl (OL.nil (PW.k4 0 1 7 8 rfl (PW.block (PW.k4 0 1 7 8 rfl ?_)))))))
 refine PW.loopK (I := fun m T S' => ∃ (k : Nat), (k <= ls.length /\ m = ls.length - k /\ (ls.take k).any q = false) /\ T = ([(0, .slice A ls.length cap), (1, .func (.func g) #[] #[]), (7, .int .i64 (ls.length : Int)), (8, .int .i64 k)] : TT) /\ S' = S) (m := ls.length) ⟨0, ⟨by omega, by omega, rfl⟩, rfl, rfl⟩ ?_
 rintro m _ _ ⟨k, ⟨hk, hm, hall⟩, rfl, rfl⟩
 refine PW.seqOps (OL.dp rfl (OL.nil (PW.k5 0 1 7 8 9 rfl ?_)))
 refine PW.seq fun K2 hK2 => ?_
 refine PW.cond rfl (fun c9 => ?_) (fun c9 => ?_)
 ·try simp only [decide_eq_true_eq, decide_eq_false_iff_not, beq_iff_eq, bne_iff_ne, beq_eq_false_iff_ne, bne_eq_false_iff_eq, Bool.not_eq_true', Bool.not_eq_false', Bool.not_eq_true, ne_eq, Decidable.not_not] at c9
  have hkl : k < ls.length := by omega
  obtain ⟨b0, rfl⟩ := hx.some (strs_ne (by omega))
  refine PW.skip ?_
  refine hK2 _ _ ?_
  refine PW.k4 0 1 7 8 rfl ?_
  refine PW.seq fun K3 hK3 => ?_
  refine PW.block (PW.seqOps (OL.dp rfl (OL.dp rfl (OL.nil (PW.k5 0 1 5 7 8 rfl (PW.seqOps (OL.dp rfl (OL.dp rfl (OL.dp rfl ?_)))))))))
  refine OL.det trivial (.ixN1 rfl rfl rfl (by omega)) ?_
  refine OL.det trivial (.ld rfl (strs_at hx hkl)) (OL.cons trivial (OW.callv (fi := []) (ca := []) rfl hok rfl (hq _ (List.getElem_mem hkl))) ?_)
  rintro _ Sx ⟨rfl, hSx⟩
  rw [hSx]
  clear hSx
  refine OL.nil (PW.k6 0 1 5 7 8 16 rfl ?_)
  refine PW.cond rfl (fun c16 => ?_) (fun c16 => ?_)
  ·try simp only [decide_eq_true_eq, decide_eq_false_iff_not, beq_iff_eq, bne_iff_ne, beq_eq_false_iff_ne, bne_eq_false_iff_eq, Bool.not_eq_true', Bool.not_eq_false', Bool.not_eq_true, ne_eq, Decidable.not_not] at c16
   refine PW.seqOps (OL.dp rfl (OL.dp rfl (OL.nil (PW.k1 4 rfl (PW.ret ?_)))))
   change (Exit.ret = Exit.normal ∨ Exit.ret = Exit.ret) /\ ∃ v, resV _ _ = some v /\ _
   exact ⟨.inr rfl, _, rfl, _, rfl, ⟨fun _ => List.any_eq_true.2 ⟨_, List.getElem_mem hkl, c16⟩, fun _ => by omega⟩, rfl⟩
  try simp only [decide_eq_true_eq, decide_eq_false_iff_not, beq_iff_eq, bne_iff_ne, beq_eq_false_iff_ne, bne_eq_false_iff_eq, Bool.not_eq_true', Bool.not_eq_false', Bool.not_eq_true, ne_eq, Decidable.not_not] at c16
  refine PW.skip ?_
  refine hK3 _ _ ?_
  refine PW.k4 0 1 7 8 rfl (PW.ops ?_)
  refine OL.det trivial (.add64 rfl rfl (by omega) (by omega)) ?_
  refine OL.dp rfl (OL.nil ?_)
  repeat rw [inBlk_n]
  try rw [thenK_n]
  refine LoopEnd.mk (T'' := [(0, _), (1, _), (7, _), (8, _)]) (wi rfl) ?_
  refine ⟨ls.length - (k + 1), by omega, k + 1, ⟨by omega, rfl, ?_⟩, by simp, rfl⟩
  rw [any_take hkl, hall, c16]; rfl
 try simp only [decide_eq_true_eq, decide_eq_false_iff_not, beq_iff_eq, bne_iff_ne, beq_eq_false_iff_ne, bne_eq_false_iff_eq, Bool.not_eq_true', Bool.not_eq_false', Bool.not_eq_true, ne_eq, Decidable.not_not] at c9
 refine PW.exit ?_
 refine hK1 _ _ ?_
 refine PW.keep (T' := []) trivial (PW.seqOps (OL.dp rfl (OL.nil (PW.k1 4 rfl (PW.ret ?_)))))
 change (Exit.ret = Exit.normal ∨ Exit.ret = Exit.ret) /\ ∃ v, resV _ _ = some v /\ _
 obtain rfl : k = ls.length := by omega
 rw [List.take_length] at hall
 exact ⟨.inr rfl, _, rfl, _, rfl, ⟨fun h => absurd h (by omega), fun h => by rw [hall] at h; cases h⟩, rfl⟩
theorem contains_fc {w0 : World} {S : SS} {A : Option Addr} {cap g : Nat} {ls : List ByteArray} {q : ByteArray -> Bool} (hx : Rd w0 S A (strs ls)) (hb : ls.length <= 1000000000) (hok : fnOk Tryz.prog g = true) (hq : ∀ s ∈ ls, FC Tryz.prog w0 g [.string s] S (fun v S' => v = .bool (q s) /\ S' = S)) :
  FC Tryz.prog w0 65 [.slice A ls.length cap, .func (.func g) #[] #[]] S (fun v S' => v = .bool (ls.any q) /\ S' = S) := by
 refine FC.of Tryz.known65 (by simp) ?_
 unfold Tryz.pc65
 simp only [argT]
 refine PW.seqOps (OL.dp rfl (OL.nil (PW.k2 0 1 rfl (PW.seqOps (OL.dp rfl (OL.dp rfl (OL.call trivial rfl (indexF_fc hx hb hok hq) ?_)))))))
 rintro _ Sx ⟨z, rfl, hz, hSx⟩
 rw [hSx]
 clear hSx
 refine OL.dp rfl (OL.dp rfl (OL.nil (PW.k1 4 rfl (PW.ret ?_))))
 change (Exit.ret = Exit.normal ∨ Exit.ret = Exit.ret) /\ ∃ v, resV _ _ = some v /\ _
 exact ⟨.inr rfl, _, rfl, congrArg Value.bool (by rw [Bool.eq_iff_iff, <- (show 0 <= z ↔ ls.any q = true from hz)]; simp), rfl⟩
end Go.Proofs.Ln

namespace Go.Proofs.My
open Go.SL Go.RowKit
theorem str_at {w0 : World} {S : SS} {a : Addr} {xs : List ByteArray} (h : Rd w0 S (some a) (xs.map .string)) {k : Nat} (hk : k < xs.length) : Cell w0 S (a.add k) (.string xs[k]) := h.at (by simp [hk])
theorem strs_ne {xs : List ByteArray} (h : 0 < xs.length) : xs.map Value.string ≠ [] := by intro e; simp at e; subst e; simp at h
set_option maxHeartbeats 1000000
end Go.Proofs.My

namespace Go.Proofs.My
open Go.SL Go.RowKit
set_option maxHeartbeats 1000000
def stC (t : Int × Int × Int) : List Value := [.int .i64 t.1, .int .i64 t.2.1, .int .i64 t.2.2]
def stsC (l : List (Int × Int × Int)) : List Value := l.flatMap stC
theorem stsC_length (l : List (Int × Int × Int)) : (stsC l).length = l.length * 3 := by
 induction l with
 | nil => rfl
 | cons x l ih => simp only [stsC, List.flatMap_cons, List.length_append] at ih ⊢; rw [ih]; simp [stC]; omega
theorem stsC_append (l r : List (Int × Int × Int)) : stsC (l ++ r) = stsC l ++ stsC r := by simp [stsC]
theorem stsC_get {l : List (Int × Int × Int)} {k : Nat} (h : k < l.length) (j : Nat) (hj : j < 3) : (stsC l)[k * 3 + j]? = (stC l[k])[j]? := by
 induction l generalizing k with
 | nil => simp at h
 | cons x l ih =>
  cases k with
  | zero =>
   simp only [stsC, List.flatMap_cons, Nat.zero_mul, Nat.zero_add, List.getElem_cons_zero]
   rw [List.getElem?_append_left (by simp [stC]; omega)]
  | succ k =>
   simp only [stsC, List.flatMap_cons]
   rw [List.getElem?_append_right (by simp [stC]; omega)]
   have := ih (k := k) (by simpa using h)
   simp only [stsC] at this
   rw [show (k + 1) * 3 + j - (stC x).length = k * 3 + j by simp [stC]; omega, this]
   simp
theorem st_at {w0 : World} {S : SS} {a : Addr} {l : List (Int × Int × Int)} (h : Rd w0 S (some a) (stsC l)) {k : Nat} (hk : k < l.length) (j : Nat) (hj : j < 3) {v : Value} (hv : (stC l[k])[j]? = some v) : Cell w0 S ((a.add (k * 3)).add j) v := by
 rw [addr_add_add]
 exact h.at (by rw [stsC_get hk j hj, hv])
theorem stsC_ne {l : List (Int × Int × Int)} (h : 0 < l.length) : stsC l ≠ [] := by
 intro e; have := congrArg List.length e; rw [stsC_length] at this; simp only [List.length_nil] at this; omega
end Go.Proofs.My

namespace Go.MyPlain
section
variable {α : Type} [DecidableEq α]
def nextRow (x : α) : List α -> List Nat -> List Nat
 | y :: ys, p :: ps => let r := nextRow x ys ps; (if x = y then ps.headD 0 + 1 else max p (r.headD 0)) :: r
 | _, _ => [0]
def row : List α -> List α -> List Nat
 | [], ys => ys.map (fun _ => 0) ++ [0]
 | x :: xs, ys => nextRow x ys (row xs ys)
def lcs (xs ys : List α) : Nat := (row xs ys).headD 0
theorem row_cons (xs : List α) (y : α) (ys : List α) : row xs (y :: ys) = lcs xs (y :: ys) :: row xs ys := by
 induction xs with
 | nil => simp [row, lcs]
 | cons x xs ih =>
  have h : row (x :: xs) (y :: ys) = nextRow x (y :: ys) (row xs (y :: ys)) := rfl
  rw [h]
  rw [ih]
  simp only [nextRow, lcs]
  rw [h, ih]
  simp only [nextRow, lcs, List.headD_cons]
  simp [row]
theorem row_nil (xs : List α) : row xs [] = [0] := by
 induction xs with
 | nil => rfl
 | cons x xs ih => simp [row, nextRow]
theorem lcs_nil_left (ys : List α) : lcs [] ys = 0 := by cases ys <;> simp [lcs, row]
theorem lcs_nil_right (xs : List α) : lcs xs [] = 0 := by simp [lcs, row_nil]
theorem lcs_cons (x : α) (xs : List α) (y : α) (ys : List α) : lcs (x :: xs) (y :: ys) = if x = y then lcs xs ys + 1 else max (lcs xs (y :: ys)) (lcs (x :: xs) ys) := by
 have h : row (x :: xs) (y :: ys) = nextRow x (y :: ys) (row xs (y :: ys)) := rfl
 unfold lcs
 rw [h, row_cons xs y ys]
 simp only [nextRow, List.headD_cons]
 rfl
theorem lcs_mono (xs ys : List α) : (∀ x, lcs xs ys <= lcs (x :: xs) ys /\ lcs (x :: xs) ys <= lcs xs ys + 1) /\ (∀ y, lcs xs ys <= lcs xs (y :: ys) /\ lcs xs (y :: ys) <= lcs xs ys + 1) := by
 have main : ∀ n (xs ys : List α), xs.length + ys.length = n -> (∀ x, lcs xs ys <= lcs (x :: xs) ys /\ lcs (x :: xs) ys <= lcs xs ys + 1) /\ (∀ y, lcs xs ys <= lcs xs (y :: ys) /\ lcs xs (y :: ys) <= lcs xs ys + 1) := by
  intro n
  induction n using Nat.strongRecOn with
  | _ n ih =>
   intro xs ys hn
   constructor
   ·intro x
    cases ys with
    | nil => simp [lcs_nil_right]
    | cons y ys =>
     rw [lcs_cons]
     have h1 := (ih (xs.length + ys.length) (by simp at hn; omega) xs ys rfl).2 y
     have h2 := (ih (xs.length + ys.length) (by simp at hn; omega) xs ys rfl).1 x
     split <;> omega
   intro y
   cases xs with
   | nil => simp [lcs_nil_left]
   | cons x xs =>
    rw [lcs_cons]
    have h1 := (ih (xs.length + ys.length) (by simp at hn; omega) xs ys rfl).1 x
    have h2 := (ih (xs.length + ys.length) (by simp at hn; omega) xs ys rfl).2 y
    split <;> omega
 exact main _ xs ys rfl
theorem lcs_le (xs ys : List α) : lcs xs ys <= xs.length := by
 induction xs with
 | nil => simp [lcs_nil_left]
 | cons x xs ih => have := ((lcs_mono xs ys).1 x).2; simp; omega
def scrF : Nat -> Nat -> Nat -> List α -> List α -> List (Int × Int × Int)
 | 0, _, _, _, _ => []
 | f + 1, i, j, x :: xs, y :: ys =>
  if x = y then (0, i, j) :: scrF f (i + 1) (j + 1) xs ys
  else if lcs (x :: xs) ys <= lcs xs (y :: ys) then (1, i, 0) :: scrF f (i + 1) j xs (y :: ys)
  else (2, 0, j) :: scrF f i (j + 1) (x :: xs) ys
 | f + 1, i, j, _ :: xs, [] => (1, i, 0) :: scrF f (i + 1) j xs []
 | f + 1, i, j, [], _ :: ys => (2, 0, j) :: scrF f i (j + 1) [] ys
 | _ + 1, _, _, [], [] => []
def scr (xs ys : List α) : List (Int × Int × Int) := scrF (xs.length + ys.length) 0 0 xs ys
theorem scrF_length (f i j : Nat) (xs ys : List α) : (scrF f i j xs ys).length <= f := by
 induction f generalizing i j xs ys with
 | zero => simp [scrF]
 | succ f ih =>
  cases xs with
  | nil => cases ys with
   | nil => simp [scrF]
   | cons y ys => simp [scrF]; exact ih ..
  | cons x xs => cases ys with
   | nil => simp [scrF]; exact ih ..
   | cons y ys =>
    simp only [scrF]
    split
    ·simp; exact ih ..
    split <;> (simp; exact ih ..)
theorem scr_length (xs ys : List α) : (scr xs ys).length <= xs.length + ys.length := scrF_length ..
theorem scrF_fuel (f g i j : Nat) (xs ys : List α) (hf : xs.length + ys.length <= f) (hg : xs.length + ys.length <= g) : scrF f i j xs ys = scrF g i j xs ys := by
 induction f generalizing g i j xs ys with
 | zero =>
  have h1 : xs = [] := List.eq_nil_of_length_eq_zero (by omega)
  have h2 : ys = [] := List.eq_nil_of_length_eq_zero (by omega)
  subst h1; subst h2
  cases g <;> simp [scrF]
 | succ f ih =>
  cases g with
  | zero =>
   have h1 : xs = [] := List.eq_nil_of_length_eq_zero (by omega)
   have h2 : ys = [] := List.eq_nil_of_length_eq_zero (by omega)
   subst h1; subst h2
   simp [scrF]
  | succ g =>
   cases xs with
   | nil => cases ys with
    | nil => simp [scrF]
    | cons y ys => simp only [scrF]; rw [ih]; all_goals simp at *; omega
   | cons x xs => cases ys with
    | nil => simp only [scrF]; rw [ih]; all_goals simp at *; omega
    | cons y ys =>
     simp only [scrF]
     rw [ih g (i + 1) (j + 1) xs ys (by simp at hf; omega) (by simp at hg; omega), ih g (i + 1) j xs (y :: ys) (by simp at hf ⊢; omega) (by simp at hg ⊢; omega), ih g i (j + 1) (x :: xs) ys (by simp at hf ⊢; omega) (by simp at hg ⊢; omega)]
end
section
variable {α β : Type} [DecidableEq α] [DecidableEq β]
theorem lcs_map (g : α -> β) : ∀ (xs ys : List α), (∀ x ∈ xs, ∀ y ∈ ys, g x = g y -> x = y) -> lcs (xs.map g) (ys.map g) = lcs xs ys := by
 have main : ∀ n (xs ys : List α), xs.length + ys.length = n -> (∀ x ∈ xs, ∀ y ∈ ys, g x = g y -> x = y) -> lcs (xs.map g) (ys.map g) = lcs xs ys := by
  intro n
  induction n using Nat.strongRecOn with
  | _ n ih =>
   intro xs ys hn h
   cases xs with
   | nil => simp [lcs_nil_left]
   | cons x xs =>
    cases ys with
    | nil => simp [lcs_nil_right]
    | cons y ys =>
     simp only [List.map_cons]
     rw [lcs_cons, lcs_cons]
     have e : (g x = g y) = (x = y) := propext ⟨fun e => h x (by simp) y (by simp) e, fun e => by rw [e]⟩
     simp only [e]
     rw [ih (xs.length + ys.length) (by simp at hn; omega) xs ys rfl (fun a ha b hb => h a (by simp [ha]) b (by simp [hb]))]
     have h1 := ih (xs.length + (y :: ys).length) (by simp at hn ⊢; omega) xs (y :: ys) rfl (fun a ha b hb => h a (by simp [ha]) b hb)
     have h2 := ih ((x :: xs).length + ys.length) (by simp at hn ⊢; omega) (x :: xs) ys rfl (fun a ha b hb => h a ha b (by simp [hb]))
     simp only [List.map_cons] at h1 h2
     rw [h1, h2]
 exact fun xs ys h => main _ xs ys rfl h
theorem scrF_map (g : α -> β) (f i j : Nat) (xs ys : List α) (h : ∀ x ∈ xs, ∀ y ∈ ys, g x = g y -> x = y) : scrF f i j (xs.map g) (ys.map g) = scrF f i j xs ys := by
 induction f generalizing i j xs ys with
 | zero => simp [scrF]
 | succ f ih =>
  cases xs with
  | nil => cases ys with
   | nil => simp [scrF]
   | cons y ys =>
    simp only [List.map_cons, List.map_nil, scrF]
    have := ih i (j + 1) [] ys (by simp)
    simp only [List.map_nil] at this
    rw [this]
  | cons x xs => cases ys with
   | nil =>
    simp only [List.map_cons, List.map_nil, scrF]
    have := ih (i + 1) j xs [] (by simp)
    simp only [List.map_nil] at this
    rw [this]
   | cons y ys =>
    simp only [List.map_cons, scrF]
    have e : (g x = g y) = (x = y) := propext ⟨fun e => h x (by simp) y (by simp) e, fun e => by rw [e]⟩
    have h0 := ih (i + 1) (j + 1) xs ys (fun a ha b hb => h a (by simp [ha]) b (by simp [hb]))
    have h1 := ih (i + 1) j xs (y :: ys) (fun a ha b hb => h a (by simp [ha]) b hb)
    have h2 := ih i (j + 1) (x :: xs) ys (fun a ha b hb => h a ha b (by simp [hb]))
    have l1 := lcs_map g xs (y :: ys) (fun a ha b hb => h a (by simp [ha]) b hb)
    have l2 := lcs_map g (x :: xs) ys (fun a ha b hb => h a ha b (by simp [hb]))
    simp only [List.map_cons] at h1 h2 l1 l2
    simp only [e, h0, h1, h2, l1, l2]
theorem scr_map (g : α -> β) (xs ys : List α) (h : ∀ x ∈ xs, ∀ y ∈ ys, g x = g y -> x = y) : scr (xs.map g) (ys.map g) = scr xs ys := by
 unfold scr
 rw [List.length_map, List.length_map]
 exact scrF_map g _ 0 0 xs ys h
end
section
variable {α : Type} [DecidableEq α]
def idx : List α -> α -> Option Nat
 | [], _ => none
 | k :: ks, s => if s = k then some 0 else (idx ks s).map (· + 1)
def numF : List α -> List α -> List α × List Nat
 | ks, [] => (ks, [])
 | ks, s :: r => match idx ks s with
  | some i => let q := numF ks r; (q.1, i :: q.2)
  | none => let q := numF (ks ++ [s]) r; (q.1, ks.length :: q.2)
theorem idx_append {ks r : List α} {s : α} {i : Nat} (h : idx ks s = some i) : idx (ks ++ r) s = some i := by
 induction ks generalizing i with
 | nil => simp [idx] at h
 | cons k ks ih =>
  simp only [idx, List.cons_append] at h ⊢
  split
  ·rename_i e; rw [if_pos e] at h; exact h
  rename_i e
  rw [if_neg e] at h
  cases hi : idx ks s with
  | none => rw [hi] at h; simp at h
  | some j => rw [hi] at h; rw [ih hi]; exact h
theorem idx_new {ks : List α} {s : α} (h : idx ks s = none) : idx (ks ++ [s]) s = some ks.length := by
 induction ks with
 | nil => simp [idx]
 | cons k ks ih =>
  simp only [idx, List.cons_append] at h ⊢
  split
  ·rename_i e; rw [if_pos e] at h; simp at h
  rename_i e
  rw [if_neg e] at h
  rw [ih (by simpa using h)]
  simp
theorem idx_inj {ks : List α} {s t : α} {i : Nat} (h : idx ks s = some i) (k : idx ks t = some i) : s = t := by
 induction ks generalizing i with
 | nil => simp [idx] at h
 | cons a ks ih =>
  simp only [idx] at h k
  split at h
  ·rename_i e
   split at k
   ·rename_i e'; rw [e, e']
   cases hi : idx ks t with
   | none => rw [hi] at k; simp at k
   | some j => rw [hi] at k; simp at h k; omega
  split at k
  ·cases hi : idx ks s with
   | none => rw [hi] at h; simp at h
   | some j => rw [hi] at h; simp at h k; omega
  cases hi : idx ks s with
  | none => rw [hi] at h; simp at h
  | some j =>
   cases hj : idx ks t with
   | none => rw [hj] at k; simp at k
   | some j' =>
    rw [hi] at h; rw [hj] at k
    simp at h k
    exact ih hi (by rw [hj]; congr 1; omega)
theorem numF_spec (ks xs : List α) : (∃ r, (numF ks xs).1 = ks ++ r) /\ (∀ s ∈ xs, ∃ i, idx (numF ks xs).1 s = some i) /\ (numF ks xs).2 = xs.map fun s => (idx (numF ks xs).1 s).getD 0 := by
 induction xs generalizing ks with
 | nil => exact ⟨⟨[], by simp [numF]⟩, by simp, rfl⟩
 | cons s r ih =>
  simp only [numF]
  cases h : idx ks s with
  | some i =>
   obtain ⟨⟨q, hq⟩, h2, h3⟩ := ih ks
   simp only
   have hs : idx (numF ks r).1 s = some i := by rw [hq]; exact idx_append h
   refine ⟨⟨q, hq⟩, fun t ht => ?_, ?_⟩
   ·rcases List.mem_cons.1 ht with rfl | ht
    ·exact ⟨i, hs⟩
    exact h2 t ht
   rw [List.map_cons, hs, <- h3]; rfl
  | none =>
   obtain ⟨⟨q, hq⟩, h2, h3⟩ := ih (ks ++ [s])
   simp only
   have hs : idx (numF (ks ++ [s]) r).1 s = some ks.length := by rw [hq]; exact idx_append (idx_new h)
   refine ⟨⟨s :: q, by rw [hq]; simp⟩, fun t ht => ?_, ?_⟩
   ·rcases List.mem_cons.1 ht with rfl | ht
    ·exact ⟨_, hs⟩
    exact h2 t ht
   rw [List.map_cons, hs, <- h3]; rfl
theorem numF_length (ks xs : List α) : (numF ks xs).2.length = xs.length := by rw [(numF_spec ks xs).2.2]; simp
theorem numF_keys (ks xs : List α) : (numF ks xs).1.length <= ks.length + xs.length := by
 induction xs generalizing ks with
 | nil => simp [numF]
 | cons s r ih =>
  simp only [numF]
  cases h : idx ks s with
  | some i => simp only; have := ih ks; simp; omega
  | none => simp only; have := ih (ks ++ [s]); simp at this ⊢; omega
theorem scr_nums (xs ys : List α) : scr (numF [] xs).2 (numF (numF [] xs).1 ys).2 = scr xs ys := by
 obtain ⟨⟨r, hr⟩, h2, h3⟩ := numF_spec [] xs
 obtain ⟨⟨q, hq⟩, k2, k3⟩ := numF_spec (numF [] xs).1 ys
 have e : (numF [] xs).2 = xs.map fun s => (idx (numF (numF [] xs).1 ys).1 s).getD 0 := by
  conv => lhs; rw [h3]
  refine List.map_congr_left fun s hs => ?_
  obtain ⟨i, hi⟩ := h2 s hs
  rw [hi, hq, idx_append hi]
 rw [k3, e]
 refine scr_map _ xs ys fun x hx y hy hxy => ?_
 obtain ⟨i, hi⟩ := h2 x hx
 obtain ⟨j, hj⟩ := k2 y hy
 have hi' : idx (numF (numF [] xs).1 ys).1 x = some i := by rw [hq]; exact idx_append hi
 rw [hi', hj] at hxy
 simp at hxy
 subst hxy
 exact idx_inj hi' hj
def numS (st : List α × List Nat) (s : α) : List α × List Nat :=
 match idx st.1 s with
 | some i => (st.1, st.2 ++ [i])
 | none => (st.1 ++ [s], st.2 ++ [st.1.length])
theorem numS_foldl (xs : List α) : ∀ (ks : List α) (l : List Nat), xs.foldl numS (ks, l) = ((numF ks xs).1, l ++ (numF ks xs).2) := by
 induction xs with
 | nil => intro ks l; simp [numF]
 | cons s r ih =>
  intro ks l
  simp only [List.foldl_cons, numF, numS]
  cases h : idx ks s with
  | some i => simp only; rw [ih]; simp
  | none => simp only; rw [ih]; simp
end
end Go.MyPlain

namespace Go.Proofs.My
open Go.SL Go.RowKit
open Go.MyPlain
set_option maxHeartbeats 1000000
def intC (l : List Nat) : List Value := l.map fun (i : Nat) => Value.int .i64 (i : Int)
def ent (ks : List ByteArray) (i : Nat) : List (ByteArray × Value) := match ks with | [] => [] | k :: r => (k, .int .i64 (i : Int)) :: ent r (i + 1)
theorem ent_length (ks : List ByteArray) (i : Nat) : (ent ks i).length = ks.length := by induction ks generalizing i with | nil => rfl | cons k r ih => simp [ent, ih]
theorem beq_bytes (a b : ByteArray) : (a == b) = decide (a = b) := by
 by_cases h : a = b
 ·simp [h, (Go.MapKept.bytes_beq b b).2 rfl]
 have : ¬ (a == b) = true := fun e => h ((Go.MapKept.bytes_beq a b).1 e)
 simp [h, this]
theorem mget_ent (ks : List ByteArray) (s : ByteArray) (i : Nat) : mget (ent ks i) s = (idx ks s).map fun j => .int .i64 ((i + j : Nat) : Int) := by
 induction ks generalizing i with
 | nil => simp [ent, mget, idx]
 | cons k r ih =>
  by_cases h : s = k
  ·simp [ent, mget, idx, List.find?_cons, beq_bytes, h]
  have := ih (i + 1)
  simp only [mget, beq_bytes] at this
  simp only [ent, mget, idx, List.find?_cons, beq_bytes, h, decide_false, if_false]
  rw [this]
  cases idx r s <;> simp <;> omega
theorem mput_ent (ks : List ByteArray) (s : ByteArray) (i : Nat) (h : idx ks s = none) : mputAt (ent ks i) s (.int .i64 ((i + ks.length : Nat) : Int)) = ent (ks ++ [s]) i := by
 induction ks generalizing i with
 | nil => simp [ent, mputAt]
 | cons k r ih =>
  simp only [idx] at h
  split at h
  ·simp at h
  rename_i hk
  have := ih (i + 1) (by simpa using h)
  simp only [ent, mputAt, beq_bytes, hk, decide_false, List.cons_append, Bool.false_eq_true, if_false]
  rw [<- this]
  simp [Nat.add_assoc, Nat.add_comm, Nat.add_left_comm]
theorem numS_len (xs : List ByteArray) (st : List ByteArray × List Nat) : (xs.foldl numS st).2.length = st.2.length + xs.length /\ (xs.foldl numS st).1.length <= st.1.length + xs.length := by
 obtain ⟨a, b⟩ := st
 rw [numS_foldl]
 have := numF_keys a xs
 simp [numF_length, this]
theorem numbered_fc {w0 : World} {S : SS} {A : Option Addr} {ca mb : Nat} {ks xs : List ByteArray} (hx : Rd w0 S A (xs.map .string)) (hb : xs.length <= 100000) (hk : ks.length <= 100000) :
  FC Tryz.prog w0 98 [.map (some mb), .slice A xs.length ca] ([(mb, .map (skey (ent ks 0)))] :: S) (fun v S' => ∃ seg, S' = seg :: [(mb, .map (skey (ent (numF ks xs).1 0)))] :: S /\ SlV 3 1 v xs.length (intC (numF ks xs).2) seg) := by
 refine FC.of Tryz.known98 (by simp) ?_
 unfold Tryz.pc98
 simp only [argT]
 refine PW.seqOps (OL.dp rfl (OL.nil (PW.k2 0 1 rfl (PW.seqOps (OL.dp rfl (OL.dp rfl ?_))))))
 refine OL.cons trivial (OW.mkS_cap rfl rfl (by omega) (by unfold maxLen; omega)) ?_
 rintro _ _ ⟨r12, rfl, rfl⟩
 refine OL.dp rfl (OL.nil (PW.k3 0 1 5 rfl ?_))
 refine PW.seq fun K1 hK1 => ?_
 refine PW.seqOps (OL.dp rfl (OL.dp rfl (OL.dp rfl (OL.nil (PW.k5 0 5 13 14 15 rfl (PW.block (PW.k5 0 5 13 14 15 rfl ?_)))))))
 refine PW.loopK (I := fun m T S' => ∃ (k : Nat) (v : Value) (seg : Seg), (k <= xs.length /\ m = xs.length - k /\ SlV 3 1 v k (intC ((xs.take k).foldl numS (ks, [])).2) seg) /\ T = ([(0, .map (some mb)), (5, v), (13, .slice A xs.length ca), (14, .int .i64 xs.length), (15, .int .i64 k)] : TT) /\ S' = seg :: [(mb, .map (skey (ent ((xs.take k).foldl numS (ks, [])).1 0)))] :: S) (m := xs.length) ⟨0, _, [(r12, .cells [] 3 (xs.length * 1))], ⟨by omega, by omega, by simpa [intC] using SlV.mk' (E := 3) (sz := 1) (m := 0) (cap := xs.length) (r := r12) (xs := []) (by simp) (by omega) (by unfold maxLen; omega)⟩, rfl, rfl⟩ ?_
 rintro m _ _ ⟨k, v, seg, ⟨hkk, hm, hsl⟩, rfl, rfl⟩
 refine PW.seqOps (OL.dp rfl (OL.nil (PW.k6 0 5 13 14 15 16 rfl ?_)))
 refine PW.seq fun K2 hK2 => ?_
 refine PW.cond rfl (fun c16 => ?_) (fun c16 => ?_)
 ·try simp only [decide_eq_true_eq, decide_eq_false_iff_not, beq_iff_eq, bne_iff_ne, beq_eq_false_iff_ne, bne_eq_false_iff_eq, Bool.not_eq_true', Bool.not_eq_false', Bool.not_eq_true, ne_eq, Decidable.not_not] at c16
  have hlt : k < xs.length := by omega
  obtain ⟨a, rfl⟩ := hx.some (strs_ne (by omega))
  have hx2 : Rd w0 (seg :: [(mb, .map (skey (ent ((xs.take k).foldl numS (ks, [])).1 0)))] :: S) (some a) (xs.map .string) := hx.cons.cons
  have hst : (xs.take (k + 1)).foldl numS (ks, []) = numS ((xs.take k).foldl numS (ks, [])) xs[k] := by
   rw [List.take_add_one, List.getElem?_eq_getElem hlt, List.foldl_append]; rfl
  have hlen := numS_len (xs.take k) (ks, [])
  simp only [List.length_take] at hlen
  generalize hstk : (xs.take k).foldl numS (ks, []) = st at *
  have hget := mget_ent st.1 xs[k] 0
  have hkl : (skey (ent st.1 0)).length = st.1.length := by simp [skey, ent_length]
  refine PW.skip ?_
  refine hK2 _ _ ?_
  refine PW.k5 0 5 13 14 15 rfl ?_
  refine PW.seq fun K3 hK3 => ?_
  refine PW.block (PW.seqOps ?_)
  refine OL.det trivial (.ixN1 rfl rfl rfl (by omega)) ?_
  refine OL.det trivial (.ld rfl (str_at hx2 hlt)) (OL.dp rfl (OL.nil (PW.k6 0 5 7 13 14 15 rfl (PW.seqOps (OL.dp rfl (OL.dp rfl (OL.det trivial (Yields.lookS (k := 1) rfl rfl rfl) (OL.dp rfl (OL.dp rfl (OL.dp rfl (OL.dp rfl ?_)))))))))))
  refine OL.dp rfl (OL.nil (PW.k8 0 5 7 8 9 13 14 15 rfl ?_))
  refine PW.seq fun K4 hK4 => ?_
  refine PW.seqOps (OL.dp rfl (OL.dp rfl (OL.nil (PW.k8 0 5 7 8 13 14 15 26 rfl ?_))))
  refine PW.cond rfl (fun c26 => ?_) (fun c26 => ?_)
  ·try simp only [decide_eq_true_eq, decide_eq_false_iff_not, beq_iff_eq, bne_iff_ne, beq_eq_false_iff_ne, bne_eq_false_iff_eq, Bool.not_eq_true', Bool.not_eq_false', Bool.not_eq_true, ne_eq, Decidable.not_not] at c26
   have hidx : idx st.1 xs[k] = none := by
    cases hh : idx st.1 xs[k] with
    | none => rfl
    | some i => rw [hget, hh] at c26; simp at c26
   have hput := mput_ent st.1 xs[k] 0 hidx
   rw [Nat.zero_add] at hput
   refine PW.seqOps (OL.dp rfl (OL.det trivial (Yields.lenM (k := 1) rfl rfl) (OL.dp rfl (OL.nil (PW.k7 0 5 7 8 13 14 15 rfl (PW.ops (OL.dp rfl (OL.dp rfl (OL.dp rfl (OL.cons trivial (OW.updS (k := 1) rfl rfl rfl rfl) ?_))))))))))
   rintro _ _ rfl
   refine OL.nil ?_
   refine hK4 _ _ ?_
   refine PW.k6 0 5 8 13 14 15 rfl (PW.ops (OL.dp rfl (OL.dp rfl ?_)))
   apply OL.app1 (k := 0)
   ·rfl
   ·rfl
   ·rfl
   ·rfl
   ·rfl
   ·rfl
   ·exact hsl
   ·rfl
   ·omega
   ·unfold maxLen; omega
   intro v35 seg35 hsl35
   refine OL.dp rfl (OL.nil ?_)
   refine hK3 _ _ ?_
   refine PW.k5 0 5 13 14 15 rfl (PW.ops ?_)
   refine OL.det trivial (.add64 rfl rfl (by omega) (by omega)) ?_
   refine OL.dp rfl (OL.nil ?_)
   repeat rw [inBlk_n]
   try rw [thenK_n]
   refine LoopEnd.mk (T'' := [(0, _), (5, _), (13, _), (14, _), (15, _)]) (wi rfl) ?_
   refine ⟨xs.length - (k + 1), by omega, k + 1, v35, seg35, ⟨by omega, rfl, ?_⟩, rfl, ?_⟩
   ·rw [hst]; simp only [numS, hidx]; simpa [intC, hkl, Value.cells] using hsl35
   rw [hst]; simp only [numS, hidx]; first | (simp [hput, hkl]; done) | (simp [hkl]; done) | rfl
  try simp only [decide_eq_true_eq, decide_eq_false_iff_not, beq_iff_eq, bne_iff_ne, beq_eq_false_iff_ne, bne_eq_false_iff_eq, Bool.not_eq_true', Bool.not_eq_false', Bool.not_eq_true, ne_eq, Decidable.not_not] at c26
  obtain ⟨i, hidx⟩ : ∃ i, idx st.1 xs[k] = some i := by
   cases hh : idx st.1 xs[k] with
   | none => rw [hget, hh] at c26; simp at c26
   | some i => exact ⟨i, rfl⟩
  have hval : (mget (ent st.1 0) xs[k]).getD (.int .i64 0) = .int .i64 (i : Int) := by rw [hget, hidx]; simp
  rw [hval]
  refine PW.skip ?_
  refine hK4 _ _ ?_
  refine PW.k6 0 5 8 13 14 15 rfl (PW.ops (OL.dp rfl (OL.dp rfl ?_)))
  apply OL.app1 (k := 0)
  ·rfl
  ·rfl
  ·rfl
  ·rfl
  ·rfl
  ·rfl
  ·exact hsl
  ·rfl
  ·omega
  ·unfold maxLen; omega
  intro v35 seg35 hsl35
  refine OL.dp rfl (OL.nil ?_)
  refine hK3 _ _ ?_
  refine PW.k5 0 5 13 14 15 rfl (PW.ops ?_)
  refine OL.det trivial (.add64 rfl rfl (by omega) (by omega)) ?_
  refine OL.dp rfl (OL.nil ?_)
  repeat rw [inBlk_n]
  try rw [thenK_n]
  refine LoopEnd.mk (T'' := [(0, _), (5, _), (13, _), (14, _), (15, _)]) (wi rfl) ?_
  refine ⟨xs.length - (k + 1), by omega, k + 1, v35, seg35, ⟨by omega, rfl, ?_⟩, rfl, ?_⟩
  ·rw [hst]; simp only [numS, hidx]; simpa [intC, hkl, Value.cells] using hsl35
  rw [hst]; simp only [numS, hidx]; first | (simp [hput, hkl]; done) | (simp [hkl]; done) | rfl
 try simp only [decide_eq_true_eq, decide_eq_false_iff_not, beq_iff_eq, bne_iff_ne, beq_eq_false_iff_ne, bne_eq_false_iff_eq, Bool.not_eq_true', Bool.not_eq_false', Bool.not_eq_true, ne_eq, Decidable.not_not] at c16
 refine PW.exit ?_
 refine hK1 _ _ ?_
 refine PW.k1 5 rfl (PW.seqOps (OL.dp rfl (OL.dp rfl (OL.nil (PW.k1 4 rfl (PW.ret ?_))))))
 change (Exit.ret = Exit.normal ∨ Exit.ret = Exit.ret) /\ ∃ v, resV _ _ = some v /\ _
 obtain rfl : k = xs.length := by omega
 have e := numS_foldl xs ks []
 rw [List.take_length] at hsl
 rw [e] at hsl
 rw [List.take_length, e]
 exact ⟨.inr rfl, _, rfl, seg, rfl, by simpa using hsl⟩
end Go.Proofs.My

namespace Go.Proofs.My
open Go.SL Go.RowKit
open Go.MyPlain
set_option maxHeartbeats 1000000
def RowOK (X Y : List Nat) (i jj : Nat) (c : List Value) : Prop := c.length = Y.length + 1 /\ ∀ b, jj <= b -> b <= Y.length -> c[b]? = some (.int .i64 (lcs (X.drop i) (Y.drop b) : Int))
theorem RowOK.zero (X Y : List Nat) (i : Nat) : RowOK X Y i Y.length (List.replicate (Y.length + 1) (.int .i64 0)) := by
 refine ⟨by simp, fun b h1 h2 => ?_⟩
 obtain rfl : b = Y.length := by omega
 rw [List.drop_length, lcs_nil_right]
 simp
theorem RowOK.last (X Y : List Nat) : RowOK X Y X.length 0 (List.replicate (Y.length + 1) (.int .i64 0)) := by
 refine ⟨by simp, fun b h1 h2 => ?_⟩
 rw [List.drop_length, lcs_nil_left]
 have : b < Y.length + 1 := by omega
 simp [this]
theorem RowOK.put {X Y : List Nat} {i j : Nat} {c : List Value} (h : RowOK X Y i (j + 1) c) (hj : j < Y.length) (v : Value) : RowOK X Y i (j + 1) (setAt c j [v]) := by
 refine ⟨by rw [setAt_length]; exact h.1, fun b h1 h2 => ?_⟩
 rw [setAt_get c j v (by rw [h.1]; omega), if_neg (by omega)]
 exact h.2 b h1 h2
theorem RowOK.done {X Y : List Nat} {i j : Nat} {c : List Value} (h : RowOK X Y i (j + 1) c) (hj : j < Y.length) {v : Int} (hv : v = lcs (X.drop i) (Y.drop j)) : RowOK X Y i j (setAt c j [.int .i64 v]) := by
 refine ⟨by rw [setAt_length]; exact h.1, fun b h1 h2 => ?_⟩
 rw [setAt_get c j _ (by rw [h.1]; omega)]
 split
 ·rename_i e; subst e; rw [hv]
 exact h.2 b (by omega) h2
theorem lcs_drop {X Y : List Nat} {i j : Nat} (hi : i < X.length) (hj : j < Y.length) : lcs (X.drop i) (Y.drop j) = if X[i] = Y[j] then lcs (X.drop (i + 1)) (Y.drop (j + 1)) + 1 else max (lcs (X.drop (i + 1)) (Y.drop j)) (lcs (X.drop i) (Y.drop (j + 1))) := by
 have e1 : X.drop i = X[i] :: X.drop (i + 1) := List.drop_eq_getElem_cons hi
 have e2 : Y.drop j = Y[j] :: Y.drop (j + 1) := List.drop_eq_getElem_cons hj
 rw [e1, e2, lcs_cons]
theorem RowOK.two {X Y : List Nat} {i j : Nat} {c : List Value} (h : RowOK X Y i (j + 1) c) (hi : i < X.length) (hj : j < Y.length) (he : (X[i] : Int) = (Y[j] : Int)) (v : Value) : RowOK X Y i j (setAt (setAt c j [v]) j [.int .i64 ((lcs (X.drop (i + 1)) (Y.drop (j + 1)) : Int) + 1)]) :=
 (h.put hj v).done hj (by rw [lcs_drop hi hj, if_pos (by omega)]; omega)
theorem RowOK.one {X Y : List Nat} {i j : Nat} {c : List Value} (h : RowOK X Y i (j + 1) c) (hi : i < X.length) (hj : j < Y.length) (he : ¬ (X[i] : Int) = (Y[j] : Int)) :
  RowOK X Y i j (setAt c j [.int .i64 (if true = true then if (lcs (X.drop i) (Y.drop (j + 1)) : Int) > (lcs (X.drop (i + 1)) (Y.drop j) : Int) then (lcs (X.drop i) (Y.drop (j + 1)) : Int) else (lcs (X.drop (i + 1)) (Y.drop j) : Int) else if (lcs (X.drop i) (Y.drop (j + 1)) : Int) < (lcs (X.drop (i + 1)) (Y.drop j) : Int) then (lcs (X.drop i) (Y.drop (j + 1)) : Int) else (lcs (X.drop (i + 1)) (Y.drop j) : Int))]) :=
 h.done hj (by rw [if_pos rfl, lcs_drop hi hj, if_neg (show ¬ X[i] = Y[j] by omega)]; split <;> omega)
def rowsSeg (m : Nat) (rs : List (Nat × List Value)) : Seg := rs.map fun p => (p.1, .cells p.2 3 ((m + 1) * 1))
def rowsC (m : Nat) (rs : List (Nat × List Value)) : List Value := rs.map fun p => .slice (some ⟨p.1, 0, none⟩) (m + 1) (m + 1)
def outerC (m ii : Nat) (rs : List (Nat × List Value)) : List Value := List.replicate ii (.slice none 0 0) ++ rowsC m rs
theorem int_at {w0 : World} {S : SS} {a : Addr} {xs : List Nat} (h : Rd w0 S (some a) (intC xs)) {k : Nat} (hk : k < xs.length) : Cell w0 S (a.add k) (.int .i64 (xs[k] : Int)) := h.at (by simp [intC, hk])
theorem intC_ne {xs : List Nat} (h : 0 < xs.length) : intC xs ≠ [] := by intro e; simp [intC] at e; subst e; simp at h
theorem outer_set {m i : Nat} {rs : List (Nat × List Value)} {r : Nat} {c : List Value} : setAt (outerC m (i + 1) rs) i [.slice (some ⟨r, 0, none⟩) (m + 1) (m + 1)] = outerC m i ((r, c) :: rs) := by
 unfold outerC
 rw [setAt_eq _ _ _ (by simp)]
 simp [rowsC, List.replicate_succ', List.take_append, List.drop_append]
theorem table_fc {w0 : World} {S : SS} {A B : Option Addr} {ca cb : Nat} {X Y : List Nat} (hx : Rd w0 S A (intC X)) (hy : Rd w0 S B (intC Y)) (hX : X.length <= 100000) (hY : Y.length <= 100000) :
  FC Tryz.prog w0 99 [.slice A X.length ca, .slice B Y.length cb] S (fun v S' => ∃ ro rs, v = .slice (some ⟨ro, 0, none⟩) (X.length + 1) (X.length + 1) /\ S' = rowsSeg Y.length rs :: [(ro, .cells (rowsC Y.length rs) 73 ((X.length + 1) * 1))] :: S /\ rs.length = X.length + 1 /\ ∀ t (h : t < rs.length), RowOK X Y t 0 rs[t].2) := by
 refine FC.of Tryz.known99 (by simp) ?_
 unfold Tryz.pc99
 simp only [argT]
 refine PW.seqOps (OL.dp rfl (OL.nil (PW.k2 0 1 rfl (PW.seqOps (OL.dp rfl (OL.dp rfl ?_))))))
 refine OL.det trivial (.add64 rfl rfl (by omega) (by omega)) ?_
 refine OL.cons trivial (OW.mkS_full (m := X.length + 1) rfl rfl (by omega) (by unfold maxLen; omega)) ?_
 rintro _ _ ⟨r12, rfl, rfl⟩
 rw [made1 _ rfl]
 refine OL.dp rfl (OL.nil (PW.k3 0 1 5 rfl (PW.seqOps (OL.dp rfl (OL.dp rfl (OL.dp rfl (OL.dp rfl (OL.dp rfl ?_))))))))
 refine OL.det trivial (.add64 rfl rfl (by omega) (by omega)) ?_
 refine OL.cons trivial (OW.mkS_full (m := Y.length + 1) rfl rfl (by omega) (by unfold maxLen; omega)) ?_
 rintro _ _ ⟨r19, rfl, rfl⟩
 rw [made1 _ rfl]
 refine OL.det trivial (Yields.ixO1 rfl rfl rfl (by omega)) ?_
 refine OL.cons trivial (OW.st (k := 1) rfl rfl rfl rfl (by first | decide | (simp; done) | (simp; omega)) (by first | rfl | simp)) ?_
 rintro _ _ rfl
 refine OL.nil (PW.k3 0 1 5 rfl ?_)
 refine PW.seq fun K1 hK1 => ?_
 refine PW.seqOps (OL.dp rfl (OL.dp rfl ?_))
 refine OL.det trivial (.sub64 rfl rfl (by omega) (by omega)) ?_
 refine OL.dp rfl (OL.nil (PW.k4 0 1 5 6 rfl (PW.block (PW.k4 0 1 5 6 rfl ?_))))
 refine PW.loopK (I := fun m T S' => ∃ (ii : Nat) (rs : List (Nat × List Value)), (ii <= X.length /\ m = ii /\ rs.length + ii = X.length + 1 /\ ∀ t (h : t < rs.length), RowOK X Y (ii + t) 0 rs[t].2) /\ T = ([(0, .slice A X.length ca), (1, .slice B Y.length cb), (5, .slice (some ⟨r12, 0, none⟩) (X.length + 1) (X.length + 1)), (6, .int .i64 ((ii : Int) - 1))] : TT) /\ S' = rowsSeg Y.length rs :: [(r12, .cells (outerC Y.length ii rs) 73 ((X.length + 1) * 1))] :: S) (m := X.length) ⟨X.length, [(r19, List.replicate (Y.length + 1) (.int .i64 0))], ⟨by omega, rfl, by simp; omega, fun t h => by
   simp at h; subst h; exact RowOK.last X Y⟩, rfl, by
   have e : List.replicate (X.length + 1) (Value.slice none 0 0) = outerC Y.length (X.length + 1) [] := by simp [outerC, rowsC]
   rw [e]; simp only [List.set_cons_succ, List.set_cons_zero, Value.cells, Array.toList]; rw [outer_set (c := List.replicate (Y.length + 1) (.int .i64 0))]; rfl⟩ ?_
 rintro m _ _ ⟨ii, rs, ⟨hii, hm, hlen, hrows⟩, rfl, rfl⟩
 refine PW.seq fun K2 hK2 => ?_
 refine PW.seqOps (OL.dp rfl (OL.dp rfl (OL.nil (PW.k5 0 1 5 6 25 rfl ?_))))
 refine PW.cond rfl (fun c25 => ?_) (fun c25 => ?_)
 ·try simp only [decide_eq_true_eq, decide_eq_false_iff_not, beq_iff_eq, bne_iff_ne, beq_eq_false_iff_ne, bne_eq_false_iff_eq, Bool.not_eq_true', Bool.not_eq_false', Bool.not_eq_true, ne_eq, Decidable.not_not] at c25
  obtain ⟨i, rfl⟩ : ∃ i, ii = i + 1 := ⟨ii - 1, by omega⟩
  have ei : ((i + 1 : Nat) : Int) - 1 = i := by omega
  rw [ei]
  have hrs0 : 0 < rs.length := by omega
  obtain ⟨r0, c0, rs', hrs⟩ : ∃ r0 c0 rs', rs = (r0, c0) :: rs' := by
   cases rs with
   | nil => simp at hrs0
   | cons p rs' => exact ⟨p.1, p.2, rs', rfl⟩
  have hrow0 : RowOK X Y (i + 1) 0 c0 := by have := hrows 0 hrs0; simpa [hrs] using this
  have hout : (outerC Y.length (i + 1) rs)[i + 1]? = some (.slice (some ⟨r0, 0, none⟩) (Y.length + 1) (Y.length + 1)) := by simp [outerC, rowsC, hrs]
  refine PW.skip ?_
  refine hK2 _ _ ?_
  refine PW.k4 0 1 5 6 rfl ?_
  refine PW.seq fun K3 hK3 => ?_
  refine PW.block (PW.seqOps (OL.dp rfl (OL.dp rfl ?_)))
  refine OL.det trivial (.add64 rfl rfl (by omega) (by omega)) ?_
  refine OL.cons trivial (OW.mkS_full (m := Y.length + 1) rfl rfl (by omega) (by unfold maxLen; omega)) ?_
  rintro _ _ ⟨r31, rfl, rfl⟩
  rw [made1 _ rfl]
  refine OL.dp rfl (OL.nil (PW.k5 0 1 5 6 7 rfl ?_))
  refine PW.seq fun K4 hK4 => ?_
  refine PW.seqOps (OL.dp rfl (OL.dp rfl ?_))
  refine OL.det trivial (.sub64 rfl rfl (by omega) (by omega)) ?_
  refine OL.dp rfl (OL.nil (PW.k6 0 1 5 6 7 8 rfl (PW.block (PW.k6 0 1 5 6 7 8 rfl ?_))))
  refine PW.loopK (I := fun m T S' => ∃ (jj : Nat) (c : List Value), (jj <= Y.length /\ m = jj /\ RowOK X Y i jj c) /\ T = ([(0, .slice A X.length ca), (1, .slice B Y.length cb), (5, .slice (some ⟨r12, 0, none⟩) (X.length + 1) (X.length + 1)), (6, .int .i64 (i : Int)), (7, .slice (some ⟨r31, 0, none⟩) (Y.length + 1) (Y.length + 1)), (8, .int .i64 ((jj : Int) - 1))] : TT) /\ S' = [(r31, .cells c 3 ((Y.length + 1) * 1))] :: rowsSeg Y.length rs :: [(r12, .cells (outerC Y.length (i + 1) rs) 73 ((X.length + 1) * 1))] :: S) (m := Y.length) ⟨Y.length, _, ⟨by omega, rfl, RowOK.zero X Y i⟩, rfl, rfl⟩ ?_
  rintro m _ _ ⟨jj, c, ⟨hjj, hmj, hrow⟩, rfl, rfl⟩
  refine PW.seq fun K5 hK5 => ?_
  refine PW.seqOps (OL.dp rfl (OL.dp rfl (OL.nil (PW.k7 0 1 5 6 7 8 36 rfl ?_))))
  refine PW.cond rfl (fun c36 => ?_) (fun c36 => ?_)
  ·try simp only [decide_eq_true_eq, decide_eq_false_iff_not, beq_iff_eq, bne_iff_ne, beq_eq_false_iff_ne, bne_eq_false_iff_eq, Bool.not_eq_true', Bool.not_eq_false', Bool.not_eq_true, ne_eq, Decidable.not_not] at c36
   obtain ⟨j, rfl⟩ : ∃ j, jj = j + 1 := ⟨jj - 1, by omega⟩
   have ej : ((j + 1 : Nat) : Int) - 1 = j := by omega
   rw [ej]
   obtain ⟨aX, rfl⟩ := hx.some (intC_ne (by omega))
   obtain ⟨aY, rfl⟩ := hy.some (intC_ne (by omega))
   refine PW.skip ?_
   refine hK5 _ _ ?_
   refine PW.k6 0 1 5 6 7 8 rfl ?_
   refine PW.seq fun K6 hK6 => ?_
   refine PW.block ?_
   refine PW.seq fun K7 hK7 => ?_
   refine PW.quietK Tryz.mixed (QK.dp rfl (QK.dp rfl (QK.dp rfl (QK.dp rfl ?_))))
   refine QK.det trivial (.add64 rfl rfl (by omega) (by omega)) ?_
   refine QK.det trivial (Yields.ixO1 rfl rfl (show _ = ((i + 1 : Nat) : Int) from rfl) (by omega)) ?_
   refine QK.det trivial (.ld rfl (own_at (E := 73) (tot := (X.length + 1) * 1) (by simp) hout)) ?_
   refine QK.dp rfl ?_
   refine QK.det trivial (Yields.ixO1 rfl rfl rfl (by omega)) ?_
   refine QK.det trivial (.ld rfl (own_at (E := 3) (tot := (Y.length + 1) * 1) (by simp [rowsSeg, hrs]) (hrow0.2 j (by omega) (by omega)))) ?_
   refine QK.dp rfl (QK.dp rfl ?_)
   refine QK.det trivial (.add64 rfl rfl (by omega) (by omega)) ?_
   refine QK.det trivial (Yields.ixO1 rfl rfl (show _ = ((j + 1 : Nat) : Int) from rfl) (by omega)) ?_
   refine QK.det trivial (.ld rfl (own_at (E := 3) (tot := (Y.length + 1) * 1) (by simp) (hrow.2 (j + 1) (by omega) (by omega)))) ?_
   refine QK.nil ?_
   change OL _ _ _ [_, _, _] _ _ _
   refine OL.dp rfl ?_
   refine OL.det trivial (Yields.ixO1 rfl rfl rfl (by omega)) ?_
   refine OL.cons trivial (OW.st (k := 0) rfl rfl rfl rfl (by have := hrow.1; omega) rfl) ?_
   rintro _ _ rfl
   refine OL.nil ?_
   refine hK7 _ _ ?_
   refine PW.k6 0 1 5 6 7 8 rfl ?_
   refine PW.seq fun K8 hK8 => ?_
   refine PW.quietK Tryz.mixed (QK.dp rfl (QK.dp rfl ?_))
   refine QK.det trivial (.ixN1 rfl rfl rfl (by omega)) ?_
   refine QK.det trivial (.ld rfl (int_at hx.cons.cons.cons (by omega))) ?_
   refine QK.dp rfl (QK.dp rfl ?_)
   refine QK.det trivial (.ixN1 rfl rfl rfl (by omega)) ?_
   refine QK.det trivial (.ld rfl (int_at hy.cons.cons.cons (by omega))) ?_
   refine QK.nil ?_
   change OL _ _ _ [_] _ _ _
   refine OL.dp rfl (OL.nil ?_)
   refine hK8 _ _ ?_
   refine PW.k7 0 1 5 6 7 8 64 rfl ?_
   refine PW.cond rfl (fun c64 => ?_) (fun c64 => ?_)
   ·try simp only [decide_eq_true_eq, decide_eq_false_iff_not, beq_iff_eq, bne_iff_ne, beq_eq_false_iff_ne, bne_eq_false_iff_eq, Bool.not_eq_true', Bool.not_eq_false', Bool.not_eq_true, ne_eq, Decidable.not_not] at c64
    refine PW.ops (OL.dp rfl (OL.dp rfl (OL.dp rfl (OL.dp rfl ?_))))
    refine OL.det trivial (.add64 rfl rfl (by omega) (by omega)) ?_
    refine OL.det trivial (Yields.ixO1 rfl rfl (show _ = ((i + 1 : Nat) : Int) from rfl) (by omega)) ?_
    refine OL.det trivial (.ld rfl (own_at (E := 73) (tot := (X.length + 1) * 1) (by simp) hout)) ?_
    refine OL.dp rfl ?_
    refine OL.det trivial (.add64 rfl rfl (by omega) (by omega)) ?_
    refine OL.det trivial (Yields.ixO1 rfl rfl (show _ = ((j + 1 : Nat) : Int) from rfl) (by omega)) ?_
    refine OL.det trivial (.ld rfl (own_at (E := 3) (tot := (Y.length + 1) * 1) (by simp [rowsSeg, hrs]) (hrow0.2 (j + 1) (by omega) (by omega)))) ?_
    refine OL.det trivial (.add64 rfl rfl (by omega) (by have := lcs_le (X.drop (i + 1)) (Y.drop (j + 1)); simp only [List.length_drop] at this; omega)) ?_
    refine OL.det trivial (Yields.ixO1 rfl rfl rfl (by omega)) ?_
    refine OL.cons trivial (OW.st (k := 0) rfl rfl rfl rfl (by rw [setAt_length]; have := hrow.1; omega) rfl) ?_
    rintro _ _ rfl
    refine OL.nil ?_
    refine hK6 _ _ ?_
    refine PW.k6 0 1 5 6 7 8 rfl (PW.ops (OL.dp rfl ?_))
    refine OL.det trivial (.sub64 rfl rfl (by omega) (by omega)) ?_
    refine OL.dp rfl (OL.nil ?_)
    repeat rw [inBlk_n]
    try rw [thenK_n]
    refine LoopEnd.mk (T'' := [(0, _), (1, _), (5, _), (6, _), (7, _), (8, _)]) (wi rfl) ?_
    refine ⟨j, by omega, j, _, ⟨by omega, rfl, ?_⟩, rfl, rfl⟩
    first
     | exact hrow.two (by omega) (by omega) c64 _
     | exact hrow.one (by omega) (by omega) c64
   try simp only [decide_eq_true_eq, decide_eq_false_iff_not, beq_iff_eq, bne_iff_ne, beq_eq_false_iff_ne, bne_eq_false_iff_eq, Bool.not_eq_true', Bool.not_eq_false', Bool.not_eq_true, ne_eq, Decidable.not_not] at c64
   refine PW.skip ?_
   refine hK6 _ _ ?_
   refine PW.k6 0 1 5 6 7 8 rfl (PW.ops (OL.dp rfl ?_))
   refine OL.det trivial (.sub64 rfl rfl (by omega) (by omega)) ?_
   refine OL.dp rfl (OL.nil ?_)
   repeat rw [inBlk_n]
   try rw [thenK_n]
   refine LoopEnd.mk (T'' := [(0, _), (1, _), (5, _), (6, _), (7, _), (8, _)]) (wi rfl) ?_
   refine ⟨j, by omega, j, _, ⟨by omega, rfl, ?_⟩, rfl, rfl⟩
   first
    | exact hrow.two (by omega) (by omega) c64 _
    | exact hrow.one (by omega) (by omega) c64
  try simp only [decide_eq_true_eq, decide_eq_false_iff_not, beq_iff_eq, bne_iff_ne, beq_eq_false_iff_ne, bne_eq_false_iff_eq, Bool.not_eq_true', Bool.not_eq_false', Bool.not_eq_true, ne_eq, Decidable.not_not] at c36
  refine PW.exit ?_
  refine hK4 _ _ ?_
  refine PW.k5 0 1 5 6 7 rfl (PW.ops (OL.dp rfl (OL.dp rfl (OL.dp rfl ?_))))
  refine OL.det trivial (Yields.ixO1 rfl rfl rfl (by omega)) ?_
  refine OL.cons trivial (OW.st (k := 2) rfl rfl rfl rfl (by simp [outerC, rowsC]) rfl) ?_
  rintro _ _ rfl
  refine OL.nil ?_
  refine hK3 _ _ ?_
  refine PW.k4 0 1 5 6 rfl (PW.ops (OL.dp rfl ?_))
  refine OL.det trivial (.sub64 rfl rfl (by omega) (by omega)) ?_
  refine OL.dp rfl (OL.nil ?_)
  repeat rw [inBlk_n]
  try rw [thenK_n]
  refine LoopEnd.mkS (Sub.join) (T'' := [(0, _), (1, _), (5, _), (6, _)]) (wi rfl) ?_
  obtain rfl : jj = 0 := by omega
  refine ⟨i, by omega, i, (r31, c) :: rs, ⟨by omega, rfl, by simp; omega, fun t h => ?_⟩, rfl, ?_⟩
  ·cases t with
   | zero => simpa using hrow
   | succ t => have := hrows t (by simpa using h); simpa [Nat.add_assoc, Nat.add_comm, Nat.add_left_comm] using this
  simp only [List.set_cons_succ, List.set_cons_zero, Value.cells, Array.toList]
  rw [outer_set (c := c)]
  rfl
 try simp only [decide_eq_true_eq, decide_eq_false_iff_not, beq_iff_eq, bne_iff_ne, beq_eq_false_iff_ne, bne_eq_false_iff_eq, Bool.not_eq_true', Bool.not_eq_false', Bool.not_eq_true, ne_eq, Decidable.not_not] at c25
 refine PW.exit ?_
 refine hK1 _ _ ?_
 refine PW.k1 5 rfl (PW.seqOps (OL.dp rfl (OL.dp rfl (OL.nil (PW.k1 4 rfl (PW.ret ?_))))))
 change (Exit.ret = Exit.normal ∨ Exit.ret = Exit.ret) /\ ∃ v, resV _ _ = some v /\ _
 obtain rfl : ii = 0 := by omega
 refine ⟨.inr rfl, _, rfl, r12, rs, rfl, by simp [outerC], by omega, fun t h => by simpa using hrows t h⟩
end Go.Proofs.My

namespace Go.Proofs.My
open Go.SL Go.RowKit
open Go.MyPlain
set_option maxHeartbeats 1000000
section
variable {α : Type} [DecidableEq α]
def rest (X Y : List α) (i j : Nat) : List (Int × Int × Int) := scrF ((X.length - i) + (Y.length - j)) i j (X.drop i) (Y.drop j)
theorem rest_zero (X Y : List α) : rest X Y 0 0 = scr X Y := by simp [rest, scr]
theorem rest_end {X Y : List α} {i j : Nat} (hi : i = X.length) (hj : j = Y.length) : rest X Y i j = [] := by subst hi; subst hj; simp [rest, scrF]
theorem rest_keep {X Y : List α} {i j : Nat} (hi : i < X.length) (hj : j < Y.length) (h : X[i] = Y[j]) : rest X Y i j = (0, (i : Int), (j : Int)) :: rest X Y (i + 1) (j + 1) := by
 have e1 : X.drop i = X[i] :: X.drop (i + 1) := List.drop_eq_getElem_cons hi
 have e2 : Y.drop j = Y[j] :: Y.drop (j + 1) := List.drop_eq_getElem_cons hj
 obtain ⟨f, hf⟩ : ∃ f, (X.length - i) + (Y.length - j) = f + 1 := ⟨(X.length - i) + (Y.length - j) - 1, by omega⟩
 unfold rest
 rw [hf, e1, e2]
 simp only [scrF, if_pos h]
 rw [scrF_fuel f ((X.length - (i + 1)) + (Y.length - (j + 1)))] <;> simp <;> omega
theorem rest_gone {X Y : List α} {i j : Nat} (hi : i < X.length) (hj : j <= Y.length) (h : ∀ h : j < Y.length, ¬ X[i] = Y[j] /\ lcs (X.drop i) (Y.drop (j + 1)) <= lcs (X.drop (i + 1)) (Y.drop j)) : rest X Y i j = (1, (i : Int), 0) :: rest X Y (i + 1) j := by
 have e1 : X.drop i = X[i] :: X.drop (i + 1) := List.drop_eq_getElem_cons hi
 obtain ⟨f, hf⟩ : ∃ f, (X.length - i) + (Y.length - j) = f + 1 := ⟨(X.length - i) + (Y.length - j) - 1, by omega⟩
 by_cases hj2 : j < Y.length
 ·obtain ⟨h1, h2⟩ := h hj2
  have e2 : Y.drop j = Y[j] :: Y.drop (j + 1) := List.drop_eq_getElem_cons hj2
  unfold rest
  rw [hf, e2, e1]
  rw [e2, e1] at h2
  simp only [scrF, if_neg h1, if_pos h2]
  rw [scrF_fuel f ((X.length - (i + 1)) + (Y.length - j))] <;> simp <;> omega
 have e2 : Y.drop j = [] := List.drop_eq_nil_of_le (by omega)
 unfold rest
 rw [hf, e2, e1]
 simp only [scrF]
 rw [scrF_fuel f ((X.length - (i + 1)) + (Y.length - j))] <;> simp <;> omega
theorem rest_new {X Y : List α} {i j : Nat} (hi : i <= X.length) (hj : j < Y.length) (h : ∀ h : i < X.length, ¬ X[i] = Y[j] /\ ¬ lcs (X.drop i) (Y.drop (j + 1)) <= lcs (X.drop (i + 1)) (Y.drop j)) : rest X Y i j = (2, 0, (j : Int)) :: rest X Y i (j + 1) := by
 have e2 : Y.drop j = Y[j] :: Y.drop (j + 1) := List.drop_eq_getElem_cons hj
 obtain ⟨f, hf⟩ : ∃ f, (X.length - i) + (Y.length - j) = f + 1 := ⟨(X.length - i) + (Y.length - j) - 1, by omega⟩
 by_cases hi2 : i < X.length
 ·obtain ⟨h1, h2⟩ := h hi2
  have e1 : X.drop i = X[i] :: X.drop (i + 1) := List.drop_eq_getElem_cons hi2
  unfold rest
  rw [hf, e2, e1]
  rw [e2, e1] at h2
  simp only [scrF, if_neg h1, if_neg h2]
  rw [scrF_fuel f ((X.length - i) + (Y.length - (j + 1)))] <;> simp <;> omega
 have e1 : X.drop i = [] := List.drop_eq_nil_of_le (by omega)
 unfold rest
 rw [hf, e2, e1]
 simp only [scrF]
 rw [scrF_fuel f ((X.length - i) + (Y.length - (j + 1)))] <;> simp <;> omega
end
theorem rows_at {Y : List Nat} {rs : List (Nat × List Value)} {i : Nat} (h : i < rs.length) : (rowsC Y.length rs)[i]? = some (.slice (some ⟨rs[i].1, 0, none⟩) (Y.length + 1) (Y.length + 1)) := by simp [rowsC, h]
theorem row_mem {m : Nat} {rs : List (Nat × List Value)} {i : Nat} (h : i < rs.length) : (rs[i].1, AO.cells rs[i].2 3 ((m + 1) * 1)) ∈ rowsSeg m rs := List.mem_map.2 ⟨rs[i], List.getElem_mem h, rfl⟩
theorem row_at {w0 : World} {S : SS} {X Y : List Nat} {rs : List (Nat × List Value)} {i j : Nat} (hm : ∀ p ∈ rowsSeg Y.length rs, p ∈ S.flatten) (hr : ∀ t (h : t < rs.length), RowOK X Y t 0 rs[t].2) (h : i < rs.length) (hj : j <= Y.length) : Cell w0 S ((⟨rs[i].1, 0, none⟩ : Addr).add j) (.int .i64 (lcs (X.drop i) (Y.drop j) : Int)) :=
 (Rd.own (hm _ (row_mem h))).at ((hr i h).2 j (by omega) hj)
theorem diff_fc {w0 : World} {S : SS} {A B : Option Addr} {ca cb : Nat} {xs ys : List ByteArray} (hx : Rd w0 S A (xs.map .string)) (hy : Rd w0 S B (ys.map .string)) (hX : xs.length <= 1024) (hY : ys.length <= 1024) :
  FC Tryz.prog w0 67 [.slice A xs.length ca, .slice B ys.length cb] S (fun v S' => ∃ u seg, v = .tuple #[u, .int .i64 0] /\ S' = seg :: S /\ SlV 138 3 u (scr xs ys).length (stsC (scr xs ys)) seg) := by
 refine FC.ofD Tryz.known67 (by simp) ?_
 unfold Tryz.pc67
 simp only [argT]
 refine PW.seqOps (OL.dp rfl (OL.dp rfl (OL.nil (PW.k2 0 1 rfl ?_))))
 refine PW.seq fun K1 hK1 => ?_
 refine PW.seqOps (OL.dp rfl (OL.dp rfl (OL.dp rfl ?_)))
 refine OL.bool trivial (Yields.pure rfl) (fun g16 => ?_) (fun g16 => ?_)
 ·try simp only [decide_eq_true_eq, decide_eq_false_iff_not, beq_iff_eq, bne_iff_ne, beq_eq_false_iff_ne, bne_eq_false_iff_eq, Bool.not_eq_true', Bool.not_eq_false', Bool.not_eq_true, ne_eq, Decidable.not_not] at g16
  exfalso; omega -- done
 try simp only [decide_eq_true_eq, decide_eq_false_iff_not, beq_iff_eq, bne_iff_ne, beq_eq_false_iff_ne, bne_eq_false_iff_eq, Bool.not_eq_true', Bool.not_eq_false', Bool.not_eq_true, ne_eq, Decidable.not_not] at g16
 refine OL.det rfl (.pure rfl) (OL.det rfl (.pure rfl) (OL.det rfl (.pure rfl) (OL.dp rfl (OL.nil (PW.k3 0 1 20 rfl ?_)))))
 refine PW.cond rfl (fun c20 => ?_) (fun c20 => ?_)
 ·try simp only [decide_eq_true_eq, decide_eq_false_iff_not, beq_iff_eq, bne_iff_ne, beq_eq_false_iff_ne, bne_eq_false_iff_eq, Bool.not_eq_true', Bool.not_eq_false', Bool.not_eq_true, ne_eq, Decidable.not_not] at c20
  exfalso; omega -- done
 try simp only [decide_eq_true_eq, decide_eq_false_iff_not, beq_iff_eq, bne_iff_ne, beq_eq_false_iff_ne, bne_eq_false_iff_eq, Bool.not_eq_true', Bool.not_eq_false', Bool.not_eq_true, ne_eq, Decidable.not_not] at c20
 refine PW.skip ?_
 refine hK1 _ _ ?_
 refine PW.k2 0 1 rfl (PW.seqOps (OL.cons trivial OW.mkM ?_))
 rintro _ _ ⟨r21, rfl, rfl⟩
 refine OL.dp rfl (OL.nil (PW.k3 0 1 6 rfl (PW.seqOps (OL.dp rfl (OL.dp rfl ?_)))))
 refine OL.call trivial rfl (numbered_fc (ks := []) hx (by omega) (by simp)) ?_
 rintro vX _ ⟨segX, rfl, hslX⟩
 rw [<- numF_length [] xs] at hslX
 refine OL.dp rfl (OL.dp rfl ?_)
 refine OL.call trivial rfl (FC.sel [1, 0] 2 rfl (numbered_fc (ks := (numF [] xs).1) hy.cons (by omega) (by have := numF_keys [] xs; simp at this; omega))) ?_
 rintro vY _ ⟨segY, rfl, hslY⟩
 rw [<- numF_length (numF [] xs).1 ys] at hslY
 refine OL.dp rfl (OL.dp rfl (OL.nil (PW.k2 7 8 rfl (PW.seqOps (OL.sel [0, 2] 3 rfl ?_)))))
 change OL _ _ _ _ _ (segY :: segX :: S) _
 have hscr := scr_nums xs ys
 have hXl := numF_length ([] : List ByteArray) xs
 have hYl := numF_length (numF [] xs).1 ys
 generalize hX' : (numF [] xs).2 = X at *
 generalize hY' : (numF (numF [] xs).1 ys).2 = Y at *
 obtain ⟨AX, capX, rfl, hrX, hlX⟩ := hslX.rd (S := segY :: segX :: S) (k := 1) rfl
 obtain ⟨AY, capY, rfl, hrY, hlY⟩ := hslY.rd (S := segY :: segX :: S) (k := 0) rfl
 refine OL.dp rfl (OL.dp rfl ?_)
 refine OL.call trivial rfl (table_fc hrX hrY (by omega) (by omega)) ?_
 rintro _ _ ⟨ro, rs, rfl, rfl, hrs, hrow⟩
 refine OL.dp rfl (OL.nil (PW.k3 7 8 9 rfl (PW.seqOps (OL.dp rfl (OL.nil (PW.k4 7 8 9 10 rfl ?_))))))
 refine PW.seq fun K2 hK2 => ?_
 refine PW.seqOps (OL.nilseg (OL.dp rfl (OL.dp rfl (OL.nil (PW.k6 7 8 9 10 11 12 rfl (PW.block (PW.k6 7 8 9 10 11 12 rfl ?_)))))))
 refine PW.loopK (I := fun m T S' => ∃ (i j : Nat) (o : List (Int × Int × Int)) (v : Value) (seg : Seg), (i <= X.length /\ j <= Y.length /\ m = (X.length - i) + (Y.length - j) /\ o ++ rest X Y i j = scr X Y /\ o.length <= i + j /\ SlV 138 3 v o.length (stsC o) seg) /\ T = ([(7, .slice AX X.length capX), (8, .slice AY Y.length capY), (9, .slice (some ⟨ro, 0, none⟩) (X.length + 1) (X.length + 1)), (10, v), (11, .int .i64 i), (12, .int .i64 j)] : TT) /\ S' = seg :: rowsSeg Y.length rs :: [(ro, .cells (rowsC Y.length rs) 73 ((X.length + 1) * 1))] :: segY :: segX :: S) (m := X.length + Y.length) ⟨0, 0, [], _, [], ⟨by omega, by omega, by omega, by rw [rest_zero]; rfl, by simp, by simpa [stsC] using SlV.nil 138 3⟩, rfl, rfl⟩ ?_
 rintro m _ _ ⟨i, j, o, v, seg, ⟨hi, hj, hm, hrest, holen, hsl⟩, rfl, rfl⟩
 refine PW.seq fun K3 hK3 => ?_
 refine PW.seqOps (OL.dp rfl (OL.dp rfl (OL.dp rfl (OL.dp rfl ?_))))
 refine OL.bool trivial (Yields.pure rfl) (fun g35 => ?_) (fun g35 => ?_)
 ·try simp only [decide_eq_true_eq, decide_eq_false_iff_not, beq_iff_eq, bne_iff_ne, beq_eq_false_iff_ne, bne_eq_false_iff_eq, Bool.not_eq_true', Bool.not_eq_false', Bool.not_eq_true, ne_eq, Decidable.not_not] at g35
  refine OL.off rfl rfl (OL.off rfl rfl (OL.off rfl rfl (OL.off rfl rfl (OL.dp rfl (OL.nil (PW.k7 7 8 9 10 11 12 40 rfl (PW.ite (b := true) rfl ?_)))))))
  rw [if_pos rfl]
  refine PW.skip ?_
  refine hK3 _ _ ?_
  refine PW.k6 7 8 9 10 11 12 rfl (PW.block (PW.block ?_))
  refine PW.seq fun K4 hK4 => ?_
  refine PW.quietK Tryz.mixed (QK.dp rfl (QK.dp rfl (QK.dp rfl (QK.dp rfl ?_))))
  refine QK.bool trivial (Yields.pure rfl) (fun g53 => ?_) (fun g53 => ?_)
  ·try simp only [decide_eq_true_eq, decide_eq_false_iff_not, beq_iff_eq, bne_iff_ne, beq_eq_false_iff_ne, bne_eq_false_iff_eq, Bool.not_eq_true', Bool.not_eq_false', Bool.not_eq_true, ne_eq, Decidable.not_not] at g53
   obtain ⟨aX, rfl⟩ := hrX.some (intC_ne (by omega))
   refine QK.det rfl (.pure rfl) (QK.det rfl (.pure rfl) (QK.det rfl (.pure rfl) (QK.det rfl (.pure rfl) (QK.dp rfl ?_))))
   refine QK.bool trivial (Yields.pure rfl) (fun g59 => ?_) (fun g59 => ?_)
   ·try simp only [decide_eq_true_eq, decide_eq_false_iff_not, beq_iff_eq, bne_iff_ne, beq_eq_false_iff_ne, bne_eq_false_iff_eq, Bool.not_eq_true', Bool.not_eq_false', Bool.not_eq_true, ne_eq, Decidable.not_not] at g59
    obtain ⟨aY, rfl⟩ := hrY.some (intC_ne (by omega))
    refine QK.det rfl (.pure rfl) (QK.det rfl (.pure rfl) ?_)
    refine QK.det rfl (.ixN1 rfl rfl rfl (by omega)) ?_
    refine QK.det rfl (.ld rfl (int_at hrX.cons.cons.cons (by omega))) ?_
    refine QK.det rfl (.pure rfl) (QK.det rfl (.pure rfl) ?_)
    refine QK.det rfl (.ixN1 rfl rfl rfl (by omega)) ?_
    refine QK.det rfl (.ld rfl (int_at hrY.cons.cons.cons (by omega))) ?_
    refine QK.nil ?_
    change OL _ _ _ [_, _, _] _ _ _
    refine OL.det rfl (.pure rfl) (OL.dp rfl (OL.dp rfl (OL.nil ?_)))
    refine hK4 _ _ ?_
    refine PW.k7 7 8 9 10 11 12 48 rfl ?_
    refine PW.cond rfl (fun c48 => ?_) (fun c48 => ?_)
    ·try simp only [decide_eq_true_eq, decide_eq_false_iff_not, beq_iff_eq, bne_iff_ne, beq_eq_false_iff_ne, bne_eq_false_iff_eq, Bool.not_eq_true', Bool.not_eq_false', Bool.not_eq_true, ne_eq, Decidable.not_not] at c48
     refine PW.seqOps (OL.dp rfl (OL.dp rfl (OL.dp rfl (OL.det trivial (.build rfl) ?_))))
     apply OL.app1 (k := 0)
     ·rfl
     ·rfl
     ·rfl
     ·rfl
     ·rfl
     ·rfl
     ·exact hsl
     ·rfl
     ·omega
     ·unfold maxLen; omega
     intro v75 seg75 hsl75
     refine OL.dp rfl (OL.nil (PW.k6 7 8 9 10 11 12 rfl (PW.seqOps (OL.dp rfl ?_))))
     refine OL.det trivial (.add64 rfl rfl (by omega) (by omega)) ?_
     refine OL.dp rfl (OL.nil (PW.k6 7 8 9 10 11 12 rfl (PW.ops (OL.dp rfl ?_))))
     refine OL.det trivial (.add64 rfl rfl (by omega) (by omega)) ?_
     refine OL.dp rfl (OL.nil ?_)
     repeat rw [inBlk_n]
     try rw [thenK_n]
     refine LoopEnd.mk (T'' := [(7, _), (8, _), (9, _), (10, _), (11, _), (12, _)]) (wi rfl) ?_
     refine ⟨(X.length - (i + 1)) + (Y.length - (j + 1)), by omega, i + 1, j + 1, o ++ [(0, (i : Int), (j : Int))], v75, seg75, ⟨by omega, by omega, rfl, ?_, by simp; omega, ?_⟩, rfl, rfl⟩
     ·rw [<- hrest, rest_keep (i := i) (j := j) (by omega) (by omega) (by omega), List.append_assoc]; rfl
     rw [stsC_append, List.length_append]; exact hsl75
    try simp only [decide_eq_true_eq, decide_eq_false_iff_not, beq_iff_eq, bne_iff_ne, beq_eq_false_iff_ne, bne_eq_false_iff_eq, Bool.not_eq_true', Bool.not_eq_false', Bool.not_eq_true, ne_eq, Decidable.not_not] at c48
    refine PW.seq fun K5 hK5 => ?_
    refine PW.quietK Tryz.mixed (QK.dp rfl (QK.dp rfl (QK.dp rfl (QK.dp rfl ?_))))
    refine QK.bool trivial (Yields.pure rfl) (fun g85 => ?_) (fun g85 => ?_)
    ·try simp only [decide_eq_true_eq, decide_eq_false_iff_not, beq_iff_eq, bne_iff_ne, beq_eq_false_iff_ne, bne_eq_false_iff_eq, Bool.not_eq_true', Bool.not_eq_false', Bool.not_eq_true, ne_eq, Decidable.not_not] at g85
     refine QK.det rfl (.pure rfl) (QK.det rfl (.pure rfl) (QK.det rfl (.pure rfl) (QK.det rfl (.pure rfl) ?_)))
     refine QK.bool rfl (Yields.pure rfl) (fun g90 => ?_) (fun g90 => ?_)
     ·(try simp only [decide_eq_true_eq, decide_eq_false_iff_not, beq_iff_eq, bne_iff_ne, beq_eq_false_iff_ne, bne_eq_false_iff_eq, Bool.not_eq_true', Bool.not_eq_false', Bool.not_eq_true, ne_eq, Decidable.not_not] at g90) <;> (exfalso; first | omega | (simp at g90; done) | (revert g90; simp; done))
     try simp only [decide_eq_true_eq, decide_eq_false_iff_not, beq_iff_eq, bne_iff_ne, beq_eq_false_iff_ne, bne_eq_false_iff_eq, Bool.not_eq_true', Bool.not_eq_false', Bool.not_eq_true, ne_eq, Decidable.not_not] at g90
     refine QK.det rfl (.pure rfl) (QK.det rfl (.pure rfl) ?_)
     refine QK.det rfl (.add64 rfl rfl (by omega) (by omega)) ?_
     refine QK.det rfl (.ixN1 rfl rfl (show _ = ((i + 1 : Nat) : Int) from rfl) (by omega)) ?_
     refine QK.det rfl (.ld rfl ((Rd.own (E := 73) (tot := (X.length + 1) * 1) (by simp)).at (rows_at (Y := Y) (rs := rs) (i := i + 1) (by omega)))) ?_
     refine QK.det rfl (.pure rfl) ?_
     refine QK.det rfl (.ixN1 rfl rfl rfl (by omega)) ?_
     refine QK.det rfl (.ld rfl (row_at (Y := Y) (rs := rs) (i := i + 1) (j := j) (fun p hp => by simp [hp]) hrow (by omega) (by omega))) ?_
     refine QK.det rfl (.pure rfl) (QK.det rfl (.pure rfl) ?_)
     refine QK.det rfl (.ixN1 rfl rfl rfl (by omega)) ?_
     refine QK.det rfl (.ld rfl ((Rd.own (E := 73) (tot := (X.length + 1) * 1) (by simp)).at (rows_at (Y := Y) (rs := rs) (i := i) (by omega)))) ?_
     refine QK.det rfl (.pure rfl) ?_
     refine QK.det rfl (.add64 rfl rfl (by omega) (by omega)) ?_
     refine QK.det rfl (.ixN1 rfl rfl (show _ = ((j + 1 : Nat) : Int) from rfl) (by omega)) ?_
     refine QK.det rfl (.ld rfl (row_at (Y := Y) (rs := rs) (i := i) (j := j + 1) (fun p hp => by simp [hp]) hrow (by omega) (by omega))) ?_
     refine QK.nil ?_
     change OL _ _ _ [_, _, _, _] _ _ _
     refine OL.det rfl (.pure rfl) (OL.det rfl (.pure rfl) (OL.dp rfl (OL.dp rfl (OL.nil ?_))))
     refine hK5 _ _ ?_
     refine PW.k7 7 8 9 10 11 12 80 rfl ?_
     refine PW.cond rfl (fun c80 => ?_) (fun c80 => ?_)
     ·try simp only [decide_eq_true_eq, decide_eq_false_iff_not, beq_iff_eq, bne_iff_ne, beq_eq_false_iff_ne, bne_eq_false_iff_eq, Bool.not_eq_true', Bool.not_eq_false', Bool.not_eq_true, ne_eq, Decidable.not_not] at c80
      refine PW.seqOps (OL.dp rfl (OL.dp rfl (OL.det trivial (.build rfl) ?_)))
      apply OL.app1 (k := 0)
      ·rfl
      ·rfl
      ·rfl
      ·rfl
      ·rfl
      ·rfl
      ·exact hsl
      ·rfl
      ·omega
      ·unfold maxLen; omega
      intro v114 seg114 hsl114
      refine OL.dp rfl (OL.nil (PW.k6 7 8 9 10 11 12 rfl (PW.ops (OL.dp rfl ?_))))
      refine OL.det trivial (.add64 rfl rfl (by omega) (by omega)) ?_
      refine OL.dp rfl (OL.nil ?_)
      repeat rw [inBlk_n]
      try rw [thenK_n]
      refine LoopEnd.mk (T'' := [(7, _), (8, _), (9, _), (10, _), (11, _), (12, _)]) (wi rfl) ?_
      refine ⟨(X.length - (i + 1)) + (Y.length - (j)), by omega, i + 1, j, o ++ [(1, (i : Int), 0)], v114, seg114, ⟨by omega, by omega, rfl, ?_, by simp; omega, ?_⟩, rfl, rfl⟩
      ·rw [<- hrest, rest_gone (i := i) (j := j) (by omega) (by omega) (fun h => by first | omega | exact ⟨by omega, by omega⟩), List.append_assoc]; rfl
      rw [stsC_append, List.length_append]; exact hsl114
     try simp only [decide_eq_true_eq, decide_eq_false_iff_not, beq_iff_eq, bne_iff_ne, beq_eq_false_iff_ne, bne_eq_false_iff_eq, Bool.not_eq_true', Bool.not_eq_false', Bool.not_eq_true, ne_eq, Decidable.not_not] at c80
     refine PW.seqOps (OL.dp rfl (OL.dp rfl (OL.det trivial (.build rfl) ?_)))
     apply OL.app1 (k := 0)
     ·rfl
     ·rfl
     ·rfl
     ·rfl
     ·rfl
     ·rfl
     ·exact hsl
     ·rfl
     ·omega
     ·unfold maxLen; omega
     intro v45 seg45 hsl45
     refine OL.dp rfl (OL.nil (PW.k6 7 8 9 10 11 12 rfl (PW.ops (OL.dp rfl ?_))))
     refine OL.det trivial (.add64 rfl rfl (by omega) (by omega)) ?_
     refine OL.dp rfl (OL.nil ?_)
     repeat rw [inBlk_n]
     try rw [thenK_n]
     refine LoopEnd.mk (T'' := [(7, _), (8, _), (9, _), (10, _), (11, _), (12, _)]) (wi rfl) ?_
     refine ⟨(X.length - (i)) + (Y.length - (j + 1)), by omega, i, j + 1, o ++ [(2, 0, (j : Int))], v45, seg45, ⟨by omega, by omega, rfl, ?_, by simp; omega, ?_⟩, rfl, rfl⟩
     ·rw [<- hrest, rest_new (i := i) (j := j) (by omega) (by omega) (fun h => by first | omega | exact ⟨by omega, by omega⟩), List.append_assoc]; rfl
     rw [stsC_append, List.length_append]; exact hsl45
    (try simp only [decide_eq_true_eq, decide_eq_false_iff_not, beq_iff_eq, bne_iff_ne, beq_eq_false_iff_ne, bne_eq_false_iff_eq, Bool.not_eq_true', Bool.not_eq_false', Bool.not_eq_true, ne_eq, Decidable.not_not] at g85) <;> (exfalso; first | omega | (simp at g85; done) | (revert g85; simp; done))
   try simp only [decide_eq_true_eq, decide_eq_false_iff_not, beq_iff_eq, bne_iff_ne, beq_eq_false_iff_ne, bne_eq_false_iff_eq, Bool.not_eq_true', Bool.not_eq_false', Bool.not_eq_true, ne_eq, Decidable.not_not] at g59
   refine QK.off rfl rfl (QK.off rfl rfl (QK.off rfl rfl (QK.off rfl rfl (QK.off rfl rfl (QK.off rfl rfl (QK.off rfl rfl (QK.off rfl rfl (QK.nil ?_))))))))
   change OL _ _ _ [_, _, _] _ _ _
   refine OL.off rfl rfl (OL.dp rfl (OL.dp rfl (OL.nil ?_)))
   refine hK4 _ _ ?_
   refine PW.k7 7 8 9 10 11 12 48 rfl (PW.ite (b := false) rfl ?_)
   rw [if_neg Bool.false_ne_true]
   refine PW.seq fun K6 hK6 => ?_
   refine PW.quietK Tryz.mixed (QK.dp rfl (QK.dp rfl (QK.dp rfl (QK.dp rfl ?_))))
   refine QK.bool trivial (Yields.pure rfl) (fun g85 => ?_) (fun g85 => ?_)
   ·try simp only [decide_eq_true_eq, decide_eq_false_iff_not, beq_iff_eq, bne_iff_ne, beq_eq_false_iff_ne, bne_eq_false_iff_eq, Bool.not_eq_true', Bool.not_eq_false', Bool.not_eq_true, ne_eq, Decidable.not_not] at g85
    refine QK.det rfl (.pure rfl) (QK.det rfl (.pure rfl) (QK.det rfl (.pure rfl) (QK.det rfl (.pure rfl) ?_)))
    refine QK.bool rfl (Yields.pure rfl) (fun g90 => ?_) (fun g90 => ?_)
    ·try simp only [decide_eq_true_eq, decide_eq_false_iff_not, beq_iff_eq, bne_iff_ne, beq_eq_false_iff_ne, bne_eq_false_iff_eq, Bool.not_eq_true', Bool.not_eq_false', Bool.not_eq_true, ne_eq, Decidable.not_not] at g90
     refine QK.off rfl rfl (QK.off rfl rfl (QK.off rfl rfl (QK.off rfl rfl (QK.off rfl rfl (QK.off rfl rfl (QK.off rfl rfl (QK.off rfl rfl (QK.off rfl rfl (QK.off rfl rfl (QK.off rfl rfl (QK.off rfl rfl ?_)))))))))))
     refine QK.off rfl rfl (QK.off rfl rfl (QK.off rfl rfl (QK.off rfl rfl (QK.nil ?_))))
     change OL _ _ _ [_, _, _, _] _ _ _
     refine OL.off rfl rfl (OL.det rfl (.pure rfl) (OL.dp rfl (OL.dp rfl (OL.nil ?_))))
     refine hK6 _ _ ?_
     refine PW.k7 7 8 9 10 11 12 80 rfl (PW.ite (b := true) rfl ?_)
     rw [if_pos rfl]
     refine PW.seqOps (OL.dp rfl (OL.dp rfl (OL.det trivial (.build rfl) ?_)))
     apply OL.app1 (k := 0)
     ·rfl
     ·rfl
     ·rfl
     ·rfl
     ·rfl
     ·rfl
     ·exact hsl
     ·rfl
     ·omega
     ·unfold maxLen; omega
     intro v114 seg114 hsl114
     refine OL.dp rfl (OL.nil (PW.k6 7 8 9 10 11 12 rfl (PW.ops (OL.dp rfl ?_))))
     refine OL.det trivial (.add64 rfl rfl (by omega) (by omega)) ?_
     refine OL.dp rfl (OL.nil ?_)
     repeat rw [inBlk_n]
     try rw [thenK_n]
     refine LoopEnd.mk (T'' := [(7, _), (8, _), (9, _), (10, _), (11, _), (12, _)]) (wi rfl) ?_
     refine ⟨(X.length - (i + 1)) + (Y.length - (j)), by omega, i + 1, j, o ++ [(1, (i : Int), 0)], v114, seg114, ⟨by omega, by omega, rfl, ?_, by simp; omega, ?_⟩, rfl, rfl⟩
     ·rw [<- hrest, rest_gone (i := i) (j := j) (by omega) (by omega) (fun h => by first | omega | exact ⟨by omega, by omega⟩), List.append_assoc]; rfl
     rw [stsC_append, List.length_append]; exact hsl114
    (try simp only [decide_eq_true_eq, decide_eq_false_iff_not, beq_iff_eq, bne_iff_ne, beq_eq_false_iff_ne, bne_eq_false_iff_eq, Bool.not_eq_true', Bool.not_eq_false', Bool.not_eq_true, ne_eq, Decidable.not_not] at g90) <;> (exfalso; first | omega | (simp at g90; done) | (revert g90; simp; done))
   (try simp only [decide_eq_true_eq, decide_eq_false_iff_not, beq_iff_eq, bne_iff_ne, beq_eq_false_iff_ne, bne_eq_false_iff_eq, Bool.not_eq_true', Bool.not_eq_false', Bool.not_eq_true, ne_eq, Decidable.not_not] at g85) <;> (exfalso; first | omega | (simp at g85; done) | (revert g85; simp; done))
  (try simp only [decide_eq_true_eq, decide_eq_false_iff_not, beq_iff_eq, bne_iff_ne, beq_eq_false_iff_ne, bne_eq_false_iff_eq, Bool.not_eq_true', Bool.not_eq_false', Bool.not_eq_true, ne_eq, Decidable.not_not] at g53) <;> (exfalso; first | omega | (simp at g53; done) | (revert g53; simp; done))
 try simp only [decide_eq_true_eq, decide_eq_false_iff_not, beq_iff_eq, bne_iff_ne, beq_eq_false_iff_ne, bne_eq_false_iff_eq, Bool.not_eq_true', Bool.not_eq_false', Bool.not_eq_true, ne_eq, Decidable.not_not] at g35
 refine OL.det rfl (.pure rfl) (OL.det rfl (.pure rfl) (OL.det rfl (.pure rfl) (OL.det rfl (.pure rfl) (OL.dp rfl (OL.nil (PW.k7 7 8 9 10 11 12 40 rfl ?_))))))
 refine PW.cond rfl (fun c40 => ?_) (fun c40 => ?_)
 ·try simp only [decide_eq_true_eq, decide_eq_false_iff_not, beq_iff_eq, bne_iff_ne, beq_eq_false_iff_ne, bne_eq_false_iff_eq, Bool.not_eq_true', Bool.not_eq_false', Bool.not_eq_true, ne_eq, Decidable.not_not] at c40
  refine PW.skip ?_
  refine hK3 _ _ ?_
  refine PW.k6 7 8 9 10 11 12 rfl (PW.block (PW.block ?_))
  refine PW.seq fun K7 hK7 => ?_
  refine PW.quietK Tryz.mixed (QK.dp rfl (QK.dp rfl (QK.dp rfl (QK.dp rfl ?_))))
  refine QK.bool trivial (Yields.pure rfl) (fun g53 => ?_) (fun g53 => ?_)
  ·(try simp only [decide_eq_true_eq, decide_eq_false_iff_not, beq_iff_eq, bne_iff_ne, beq_eq_false_iff_ne, bne_eq_false_iff_eq, Bool.not_eq_true', Bool.not_eq_false', Bool.not_eq_true, ne_eq, Decidable.not_not] at g53) <;> (exfalso; first | omega | (simp at g53; done) | (revert g53; simp; done))
  try simp only [decide_eq_true_eq, decide_eq_false_iff_not, beq_iff_eq, bne_iff_ne, beq_eq_false_iff_ne, bne_eq_false_iff_eq, Bool.not_eq_true', Bool.not_eq_false', Bool.not_eq_true, ne_eq, Decidable.not_not] at g53
  refine QK.off rfl rfl (QK.off rfl rfl (QK.off rfl rfl (QK.off rfl rfl (QK.dp rfl (QK.dp rfl (QK.off rfl rfl (QK.off rfl rfl (QK.off rfl rfl (QK.off rfl rfl (QK.off rfl rfl (QK.off rfl rfl ?_)))))))))))
  refine QK.off rfl rfl (QK.off rfl rfl (QK.nil ?_))
  change OL _ _ _ [_, _, _] _ _ _
  refine OL.off rfl rfl (OL.dp rfl (OL.dp rfl (OL.nil ?_)))
  refine hK7 _ _ ?_
  refine PW.k7 7 8 9 10 11 12 48 rfl (PW.ite (b := false) rfl ?_)
  rw [if_neg Bool.false_ne_true]
  refine PW.seq fun K8 hK8 => ?_
  refine PW.quietK Tryz.mixed (QK.dp rfl (QK.dp rfl (QK.dp rfl (QK.dp rfl ?_))))
  refine QK.bool trivial (Yields.pure rfl) (fun g85 => ?_) (fun g85 => ?_)
  ·(try simp only [decide_eq_true_eq, decide_eq_false_iff_not, beq_iff_eq, bne_iff_ne, beq_eq_false_iff_ne, bne_eq_false_iff_eq, Bool.not_eq_true', Bool.not_eq_false', Bool.not_eq_true, ne_eq, Decidable.not_not] at g85) <;> (exfalso; first | omega | (simp at g85; done) | (revert g85; simp; done))
  try simp only [decide_eq_true_eq, decide_eq_false_iff_not, beq_iff_eq, bne_iff_ne, beq_eq_false_iff_ne, bne_eq_false_iff_eq, Bool.not_eq_true', Bool.not_eq_false', Bool.not_eq_true, ne_eq, Decidable.not_not] at g85
  refine QK.off rfl rfl (QK.off rfl rfl (QK.off rfl rfl (QK.off rfl rfl (QK.off rfl rfl (QK.off rfl rfl (QK.off rfl rfl (QK.off rfl rfl (QK.off rfl rfl (QK.off rfl rfl (QK.off rfl rfl (QK.off rfl rfl ?_)))))))))))
  refine QK.off rfl rfl (QK.off rfl rfl (QK.off rfl rfl (QK.off rfl rfl (QK.off rfl rfl (QK.off rfl rfl (QK.off rfl rfl (QK.off rfl rfl (QK.off rfl rfl (QK.nil ?_)))))))))
  change OL _ _ _ [_, _, _, _] _ _ _
  refine OL.off rfl rfl (OL.off rfl rfl (OL.dp rfl (OL.dp rfl (OL.nil ?_))))
  refine hK8 _ _ ?_
  refine PW.k7 7 8 9 10 11 12 80 rfl (PW.ite (b := false) rfl ?_)
  rw [if_neg Bool.false_ne_true]
  refine PW.seqOps (OL.dp rfl (OL.dp rfl (OL.det trivial (.build rfl) ?_)))
  apply OL.app1 (k := 0)
  ·rfl
  ·rfl
  ·rfl
  ·rfl
  ·rfl
  ·rfl
  ·exact hsl
  ·rfl
  ·omega
  ·unfold maxLen; omega
  intro v45 seg45 hsl45
  refine OL.dp rfl (OL.nil (PW.k6 7 8 9 10 11 12 rfl (PW.ops (OL.dp rfl ?_))))
  refine OL.det trivial (.add64 rfl rfl (by omega) (by omega)) ?_
  refine OL.dp rfl (OL.nil ?_)
  repeat rw [inBlk_n]
  try rw [thenK_n]
  refine LoopEnd.mk (T'' := [(7, _), (8, _), (9, _), (10, _), (11, _), (12, _)]) (wi rfl) ?_
  refine ⟨(X.length - (i)) + (Y.length - (j + 1)), by omega, i, j + 1, o ++ [(2, 0, (j : Int))], v45, seg45, ⟨by omega, by omega, rfl, ?_, by simp; omega, ?_⟩, rfl, rfl⟩
  ·rw [<- hrest, rest_new (i := i) (j := j) (by omega) (by omega) (fun h => by first | omega | exact ⟨by omega, by omega⟩), List.append_assoc]; rfl
  rw [stsC_append, List.length_append]; exact hsl45
 try simp only [decide_eq_true_eq, decide_eq_false_iff_not, beq_iff_eq, bne_iff_ne, beq_eq_false_iff_ne, bne_eq_false_iff_eq, Bool.not_eq_true', Bool.not_eq_false', Bool.not_eq_true, ne_eq, Decidable.not_not] at c40
 refine PW.exit ?_
 refine hK2 _ _ ?_
 refine PW.k1 10 rfl (PW.seqOps (OL.dp rfl (OL.dp rfl (OL.dp rfl (OL.nil (PW.k2 4 5 rfl (PW.ret ?_)))))))
 change (Exit.ret = Exit.normal ∨ Exit.ret = Exit.ret) /\ ∃ v, resV _ _ = some v /\ _
 have e1 := rest_end (X := X) (Y := Y) (show i = X.length by omega) (show j = Y.length by omega)
 rw [e1, List.append_nil] at hrest
 refine ⟨.inr rfl, _, rfl, seg :: S, ?_, v, seg, rfl, rfl, by rw [<- hscr, <- hrest]; exact hsl⟩
 exact Sub.cons (Sub.drop (Sub.drop (Sub.drop (Sub.drop (Sub.refl S)))))
end Go.Proofs.My





namespace Go.Proofs.Gr
open Go.SL Go.RowKit Go.Proofs Go.GP Go.MyPlain
def begT (l first : List ByteArray) : Bool := decide (first.length <= l.length) && decide (l.take first.length = first)
def recF (I : List ItemP) (w : List ByteArray) : Nat -> Nat -> Option Nat
 | 0, _ => none
 | f + 1, i => if I[i]!.block && begT w (oneT I[i]!) then some i else recF I w f (i + 1)
def recAt (I : List ItemP) (fr : Nat) (w : List ByteArray) : Option Nat := recF I w (I.length - fr) fr
theorem recAt_end {I : List ItemP} {fr : Nat} {w : List ByteArray} (h : I.length <= fr) : recAt I fr w = none := by
 unfold recAt
 rw [show I.length - fr = 0 by omega]; rfl
theorem recAt_here {I : List ItemP} {fr : Nat} {w : List ByteArray} (h : fr < I.length) (hc : (I[fr].block && begT w (oneT I[fr])) = true) : recAt I fr w = some fr := by
 unfold recAt
 rw [show I.length - fr = (I.length - fr - 1) + 1 by omega]
 unfold recF
 rw [getElem!_pos I fr h, hc]; rfl
theorem recAt_next {I : List ItemP} {fr : Nat} {w : List ByteArray} (h : fr < I.length) (hc : (I[fr].block && begT w (oneT I[fr])) = false) : recAt I fr w = recAt I (fr + 1) w := by
 unfold recAt
 rw [show I.length - fr = (I.length - (fr + 1)) + 1 by omega]
 conv => lhs; unfold recF
 rw [getElem!_pos I fr h, hc]; rfl
theorem recF_some {I : List ItemP} {w : List ByteArray} : ∀ {f i k : Nat}, recF I w f i = some k -> i <= k /\ k < i + f /\ I[k]!.block = true /\ begT w (oneT I[k]!) = true
 | 0, _, _, h => by cases h
 | f + 1, i, k, h => by
  unfold recF at h
  split at h
  ·rename_i hc
   obtain rfl := Option.some.inj h
   rw [Bool.and_eq_true] at hc
   exact ⟨Nat.le_refl _, by omega, hc.1, hc.2⟩
  obtain ⟨h1, h2, h3⟩ := recF_some h
  exact ⟨by omega, by omega, h3⟩
theorem recAt_some {I : List ItemP} {fr k : Nat} {w : List ByteArray} (h : recAt I fr w = some k) : fr <= k /\ k < I.length /\ I[k]!.block = true /\ begT w (oneT I[k]!) = true := by
 obtain ⟨h1, h2, h3⟩ := recF_some h
 exact ⟨h1, by omega, h3⟩
inductive Tok where
 | free (s : ByteArray)
 | blk (k : Nat)
def toksF (I : List ItemP) : Nat -> Nat -> List ByteArray -> List Tok
 | 0, _, _ => []
 | _ + 1, _, [] => []
 | f + 1, fr, s :: w => match recAt I fr (s :: w) with
  | some k => .blk k :: toksF I f (k + 1) ((s :: w).drop (oneT I[k]!).length)
  | none => .free s :: toksF I f fr w
def toks (I : List ItemP) (fr : Nat) (w : List ByteArray) : List Tok := toksF I w.length fr w
theorem oneT_pos {x : ItemP} (h : x.block = true) : 2 <= (oneT x).length := by
 unfold oneT
 rw [h]
 simp
theorem toksF_fuel {I : List ItemP} : ∀ (f g fr : Nat) (w : List ByteArray), w.length <= f -> w.length <= g -> toksF I f fr w = toksF I g fr w
 | 0, g, fr, w, h1, h2 => by
  obtain rfl := List.eq_nil_of_length_eq_zero (Nat.le_zero.1 h1)
  cases g <;> rfl
 | f + 1, 0, fr, w, h1, h2 => by
  obtain rfl := List.eq_nil_of_length_eq_zero (Nat.le_zero.1 h2)
  rfl
 | f + 1, g + 1, fr, [], _, _ => rfl
 | f + 1, g + 1, fr, s :: w, h1, h2 => by
  simp only [toksF]
  simp only [List.length_cons] at h1 h2
  cases e : recAt I fr (s :: w) with
  | none => simp only; rw [toksF_fuel f g fr w (by omega) (by omega)]
  | some k =>
   have := oneT_pos (recAt_some e).2.2.1
   simp only
   rw [toksF_fuel f g (k + 1) _ (by rw [List.length_drop, List.length_cons]; omega) (by rw [List.length_drop, List.length_cons]; omega)]
theorem toks_nil {I : List ItemP} {fr : Nat} : toks I fr [] = [] := rfl
theorem toks_free {I : List ItemP} {fr : Nat} {s : ByteArray} {w : List ByteArray} (h : recAt I fr (s :: w) = none) : toks I fr (s :: w) = .free s :: toks I fr w := by
 unfold toks
 simp only [List.length_cons, toksF, h]
theorem toks_blk {I : List ItemP} {fr k : Nat} {w : List ByteArray} (hw : 0 < w.length) (h : recAt I fr w = some k) : toks I fr w = .blk k :: toks I (k + 1) (w.drop (oneT I[k]!).length) := by
 cases w with
 | nil => cases hw
 | cons s w =>
  unfold toks
  have := oneT_pos (recAt_some h).2.2.1
  simp only [List.length_cons, toksF, h]
  rw [toksF_fuel w.length ((s :: w).drop (oneT I[k]!).length).length _ _ (by rw [List.length_drop, List.length_cons]; omega) (Nat.le_refl _)]
structure Sec where
 fr : Nat
 to : Nat
 lines : List ByteArray
def secsT (n : Nat) : List Tok -> Nat -> List ByteArray -> List Sec
 | [], fr, cur => [⟨fr, n, cur⟩]
 | .free s :: r, fr, cur => secsT n r fr (cur ++ [s])
 | .blk k :: r, fr, cur => ⟨fr, k, cur⟩ :: secsT n r (k + 1) []
def secs (I : List ItemP) (w : List ByteArray) : List Sec := secsT I.length (toks I 0 w) 0 []
def keepT (K : List Bool) : List Tok -> List Bool
 | [] => K
 | .free _ :: r => keepT K r
 | .blk k :: r => keepT (K.set k true) r
theorem keepT_len : ∀ (l : List Tok) (K : List Bool), (keepT K l).length = K.length
 | [], _ => rfl
 | .free _ :: r, K => keepT_len r K
 | .blk k :: r, K => by simp only [keepT]; rw [keepT_len r]; simp
structure Run where
 fr : Nat
 to : Nat
 lines : List ByteArray
structure RS where
 at_ : Nat
 op : Bool
 runs : List Run
 K : List Bool
def growR (st : RS) : List Run := if st.op then st.runs else st.runs ++ [⟨st.at_, st.at_, []⟩]
def modLast (f : Run -> Run) : List Run -> List Run
 | [] => []
 | [r] => [f r]
 | r :: s :: l => r :: modLast f (s :: l)
def stepU (ls : List ByteArray) (st : RS) (t : Int × Int × Int) : RS :=
 if t.1 = 0 then ⟨st.at_ + 1, false, st.runs, st.K.set st.at_ true⟩
 else if t.1 = 1 then ⟨st.at_ + 1, true, modLast (fun r => { r with to := st.at_ + 1 }) (growR st), st.K⟩
 else ⟨st.at_, true, modLast (fun r => { r with lines := r.lines ++ [ls[t.2.2.toNat]!] }) (growR st), st.K⟩
def neverB : ByteArray := ⟨#[10]⟩
def txtI (x : ItemP) : ByteArray := if x.block then neverB else x.lines[0]!.text
def txts (I : List ItemP) (fr to : Nat) : List ByteArray := ((I.take to).drop fr).map txtI
def runsR (I : List ItemP) (s : Sec) (K : List Bool) : RS := (scr (txts I s.fr s.to) s.lines).foldl (stepU s.lines) ⟨s.fr, false, [], K⟩
def allR (I : List ItemP) : List Sec -> List Bool -> List Run × List Bool
 | [], K => ([], K)
 | s :: r, K => let x := runsR I s K; let y := allR I r x.K; (x.runs ++ y.1, y.2)
theorem stepU_len (ls : List ByteArray) (st : RS) (t : Int × Int × Int) : (stepU ls st t).K.length = st.K.length := by
 unfold stepU
 split
 ·simp
 split <;> rfl
theorem foldU_len (ls : List ByteArray) : ∀ (l : List (Int × Int × Int)) (st : RS), (l.foldl (stepU ls) st).K.length = st.K.length
 | [], _ => rfl
 | t :: l, st => by rw [List.foldl_cons, foldU_len ls l, stepU_len]
structure HunkP where
 up : Vtx
 down : Vtx
 lines : List ByteArray
 gone : List Vtx
def solidK (I : List ItemP) (K : List Bool) (i : Nat) : Bool := K[i]! && !I[i]!.block
def headV (x : ItemP) : Vtx := x.lines[0]!.v
def upK (I : List ItemP) (K : List Bool) (fr : Nat) : Vtx := ((((List.range fr).filter (solidK I K)).getLast?).map fun i => headV I[i]!).getD rootV
def downK (I : List ItemP) (K : List Bool) (to : Nat) : Vtx := ((((List.range I.length).filter fun i => decide (to <= i) && solidK I K i).head?).map fun i => headV I[i]!).getD endV
def goneK (I : List ItemP) (r : Run) : List Vtx := ((I.take r.to).drop r.fr).flatMap fun x => x.lines.map LineP.v
def takes (t : Int × Int × Int) : Bool := decide (t.1 ≠ 2)
theorem scrF_ops {α : Type} [DecidableEq α] : ∀ (f i j : Nat) (xs ys : List α), xs.length + ys.length <= f -> (∀ t ∈ scrF f i j xs ys, (t.1 = 0 ∨ t.1 = 1 ∨ t.1 = 2) /\ (t.1 = 2 -> ∃ b : Nat, t.2.2 = (b : Int) /\ j <= b /\ b < j + ys.length)) /\ ((scrF f i j xs ys).filter takes).length = xs.length
 | 0, i, j, xs, ys, h => by
  have h1 : xs = [] := List.eq_nil_of_length_eq_zero (by omega)
  subst h1
  exact ⟨fun t ht => by simp [scrF] at ht, by simp [scrF]⟩
 | f + 1, i, j, [], [], h => ⟨fun t ht => by simp [scrF] at ht, by simp [scrF]⟩
 | f + 1, i, j, x :: xs, [], h => by
  simp only [List.length_cons, List.length_nil] at h
  obtain ⟨h1, h2⟩ := scrF_ops f (i + 1) j xs [] (by simp; omega)
  simp only [scrF]
  refine ⟨fun t ht => ?_, by simp [takes, h2]⟩
  rcases List.mem_cons.1 ht with rfl | ht
  ·exact ⟨.inr (.inl rfl), fun e => by cases e⟩
  exact h1 t ht
 | f + 1, i, j, [], y :: ys, h => by
  simp only [List.length_cons, List.length_nil] at h
  obtain ⟨h1, h2⟩ := scrF_ops f i (j + 1) [] ys (by simp; omega)
  simp only [scrF]
  refine ⟨fun t ht => ?_, by simpa [takes] using h2⟩
  rcases List.mem_cons.1 ht with rfl | ht
  ·exact ⟨.inr (.inr rfl), fun _ => ⟨j, rfl, by omega, by simp⟩⟩
  refine ⟨(h1 t ht).1, fun e => ?_⟩
  obtain ⟨b, e1, e2, e3⟩ := (h1 t ht).2 e
  exact ⟨b, e1, by omega, by simp only [List.length_cons]; omega⟩
 | f + 1, i, j, x :: xs, y :: ys, h => by
  simp only [List.length_cons] at h
  simp only [scrF]
  split
  ·obtain ⟨h1, h2⟩ := scrF_ops f (i + 1) (j + 1) xs ys (by omega)
   refine ⟨fun t ht => ?_, by simp [takes, h2]⟩
   rcases List.mem_cons.1 ht with rfl | ht
   ·exact ⟨.inl rfl, fun e => by cases e⟩
   refine ⟨(h1 t ht).1, fun e => ?_⟩
   obtain ⟨b, e1, e2, e3⟩ := (h1 t ht).2 e
   exact ⟨b, e1, by omega, by simp only [List.length_cons]; omega⟩
  split
  ·obtain ⟨h1, h2⟩ := scrF_ops f (i + 1) j xs (y :: ys) (by simp; omega)
   refine ⟨fun t ht => ?_, by simp [takes, h2]⟩
   rcases List.mem_cons.1 ht with rfl | ht
   ·exact ⟨.inr (.inl rfl), fun e => by cases e⟩
   exact h1 t ht
  obtain ⟨h1, h2⟩ := scrF_ops f i (j + 1) (x :: xs) ys (by simp; omega)
  refine ⟨fun t ht => ?_, by simpa [takes] using h2⟩
  rcases List.mem_cons.1 ht with rfl | ht
  ·exact ⟨.inr (.inr rfl), fun _ => ⟨j, rfl, by omega, by simp⟩⟩
  refine ⟨(h1 t ht).1, fun e => ?_⟩
  obtain ⟨b, e1, e2, e3⟩ := (h1 t ht).2 e
  exact ⟨b, e1, by omega, by simp only [List.length_cons]; omega⟩
theorem scr_op {α : Type} [DecidableEq α] {xs ys : List α} {t : Int × Int × Int} (h : t ∈ scr xs ys) : t.1 = 0 ∨ t.1 = 1 ∨ t.1 = 2 := ((scrF_ops _ 0 0 xs ys (Nat.le_refl _)).1 t h).1
theorem scr_new {α : Type} [DecidableEq α] {xs ys : List α} {t : Int × Int × Int} (h : t ∈ scr xs ys) (e : t.1 = 2) : ∃ b : Nat, t.2.2 = (b : Int) /\ b < ys.length := by
 obtain ⟨b, e1, _, e3⟩ := ((scrF_ops _ 0 0 xs ys (Nat.le_refl _)).1 t h).2 e
 exact ⟨b, e1, by omega⟩
theorem scr_takes {α : Type} [DecidableEq α] (xs ys : List α) : ((scr xs ys).filter takes).length = xs.length := (scrF_ops _ 0 0 xs ys (Nat.le_refl _)).2
theorem foldU_at (ls : List ByteArray) : ∀ (l : List (Int × Int × Int)) (st : RS), (∀ t ∈ l, t.1 = 0 ∨ t.1 = 1 ∨ t.1 = 2) -> (l.foldl (stepU ls) st).at_ = st.at_ + (l.filter takes).length
 | [], st, _ => by simp
 | t :: l, st, h => by
  rw [List.foldl_cons, foldU_at ls l _ (fun x hx => h x (List.mem_cons_of_mem _ hx))]
  have ht := h t (List.mem_cons_self ..)
  unfold stepU
  rcases ht with e | e | e
  ·rw [if_pos e, List.filter_cons, if_pos (by simp [takes, e])]; simp; omega
  ·rw [if_neg (by rw [e]; decide), if_pos e, List.filter_cons, if_pos (by simp [takes, e])]; simp; omega
  rw [if_neg (by rw [e]; decide), if_neg (by rw [e]; decide), List.filter_cons, if_neg (by simp [takes, e])]
end Go.Proofs.Gr

namespace Go.Proofs.Gr
open Go.SL Go.RowKit Go.Proofs Go.GP
set_option maxHeartbeats 1000000
theorem texts_fc {w0 : World} {S : SS} {A B : Option Addr} {c d : Nat} {a b : List ByteArray} (hx : Rd w0 S A (strs a)) (hy : Rd w0 S B (strs b)) (ha : a.length <= 1000000000000) (hb : b.length <= 1000000000000) :
  FC Tryz.prog w0 11 [.slice A a.length c, .slice B b.length d] S (fun u S' => u = .bool (decide (a = b)) /\ S' = S) := by
 refine FC.of Tryz.known11 (by simp) ?_
 unfold Tryz.pc11
 simp only [argT]
 refine PW.seqOps (OL.dp rfl (OL.nil (PW.k2 0 1 rfl ?_)))
 refine PW.seq fun K1 hK1 => ?_
 refine PW.seqOps (OL.dp rfl (OL.dp rfl (OL.dp rfl (OL.dp rfl (OL.dp rfl (OL.nil (PW.k3 0 1 10 rfl ?_)))))))
 refine PW.cond rfl (fun c10 => ?_) (fun c10 => ?_)
 ·try simp only [cvS] at c10
  refine PW.seqOps (OL.dp rfl (OL.nil (PW.k1 4 rfl (PW.ret ?_))))
  change (Exit.ret = Exit.normal ∨ Exit.ret = Exit.ret) /\ ∃ v, resV _ _ = some v /\ _
  refine ⟨.inr rfl, _, rfl, congrArg Value.bool (Eq.symm (decide_eq_false fun e => ?_)), rfl⟩
  subst e
  exact absurd rfl c10
 try simp only [cvS] at c10
 refine PW.skip ?_
 refine hK1 _ _ ?_
 refine PW.k2 0 1 rfl ?_
 refine PW.seq fun K2 hK2 => ?_
 refine PW.seqOps (OL.dp rfl (OL.nil (PW.k3 0 1 5 rfl (PW.block (PW.k3 0 1 5 rfl ?_)))))
 refine PW.loopK (I := fun m T S' => ∃ (k : Nat), (k <= a.length /\ a.length = b.length /\ m = a.length - k /\ a.take k = b.take k) /\ T = ([(0, .slice A a.length c), (1, .slice B b.length d), (5, .int .i64 k)] : TT) /\ S' = S) (m := a.length) ⟨0, ⟨by omega, by omega, by omega, rfl⟩, rfl, rfl⟩ ?_
 rintro m _ _ ⟨k, ⟨hk, hab, hm, ht⟩, rfl, rfl⟩
 refine PW.seq fun K3 hK3 => ?_
 refine PW.seqOps (OL.dp rfl (OL.dp rfl (OL.dp rfl (OL.dp rfl (OL.nil (PW.k4 0 1 5 14 rfl ?_))))))
 refine PW.cond rfl (fun c14 => ?_) (fun c14 => ?_)
 ·try simp only [cvS] at c14
  have hkl : k < a.length := by omega
  obtain ⟨a0, rfl⟩ := strs_some hx (by omega)
  obtain ⟨b0, rfl⟩ := strs_some hy (by omega)
  have hx2 := hx
  have hy2 := hy
  refine PW.skip ?_
  refine hK3 _ _ ?_
  refine PW.k3 0 1 5 rfl ?_
  refine PW.seq fun K4 hK4 => ?_
  refine PW.block ?_
  refine PW.seq fun K5 hK5 => ?_
  refine PW.quietK Tryz.mixed (QK.dp rfl (QK.dp rfl ?_))
  refine QK.det trivial (.ixN1 rfl rfl rfl (by omega)) ?_
  refine QK.det trivial (.ld rfl (str_at hx2 hkl)) (QK.dp rfl (QK.dp rfl ?_))
  refine QK.det trivial (.ixN1 rfl rfl rfl (by omega)) ?_
  refine QK.det trivial (.ld rfl (str_at hy2 (by omega))) ?_
  refine QK.nil ?_
  change OL _ _ _ [_] _ _ _
  refine OL.dp rfl (OL.nil ?_)
  refine hK5 _ _ ?_
  refine PW.k4 0 1 5 25 rfl ?_
  refine PW.cond rfl (fun c25 => ?_) (fun c25 => ?_)
  ·skip
   refine PW.seqOps (OL.dp rfl (OL.nil (PW.k1 4 rfl (PW.ret ?_))))
   change (Exit.ret = Exit.normal ∨ Exit.ret = Exit.ret) /\ ∃ v, resV _ _ = some v /\ _
   refine ⟨.inr rfl, _, rfl, congrArg Value.bool (Eq.symm (decide_eq_false fun e => ?_)), rfl⟩
   subst e
   simp at c25
  skip
  refine PW.skip ?_
  refine hK4 _ _ ?_
  refine PW.k3 0 1 5 rfl (PW.ops (OL.dp rfl ?_))
  refine OL.det trivial (.add64 rfl rfl (by omega) (by omega)) ?_
  refine OL.dp rfl (OL.nil ?_)
  repeat rw [inBlk_n]
  try rw [thenK_n]
  refine LoopEnd.mk (T'' := [(0, _), (1, _), (5, _)]) (wi rfl) ?_
  have he : a[k] = b[k]'(by omega) := by
   have h1 : a[k].toList = (b[k]'(by omega)).toList := by simpa using c25
   exact toL_inj.1 h1
  exact ⟨a.length - (k + 1), by omega, k + 1, ⟨by omega, hab, rfl, by rw [ltake_snoc hkl, ltake_snoc (show k < b.length by omega), ht, he]⟩, rfl, rfl⟩
 try simp only [cvS] at c14
 refine PW.exit ?_
 refine hK2 _ _ ?_
 refine PW.keep (T' := []) trivial (PW.seqOps (OL.dp rfl (OL.nil (PW.k1 4 rfl (PW.ret ?_)))))
 change (Exit.ret = Exit.normal ∨ Exit.ret = Exit.ret) /\ ∃ v, resV _ _ = some v /\ _
 have hke : k = a.length := by omega
 refine ⟨.inr rfl, _, rfl, congrArg Value.bool (Eq.symm (decide_eq_true ?_)), rfl⟩
 rw [hke, List.take_length, hab, List.take_length] at ht
 exact ht
theorem equal_fc {w0 : World} {S : SS} {A B : Option Addr} {c d : Nat} {a b : List ByteArray} (hx : Rd w0 S A (strs a)) (hy : Rd w0 S B (strs b)) (ha : a.length <= 1000000000000) (hb : b.length <= 1000000000000) :
  FC Tryz.prog w0 113 [.slice A a.length c, .slice B b.length d] S (fun u S' => u = .bool (decide (a = b)) /\ S' = S) := by
 refine FC.of Tryz.known113 (by simp) ?_
 unfold Tryz.pc113
 simp only [argT]
 refine PW.seqOps (OL.dp rfl (OL.nil (PW.k2 0 1 rfl ?_)))
 refine PW.seq fun K1 hK1 => ?_
 refine PW.seqOps (OL.dp rfl (OL.dp rfl (OL.dp rfl (OL.dp rfl (OL.dp rfl (OL.nil (PW.k3 0 1 10 rfl ?_)))))))
 refine PW.cond rfl (fun c10 => ?_) (fun c10 => ?_)
 ·try simp only [cvS] at c10
  refine PW.seqOps (OL.dp rfl (OL.nil (PW.k1 4 rfl (PW.ret ?_))))
  change (Exit.ret = Exit.normal ∨ Exit.ret = Exit.ret) /\ ∃ v, resV _ _ = some v /\ _
  refine ⟨.inr rfl, _, rfl, congrArg Value.bool (Eq.symm (decide_eq_false fun e => ?_)), rfl⟩
  subst e
  exact absurd rfl c10
 try simp only [cvS] at c10
 refine PW.skip ?_
 refine hK1 _ _ ?_
 refine PW.k2 0 1 rfl ?_
 refine PW.seq fun K2 hK2 => ?_
 refine PW.seqOps (OL.dp rfl (OL.dp rfl (OL.dp rfl (OL.nil (PW.k4 0 1 12 13 rfl (PW.block (PW.k4 0 1 12 13 rfl ?_)))))))
 refine PW.loopK (I := fun m T S' => ∃ (k : Nat), (k <= a.length /\ a.length = b.length /\ m = a.length - k /\ a.take k = b.take k) /\ T = ([(0, .slice A a.length c), (1, .slice B b.length d), (12, .int .i64 (a.length : Int)), (13, .int .i64 k)] : TT) /\ S' = S) (m := a.length) ⟨0, ⟨by omega, by omega, by omega, rfl⟩, rfl, rfl⟩ ?_
 rintro m _ _ ⟨k, ⟨hk, hab, hm, ht⟩, rfl, rfl⟩
 refine PW.seqOps (OL.dp rfl (OL.nil (PW.k5 0 1 12 13 14 rfl ?_)))
 refine PW.seq fun K3 hK3 => ?_
 refine PW.cond rfl (fun c14 => ?_) (fun c14 => ?_)
 ·try simp only [cvS] at c14
  have hkl : k < a.length := by omega
  obtain ⟨a0, rfl⟩ := strs_some hx (by omega)
  obtain ⟨b0, rfl⟩ := strs_some hy (by omega)
  have hx2 := hx
  have hy2 := hy
  refine PW.skip ?_
  refine hK3 _ _ ?_
  refine PW.k4 0 1 12 13 rfl ?_
  refine PW.seq fun K4 hK4 => ?_
  refine PW.block (PW.seqOps (OL.dp rfl (OL.dp rfl (OL.nil (PW.k5 0 1 5 12 13 rfl ?_)))))
  refine PW.seq fun K5 hK5 => ?_
  refine PW.quietK Tryz.mixed (QK.dp rfl (QK.dp rfl ?_))
  refine QK.det trivial (.ixN1 rfl rfl rfl (by omega)) ?_
  refine QK.det trivial (.ld rfl (str_at hx2 hkl)) (QK.dp rfl (QK.dp rfl ?_))
  refine QK.det trivial (.ixN1 rfl rfl rfl (by omega)) ?_
  refine QK.det trivial (.ld rfl (str_at hy2 (by omega))) ?_
  refine QK.nil ?_
  change OL _ _ _ [_] _ _ _
  refine OL.dp rfl (OL.nil ?_)
  refine hK5 _ _ ?_
  refine PW.k5 0 1 12 13 24 rfl ?_
  refine PW.cond rfl (fun c24 => ?_) (fun c24 => ?_)
  ·skip
   refine PW.seqOps (OL.dp rfl (OL.nil (PW.k1 4 rfl (PW.ret ?_))))
   change (Exit.ret = Exit.normal ∨ Exit.ret = Exit.ret) /\ ∃ v, resV _ _ = some v /\ _
   refine ⟨.inr rfl, _, rfl, congrArg Value.bool (Eq.symm (decide_eq_false fun e => ?_)), rfl⟩
   subst e
   simp at c24
  skip
  refine PW.skip ?_
  refine hK4 _ _ ?_
  refine PW.k4 0 1 12 13 rfl (PW.ops ?_)
  refine OL.det trivial (.add64 rfl rfl (by omega) (by omega)) ?_
  refine OL.dp rfl (OL.nil ?_)
  repeat rw [inBlk_n]
  try rw [thenK_n]
  refine LoopEnd.mk (T'' := [(0, _), (1, _), (12, _), (13, _)]) (wi rfl) ?_
  have he : a[k] = b[k]'(by omega) := by
   have h1 : a[k].toList = (b[k]'(by omega)).toList := by simpa using c24
   exact toL_inj.1 h1
  exact ⟨a.length - (k + 1), by omega, k + 1, ⟨by omega, hab, rfl, by rw [ltake_snoc hkl, ltake_snoc (show k < b.length by omega), ht, he]⟩, rfl, rfl⟩
 try simp only [cvS] at c14
 refine PW.exit ?_
 refine hK2 _ _ ?_
 refine PW.keep (T' := []) trivial (PW.seqOps (OL.dp rfl (OL.nil (PW.k1 4 rfl (PW.ret ?_)))))
 change (Exit.ret = Exit.normal ∨ Exit.ret = Exit.ret) /\ ∃ v, resV _ _ = some v /\ _
 have hke : k = a.length := by omega
 refine ⟨.inr rfl, _, rfl, congrArg Value.bool (Eq.symm (decide_eq_true ?_)), rfl⟩
 rw [hke, List.take_length, hab, List.take_length] at ht
 exact ht
theorem strs_pre {w0 : World} {S : SS} {A : Option Addr} {l : List ByteArray} {k : Nat} (h : Rd w0 S A (strs l)) : Rd w0 S A (strs (l.take k)) :=
 h.pre (by unfold strs; rw [List.map_take]; exact List.take_prefix _ _)
theorem begins_fc {w0 : World} {S : SS} {A B : Option Addr} {c d : Nat} {a b : List ByteArray} (hx : Rd w0 S A (strs a)) (hy : Rd w0 S B (strs b)) (ha : a.length <= 1000000000000) (hb : b.length <= 1000000000000) (hc : a.length <= c) :
  FC Tryz.prog w0 96 [.slice A a.length c, .slice B b.length d] S (fun u S' => u = .bool (begT a b) /\ S' = S) := by
 refine FC.of Tryz.known96 (by simp) ?_
 unfold Tryz.pc96
 simp only [argT]
 refine PW.seqOps (OL.dp rfl (OL.nil (PW.k2 0 1 rfl (PW.seqOps (OL.dp rfl (OL.dp rfl (OL.dp rfl (OL.dp rfl ?_))))))))
 refine OL.bool trivial (Yields.pure rfl) (fun g9 => ?_) (fun g9 => ?_)
 ·try simp only [cvS] at g9
  have hle : b.length <= a.length := by omega
  have htl : (a.take b.length).length = b.length := by rw [List.length_take]; omega
  refine OL.dp rfl (OL.det rfl (.pure rfl) (OL.det rfl (.pure rfl) (OL.det rfl (.pure rfl) ?_)))
  refine OL.det rfl (.to (v' := .slice A (a.take b.length).length c) (Yields.slS (l := 0) (h := b.length) rfl rfl rfl (.inr ⟨rfl, rfl⟩) (.inl rfl) (by omega) (by omega)) (by rw [cutV0, htl])) ?_
  refine OL.det rfl (.pure rfl) ?_
  refine OL.call rfl rfl (equal_fc (strs_pre hx) hy (by omega) hb) ?_
  rintro _ Sx ⟨rfl, hSx⟩
  rw [hSx]
  clear hSx
  refine OL.dp rfl (OL.dp rfl (OL.nil (PW.k1 4 rfl (PW.ret ?_))))
  change (Exit.ret = Exit.normal ∨ Exit.ret = Exit.ret) /\ ∃ v, resV _ _ = some v /\ _
  exact ⟨.inr rfl, _, rfl, congrArg Value.bool (by unfold begT; first | (rw [decide_eq_true hle]; rfl) | (rw [decide_eq_false (by omega)]; rfl)), rfl⟩
 try simp only [cvS] at g9
 refine OL.dp rfl (OL.off rfl rfl (OL.off rfl rfl (OL.off rfl rfl (OL.off rfl rfl (OL.off rfl rfl (OL.off rfl rfl (OL.dp rfl (OL.dp rfl (OL.nil (PW.k1 4 rfl (PW.ret ?_)))))))))))
 change (Exit.ret = Exit.normal ∨ Exit.ret = Exit.ret) /\ ∃ v, resV _ _ = some v /\ _
 exact ⟨.inr rfl, _, rfl, congrArg Value.bool (by unfold begT; first | (rw [decide_eq_true hle]; rfl) | (rw [decide_eq_false (by omega)]; rfl)), rfl⟩
structure TM where
 A : Option Addr
 c : Nat
 l : List ByteArray
instance : Inhabited TM := ⟨⟨none, 0, []⟩⟩
def toldC (t : TM) : Value := .slice t.A t.l.length t.c
def tolds (l : List TM) : List Value := l.map toldC
structure ChM where
 r : Nat
 its : List ItemM
 Ai : Option Addr
 ci : Nat
 tm : List TM
 At : Option Addr
 ct : Nat
 rk : Nat
def ChM.I (c : ChM) : List ItemP := c.its.map ItemM.pl
def ChM.cells (c : ChM) : List Value := [.slice c.Ai c.its.length c.ci, .slice c.At c.tm.length c.ct, .slice (some ⟨c.rk, 0, none⟩) c.its.length c.its.length]
abbrev cseg (c : ChM) : Seg := [(c.r, .cells c.cells 71 3)]
abbrev kseg (c : ChM) (K : List Bool) : Seg := [(c.rk, .cells (K.map Value.bool) 4 (c.its.length * 1))]
def ChM.ptr (c : ChM) : Value := .pointer (some ⟨c.r, 0, none⟩)
structure ChOK (w0 : World) (X : SS) (c : ChM) : Prop where
 items : Rd w0 X c.Ai (itemS c.its)
 rows : ∀ x ∈ c.its, ItemRd w0 X x
 told : Rd w0 X c.At (tolds c.tm)
 tl : c.tm.map (·.l) = c.I.map oneT
 trd : ∀ t ∈ c.tm, Rd w0 X t.A (strs t.l) /\ t.l.length <= t.c /\ t.l.length <= 1000000
 n : c.its.length <= 1000
 icap : c.its.length <= c.ci
 solid : ∀ x ∈ c.its, x.block = false -> 0 < x.lines.length
theorem ChOK.mono {w0 : World} {X Y : SS} {c : ChM} (h : ChOK w0 X c) (ho : Over X Y) : ChOK w0 Y c :=
 ⟨h.items.mono ho, fun x hx => (h.rows x hx).mono ho, h.told.mono ho, h.tl, fun t ht => ⟨(h.trd t ht).1.mono ho, (h.trd t ht).2⟩, h.n, h.icap, h.solid⟩
theorem ChM.I_len (c : ChM) : c.I.length = c.its.length := List.length_map _
theorem ChM.I_get (c : ChM) {k : Nat} (hk : k < c.its.length) : c.I[k]'(by rw [c.I_len]; exact hk) = c.its[k].pl := List.getElem_map _
theorem ChOK.tlen {w0 : World} {X : SS} {c : ChM} (h : ChOK w0 X c) : c.tm.length = c.its.length := by
 have := congrArg List.length h.tl
 simpa [ChM.I_len] using this
theorem ChOK.tget {w0 : World} {X : SS} {c : ChM} (h : ChOK w0 X c) {k : Nat} (hk : k < c.its.length) : (c.tm[k]'(by rw [h.tlen]; exact hk)).l = oneT (c.I[k]'(by rw [c.I_len]; exact hk)) := by
 have h1 : (c.tm.map (·.l))[k]'(by simp [h.tlen, hk]) = (c.I.map oneT)[k]'(by simp [c.I_len, hk]) := by simp only [h.tl]
 simpa using h1
theorem told_at {w0 : World} {S : SS} {a : Addr} {l : List TM} {k : Nat} (h : Rd w0 S (some a) (tolds l)) (hk : k < l.length) : Cell w0 S (a.add k) (toldC l[k]) := h.at (by simp [tolds, hk])
theorem tolds_some {w0 : World} {S : SS} {A : Option Addr} {l : List TM} (h : Rd w0 S A (tolds l)) (hk : 0 < l.length) : ∃ a, A = some a :=
 h.some (fun e => by have := congrArg List.length e; simp [tolds] at this; subst this; simp at hk)
def optI : Option Nat -> Int
 | some k => k
 | none => -1
theorem block_fc2 {w0 : World} {S : SS} {c : ChM} {W : Option Addr} {cw fr : Nat} {w : List ByteArray} (h : ChOK w0 S c) (hS : Over [cseg c] S) (hw : Rd w0 S W (strs w)) (hwc : w.length <= cw) (hwl : w.length <= 1000000000000) (hfr : fr <= c.its.length) :
  FC Tryz.prog w0 64 [c.ptr, .int .i64 (fr : Int), .slice W w.length cw] S (fun v S' => v = .int .i64 (optI (recAt c.I fr w)) /\ S' = S) := by
 have hn := h.n
 have hIl := c.I_len
 have htn := h.tlen
 refine FC.of Tryz.known64 (by simp) ?_
 unfold Tryz.pc64
 simp only [argT]
 refine PW.seqOps (OL.dp rfl (OL.nil (PW.k3 0 1 2 rfl ?_)))
 refine PW.seq fun K1 hK1 => ?_
 refine PW.seqOps (OL.dp rfl (OL.dp rfl (OL.nil (PW.k3 0 2 7 rfl (PW.block (PW.k3 0 2 7 rfl ?_))))))
 refine PW.loopK (I := fun mm T S' => ∃ (k : Nat), (k <= c.its.length /\ mm = c.its.length - k /\ recAt c.I fr w = recAt c.I k w) /\ T = ([(0, c.ptr), (2, .slice W w.length cw), (7, .int .i64 k)] : TT) /\ S' = S) (m := c.its.length - fr) ⟨fr, ⟨hfr, rfl, rfl⟩, rfl, rfl⟩ ?_
 rintro mm _ _ ⟨k, ⟨hk, hmm, hrec⟩, rfl, rfl⟩
 refine PW.seq fun K2 hK2 => ?_
 refine PW.seqOps (OL.dp rfl (OL.dp rfl (OL.det trivial (Yields.nilc rfl) (OL.dp rfl ?_))))
 refine OL.det trivial (.ld rfl (own_at (j := 0) (c := c.cells) (E := 71) (tot := 3) (hS _ (by simp)) rfl)) ?_
 refine OL.dp rfl (OL.dp rfl (OL.nil (PW.k4 0 2 7 15 rfl ?_)))
 refine PW.cond rfl (fun c15 => ?_) (fun c15 => ?_)
 ·try simp only [cvS] at c15
  have hkl : k < c.its.length := by omega
  obtain ⟨a0, ha0⟩ := itemS_some h.items (by omega)
  have hr2 := h.items
  rw [ha0] at hr2
  obtain ⟨b0, hb0⟩ := tolds_some h.told (by omega)
  have ht2 := h.told
  rw [hb0] at ht2
  have htg := h.tget hkl
  have hig := c.I_get hkl
  refine PW.skip ?_
  refine hK2 _ _ ?_
  refine PW.k3 0 2 7 rfl ?_
  refine PW.seq fun K3 hK3 => ?_
  refine PW.block (PW.seqOps (OL.dp rfl (OL.det trivial (Yields.nilc rfl) (OL.dp rfl ?_))))
  refine OL.det trivial (.ld rfl (own_at (j := 0) (c := c.cells) (E := 71) (tot := 3) (hS _ (by simp)) rfl)) ?_
  refine OL.dp rfl ?_
  rw [ha0]
  refine OL.det trivial (.ixN rfl rfl rfl hkl) (OL.dp rfl (OL.det trivial (.ld rfl (item_at hr2 hkl _ _ rfl)) ?_))
  refine OL.bool trivial (Yields.pure rfl) (fun g26 => ?_) (fun g26 => ?_)
  ·try simp only [cvS] at g26
   refine OL.det rfl (.pure rfl) (OL.det rfl (.pure rfl) (OL.det rfl (Yields.nilc rfl) (OL.det rfl (.pure rfl) ?_)))
   refine OL.det rfl (.ld rfl (own_at (j := 1) (c := c.cells) (E := 71) (tot := 3) (hS _ (by simp)) rfl)) ?_
   refine OL.det rfl (.pure rfl) ?_
   rw [hb0]
   refine OL.det rfl (.ixN1 rfl rfl rfl (by omega)) ?_
   refine OL.det rfl (.ld rfl (told_at ht2 (by omega))) ?_
   refine OL.call rfl rfl (begins_fc hw (h.trd _ (List.getElem_mem (by omega))).1 hwl (by have := (h.trd _ (List.getElem_mem (show k < c.tm.length by omega))).2.2; omega) hwc) ?_
   rintro _ Sx ⟨rfl, hSx⟩
   rw [hSx]
   clear hSx
   refine OL.dp rfl (OL.nil (PW.k4 0 2 7 36 rfl ?_))
   refine PW.cond rfl (fun c36 => ?_) (fun c36 => ?_)
   ·skip
    refine PW.seqOps (OL.dp rfl (OL.dp rfl (OL.nil (PW.k1 6 rfl (PW.ret ?_)))))
    change (Exit.ret = Exit.normal ∨ Exit.ret = Exit.ret) /\ ∃ v, resV _ _ = some v /\ _
    have hhe := recAt_here (I := c.I) (fr := k) (w := w) (by omega) (by rw [<- htg, c36, Bool.and_true, hig]; exact g26)
    exact ⟨.inr rfl, _, rfl, by rw [hrec, hhe]; rfl, rfl⟩
   skip
   refine PW.skip ?_
   refine hK3 _ _ ?_
   refine PW.k3 0 2 7 rfl (PW.ops (OL.dp rfl ?_))
   refine OL.det trivial (.add64 rfl rfl (by omega) (by omega)) ?_
   refine OL.dp rfl (OL.nil ?_)
   repeat rw [inBlk_n]
   try rw [thenK_n]
   refine LoopEnd.mk (T'' := [(0, _), (2, _), (7, _)]) (wi rfl) ?_
   have hnx := recAt_next (I := c.I) (fr := k) (w := w) (by omega) (by rw [<- htg, c36, Bool.and_false])
   exact ⟨c.its.length - (k + 1), by omega, k + 1, ⟨by omega, rfl, by rw [hrec, hnx]⟩, rfl, rfl⟩
  try simp only [cvS] at g26
  refine OL.off rfl rfl (OL.off rfl rfl (OL.off rfl rfl (OL.off rfl rfl (OL.off rfl rfl (OL.off rfl rfl (OL.off rfl rfl (OL.off rfl rfl (OL.off rfl rfl (OL.dp rfl (OL.nil (PW.k4 0 2 7 36 rfl ?_)))))))))))
  refine PW.ite (b := false) rfl ?_
  rw [if_neg Bool.false_ne_true]
  refine PW.skip ?_
  refine hK3 _ _ ?_
  refine PW.k3 0 2 7 rfl (PW.ops (OL.dp rfl ?_))
  refine OL.det trivial (.add64 rfl rfl (by omega) (by omega)) ?_
  refine OL.dp rfl (OL.nil ?_)
  repeat rw [inBlk_n]
  try rw [thenK_n]
  refine LoopEnd.mk (T'' := [(0, _), (2, _), (7, _)]) (wi rfl) ?_
  have hnx := recAt_next (I := c.I) (fr := k) (w := w) (by omega) (by rw [hig]; show (c.its[k].block && _) = false; rw [g26, Bool.false_and])
  exact ⟨c.its.length - (k + 1), by omega, k + 1, ⟨by omega, rfl, by rw [hrec, hnx]⟩, rfl, rfl⟩
 try simp only [cvS] at c15
 refine PW.exit ?_
 refine hK1 _ _ ?_
 refine PW.keep (T' := []) trivial (PW.seqOps (OL.dp rfl (OL.nil (PW.k1 6 rfl (PW.ret ?_)))))
 change (Exit.ret = Exit.normal ∨ Exit.ret = Exit.ret) /\ ∃ v, resV _ _ = some v /\ _
 have hen := recAt_end (I := c.I) (fr := k) (w := w) (by omega)
 exact ⟨.inr rfl, _, rfl, by rw [hrec, hen]; rfl, rfl⟩
theorem itemS_drop (l : List ItemM) (i : Nat) : itemS (l.drop i) = (itemS l).drop (i * 3) := by
 by_cases h : i <= l.length
 ·have e := itemS_app (l.take i) (l.drop i)
  rw [List.take_append_drop] at e
  have hl : (itemS (l.take i)).length = i * 3 := by rw [itemS_len, List.length_take, Nat.min_eq_left h]
  rw [e, <- hl, List.drop_left]
 rw [List.drop_eq_nil_of_le (by omega), List.drop_eq_nil_of_le (by rw [itemS_len]; omega)]; rfl
theorem itemS_take (l : List ItemM) (i : Nat) : itemS (l.take i) <+: itemS l := by
 conv => rhs; rw [<- List.take_append_drop i l, itemS_app]
 exact List.prefix_append _ _
theorem cutI {A : Option Addr} {cap i j : Nat} {l : List ItemM} (hij : i <= j) (hj : j <= l.length) (hl : l.length <= cap) :
  ∃ A' c', cutV A cap 3 i j = .slice A' ((l.take j).drop i).length c' /\ ∀ (w0 : World) (S : SS), Rd w0 S A (itemS l) -> Rd w0 S A' (itemS ((l.take j).drop i)) := by
 have hlen : ((l.take j).drop i).length = j - i := by rw [List.length_drop, List.length_take]; omega
 unfold cutV
 rw [<- hlen]
 refine ⟨_, _, rfl, fun w0 S h => ?_⟩
 split
 ·have : ((l.take j).drop i) = [] := List.eq_nil_of_length_eq_zero (by omega)
  rw [this]
  exact Rd.nil
 intro q v hq
 rw [itemS_drop, List.getElem?_drop] at hq
 have h2 := h.pre (itemS_take l j)
 obtain ⟨a, rfl, hc⟩ := h2 _ _ hq
 exact ⟨a.add (i * 3), rfl, by rw [addr_add_add]; exact hc⟩
def secV (s : Sec) (A : Option Addr) (c : Nat) : Value := .agg #[.int .i64 (s.fr : Int), .int .i64 (s.to : Int), .slice A s.lines.length c]
def secC (s : Sec) (A : Option Addr) (c : Nat) : List Value := [.int .i64 (s.fr : Int), .int .i64 (s.to : Int), .slice A s.lines.length c]
abbrev sseg (r : Nat) (s : Sec) (A : Option Addr) (c : Nat) : Seg := [(r, .cells (secC s A c) 81 3)]
def txtM (x : ItemM) : ByteArray := txtI x.pl
theorem txts_M (c : ChM) (fr to : Nat) : txts c.I fr to = ((c.its.take to).drop fr).map txtM := by
 unfold txts ChM.I
 rw [<- List.map_take, <- List.map_drop, List.map_map]
 rfl
theorem txtM_len {L : List ItemM} {k : Nat} (hk : k < L.length) : ((L.take (k + 1)).map txtM) = (L.take k).map txtM ++ [txtM L[k]] := by
 rw [ltake_snoc hk, List.map_append]; rfl
theorem ctexts_fc {w0 : World} {S : SS} {c : ChM} {s : Sec} {A : Option Addr} {cc : Nat} (h : ChOK w0 S c) (hS : Over [cseg c] S) (hf : s.fr <= s.to) (ht : s.to <= c.its.length) :
  FC Tryz.prog w0 68 [c.ptr, secV s A cc] S (fun v S' => ∃ seg, S' = seg :: S /\ SlV 9 1 v (txts c.I s.fr s.to).length (strs (txts c.I s.fr s.to)) seg) := by
 have hn := h.n
 rw [txts_M]
 obtain ⟨A', c', hcut, hrd0⟩ := cutI (A := c.Ai) hf ht h.icap
 obtain ⟨L, hL⟩ : ∃ z, z = (c.its.take s.to).drop s.fr := ⟨_, rfl⟩
 have hLl : L.length <= 1000 := by rw [hL, List.length_drop, List.length_take]; omega
 have hLm : ∀ x ∈ L, x ∈ c.its := fun x hx => by rw [hL] at hx; exact List.mem_of_mem_take (List.mem_of_mem_drop hx)
 rw [<- hL] at hcut hrd0 ⊢
 refine FC.ofD Tryz.known68 (by simp) ?_
 unfold Tryz.pc68
 simp only [argT]
 refine PW.nilseg (PW.seqOps (OL.cons trivial (OW.bx rfl) ?_))
 rintro _ _ ⟨r3, rfl, rfl⟩
 change OL _ _ _ _ _ (sseg r3 s A cc :: ([] :: S)) _
 refine OL.dp rfl (OL.nil (PW.k3 0 3 4 rfl ?_))
 refine PW.seq fun K1 hK1 => ?_
 refine PW.seq fun K2 hK2 => ?_
 refine PW.quietK Tryz.mixed (QK.dp rfl (QK.det trivial (Yields.nilc rfl) (QK.dp rfl ?_)))
 refine QK.det trivial (.ld rfl (own_at (j := 0) (c := c.cells) (E := 71) (tot := 3) (hS.cons.cons _ (by simp)) rfl)) ?_
 refine QK.dp rfl (QK.det trivial (.ld rfl (own_at (j := 0) (c := secC s A cc) (E := 81) (tot := 3) zM0 rfl)) (QK.dp rfl (QK.det trivial (.ld rfl (own_at (j := 1) (c := secC s A cc) (E := 81) (tot := 3) zM0 rfl)) ?_)))
 refine QK.det trivial (.to (v' := .slice A' L.length c') (Yields.slS (l := s.fr) (h := s.to) rfl rfl rfl (.inl rfl) (.inl rfl) hf (by have := h.icap; omega)) hcut) ?_
 refine QK.dp rfl (QK.dp rfl (QK.nil ?_))
 change OL _ _ _ [] _ _ _
 refine OL.nil ?_
 refine hK2 _ _ ?_
 refine PW.k4 4 15 16 17 rfl (PW.block (PW.k4 4 15 16 17 rfl ?_))
 refine PW.loopK (I := fun mm T S' => ∃ (k : Nat) (v : Value) (sg : Seg), (k <= L.length /\ mm = L.length - k /\ SlV 9 1 v ((L.take k).map txtM).length (strs ((L.take k).map txtM)) sg) /\ T = ([(4, v), (15, .slice A' L.length c'), (16, .int .i64 (L.length : Int)), (17, .int .i64 k)] : TT) /\ S' = sseg r3 s A cc :: (sg :: S)) (m := L.length) ⟨0, _, [], ⟨by omega, by omega, SlV.nil 9 1⟩, rfl, rfl⟩ ?_
 rintro mm _ _ ⟨k, v, sg, ⟨hk, hmm, hsg⟩, rfl, rfl⟩
 refine PW.seqOps (OL.dp rfl (OL.nil (PW.k5 4 15 16 17 18 rfl ?_)))
 refine PW.seq fun K3 hK3 => ?_
 refine PW.cond rfl (fun c18 => ?_) (fun c18 => ?_)
 ·try simp only [cvS] at c18
  have hkl : k < L.length := by omega
  obtain ⟨a0, rfl⟩ := itemS_some (hrd0 w0 S h.items) (by omega)
  have hr2 : Rd w0 (sseg r3 s A cc :: (sg :: S)) (some a0) (itemS L) := (hrd0 w0 S h.items).cons.cons
  have hvl : ((L.take k).map txtM).length <= 1000 := by rw [List.length_map, List.length_take]; omega
  have htl := txtM_len hkl
  refine PW.skip ?_
  refine hK3 _ _ ?_
  refine PW.k4 4 15 16 17 rfl ?_
  refine PW.seq fun K4 hK4 => ?_
  refine PW.block (PW.seqOps (OL.det trivial (.ixN rfl rfl rfl hkl) (OL.det trivial (.ldA rfl (itemC_len _) (item_at hr2 hkl)) (OL.cons trivial OW.al ?_))))
  rintro _ _ ⟨r6, rfl, rfl⟩
  refine OL.cons trivial (item_st rfl rfl rfl) ?_
  rintro _ _ rfl
  change OL _ _ _ _ _ ([(r6, .cells (itemC L[k]) 75 3)] :: sseg r3 s A cc :: (sg :: S)) _
  refine OL.nil (PW.k5 4 6 15 16 17 rfl (PW.seqOps (OL.dp rfl (OL.det trivial (.ld rfl (own_at (j := 1) (c := itemC L[k]) (E := 75) (tot := 3) zM0 rfl)) (OL.nil (PW.k6 4 6 15 16 17 22 rfl ?_))))))
  refine PW.cond rfl (fun c22 => ?_) (fun c22 => ?_)
  ·skip
   refine PW.ops (OL.dp rfl ?_)
   apply OL.app1 (k := 2)
   ·rfl
   ·rfl
   ·rfl
   ·rfl
   ·rfl
   ·rfl
   ·exact hsg
   ·rfl
   ·omega
   ·unfold maxLen; omega
   intro v25 sgn hsn
   refine OL.dp rfl (OL.nil ?_)
   refine hK4 _ _ ?_
   refine PW.k4 4 15 16 17 rfl (PW.ops ?_)
   refine OL.det trivial (.add64 rfl rfl (by omega) (by omega)) ?_
   refine OL.dp rfl (OL.nil ?_)
   repeat rw [inBlk_n]
   try rw [thenK_n]
   refine LoopEnd.mkS (Sub.drop (Sub.refl _)) (T'' := [(4, _), (15, _), (16, _), (17, _)]) (wi rfl) ?_
   have hte : txtM L[k] = neverB := by unfold txtM txtI; rw [show L[k].pl.block = L[k].block from rfl, c22]; rfl
   exact ⟨L.length - (k + 1), by omega, k + 1, _, sgn, ⟨by omega, rfl, by rw [htl, hte]; exact strs_snoc (z := neverB) hsn⟩, rfl, rfl⟩
  skip
  have hpos := h.solid _ (hLm _ (List.getElem_mem hkl)) c22
  have hrl := (h.rows _ (hLm _ (List.getElem_mem hkl))).rdL
  obtain ⟨b0, hb0⟩ := lines_some hrl hpos
  have hrl2 : Rd w0 ([(r6, .cells (itemC L[k]) 75 3)] :: sseg r3 s A cc :: (sg :: S)) (some b0) (lines L[k].lines) := by rw [<- hb0]; exact hrl.cons.cons.cons
  refine PW.ops (OL.dp rfl (OL.dp rfl (OL.det trivial (.ld rfl (own_at (j := 0) (c := itemC L[k]) (E := 75) (tot := 3) zM0 rfl)) ?_)))
  rw [hb0]
  refine OL.det trivial (.ixN (j := 0) rfl rfl rfl hpos) (OL.dp rfl (OL.det trivial (.ld rfl (line_text (k := 0) hrl2 hpos)) ?_))
  apply OL.app1 (k := 2)
  ·rfl
  ·rfl
  ·rfl
  ·rfl
  ·rfl
  ·rfl
  ·exact hsg
  ·rfl
  ·omega
  ·unfold maxLen; omega
  intro v33 sgn hsn
  refine OL.dp rfl (OL.nil ?_)
  refine hK4 _ _ ?_
  refine PW.k4 4 15 16 17 rfl (PW.ops ?_)
  refine OL.det trivial (.add64 rfl rfl (by omega) (by omega)) ?_
  refine OL.dp rfl (OL.nil ?_)
  repeat rw [inBlk_n]
  try rw [thenK_n]
  refine LoopEnd.mkS (Sub.drop (Sub.refl _)) (T'' := [(4, _), (15, _), (16, _), (17, _)]) (wi rfl) ?_
  have hte : txtM L[k] = L[k].lines[0].text := by unfold txtM txtI; rw [show L[k].pl.block = L[k].block from rfl, c22]; show L[k].lines[0]!.text = _; rw [getElem!_pos _ 0 hpos]
  exact ⟨L.length - (k + 1), by omega, k + 1, _, sgn, ⟨by omega, rfl, by rw [htl, hte]; exact strs_snoc hsn⟩, rfl, rfl⟩
 try simp only [cvS] at c18
 refine PW.exit ?_
 refine hK1 _ _ ?_
 refine PW.k1 4 rfl (PW.seqOps (OL.dp rfl (OL.dp rfl (OL.nil (PW.k1 4 rfl (PW.ret ?_))))))
 change (Exit.ret = Exit.normal ∨ Exit.ret = Exit.ret) /\ ∃ v, resV _ _ = some v /\ _
 have hke : k = L.length := by omega
 rw [hke, List.take_length] at hsg
 exact ⟨.inr rfl, _, rfl, _, Sub.drop (Sub.refl _), sg, rfl, hsg⟩
theorem kept_at {w0 : World} {S : SS} {c : ChM} {K : List Bool} {i : Nat} (hm : kseg c K ∈ S) (hi : i < K.length) : Cell w0 S ((⟨c.rk, 0, none⟩ : Addr).add i) (.bool K[i]) :=
 (Rd.own (E := 4) (tot := c.its.length * 1) (List.mem_flatten.2 ⟨_, hm, List.mem_singleton.2 rfl⟩)).at (by simp [hi])
theorem csolid_fc {w0 : World} {S : SS} {c : ChM} {K : List Bool} {i : Nat} (h : ChOK w0 S c) (hC : cseg c ∈ S) (hK : kseg c K ∈ S) (hk : K.length = c.its.length) (hi : i < c.its.length) :
  FC Tryz.prog w0 70 [c.ptr, .int .i64 (i : Int)] S (fun v S' => v = .bool (solidK c.I K i) /\ S' = S) := by
 have hn := h.n
 have hki : i < K.length := by omega
 obtain ⟨a0, ha0⟩ := itemS_some h.items (by omega)
 have hr2 := h.items
 rw [ha0] at hr2
 have hsk : solidK c.I K i = (K[i] && !c.its[i].block) := by unfold solidK; rw [getElem!_pos K i hki, getElem!_pos c.I i (by rw [c.I_len]; exact hi), c.I_get hi]; rfl
 refine FC.of Tryz.known70 (by simp) ?_
 unfold Tryz.pc70
 simp only [argT]
 refine PW.seqOps (OL.dp rfl (OL.nil (PW.k2 0 1 rfl (PW.seqOps (OL.dp rfl (OL.det trivial (Yields.nilc rfl) (OL.dp rfl (OL.det trivial (.ld rfl (own_at (j := 2) (c := c.cells) (E := 71) (tot := 3) (List.mem_flatten.2 ⟨_, hC, List.mem_singleton.2 rfl⟩) rfl)) (OL.dp rfl (OL.det trivial (.ixN1 rfl rfl rfl hi) (OL.det trivial (.ld rfl (kept_at hK hki)) ?_)))))))))))
 refine OL.bool trivial (Yields.pure rfl) (fun g12 => ?_) (fun g12 => ?_)
 ·try simp only [cvS] at g12
  have hkt : K[i] = true := g12
  refine OL.det rfl (.pure rfl) (OL.det rfl (Yields.nilc rfl) (OL.det rfl (.pure rfl) (OL.det rfl (.ld rfl (own_at (j := 0) (c := c.cells) (E := 71) (tot := 3) (List.mem_flatten.2 ⟨_, hC, List.mem_singleton.2 rfl⟩) rfl)) (OL.det rfl (.pure rfl) ?_))))
  rw [ha0]
  refine OL.det rfl (.ixN rfl rfl rfl hi) (OL.det rfl (.pure rfl) (OL.det rfl (.ld rfl (item_at hr2 hi _ _ rfl)) (OL.det rfl (.pure rfl) (OL.dp rfl (OL.dp rfl (OL.nil (PW.k1 4 rfl (PW.ret ?_))))))))
  change (Exit.ret = Exit.normal ∨ Exit.ret = Exit.ret) /\ ∃ v, resV _ _ = some v /\ _
  exact ⟨.inr rfl, _, rfl, congrArg Value.bool (by rw [hsk, hkt]; first | rfl | simp), rfl⟩
 try simp only [cvS] at g12
 have hkt : K[i] = false := g12
 refine OL.off rfl rfl (OL.off rfl rfl (OL.off rfl rfl (OL.off rfl rfl (OL.off rfl rfl (OL.off rfl rfl (OL.off rfl rfl (OL.off rfl rfl (OL.off rfl rfl (OL.dp rfl (OL.dp rfl (OL.nil ?_)))))))))))
 refine PW.k1 4 rfl (PW.ret ?_)
 change (Exit.ret = Exit.normal ∨ Exit.ret = Exit.ret) /\ ∃ v, resV _ _ = some v /\ _
 exact ⟨.inr rfl, _, rfl, congrArg Value.bool (by rw [hsk, hkt]; first | rfl | simp), rfl⟩
structure RunM where
 fr : Nat
 to : Nat
 A : Option Addr
 c : Nat
 lines : List ByteArray
instance : Inhabited RunM := ⟨⟨0, 0, none, 0, []⟩⟩
def RunM.pl (x : RunM) : Run := ⟨x.fr, x.to, x.lines⟩
def runC (x : RunM) : List Value := [.int .i64 (x.fr : Int), .int .i64 (x.to : Int), .slice x.A x.lines.length x.c]
def runV (x : RunM) : Value := .agg (runC x).toArray
def runsS (l : List RunM) : List Value := l.flatMap runC
theorem runsS_len (l : List RunM) : (runsS l).length = l.length * 3 := by unfold runsS; rw [List.length_flatMap]; simp [runC, List.map_const']
theorem runsS_app (a b : List RunM) : runsS (a ++ b) = runsS a ++ runsS b := by unfold runsS; rw [List.flatMap_append]
theorem runsS_one (l : List RunM) : (runsS l).all (·.oneCell') = true := by
 unfold runsS
 rw [List.all_flatMap]
 exact List.all_eq_true.2 fun x _ => rfl
def rrow (ro co : Nat) (l : List RunM) : Seg := [(ro, .cells (runsS l) 84 (co * 3))]
abbrev bcell (r : Nat) (b : Bool) : Seg := [(r, .cells [.bool b] 4 1)]
abbrev icell (r : Nat) (i : Nat) : Seg := [(r, .cells [.int .i64 (i : Int)] 3 1)]
abbrev ocell (r : Nat) (v : Value) : Seg := [(r, .cells [v] 79 1)]
def growM (op : Bool) (at_ : Nat) (l : List RunM) : List RunM := if op then l else l ++ [⟨at_, at_, none, 0, []⟩]
theorem slv_runs {v : Value} {l : List RunM} {seg : Seg} (h : SlV 84 3 v l.length (runsS l) seg) (h0 : 0 < l.length) : ∃ ro co, v = .slice (some ⟨ro, 0, none⟩) l.length co /\ seg = rrow ro co l /\ l.length <= co /\ co <= maxLen := by
 obtain ⟨_, ⟨_, h1, _⟩ | ⟨r, cap, h1, h2, h3, h4⟩⟩ := h
 ·omega
 exact ⟨r, cap, h1, h2, h3, h4⟩
theorem grow_fc {w0 : World} {S : SS} {ro_ rv ra at_ : Nat} {op : Bool} {v : Value} {sg : Seg} {l : List RunM} (hv : SlV 84 3 v l.length (runsS l) sg) (hop : op = true -> 0 < l.length) (hl : l.length <= 100000) :
  FC Tryz.prog w0 69 [.pointer (some ⟨ro_, 0, none⟩), .pointer (some ⟨rv, 0, none⟩), .pointer (some ⟨ra, 0, none⟩)] (bcell ro_ op :: ocell rv v :: icell ra at_ :: sg :: S) (fun u S' => ∃ qo co, u = .pointer (some ⟨qo, ((growM op at_ l).length - 1) * 3, none⟩) /\ S' = bcell ro_ true :: ocell rv (.slice (some ⟨qo, 0, none⟩) (growM op at_ l).length co) :: icell ra at_ :: rrow qo co (growM op at_ l) :: S /\ (growM op at_ l).length <= co /\ co <= maxLen) := by
 refine FC.of Tryz.known69 (by simp) ?_
 unfold Tryz.pc69
 simp only [argT]
 refine PW.seqOps (OL.dp rfl (OL.nil (PW.k3 0 1 2 rfl ?_)))
 refine PW.seq fun K1 hK1 => ?_
 refine PW.seqOps (OL.det trivial (.ld rfl (own_at (j := 0) (c := [.bool op]) (E := 4) (tot := 1) zM0 rfl)) (OL.dp rfl (OL.nil (PW.k4 0 1 2 5 rfl ?_))))
 refine PW.cond rfl (fun c5 => ?_) (fun c5 => ?_)
 ·try simp only [cvS] at c5
  subst c5
  obtain ⟨L, hL⟩ : ∃ z, z = l ++ [(⟨at_, at_, none, 0, []⟩ : RunM)] := ⟨_, rfl⟩
  have hLl : L.length = l.length + 1 := by rw [hL]; simp
  refine PW.seqOps (OL.det trivial (.ld rfl (own_at (j := 0) (c := [v]) (E := 79) (tot := 1) zM1 rfl)) (OL.det trivial (.ld rfl (own_at (j := 0) (c := [.int .i64 (at_ : Int)]) (E := 3) (tot := 1) zM2 rfl)) (OL.det trivial (.ld rfl (own_at (j := 0) (c := [.int .i64 (at_ : Int)]) (E := 3) (tot := 1) zM2 rfl)) (OL.det trivial (.build (cs := runC ⟨at_, at_, none, 0, []⟩) rfl) ?_))))
  apply OL.app1 (k := 3)
  ·rfl
  ·rfl
  ·rfl
  ·rfl
  ·rfl
  ·rfl
  ·exact hv
  ·rfl
  ·omega
  ·unfold maxLen; omega
  intro v11 sg2 hv2
  have hv3 : SlV 84 3 v11 (l ++ [(⟨at_, at_, none, 0, []⟩ : RunM)]).length (runsS (l ++ [(⟨at_, at_, none, 0, []⟩ : RunM)])) sg2 := by rw [runsS_app, List.length_append]; exact hv2
  obtain ⟨qo, co, rfl, rfl, hco, hcm⟩ := slv_runs hv3 (by simp)
  refine OL.cons trivial (OW.st (k := 1) rfl rfl rfl rfl (Nat.le_refl 1) rfl) ?_
  rintro _ _ rfl
  refine OL.nil (PW.k2 0 1 rfl (PW.ops (OL.cons trivial (OW.st (k := 0) rfl rfl rfl rfl (Nat.le_refl 1) rfl) ?_)))
  rintro _ _ rfl
  refine OL.nil ?_
  refine hK1 _ _ ?_
  refine PW.k1 1 rfl (PW.seqOps ?_)
  change OL _ _ _ _ _ (bcell ro_ true :: ocell rv (.slice (some ⟨qo, 0, none⟩) _ co) :: icell ra at_ :: rrow qo co _ :: S) _
  rw [<- hL] at hco ⊢
  refine OL.det trivial (.ld rfl (own_at (j := 0) (c := [.slice (some ⟨qo, 0, none⟩) (L).length co]) (E := 79) (tot := 1) zM1 rfl)) (OL.det trivial (.ld rfl (own_at (j := 0) (c := [.slice (some ⟨qo, 0, none⟩) (L).length co]) (E := 79) (tot := 1) zM1 rfl)) (OL.dp rfl ?_))
  refine OL.det trivial (.to (v' := .int .i64 (((L).length - 1 : Nat) : Int)) (Yields.sub64 rfl rfl (by omega) (by omega)) (congrArg (Value.int .i64) (by omega))) ?_
  refine OL.det trivial (Yields.ixO rfl rfl rfl (by omega)) ?_
  refine OL.dp rfl (OL.nil (PW.k1 3 rfl (PW.ret ?_)))
  change (Exit.ret = Exit.normal ∨ Exit.ret = Exit.ret) /\ ∃ v, resV _ _ = some v /\ _
  exact ⟨.inr rfl, _, rfl, qo, co, by rw [hL]; rfl, by rw [hL]; rfl, by first | exact hco | (rw [hL] at hco; exact hco), hcm⟩
 try simp only [cvS] at c5
 subst c5
 have h0 := hop rfl
 obtain ⟨qo, co, rfl, rfl, hco, hcm⟩ := slv_runs hv h0
 obtain ⟨L, hL⟩ : ∃ z, z = l := ⟨_, rfl⟩
 have hLl : 0 < L.length /\ L.length = l.length := by rw [hL]; exact ⟨h0, rfl⟩
 refine PW.skip ?_
 refine hK1 _ _ ?_
 refine PW.k1 1 rfl (PW.seqOps ?_)
 change OL _ _ _ _ _ (bcell ro_ true :: ocell rv (.slice (some ⟨qo, 0, none⟩) _ co) :: icell ra at_ :: rrow qo co _ :: S) _
 rw [<- hL] at hco ⊢
 refine OL.det trivial (.ld rfl (own_at (j := 0) (c := [.slice (some ⟨qo, 0, none⟩) (L).length co]) (E := 79) (tot := 1) zM1 rfl)) (OL.det trivial (.ld rfl (own_at (j := 0) (c := [.slice (some ⟨qo, 0, none⟩) (L).length co]) (E := 79) (tot := 1) zM1 rfl)) (OL.dp rfl ?_))
 refine OL.det trivial (.to (v' := .int .i64 (((L).length - 1 : Nat) : Int)) (Yields.sub64 rfl rfl (by omega) (by omega)) (congrArg (Value.int .i64) (by omega))) ?_
 refine OL.det trivial (Yields.ixO rfl rfl rfl (by omega)) ?_
 refine OL.dp rfl (OL.nil (PW.k1 3 rfl (PW.ret ?_)))
 change (Exit.ret = Exit.normal ∨ Exit.ret = Exit.ret) /\ ∃ v, resV _ _ = some v /\ _
 exact ⟨.inr rfl, _, rfl, qo, co, by rw [hL]; rfl, by rw [hL]; rfl, by first | exact hco | (rw [hL] at hco; exact hco), hcm⟩
open Go.MyPlain
theorem runs_split (l : List RunM) (h : 0 < l.length) : ∃ l0 x, l = l0 ++ [x] := ⟨l.dropLast, l.getLast (fun e => by subst e; simp at h), (List.dropLast_concat_getLast _).symm⟩
theorem set_to (l0 : List RunM) (x : RunM) (t : Nat) : setAt (runsS (l0 ++ [x])) (((l0 ++ [x]).length - 1) * 3 + 1) [.int .i64 (t : Int)] = runsS (l0 ++ [{ x with to := t }]) := by
 have hl := runsS_len l0
 rw [runsS_app, runsS_app, setAt_eq _ _ _ (by rw [List.length_append, List.length_append, runsS_len, runsS_len]; simp), List.length_append, List.length_singleton, Nat.add_sub_cancel]
 rw [List.take_append, List.drop_append, hl]
 have h1 : l0.length * 3 + 1 - l0.length * 3 = 1 := by omega
 have h2 : l0.length * 3 + 1 + 1 - l0.length * 3 = 2 := by omega
 simp only [List.length_singleton, h1, h2]
 rw [List.take_of_length_le (by omega), List.drop_eq_nil_of_le (by omega)]
 simp [runsS, runC]
theorem set_lines (l0 : List RunM) (x : RunM) (A : Option Addr) (c : Nat) (L : List ByteArray) : setAt (runsS (l0 ++ [x])) (((l0 ++ [x]).length - 1) * 3 + 2) [.slice A L.length c] = runsS (l0 ++ [{ x with A := A, c := c, lines := L }]) := by
 have hl := runsS_len l0
 rw [runsS_app, runsS_app, setAt_eq _ _ _ (by rw [List.length_append, List.length_append, runsS_len, runsS_len]; simp), List.length_append, List.length_singleton, Nat.add_sub_cancel]
 rw [List.take_append, List.drop_append, hl]
 have h1 : l0.length * 3 + 2 - l0.length * 3 = 2 := by omega
 have h2 : l0.length * 3 + 2 + 1 - l0.length * 3 = 3 := by omega
 simp only [List.length_singleton, h1, h2]
 rw [List.take_of_length_le (by omega), List.drop_eq_nil_of_le (by omega)]
 simp [runsS, runC]
theorem modLast_snoc (f : Run -> Run) : ∀ (l : List Run) (x : Run), modLast f (l ++ [x]) = l ++ [f x]
 | [], x => rfl
 | [a], x => rfl
 | a :: b :: l, x => by
  have := modLast_snoc f (b :: l) x
  simp only [List.cons_append] at this ⊢
  simp only [modLast]
  rw [this]
structure RunOk (w0 : World) (j : Seg) (x : RunM) : Prop where
 rd : Rd w0 (j :: []) x.A (strs x.lines)
 cap : x.lines.length <= x.c
 nil : x.A = none -> x.c = 0
theorem RunOk.more {w0 : World} {j j' : Seg} {x : RunM} (h : RunOk w0 j x) (hs : ∀ p ∈ j, p ∈ j') : RunOk w0 j' x := ⟨h.rd.mono fun p hp => by simp at hp ⊢; exact hs p hp, h.cap, h.nil⟩
structure RunsIn (w0 : World) (l : List RunM) (sl junk : Seg) : Prop where
 done : ∀ x ∈ l.dropLast, RunOk w0 junk x
 last : ∀ x, l.getLast? = some x -> SlV 9 1 (.slice x.A x.lines.length x.c) x.lines.length (strs x.lines) sl
theorem RunsIn.nil {w0 : World} {j : Seg} : RunsIn w0 [] [] j := ⟨by simp, by simp⟩
theorem run_ok {w0 : World} {x : RunM} {sl : Seg} (h : SlV 9 1 (.slice x.A x.lines.length x.c) x.lines.length (strs x.lines) sl) : RunOk w0 sl x := by
 obtain ⟨A, cap, e, hn, hc, hr⟩ := slv_rdL (w0 := w0) h
 simp only [Value.slice.injEq] at e
 obtain ⟨rfl, _, rfl⟩ := e
 exact ⟨hr [], hc, hn⟩
theorem RunsIn.all {w0 : World} {l : List RunM} {sl junk : Seg} (h : RunsIn w0 l sl junk) : ∀ x ∈ l, RunOk w0 (sl ++ junk) x := by
 intro x hx
 by_cases h0 : 0 < l.length
 ·obtain ⟨l0, y, rfl⟩ := runs_split l h0
  rcases List.mem_append.1 hx with hx | hx
  ·exact (h.done x (by simpa using hx)).more fun p hp => List.mem_append_right _ hp
  rw [List.mem_singleton] at hx
  subst hx
  exact (run_ok (h.last x (by simp))).more fun p hp => List.mem_append_left _ hp
 have : l = [] := List.eq_nil_of_length_eq_zero (by omega)
 subst this; cases hx
theorem RunsIn.grown {w0 : World} {l : List RunM} {sl junk : Seg} {x : RunM} (h : RunsIn w0 l sl junk) (hx : SlV 9 1 (.slice x.A x.lines.length x.c) x.lines.length (strs x.lines) []) : RunsIn w0 (l ++ [x]) [] (sl ++ junk) :=
 ⟨fun y hy => by simp at hy; exact h.all y hy, fun y hy => by simp at hy; subst hy; exact hx⟩
end Go.Proofs.Gr



namespace Go.Proofs.Gr
open Go.SL Go.RowKit Go.Proofs Go.GP
set_option maxHeartbeats 1000000
open Go.MyPlain
theorem fold_snoc {ls : List ByteArray} {l : List (Int × Int × Int)} {k : Nat} (hk : k < l.length) (st : RS) : (l.take (k + 1)).foldl (stepU ls) st = stepU ls ((l.take k).foldl (stepU ls) st) l[k] := by
 rw [ltake_snoc hk, List.foldl_append]; rfl
theorem at_room {I : List ItemP} {s : Sec} {k : Nat} {K : List Bool} {L : List (Int × Int × Int)} (hL : L = scr (txts I s.fr s.to) s.lines) (hf : s.fr <= s.to) (ht : s.to <= I.length) (hk : k < L.length) (htk : takes L[k] = true) :
  ((L.take k).foldl (stepU s.lines) ⟨s.fr, false, [], K⟩).at_ < s.to := by
 have h1 := scr_takes (txts I s.fr s.to) s.lines
 have h2 : (txts I s.fr s.to).length = s.to - s.fr := by unfold txts; rw [List.length_map, List.length_drop, List.length_take]; omega
 have hop : ∀ t ∈ L, t.1 = 0 ∨ t.1 = 1 ∨ t.1 = 2 := fun t h => scr_op (hL ▸ h)
 rw [<- hL] at h1
 rw [foldU_at _ _ _ (fun t h => hop t (List.mem_of_mem_take h))]
 have h3 : (L.take (k + 1)).filter takes = (L.take k).filter takes ++ [L[k]] := by
  rw [ltake_snoc hk, List.filter_append, List.filter_cons, if_pos htk]; rfl
 have h4 : ((L.take (k + 1)).filter takes).length <= (L.filter takes).length := by
  have := List.take_append_drop (k + 1) L
  conv => rhs; rw [<- this]
  rw [List.filter_append, List.length_append]
  omega
 rw [h3, List.length_append] at h4
 simp at h4
 simp only
 omega
theorem kseg_set (c : ChM) (K : List Bool) (i : Nat) (hi : i < K.length) : setAt (K.map Value.bool) i [.bool true] = (K.set i true).map Value.bool := by
 rw [setAt_eq _ _ _ (by simp; omega), List.map_set]
 rw [List.set_eq_take_append_cons_drop, if_pos (by simpa using hi)]
 simp
end Go.Proofs.Gr

namespace Go.Proofs.Gr
open Go.SL Go.RowKit Go.Proofs Go.GP
set_option maxHeartbeats 1000000
open Go.MyPlain
theorem RunsIn.grow {w0 : World} {l : List RunM} {sl junk : Seg} {op : Bool} {at_ : Nat} (h : RunsIn w0 l sl junk) : ∃ sl' junk', RunsIn w0 (growM op at_ l) sl' junk' /\ ∀ S, Sub (sl' :: junk' :: S) (sl :: junk :: S) := by
 cases op
 ·exact ⟨[], sl ++ junk, h.grown (SlV.nil 9 1), fun S => Sub.nilL Sub.join⟩
 exact ⟨sl, junk, h, fun S => Sub.refl _⟩
theorem grow_pl {l : List RunM} {st : RS} (h : l.map RunM.pl = st.runs) : (growM st.op st.at_ l).map RunM.pl = growR st := by
 unfold growM growR
 split
 ·exact h
 rw [List.map_append, h]; rfl
theorem grow_pos {l : List RunM} {op : Bool} {at_ : Nat} (h : op = true -> 0 < l.length) : 0 < (growM op at_ l).length := by
 unfold growM; split
 ·exact h (by assumption)
 simp
theorem grow_le {l : List RunM} {op : Bool} {at_ : Nat} : (growM op at_ l).length <= l.length + 1 := by
 unfold growM; split <;> simp
theorem RunsIn.last' {w0 : World} {l0 : List RunM} {x y : RunM} {sl sl' junk : Seg} (h : RunsIn w0 (l0 ++ [x]) sl junk) (hy : SlV 9 1 (.slice y.A y.lines.length y.c) y.lines.length (strs y.lines) sl') : RunsIn w0 (l0 ++ [y]) sl' junk :=
 ⟨fun z hz => h.done z (by simpa using hz), fun z hz => by simp at hz; subst hz; exact hy⟩
theorem runs_slv {qo co : Nat} {l : List RunM} (h : l.length <= co) (h2 : co <= maxLen) : SlV 84 3 (.slice (some ⟨qo, 0, none⟩) l.length co) l.length (runsS l) (rrow qo co l) := SlV.mk' (runsS_len l) h h2
theorem run_lines_at {w0 : World} {S : SS} {qo co : Nat} {l0 : List RunM} {x : RunM} (h : (qo, .cells (runsS (l0 ++ [x])) 84 (co * 3)) ∈ S.flatten) : Cell w0 S ((⟨qo, ((l0 ++ [x]).length - 1) * 3, none⟩ : Addr).add 2) (.slice x.A x.lines.length x.c) := by
 have := (Rd.own h).at (w0 := w0) (j := ((l0 ++ [x]).length - 1) * 3 + 2) (v := .slice x.A x.lines.length x.c) (by rw [List.length_append, List.length_singleton, Nat.add_sub_cancel, runsS_app, List.getElem?_append_right (by rw [runsS_len]; omega), runsS_len]; simp [runsS, runC])
 simpa [Addr.add] using this
theorem step_st {w0 : World} {S : SS} {P : Program} {n r : Nat} {T : TT} {x v : PV} {t : Int × Int × Int} {z : List Value} (hx : x.val T = some (.pointer (some ⟨r, 0, none⟩))) (hv : v.val T = some (.agg (My.stC t).toArray)) (hz : z.length = 3) :
  OW P w0 n (.st 3 x v) T ([(r, .cells z 138 3)] :: S) (fun _ S' => S' = [(r, .cells (My.stC t) 138 3)] :: S) := by
 refine (OW.st (k := 0) (c := z) (u := .agg (My.stC t).toArray) hx hv rfl (show (Value.agg (My.stC t).toArray).cells.size = 3 from rfl) (by omega) rfl).mono ?_
 rintro _ _ rfl
 rw [show (Value.agg (My.stC t).toArray).cells.toList = My.stC t from rfl, setAll (by rw [hz]; rfl)]
 rfl
theorem runs_fc {w0 : World} {S : SS} {c : ChM} {K : List Bool} {s : Sec} {A : Option Addr} {cc : Nat} (h : ChOK w0 S c) (hC : Over [cseg c] S) (hk : K.length = c.its.length) (hf : s.fr <= s.to) (ht : s.to <= c.its.length) (hls : Rd w0 S A (strs s.lines)) (hll : s.lines.length <= 1000) :
  FC Tryz.prog w0 29 [c.ptr, secV s A cc] (kseg c K :: S) (fun u S' => ∃ v rs sg junk, u = .tuple #[v, .int .i64 0] /\ S' = sg :: junk :: kseg c (runsR c.I s K).K :: S /\ SlV 84 3 v rs.length (runsS rs) sg /\ (∀ x ∈ rs, RunOk w0 junk x) /\ rs.map RunM.pl = (runsR c.I s K).runs /\ rs.length <= 2000) := by
 have hn := h.n
 have htl : (txts c.I s.fr s.to).length <= 1000 := by unfold txts; rw [List.length_map, List.length_drop, List.length_take, c.I_len]; omega
 refine FC.ofCT Tryz.known29 (by simp) ?_
 unfold Tryz.pc29
 simp only [argT]
 refine PW.seqOps (OL.cons trivial (OW.bx rfl) ?_)
 rintro _ _ ⟨r3, rfl, rfl⟩
 change OL _ _ _ _ _ (sseg r3 s A cc :: kseg c K :: S) _
 refine OL.cons trivial OW.al ?_
 rintro _ _ ⟨r4, rfl, rfl⟩
 refine OL.dp rfl (OL.nil (PW.k3 0 3 4 rfl ?_))
 refine PW.seq fun K1 hK1 => ?_
 refine PW.quietG (Ss := Over (ocell r4 (.slice none 0 0) :: sseg r3 s A cc :: kseg c K :: S)) (fr := false) [(0, 0), (1, 0), (3, 0), (4, 0), (2, 2), (5, 2), (6, 0), (7, 0), (8, 0), (9, 0)] Tryz.mixed (by decide +kernel) (Over.refl _) (fun h => by cases h) ?_
 refine GL.dp rfl ?_
 refine GL.det trivial (fun Sx hSx => Yields.ldA rfl rfl (all_at (c := secC s A cc) (E := 81) (tot := 3) (hSx _ zM1))) ?_
 refine GL.dp rfl ?_
 refine GL.det trivial (fun Sx hSx => Yields.ld rfl (own_at (j := 2) (c := secC s A cc) (E := 81) (tot := 3) (hSx _ zM1) rfl)) ?_
 refine GL.lo trivial (OW.mono (OW.call rfl (ctexts_fc (h.mono (Over.refl _).cons.cons.cons) (fun q hq => (hC.cons.cons.cons) q hq) hf ht)) ?_)
 rintro v17 _ ⟨sgt, rfl, hst⟩
 obtain ⟨At, ct, rfl, hnt, hct, hrt⟩ := slv_rdL (w0 := w0) hst
 refine ⟨(Over.refl _).cons, ?_⟩
 refine GL.lo trivial (OW.mono (OW.call rfl (My.diff_fc (xs := txts c.I s.fr s.to) (ys := s.lines) (hrt _) (hls.mono (Over.refl _).cons.cons.cons.cons) (by omega) (by omega))) ?_)
 rintro v20 _ ⟨u, sgd, rfl, rfl, hsd⟩
 obtain ⟨L, hL⟩ : ∃ z, z = scr (txts c.I s.fr s.to) s.lines := ⟨_, rfl⟩
 rw [<- hL] at hsd
 have hLl : L.length <= 2000 := by have := scr_length (txts c.I s.fr s.to) s.lines; rw [<- hL] at this; omega
 obtain ⟨Au, cu, rfl, hnu, hcu, hru⟩ := slv_rdL (w0 := w0) hsd
 refine ⟨(Over.refl _).cons.cons, ?_⟩
 refine GL.dp rfl ?_
 refine GL.dp rfl ?_
 refine GL.dp rfl ?_
 refine GL.dp rfl ?_
 change OL _ _ _ [_] _ _ _
 refine OL.dp rfl (OL.nil ?_)
 refine hK1 _ _ ?_
 refine PW.k5 0 3 4 5 6 rfl ?_
 refine PW.seq fun K2 hK2 => ?_
 refine PW.seqOps (OL.dp rfl (OL.det trivial (.to (v' := .bool false) (Yields.pure rfl) rfl) (OL.nil (PW.k6 0 3 4 5 6 24 rfl (PW.ite (b := false) rfl ?_)))))
 rw [if_neg Bool.false_ne_true]
 refine PW.skip ?_
 refine hK2 _ _ ?_
 refine PW.k4 0 3 4 6 rfl (PW.seqOps (OL.dp rfl (OL.det trivial (.ld rfl (own_at (j := 0) (c := secC s A cc) (E := 81) (tot := 3) zM3 rfl)) (OL.cons trivial OW.al ?_))))
 rintro _ _ ⟨r7, rfl, rfl⟩
 refine OL.cons trivial (OW.st (k := 0) rfl rfl rfl rfl (Nat.le_refl 1) rfl) ?_
 rintro _ _ rfl
 refine OL.nil (PW.k5 0 3 4 6 7 rfl (PW.seqOps (OL.cons trivial OW.al ?_)))
 rintro _ _ ⟨r8, rfl, rfl⟩
 refine OL.cons trivial (OW.st (k := 0) rfl rfl rfl rfl (Nat.le_refl 1) rfl) ?_
 rintro _ _ rfl
 refine OL.nil (PW.k6 0 3 4 6 7 8 rfl (PW.seqOps ?_))
 refine OL.subS (S' := bcell r8 false :: ocell r4 (.slice none 0 0) :: icell r7 s.fr :: [] :: [] :: [] :: kseg c K :: sseg r3 s A cc :: sgd :: S) ((Sub.cons (Sub.cons (Sub.cons (Sub.nilL (Sub.nilL (Sub.nilL (Sub.refl _))))))).trans (Sub.sel [0, 4, 1, 6, 5, 2] 7 (by decide) (bcell r8 false :: icell r7 s.fr :: sgd :: sgt :: ocell r4 (.slice none 0 0) :: sseg r3 s A cc :: kseg c K :: S))) ?_
 refine OL.det trivial (Yields.mkF rfl) (OL.dp rfl (OL.nil (PW.k7 0 3 4 6 7 8 9 rfl ?_)))
 refine PW.seq fun K3 hK3 => ?_
 refine PW.seqOps (OL.dp rfl (OL.dp rfl (OL.dp rfl (OL.nil (PW.k9 0 3 4 7 8 9 29 30 31 rfl (PW.block (PW.k9 0 3 4 7 8 9 29 30 31 rfl ?_)))))))
 refine PW.loopK (I := fun m T S' => ∃ (k : Nat) (st : RS) (l : List RunM) (v : Value) (sg sl junk : Seg), (k <= L.length /\ m = L.length - k /\ st = (L.take k).foldl (stepU s.lines) ⟨s.fr, false, [], K⟩ /\ l.map RunM.pl = st.runs /\ SlV 84 3 v l.length (runsS l) sg /\ RunsIn w0 l sl junk /\ (st.op = true -> 0 < l.length) /\ l.length <= k /\ st.K.length = c.its.length /\ ∀ x ∈ l, x.lines.length <= k) /\ T = ([(0, c.ptr), (3, .pointer (some ⟨r3, 0, none⟩)), (4, .pointer (some ⟨r4, 0, none⟩)), (7, .pointer (some ⟨r7, 0, none⟩)), (8, .pointer (some ⟨r8, 0, none⟩)), (9, .func (.func 69) #[] #[.pointer (some ⟨r8, 0, none⟩), .pointer (some ⟨r4, 0, none⟩), .pointer (some ⟨r7, 0, none⟩)]), (29, .slice Au L.length cu), (30, .int .i64 (L.length : Int)), (31, .int .i64 k)] : TT) /\ S' = bcell r8 st.op :: ocell r4 v :: icell r7 st.at_ :: sg :: sl :: junk :: kseg c st.K :: sseg r3 s A cc :: sgd :: S) (m := L.length) ⟨0, _, [], _, [], [], [], ⟨by omega, by omega, rfl, rfl, SlV.nil 84 3, RunsIn.nil, (fun h => by cases h), by simp, hk, (by simp)⟩, rfl, rfl⟩ ?_
 rintro m _ _ ⟨k, st, l, v, sg, sl, junk, ⟨hkL, hm, hst, hlp, hv, hin, hop, hlk, hKl, hxl⟩, rfl, rfl⟩
 refine PW.seqOps (OL.dp rfl (OL.nil (PW.k10 0 3 4 7 8 9 29 30 31 32 rfl ?_)))
 refine PW.seq fun K4 hK4 => ?_
 refine PW.cond rfl (fun c32 => ?_) (fun c32 => ?_)
 ·try simp only [cvS] at c32
  have hkl : k < L.length := by omega
  obtain ⟨a0, rfl⟩ := (hru []).some (My.stsC_ne (by omega))
  refine PW.skip ?_
  refine hK4 _ _ ?_
  refine PW.k9 0 3 4 7 8 9 29 30 31 rfl ?_
  refine PW.seq fun K5 hK5 => ?_
  refine PW.block (PW.seqOps ?_)
  refine OL.det trivial (.ixN rfl rfl rfl (by omega)) ?_
  refine OL.det trivial (.ldA rfl rfl (fun j v hj => My.st_at (k := k) (l := L) ((hru S).mono (Over.refl _).cons.cons.cons.cons.cons.cons.cons.cons) hkl j (show j < (My.stC L[k]).length from (List.getElem?_eq_some_iff.1 hj).1) hj)) ?_
  refine OL.cons trivial OW.al ?_
  rintro _ _ ⟨r11, rfl, rfl⟩
  refine OL.cons trivial (step_st rfl rfl rfl) ?_
  rintro _ _ rfl
  refine OL.nil (PW.k10 0 3 4 7 8 9 11 29 30 31 rfl (PW.seqOps (OL.dp rfl (OL.det trivial (.ld rfl (own_at (j := 0) (c := My.stC L[k]) (E := 138) (tot := 3) zM0 rfl)) (OL.nil (PW.k11 0 3 4 7 8 9 11 29 30 31 36 rfl (PW.block (PW.seqOps (OL.dp rfl (OL.dp rfl (OL.nil ?_)))))))))))
  refine PW.k12 0 3 4 7 8 9 11 29 30 31 36 37 rfl ?_
  refine PW.cond rfl (fun c37 => ?_) (fun c37 => ?_)
  ·try simp only [cvS] at c37
   have hai : st.at_ + 1 <= st.K.length := by
    have := at_room (I := c.I) (K := K) hL hf (by rw [c.I_len]; exact ht) hkl (by unfold takes; simp [c37])
    rw [<- hst] at this; omega
   refine PW.seq fun K6 hK6 => ?_
   refine PW.quietK Tryz.mixed (QK.dp rfl (QK.det trivial (Yields.nilc rfl) (QK.dp rfl (QK.det trivial (.ld rfl (own_at (j := 2) (c := c.cells) (E := 71) (tot := 3) (hC.cons.cons.cons.cons.cons.cons.cons.cons.cons.cons _ (List.mem_flatten.2 ⟨_, List.mem_singleton.2 rfl, List.mem_singleton.2 rfl⟩)) rfl)) (QK.det trivial (.ld rfl (own_at (j := 0) (c := [.int .i64 (st.at_ : Int)]) (E := 3) (tot := 1) zM3 rfl)) (QK.nil ?_))))))
   change OL _ _ _ [_, _] _ _ _
   refine OL.det trivial (.to (v' := .pointer (some ⟨c.rk, st.at_, none⟩)) (Yields.ixN1 rfl rfl rfl (by omega)) (by simp [Addr.add, eq_comm])) ?_
   refine OL.cons trivial (OW.st (k := 7) rfl rfl rfl rfl (by rw [List.length_map]; exact hai) rfl) ?_
   rintro _ _ rfl
   refine OL.nil ?_
   refine hK6 _ _ ?_
   refine PW.k9 0 3 4 7 8 9 29 30 31 rfl (PW.seqOps (OL.det trivial (.ld rfl (own_at (j := 0) (c := [.int .i64 (st.at_ : Int)]) (E := 3) (tot := 1) zM3 rfl)) ?_))
   refine OL.det trivial (.add64 rfl rfl (by omega) (by omega)) ?_
   refine OL.cons trivial (OW.st (k := 3) rfl rfl rfl rfl (Nat.le_refl 1) rfl) ?_
   rintro _ _ rfl
   refine OL.nil (PW.k9 0 3 4 7 8 9 29 30 31 rfl (PW.ops (OL.cons trivial (OW.st (k := 1) rfl rfl rfl rfl (Nat.le_refl 1) rfl) ?_)))
   rintro _ _ rfl
   refine OL.nil ?_
   refine hK5 _ _ ?_
   refine PW.k9 0 3 4 7 8 9 29 30 31 rfl (PW.ops ?_)
   refine OL.det trivial (.add64 rfl rfl (by omega) (by omega)) ?_
   refine OL.dp rfl (OL.nil ?_)
   repeat rw [inBlk_n]
   try rw [thenK_n]
   refine LoopEnd.mkS (Sub.drop (Sub.refl _)) (T'' := [(0, _), (3, _), (4, _), (7, _), (8, _), (9, _), (29, _), (30, _), (31, _)]) (wi rfl) ?_
   have hfs := fold_snoc (ls := s.lines) hkl ⟨s.fr, false, [], K⟩
   rw [<- hst] at hfs
   have hs0 : stepU s.lines st L[k] = ⟨st.at_ + 1, false, st.runs, st.K.set st.at_ true⟩ := by unfold stepU; rw [if_pos c37]
   refine ⟨L.length - (k + 1), by omega, k + 1, stepU s.lines st L[k], l, v, sg, sl, junk, ⟨by omega, rfl, hfs.symm, by rw [hs0]; exact hlp, hv, hin, by rw [hs0]; exact (fun h => by cases h), by omega, by rw [hs0]; simpa using hKl, fun x hx => by have := hxl x hx; omega⟩, rfl, ?_⟩
   rw [hs0]
   refine List.cons_eq_cons.2 ⟨rfl, List.cons_eq_cons.2 ⟨rfl, List.cons_eq_cons.2 ⟨rfl, List.cons_eq_cons.2 ⟨rfl, List.cons_eq_cons.2 ⟨rfl, List.cons_eq_cons.2 ⟨rfl, List.cons_eq_cons.2 ⟨?_, rfl⟩⟩⟩⟩⟩⟩⟩
   exact (congrArg (fun z => [(c.rk, AO.cells z 4 (c.its.length * 1))]) (kseg_set c st.K st.at_ (by omega)))
  try simp only [cvS] at c37
  refine PW.seqOps (OL.dp rfl (OL.dp rfl (OL.nil (PW.k12 0 3 4 7 8 9 11 29 30 31 36 47 rfl ?_))))
  refine PW.cond rfl (fun c47 => ?_) (fun c47 => ?_)
  ·try simp only [cvS] at c47
   have hai : st.at_ + 1 <= st.K.length := by
    have := at_room (I := c.I) (K := K) hL hf (by rw [c.I_len]; exact ht) hkl (by unfold takes; simp [c47])
    rw [<- hst] at this; omega
   refine PW.seqOps ?_
   refine OL.subS (S' := bcell r8 st.op :: ocell r4 v :: icell r7 st.at_ :: sg :: [(r11, .cells (My.stC L[k]) 138 3)] :: sl :: junk :: kseg c st.K :: sseg r3 s A cc :: sgd :: S) (Sub.sel [1, 2, 3, 4, 0, 5, 6, 7, 8, 9] 10 (by decide) ([(r11, .cells (My.stC L[k]) 138 3)] :: bcell r8 st.op :: ocell r4 v :: icell r7 st.at_ :: sg :: sl :: junk :: kseg c st.K :: sseg r3 s A cc :: sgd :: S)) ?_
   refine OL.dp rfl ?_
   refine OL.cons trivial (OW.callv (fi := []) rfl (by kernel_rfl) rfl (grow_fc hv hop (by omega))) ?_
   rintro _ _ ⟨qo, co, rfl, rfl, hco, hcm⟩
   obtain ⟨sl2, junk2, hin2, hsub⟩ := hin.grow (op := st.op) (at_ := st.at_)
   have hgl := grow_le (op := st.op) (at_ := st.at_) (l := l)
   obtain ⟨l0, x, hG⟩ := runs_split (growM st.op st.at_ l) (grow_pos hop)
   have hGp := grow_pl (st := st) hlp
   have hGx : ∀ y ∈ growM st.op st.at_ l, y.lines.length <= k := by
    intro y hy
    unfold growM at hy
    split at hy
    ·exact hxl y hy
    rcases List.mem_append.1 hy with h | h
    ·exact hxl y h
    rw [List.mem_singleton.1 h]; simp
   rw [hG] at hGx
   have hxk := hGx x (by simp)
   rw [hG] at hGp hin2 hco hgl ⊢
   refine OL.subS (S' := bcell r8 true :: ocell r4 (.slice (some ⟨qo, 0, none⟩) (l0 ++ [x]).length co) :: icell r7 st.at_ :: rrow qo co (l0 ++ [x]) :: [(r11, .cells (My.stC L[k]) 138 3)] :: sl2 :: junk2 :: kseg c st.K :: sseg r3 s A cc :: sgd :: S) (Sub.cons (Sub.cons (Sub.cons (Sub.cons (Sub.cons (hsub _)))))) (OL.dp rfl (OL.nil (PW.k10 0 3 4 7 8 9 12 29 30 31 rfl (PW.seqOps (OL.det trivial (.ld rfl (own_at (j := 0) (c := [.int .i64 (st.at_ : Int)]) (E := 3) (tot := 1) zM2 rfl)) ?_)))))
   refine OL.det trivial (.add64 rfl rfl (by omega) (by omega)) ?_
   refine OL.cons trivial (OW.st (k := 2) rfl rfl rfl rfl (Nat.le_refl 1) rfl) ?_
   rintro _ _ rfl
   refine OL.nil (PW.k10 0 3 4 7 8 9 12 29 30 31 rfl (PW.ops (OL.dp rfl (OL.det trivial (.ld rfl (own_at (j := 0) (c := [.int .i64 ((st.at_ + 1 : Nat) : Int)]) (E := 3) (tot := 1) zM2 rfl)) (OL.det trivial (Yields.nilc rfl) (OL.dp rfl ?_))))))
   refine OL.cons trivial (OW.st (k := 3) rfl rfl rfl rfl (by rw [runsS_len]; simp; omega) rfl) ?_
   rintro _ _ rfl
   refine OL.nil ?_
   refine hK5 _ _ ?_
   refine PW.k9 0 3 4 7 8 9 29 30 31 rfl (PW.ops ?_)
   refine OL.det trivial (.add64 rfl rfl (by omega) (by omega)) ?_
   refine OL.dp rfl (OL.nil ?_)
   repeat rw [inBlk_n]
   try rw [thenK_n]
   refine LoopEnd.mkS (Sub.sel [0, 1, 2, 3, 5, 6, 7, 8, 9] 10 (by decide) _) (T'' := [(0, _), (3, _), (4, _), (7, _), (8, _), (9, _), (29, _), (30, _), (31, _)]) (wi rfl) ?_
   have hfs := fold_snoc (ls := s.lines) hkl ⟨s.fr, false, [], K⟩
   rw [<- hst] at hfs
   have hs0 : stepU s.lines st L[k] = ⟨st.at_ + 1, true, modLast (fun r => { r with to := st.at_ + 1 }) (growR st), st.K⟩ := by unfold stepU; rw [if_neg c37, if_pos c47]
   have hnl : (l0 ++ [({ x with to := st.at_ + 1 } : RunM)]).length = (l0 ++ [x]).length := by simp
   refine ⟨L.length - (k + 1), by omega, k + 1, stepU s.lines st L[k], l0 ++ [({ x with to := st.at_ + 1 } : RunM)], .slice (some ⟨qo, 0, none⟩) (l0 ++ [({ x with to := st.at_ + 1 } : RunM)]).length co, rrow qo co (l0 ++ [({ x with to := st.at_ + 1 } : RunM)]), sl2, junk2, ⟨by omega, rfl, hfs.symm, by rw [hs0, <- hGp]; simp only [List.map_append, List.map_cons, List.map_nil]; rw [modLast_snoc]; rfl, runs_slv (by rw [hnl]; exact hco) hcm, hin2.last' (hin2.last x (by simp)), fun _ => by simp, by rw [hnl]; omega, by rw [hs0]; exact hKl, ?_⟩, rfl, ?_⟩
   ·intro y hy
    rcases List.mem_append.1 hy with h | h
    ·have := hGx y (List.mem_append_left _ h); omega
    rw [List.mem_singleton.1 h]; show x.lines.length <= k + 1; omega
   rw [hs0, hnl]
   refine List.cons_eq_cons.2 ⟨rfl, List.cons_eq_cons.2 ⟨rfl, List.cons_eq_cons.2 ⟨rfl, List.cons_eq_cons.2 ⟨?_, rfl⟩⟩⟩⟩
   exact congrArg (fun z => [(qo, AO.cells z 84 (co * 3))]) (set_to l0 x (st.at_ + 1))
  try simp only [cvS] at c47
  refine PW.seqOps (OL.dp rfl (OL.dp rfl (OL.nil (PW.k11 0 3 4 7 8 9 11 29 30 31 57 rfl ?_))))
  refine PW.cond rfl (fun c57 => ?_) (fun c57 => ?_)
  ·try simp only [cvS] at c57
   obtain ⟨b, hb, hbl⟩ := scr_new (xs := txts c.I s.fr s.to) (ys := s.lines) (t := L[k]) (by rw [<- hL]; exact List.getElem_mem hkl) c57
   obtain ⟨aL, haL⟩ := hls.some (by unfold strs; intro e; have := congrArg List.length e; simp at this; rw [this] at hbl; simp at hbl)
   refine PW.seqOps ?_
   refine OL.subS (S' := bcell r8 st.op :: ocell r4 v :: icell r7 st.at_ :: sg :: [(r11, .cells (My.stC L[k]) 138 3)] :: sl :: junk :: kseg c st.K :: sseg r3 s A cc :: sgd :: S) (Sub.sel [1, 2, 3, 4, 0, 5, 6, 7, 8, 9] 10 (by decide) ([(r11, .cells (My.stC L[k]) 138 3)] :: bcell r8 st.op :: ocell r4 v :: icell r7 st.at_ :: sg :: sl :: junk :: kseg c st.K :: sseg r3 s A cc :: sgd :: S)) ?_
   refine OL.dp rfl ?_
   refine OL.cons trivial (OW.callv (fi := []) rfl (by kernel_rfl) rfl (grow_fc hv hop (by omega))) ?_
   rintro _ _ ⟨qo, co, rfl, rfl, hco, hcm⟩
   obtain ⟨sl2, junk2, hin2, hsub⟩ := hin.grow (op := st.op) (at_ := st.at_)
   have hgl := grow_le (op := st.op) (at_ := st.at_) (l := l)
   obtain ⟨l0, x, hG⟩ := runs_split (growM st.op st.at_ l) (grow_pos hop)
   have hGp := grow_pl (st := st) hlp
   have hGx : ∀ y ∈ growM st.op st.at_ l, y.lines.length <= k := by
    intro y hy
    unfold growM at hy
    split at hy
    ·exact hxl y hy
    rcases List.mem_append.1 hy with h | h
    ·exact hxl y h
    rw [List.mem_singleton.1 h]; simp
   rw [hG] at hGx
   have hxk := hGx x (by simp)
   rw [hG] at hGp hin2 hco hgl ⊢
   refine OL.subS (S' := bcell r8 true :: ocell r4 (.slice (some ⟨qo, 0, none⟩) (l0 ++ [x]).length co) :: icell r7 st.at_ :: rrow qo co (l0 ++ [x]) :: [(r11, .cells (My.stC L[k]) 138 3)] :: sl2 :: junk2 :: kseg c st.K :: sseg r3 s A cc :: sgd :: S) (Sub.cons (Sub.cons (Sub.cons (Sub.cons (Sub.cons (hsub _)))))) (OL.dp rfl (OL.nil (PW.k11 0 3 4 7 8 9 11 13 29 30 31 rfl ?_)))
   refine PW.quietG (Ss := Over (bcell r8 true :: ocell r4 (.slice (some ⟨qo, 0, none⟩) (l0 ++ [x]).length co) :: icell r7 st.at_ :: rrow qo co (l0 ++ [x]) :: [(r11, .cells (My.stC L[k]) 138 3)] :: sl2 :: junk2 :: kseg c st.K :: sseg r3 s A cc :: sgd :: S)) (fr := false) [(0, 0), (1, 0), (2, 0), (3, 0), (4, 0), (5, 0), (6, 0), (7, 0), (8, 0), (9, 0), (10, 0), (11, 2)] Tryz.mixed (by decide +kernel) (Over.refl _) (fun h => by cases h) ?_
   refine GL.dp rfl ?_
   refine GL.dp rfl ?_
   refine GL.det trivial (fun Sx hSx => Yields.nilc rfl) ?_
   refine GL.dp rfl ?_
   refine GL.det trivial (fun Sx hSx => Yields.ld rfl (run_lines_at (co := co) (hSx _ zM3))) ?_
   refine GL.dp rfl ?_
   refine GL.det trivial (fun Sx hSx => Yields.ld rfl (own_at (j := 2) (c := secC s A cc) (E := 81) (tot := 3) (hSx _ zM8) rfl)) ?_
   refine GL.dp rfl ?_
   refine GL.det trivial (fun Sx hSx => Yields.ld rfl (own_at (j := 2) (c := My.stC L[k]) (E := 138) (tot := 3) (hSx _ zM4) rfl)) ?_
   refine GL.det trivial (fun Sx hSx => Yields.ixN1 (congrArg (fun z => some (Value.slice z s.lines.length cc)) haL) (congrArg (fun z => some (Value.int .i64 z)) hb) rfl hbl) ?_
   refine GL.det trivial (fun Sx hSx => Yields.ld rfl (((show Rd w0 S (some aL) (strs s.lines) from by rw [<- haL]; exact hls).mono fun q hq => hSx q ((Over.refl S).cons.cons.cons.cons.cons.cons.cons.cons.cons.cons q hq)).at (j := b) (v := .string s.lines[b]) (by unfold strs; rw [List.getElem?_map, List.getElem?_eq_getElem hbl]; rfl))) ?_
   refine GL.lo trivial (OW.mono (K := fun u S' => ∃ r, u = .slice (some ⟨r, 0, none⟩) 1 1 /\ S' = [(r, .cells [.string s.lines[b]] 9 1)] :: bcell r8 true :: ocell r4 (.slice (some ⟨qo, 0, none⟩) (l0 ++ [x]).length co) :: icell r7 st.at_ :: rrow qo co (l0 ++ [x]) :: [(r11, .cells (My.stC L[k]) 138 3)] :: sl2 :: junk2 :: kseg c st.K :: sseg r3 s A cc :: sgd :: S) (OW.bsl rfl) fun v S2 hk => ⟨(fun u S' ⟨r, _, h⟩ => by rw [h]; exact (Over.refl _).cons) v S2 hk, ?_⟩)
   revert v S2
   rintro _ _ ⟨r72, rfl, rfl⟩
   change OL _ _ _ [_, _, _, _] _ _ _
   refine OL.cons trivial (OW.app (k := 6) rfl rfl (hin2.last x (by simp)) rfl (news := [.string s.lines[b]]) rfl (fun j u hj => (Rd.own (xs := [.string s.lines[b]]) (E := 9) (tot := 1) zM0).at hj) rfl (by omega) (by unfold maxLen; omega)) ?_
   rintro v73 _ ⟨seg73, rfl, hsl73⟩
   have h73 : SlV 9 1 v73 (x.lines ++ [s.lines[b]]).length (strs (x.lines ++ [s.lines[b]])) seg73 := by simpa [strs] using hsl73
   obtain ⟨A3, c3, rfl, -, -, -⟩ := slv_rdL (w0 := w0) h73
   refine OL.det trivial (Yields.nilc rfl) (OL.dp rfl ?_)
   refine OL.cons trivial (OW.st (k := 4) rfl rfl rfl rfl (by rw [runsS_len]; simp; omega) rfl) ?_
   rintro _ _ rfl
   refine OL.nil ?_
   refine hK5 _ _ ?_
   refine PW.k9 0 3 4 7 8 9 29 30 31 rfl (PW.ops ?_)
   refine OL.det trivial (.add64 rfl rfl (by omega) (by omega)) ?_
   refine OL.dp rfl (OL.nil ?_)
   repeat rw [inBlk_n]
   try rw [thenK_n]
   refine LoopEnd.mkS (Sub.sel [1, 2, 3, 4, 6, 7, 8, 9, 10] 11 (by decide) _) (T'' := [(0, _), (3, _), (4, _), (7, _), (8, _), (9, _), (29, _), (30, _), (31, _)]) (wi rfl) ?_
   have hfs := fold_snoc (ls := s.lines) hkl ⟨s.fr, false, [], K⟩
   rw [<- hst] at hfs
   have hbe : s.lines[L[k].2.2.toNat]! = s.lines[b] := by rw [hb]; exact getElem!_pos s.lines b hbl
   have hs0 : stepU s.lines st L[k] = ⟨st.at_, true, modLast (fun r => { r with lines := r.lines ++ [s.lines[b]] }) (growR st), st.K⟩ := by unfold stepU; rw [if_neg c37, if_neg c47, hbe]
   have hnl : (l0 ++ [({ x with A := A3, c := c3, lines := x.lines ++ [s.lines[b]] } : RunM)]).length = (l0 ++ [x]).length := by simp
   refine ⟨L.length - (k + 1), by omega, k + 1, stepU s.lines st L[k], l0 ++ [({ x with A := A3, c := c3, lines := x.lines ++ [s.lines[b]] } : RunM)], .slice (some ⟨qo, 0, none⟩) (l0 ++ [({ x with A := A3, c := c3, lines := x.lines ++ [s.lines[b]] } : RunM)]).length co, rrow qo co (l0 ++ [({ x with A := A3, c := c3, lines := x.lines ++ [s.lines[b]] } : RunM)]), seg73, junk2, ⟨by omega, rfl, hfs.symm, by rw [hs0, <- hGp]; simp only [List.map_append, List.map_cons, List.map_nil]; rw [modLast_snoc]; rfl, runs_slv (by rw [hnl]; exact hco) hcm, hin2.last' h73, fun _ => by simp, by rw [hnl]; omega, by rw [hs0]; exact hKl, ?_⟩, rfl, ?_⟩
   ·intro y hy
    rcases List.mem_append.1 hy with h | h
    ·have := hGx y (List.mem_append_left _ h); omega
    rw [List.mem_singleton.1 h]; show (x.lines ++ [s.lines[b]]).length <= k + 1; rw [List.length_append, List.length_singleton]; omega
   rw [hs0, hnl]
   refine List.cons_eq_cons.2 ⟨rfl, List.cons_eq_cons.2 ⟨rfl, List.cons_eq_cons.2 ⟨rfl, List.cons_eq_cons.2 ⟨?_, rfl⟩⟩⟩⟩
   exact congrArg (fun z => [(qo, AO.cells z 84 (co * 3))]) (set_lines l0 x A3 c3 (x.lines ++ [s.lines[b]]))
  try simp only [cvS] at c57
  exfalso
  have := scr_op (xs := txts c.I s.fr s.to) (ys := s.lines) (t := L[k]) (by rw [<- hL]; exact List.getElem_mem hkl)
  omega -- done
 try simp only [cvS] at c32
 refine PW.exit ?_
 refine hK3 _ _ ?_
 refine PW.k1 4 rfl (PW.seqOps ?_)
 obtain ⟨Av, cv, rfl⟩ : ∃ A c, v = .slice A l.length c := by
  obtain ⟨_, ⟨h1, h2, _⟩ | ⟨r, cap, h1, _⟩⟩ := hv
  ·exact ⟨none, 0, by rw [h1, h2]⟩
  exact ⟨_, _, h1⟩
 refine OL.det trivial (.ld rfl (own_at (j := 0) (c := [.slice Av l.length cv]) (E := 79) (tot := 1) zM1 rfl)) (OL.cons trivial (OW.st (k := 1) rfl rfl rfl rfl (Nat.le_refl 1) rfl) ?_)
 rintro _ _ rfl
 refine OL.dp rfl (OL.nil (PW.k2 4 5 rfl (PW.ret ?_)))
 change (Exit.ret = Exit.normal ∨ Exit.ret = Exit.ret) /\ ∃ a v x, Go.SL.look _ _ = some (.pointer (some a)) /\ ReadsAs _ _ _ _ _ /\ Go.SL.look _ _ = some x /\ _
 have hkk : k = L.length := by omega
 have hrr : runsR c.I s K = st := by unfold runsR; rw [<- hL, hst, hkk, List.take_length]
 exact ⟨.inr rfl, _, _, _, rfl, own_at (j := 0) (c := [.slice Av l.length cv]) (E := 79) (tot := 1) zM1 rfl, rfl, _, (Sub.cons Sub.join).trans (Sub.sel [3, 4, 5, 6] 9 (by decide) (bcell r8 st.op :: ocell r4 (.slice Av l.length cv) :: icell r7 st.at_ :: sg :: sl :: junk :: kseg c st.K :: sseg r3 s A cc :: sgd :: S)), _, l, sg, _, rfl, by rw [hrr]; rfl, hv, hin.all, by rw [hrr]; exact hlp, by omega⟩
end Go.Proofs.Gr
