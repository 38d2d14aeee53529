/- Walks. -/
import Derived.Test.YtbejcoeajlhmcaaPart4
import Derived.Shelf.SlSortCmp.NoneTotal
import Derived.Shelf.SlicesG.Cmp
import Derived.Ground.SlsfProg
import Derived.Ground.SlgcProg
import Derived.WalkKit
import Derived.Test.YtbejcoeajlhmcaaChecked
import Derived.Laws.Externs
import Derived.Laws.RangeAny
import Derived.Laws.RangeString
set_option linter.unusedVariables false
set_option linter.unusedSimpArgs false
set_option linter.unusedSectionVars false

namespace Go.Proofs.Gr
open Go.SL Go.RowKit Go.Proofs Go.GP
set_option maxHeartbeats 1000000
def gidx {α : Type} (q : α -> Bool) (l : List α) : Int := match l.findIdx? q with | some k => (k : Int) | none => -1
theorem gidx_take {α : Type} {q : α -> Bool} {l : List α} {k : Nat} (hk : k < l.length) (h : ∀ x ∈ l.take k, q x = false) (hq : q l[k] = true) : gidx q l = (k : Int) := by
 unfold gidx
 have : l.findIdx? q = some k := by
  rw [List.findIdx?_eq_some_iff_getElem]
  refine ⟨hk, hq, fun j hj => ?_⟩
  have := h l[j] (List.mem_take_iff_getElem.2 ⟨j, by omega, rfl⟩)
  simp [this]
 rw [this]
theorem gidx_no {α : Type} {q : α -> Bool} {l : List α} (h : ∀ x ∈ l, q x = false) : gidx q l = -1 := by
 unfold gidx
 have : l.findIdx? q = none := by rw [List.findIdx?_eq_none_iff]; exact h
 rw [this]
theorem gidx_any {α : Type} {q : α -> Bool} {l : List α} : (gidx q l ≥ 0) = (l.any q = true) := by
 unfold gidx
 apply propext
 cases h : l.findIdx? q with
 | none =>
  have := List.findIdx?_eq_none_iff.1 h
  simp only [List.any_eq_true]
  constructor
  ·intro h; omega
  rintro ⟨x, hx, hq⟩; rw [this x hx] at hq; cases hq
 | some k =>
  obtain ⟨h1, h2, _⟩ := List.findIdx?_eq_some_iff_getElem.1 h
  simp only [List.any_eq_true]
  exact ⟨fun _ => ⟨_, List.getElem_mem h1, h2⟩, fun _ => by omega⟩
theorem gidx_cases {α : Type} (q : α -> Bool) (l : List α) : (gidx q l = -1 /\ ∀ x ∈ l, q x = false) ∨ ∃ k, ∃ h : k < l.length, gidx q l = (k : Int) /\ q l[k] = true /\ ∀ x ∈ l.take k, q x = false := by
 unfold gidx
 cases h : l.findIdx? q with
 | none => exact .inl ⟨rfl, List.findIdx?_eq_none_iff.1 h⟩
 | some k =>
  obtain ⟨h1, h2, h3⟩ := List.findIdx?_eq_some_iff_getElem.1 h
  refine .inr ⟨k, h1, rfl, h2, fun x hx => ?_⟩
  obtain ⟨j, hj, rfl⟩ := List.mem_take_iff_getElem.1 hx
  have := h3 j (by omega)
  simpa using this
theorem lineV_box (x : LineP) : (lineV x).cells.toList = lineC x := rfl
abbrev lseg (r : Nat) (x : LineP) : Seg := [(r, .cells (lineC x) 43 35)]
theorem line_st {w0 : World} {S : SS} {P : Program} {n r : Nat} {T : TT} {x v : PV} {u : LineP} {z : List Value} (hx : x.val T = some (.pointer (some ⟨r, 0, none⟩))) (hv : v.val T = some (lineV u)) (hz : z.length = 35) :
  OW P w0 n (.st 35 x v) T ([(r, .cells z 43 35)] :: S) (fun _ S' => S' = lseg r u :: S) := by
 refine (OW.st (k := 0) (c := z) (u := lineV u) hx hv rfl ((List.size_toArray).trans (lineC_len u)) (by omega) (lineC_one u)).mono ?_
 rintro _ _ rfl
 rw [lineV_box, setAll (by rw [lineC_len, hz])]
 rfl
section
variable {w0 : World} {S : SS} {r E tot : Nat} {x : LineP}
theorem lcell (hm : (r, AO.cells (lineC x) E tot) ∈ S.flatten) : ∀ (j : Nat) (v : Value), (lineC x)[j]? = some v -> Cell w0 S ((⟨r, 0, none⟩ : Addr).add j) v := all_at hm
theorem lcell_vtx (hm : (r, AO.cells (lineC x) E tot) ∈ S.flatten) : ∀ (j : Nat) (v : Value), (vtxL x.v)[j]? = some v -> Cell w0 S (((⟨r, 0, none⟩ : Addr).add 0).add j) v := fun j v hj => by
 have := lcell (w0 := w0) hm j v (by unfold lineC; rw [List.getElem?_append_left (List.getElem?_eq_some_iff.1 hj).1]; exact hj)
 simpa [Addr.add_lit] using this
theorem lcell_text (hm : (r, AO.cells (lineC x) E tot) ∈ S.flatten) : Cell w0 S ((⟨r, 0, none⟩ : Addr).add 33) (.string x.text) := lcell hm _ _ (lineC_text x).1
theorem lcell_alive (hm : (r, AO.cells (lineC x) E tot) ∈ S.flatten) : Cell w0 S ((⟨r, 0, none⟩ : Addr).add 34) (.bool x.alive) := lcell hm _ _ (lineC_text x).2
end
theorem lines_app (a b : List LineP) : lines (a ++ b) = lines a ++ lines b := by unfold lines; rw [List.flatMap_append]
theorem lines_set {q : List LineP} {i : Nat} (hi : i < q.length) (v : LineP) : setAt (lines q) (i * 35) (lineC v) = lines (q.set i v) := by
 have hl := lines_len q
 have hv := lineC_len v
 have e : q = q.take i ++ q[i] :: q.drop (i + 1) := by rw [List.getElem_cons_drop, List.take_append_drop]
 have e1 : (lines (q.take i)).length = i * 35 := by rw [lines_len, List.length_take, Nat.min_eq_left (by omega)]
 have e2 : lines q = lines (q.take i) ++ (lineC q[i] ++ lines (q.drop (i + 1))) := by
  have : lines (q[i] :: q.drop (i + 1)) = lineC q[i] ++ lines (q.drop (i + 1)) := by unfold lines; rw [List.flatMap_cons]
  rw [<- this, <- lines_app, <- e]
 have hq := lineC_len q[i]
 rw [setAt_eq _ _ _ (by omega), e2, List.take_append_of_le_length (by omega), List.take_of_length_le (by omega), hv, List.drop_append, List.drop_eq_nil_of_le (by omega), e1, show i * 35 + 35 - i * 35 = 35 by omega, List.drop_append, List.drop_eq_nil_of_le (by omega), hq, List.set_eq_take_append_cons_drop, if_pos hi, lines_app]
 unfold lines
 simp
theorem madeL_len (z : List Value) (n : Nat) : (madeL z n).length = n := by simp [madeL]
theorem made_one {z : List Value} (hz : z.all (·.oneCell') = true) (h0 : 0 < z.length) (n : Nat) : (madeL z n).all (·.oneCell') = true := by
 rw [List.all_eq_true]
 intro v hv
 obtain ⟨i, _, rfl⟩ := List.mem_map.1 hv
 have hlt := Nat.mod_lt i h0
 have : z.getD (i % z.length) undef = z[i % z.length] := by simp [List.getD, List.getElem?_eq_getElem hlt]
 rw [this]
 exact List.all_eq_true.1 hz _ (List.getElem_mem hlt)
theorem indexFuncL_fc {w0 : World} {S : SS} {A : Option Addr} {c : Nat} {l : List LineP} {g : FuncId} {ca : List Value} {q : LineP -> Bool} (hx : Rd w0 S A (lines l)) (hb : l.length <= 1000000000000) (hok : fnOk Try.prog g = true)
  (hq : ∀ x ∈ l, FC Try.prog w0 g ([] ++ [lineV x] ++ ca) S (fun u S' => u = .bool (q x) /\ S' = S)) :
  FC Try.prog w0 96 [.slice A l.length c, .func (.func g) #[] ca.toArray] S (fun u S' => u = .int .i64 (gidx q l) /\ S' = S) := by
 refine FC.of Try.known96 (by simp) ?_
 unfold Try.pc96
 simp only [argT]
 refine PW.seqOps (OL.dp rfl (OL.nil (PW.k2 0 1 rfl ?_)))
 refine PW.seq fun K1 hK1 => ?_
 refine PW.seqOps (OL.dp rfl (OL.dp rfl (OL.dp rfl (OL.nil (PW.k4 0 1 7 8 rfl (PW.block (PW.k4 0 1 7 8 rfl ?_)))))))
 refine PW.loopK (I := fun m T S' => ∃ (k : Nat), (k <= l.length /\ m = l.length - k /\ ∀ x ∈ l.take k, q x = false) /\ T = ([(0, .slice A l.length c), (1, .func (.func g) #[] ca.toArray), (7, .int .i64 (l.length : Int)), (8, .int .i64 k)] : TT) /\ S' = S) (m := l.length) ⟨0, ⟨by omega, by omega, by simp⟩, rfl, rfl⟩ ?_
 rintro m _ _ ⟨k, ⟨hk, hm, hall⟩, rfl, rfl⟩
 refine PW.seqOps (OL.dp rfl (OL.nil (PW.k5 0 1 7 8 9 rfl ?_)))
 refine PW.seq fun K2 hK2 => ?_
 refine PW.cond rfl (fun c9 => ?_) (fun c9 => ?_)
 ·try simp only [cvS] at c9
  have hkl : k < l.length := by omega
  obtain ⟨a0, rfl⟩ := lines_some hx (by omega)
  refine PW.skip ?_
  refine hK2 _ _ ?_
  refine PW.k4 0 1 7 8 rfl ?_
  refine PW.seq fun K3 hK3 => ?_
  refine PW.block (PW.seqOps (OL.dp rfl (OL.dp rfl (OL.nil (PW.k5 0 1 5 7 8 rfl (PW.seqOps (OL.dp rfl (OL.dp rfl (OL.dp rfl ?_)))))))))
  refine OL.det trivial (.ixN rfl rfl rfl (by omega)) ?_
  refine OL.det trivial (.ldA rfl (lineC_len _) (line_at hx hkl)) (OL.cons trivial (OW.callv (fi := []) (ca := ca) rfl hok rfl (hq _ (List.getElem_mem hkl))) ?_)
  rintro _ Sx ⟨rfl, hSx⟩
  rw [hSx]
  clear hSx
  refine OL.nil (PW.k6 0 1 5 7 8 16 rfl ?_)
  refine PW.cond rfl (fun c16 => ?_) (fun c16 => ?_)
  ·skip
   have hqt : q l[k] = true := by simpa using c16
   refine PW.seqOps (OL.dp rfl (OL.dp rfl (OL.nil (PW.k1 4 rfl (PW.ret ?_)))))
   change (Exit.ret = Exit.normal ∨ Exit.ret = Exit.ret) /\ ∃ v, resV _ _ = some v /\ _
   exact ⟨.inr rfl, _, rfl, by rw [gidx_take hkl hall hqt], rfl⟩
  skip
  refine PW.skip ?_
  refine hK3 _ _ ?_
  refine PW.k4 0 1 7 8 rfl (PW.ops ?_)
  refine OL.det trivial (.add64 rfl rfl (by omega) (by omega)) ?_
  refine OL.dp rfl (OL.nil ?_)
  repeat rw [inBlk_n]
  try rw [thenK_n]
  refine LoopEnd.mk (T'' := [(0, _), (1, _), (7, _), (8, _)]) (wi rfl) ?_
  refine ⟨l.length - (k + 1), by omega, k + 1, ⟨by omega, rfl, fun x hx => ?_⟩, rfl, rfl⟩
  rw [ltake_snoc hkl] at hx
  rcases List.mem_append.1 hx with h | h
  ·exact hall x h
  rw [List.mem_singleton] at h; subst h; simpa using c16
 try simp only [cvS] at c9
 refine PW.exit ?_
 refine hK1 _ _ ?_
 refine PW.keep (T' := []) trivial (PW.seqOps (OL.dp rfl (OL.nil (PW.k1 4 rfl (PW.ret ?_)))))
 change (Exit.ret = Exit.normal ∨ Exit.ret = Exit.ret) /\ ∃ v, resV _ _ = some v /\ _
 exact ⟨.inr rfl, _, rfl, by rw [gidx_no (fun x hx => hall x (by rw [List.take_of_length_le (by omega)]; exact hx))], rfl⟩
theorem dead_fc {w0 : World} {S : SS} {x : LineP} : FC Try.prog w0 70 [lineV x] S (fun v S' => v = .bool (!x.alive) /\ S' = S) := by
 refine FC.ofD Try.known70 (by simp) ?_
 unfold Try.pc70
 simp only [argT]
 refine PW.seqOps (OL.cons trivial (OW.bx rfl) ?_)
 rintro _ _ ⟨r1, rfl, rfl⟩
 rw [lineV_box, lineC_len]
 refine OL.dp rfl (OL.nil (PW.k1 1 rfl (PW.seqOps (OL.dp rfl (OL.det trivial (.ld rfl (lcell_alive (x := x) (E := 43) (tot := 35) zM0)) (OL.dp rfl (OL.dp rfl (OL.nil (PW.k1 2 rfl (PW.ret ?_))))))))))
 change (Exit.ret = Exit.normal ∨ Exit.ret = Exit.ret) /\ ∃ v, resV _ _ = some v /\ _
 exact ⟨.inr rfl, _, rfl, _, Sub.drop (Sub.refl _), rfl, rfl⟩
def live (l : List LineP) : List LineP := l.filter (·.alive)
theorem live_snoc {l : List LineP} {j : Nat} (hj : j < l.length) : live (l.take (j + 1)) = if l[j].alive then live (l.take j) ++ [l[j]] else live (l.take j) := by
 unfold live
 rw [ltake_snoc hj, List.filter_append, List.filter_cons, List.filter_nil]
 split <;> simp
theorem live_len (l : List LineP) : (live l).length <= l.length := List.length_filter_le _ _
structure Pack (l R : List LineP) (i j : Nat) : Prop where
 jl : j <= l.length
 n : R.length = l.length
 ij : i < j
 pre : R.take i = live (l.take j)
 suf : R.drop j = l.drop j
theorem Pack.at {l R : List LineP} {i j : Nat} (h : Pack l R i j) (hj : j < l.length) : R[j]'(by have := h.n; omega) = l[j] := by
 have h1 := h.suf
 have hR : j < R.length := by have := h.n; omega
 have h2 : (R.drop j)[0]? = (l.drop j)[0]? := by rw [h1]
 rw [List.getElem?_drop, List.getElem?_drop, Nat.add_zero, List.getElem?_eq_getElem hR, List.getElem?_eq_getElem hj] at h2
 exact Option.some.inj h2
theorem Pack.keep {l R : List LineP} {i j : Nat} (h : Pack l R i j) (hj : j < l.length) (ha : l[j].alive = true) : Pack l (R.set i l[j]) (i + 1) (j + 1) where
 jl := by omega
 n := by rw [List.length_set]; exact h.n
 ij := by have := h.ij; omega
 pre := by
  have hi := h.ij
  have hR := h.n
  rw [live_snoc hj, if_pos ha, <- h.pre, ltake_snoc (by rw [List.length_set]; omega), List.getElem_set_self, List.take_set_of_le (Nat.le_refl i)]
 suf := by
  have hi := h.ij
  have h1 : R.drop (j + 1) = l.drop (j + 1) := by
   have := congrArg (List.drop 1) h.suf
   simpa [List.drop_drop] using this
  rw [List.drop_set_of_lt (by omega)]
  exact h1
theorem Pack.skip {l R : List LineP} {i j : Nat} (h : Pack l R i j) (hj : j < l.length) (ha : l[j].alive = false) : Pack l R i (j + 1) where
 jl := by omega
 n := h.n
 ij := by have := h.ij; omega
 pre := by rw [live_snoc hj, if_neg (by rw [ha]; simp)]; exact h.pre
 suf := by
  have := congrArg (List.drop 1) h.suf
  simpa [List.drop_drop] using this
theorem lines_take {l : List LineP} {i : Nat} (hi : i <= l.length) : (lines l).take (i * 35) = lines (l.take i) := by
 have e : lines l = lines (l.take i) ++ lines (l.drop i) := by rw [<- lines_app, List.take_append_drop]
 have e1 : (lines (l.take i)).length = i * 35 := by rw [lines_len, List.length_take, Nat.min_eq_left hi]
 rw [e, List.take_append_of_le_length (by omega), List.take_of_length_le (by omega)]
theorem setAt_take {c d : List Value} {o : Nat} (h : o + d.length <= c.length) : (setAt c o d).take o = c.take o := by
 rw [setAt_eq _ _ _ h, List.append_assoc, List.take_append_of_le_length (by rw [List.length_take]; omega), List.take_take, Nat.min_self]
def zLine : LineP := ⟨v0, ⟨#[]⟩, false⟩
theorem deleteDead_fc {w0 : World} {S : SS} {A : Option Addr} {c : Nat} {l : List LineP} {seg : Seg} (h : SlV 43 35 (.slice A l.length c) l.length (lines l) seg) (hb : l.length <= 1000000000) :
  FC Try.prog w0 69 [.slice A l.length c, .func (.func 70) #[] #[]] (seg :: S) (fun v S' => ∃ seg', S' = seg' :: S /\ SlV 43 35 v (live l).length (lines (live l)) seg') := by
 obtain ⟨A2, c2, e2, hnA, hcA, hrd0⟩ := slv_rdL (w0 := w0) h
 obtain ⟨rfl, rfl⟩ : A = A2 /\ c = c2 := by simpa using e2
 have hrd := hrd0 S
 refine FC.ofD Try.known69 (by simp) ?_
 unfold Try.pc69
 simp only [argT]
 refine PW.seqOps (OL.dp rfl (OL.nil (PW.k2 0 1 rfl (PW.seqOps (OL.dp rfl (OL.dp rfl ?_))))))
 refine OL.call trivial rfl (indexFuncL_fc (g := 70) (ca := []) (q := fun x => !x.alive) hrd (by omega) (by kernel_rfl) (fun x _ => dead_fc)) ?_
 rintro _ Sx ⟨rfl, hSx⟩
 rw [hSx]
 clear hSx
 obtain ⟨iz, hiz⟩ : ∃ z, z = gidx (fun x : LineP => !x.alive) l := ⟨_, rfl⟩
 have hcs := gidx_cases (fun x : LineP => !x.alive) l
 rw [<- hiz] at hcs ⊢
 refine OL.dp rfl (OL.nil (PW.k3 0 1 5 rfl ?_))
 refine PW.seq fun K1 hK1 => ?_
 refine PW.seqOps (OL.dp rfl (OL.dp rfl (OL.nil (PW.k4 0 1 5 12 rfl ?_))))
 refine PW.cond rfl (fun c12 => ?_) (fun c12 => ?_)
 ·skip
  have hi1 : iz = -1 := by simpa using c12
  have hall : ∀ x ∈ l, (!x.alive) = false := by
   rcases hcs with ⟨_, h⟩ | ⟨k, hk, e, _⟩
   ·exact h
   omega
  have hlv : live l = l := List.filter_eq_self.2 fun x hx => by have := hall x hx; simpa using this
  refine PW.seqOps (OL.dp rfl (OL.dp rfl (OL.nil (PW.k1 4 rfl (PW.ret ?_)))))
  change (Exit.ret = Exit.normal ∨ Exit.ret = Exit.ret) /\ ∃ v, resV _ _ = some v /\ _
  rw [<- hlv] at h
  exact ⟨.inr rfl, _, rfl, _, Sub.refl _, seg, rfl, by rw [hlv] at h ⊢; exact h⟩
 skip
 have hi1 : iz ≠ -1 := by simpa using c12
 obtain ⟨i0, hi0, rfl, hdead, hpre⟩ : ∃ k, ∃ h : k < l.length, iz = (k : Int) /\ l[k].alive = false /\ ∀ x ∈ l.take k, x.alive = true := by
  rcases hcs with ⟨e, _⟩ | ⟨k, hk, e, h1, h2⟩
  ·exact absurd e hi1
  exact ⟨k, hk, e, by simpa using h1, fun x hx => by have := h2 x hx; simpa using this⟩
 obtain ⟨r, c3, e3, rfl, hlc, hcm⟩ := slv_own h (by omega)
 obtain ⟨rfl, rfl⟩ : A = some ⟨r, 0, none⟩ /\ c = c3 := by simpa using e3
 have hp0 : Pack l l i0 (i0 + 1) := ⟨by omega, rfl, by omega, by
  rw [live_snoc hi0, if_neg (by rw [hdead]; simp)]
  exact (List.filter_eq_self.2 hpre).symm, rfl⟩
 refine PW.skip ?_
 refine hK1 _ _ ?_
 refine PW.k3 0 1 5 rfl ?_
 refine PW.seq fun K2 hK2 => ?_
 refine PW.seqOps (OL.dp rfl ?_)
 refine OL.det trivial (.to (v' := .int .i64 ((i0 + 1 : Nat) : Int)) (Yields.add64 rfl rfl (by omega) (by omega)) rfl) ?_
 refine OL.dp rfl (OL.nil (PW.k4 0 1 5 6 rfl (PW.block (PW.k4 0 1 5 6 rfl ?_))))
 refine PW.loopK (I := fun mm T S' => ∃ (i j : Nat) (R : List LineP), (Pack l R i j /\ mm = l.length - j) /\ T = ([(0, .slice (some ⟨r, 0, none⟩) l.length c), (1, .func (.func 70) #[] #[]), (5, .int .i64 i), (6, .int .i64 j)] : TT) /\ S' = [(r, .cells (lines R) 43 (c * 35))] :: S) (m := l.length - (i0 + 1)) ⟨i0, i0 + 1, l, ⟨hp0, by omega⟩, rfl, rfl⟩ ?_
 rintro mm _ _ ⟨i, j, R, ⟨hp, hmm⟩, rfl, rfl⟩
 refine PW.seq fun K3 hK3 => ?_
 refine PW.seqOps (OL.dp rfl (OL.dp rfl (OL.dp rfl (OL.dp rfl (OL.nil (PW.k5 0 1 5 6 19 rfl ?_))))))
 refine PW.cond rfl (fun c19 => ?_) (fun c19 => ?_)
 ·try simp only [cvS] at c19
  have hjl : j < l.length := by omega
  have hRn := hp.n
  have hpi := hp.ij
  have hrdR : Rd w0 ([(r, .cells (lines R) 43 (c * 35))] :: S) (some ⟨r, 0, none⟩) (lines R) := Rd.own (E := 43) (tot := c * 35) (by simp)
  refine PW.skip ?_
  refine hK3 _ _ ?_
  refine PW.k4 0 1 5 6 rfl ?_
  refine PW.seq fun K4 hK4 => ?_
  refine PW.block (PW.seqOps (OL.dp rfl (OL.dp rfl (OL.det trivial (Yields.ixO rfl rfl rfl hjl) ?_))))
  refine OL.det trivial (.ldA rfl (lineC_len _) ((fun i v hv => by have := line_at (k := j) hrdR (by omega) i v hv; simpa [Addr.add_lit] using this : ∀ (i : Nat) (v : Value), (lineC (R[j]'(by omega)))[i]? = some v -> Cell w0 ([(r, .cells (lines R) 43 (c * 35))] :: S) ((⟨r, j * 35, none⟩ : Addr).add i) v))) ?_
  refine OL.cons trivial OW.al ?_
  rintro _ _ ⟨r7, rfl, rfl⟩
  rw [hp.at hjl]
  refine OL.cons trivial (line_st rfl rfl rfl) ?_
  rintro _ _ rfl
  refine OL.nil (PW.k5 0 1 5 6 7 rfl (PW.seqOps (OL.dp rfl (OL.det trivial (.ldA rfl (lineC_len _) (lcell (x := l[j]) (E := 43) (tot := 35) zM0)) ?_))))
  refine OL.cons trivial (OW.callv (fi := []) (ca := []) rfl (by kernel_rfl) rfl dead_fc) ?_
  rintro _ Sx ⟨rfl, hSx⟩
  rw [hSx]
  clear hSx
  refine OL.dp rfl (OL.nil (PW.k6 0 1 5 6 7 29 rfl ?_))
  refine PW.cond rfl (fun c29 => ?_) (fun c29 => ?_)
  ·skip
   have hal : l[j].alive = true := by simpa using c29
   refine PW.seqOps (OL.dp rfl (OL.dp rfl (OL.det trivial (.ldA rfl (lineC_len _) (lcell (x := l[j]) (E := 43) (tot := 35) zM0)) ?_)))
   refine OL.det trivial (Yields.ixO rfl rfl rfl (by omega)) ?_
   refine OL.cons trivial (OW.st (k := 1) (c := lines R) (u := lineV l[j]) rfl rfl rfl ((List.size_toArray).trans (lineC_len _)) (by rw [lines_len]; omega) (lineC_one _)) ?_
   rintro _ _ rfl
   rw [lineV_box, lines_set (by omega)]
   refine OL.nil (PW.k4 0 1 5 6 rfl (PW.ops (OL.dp rfl ?_)))
   refine OL.det trivial (.add64 rfl rfl (by omega) (by omega)) ?_
   refine OL.dp rfl (OL.nil ?_)
   refine hK4 _ _ ?_
   refine PW.k4 0 1 5 6 rfl (PW.ops (OL.dp rfl ?_))
   refine OL.det trivial (.add64 rfl rfl (by omega) (by omega)) ?_
   refine OL.dp rfl (OL.nil ?_)
   repeat rw [inBlk_n]
   try rw [thenK_n]
   refine LoopEnd.mkS (Sub.drop (Sub.refl _)) (T'' := [(0, _), (1, _), (5, _), (6, _)]) (wi rfl) ?_
   first
    | exact ⟨l.length - (j + 1), by omega, i + 1, j + 1, R.set i l[j], ⟨hp.keep hjl hal, rfl⟩, rfl, rfl⟩
    | exact ⟨l.length - (j + 1), by omega, i, j + 1, R, ⟨hp.skip hjl hal, rfl⟩, rfl, rfl⟩
  skip
  have hal : l[j].alive = false := by simpa using c29
  refine PW.skip ?_
  refine hK4 _ _ ?_
  refine PW.k4 0 1 5 6 rfl (PW.ops (OL.dp rfl ?_))
  refine OL.det trivial (.add64 rfl rfl (by omega) (by omega)) ?_
  refine OL.dp rfl (OL.nil ?_)
  repeat rw [inBlk_n]
  try rw [thenK_n]
  refine LoopEnd.mkS (Sub.drop (Sub.refl _)) (T'' := [(0, _), (1, _), (5, _), (6, _)]) (wi rfl) ?_
  first
   | exact ⟨l.length - (j + 1), by omega, i + 1, j + 1, R.set i l[j], ⟨hp.keep hjl hal, rfl⟩, rfl, rfl⟩
   | exact ⟨l.length - (j + 1), by omega, i, j + 1, R, ⟨hp.skip hjl hal, rfl⟩, rfl, rfl⟩
 try simp only [cvS] at c19
 have hpi := hp.ij
 have hRn := hp.n
 have hpj := hp.jl
 obtain rfl : j = l.length := by omega
 have hpp := hp.pre
 rw [List.take_length] at hpp
 refine PW.exit ?_
 refine hK2 _ _ ?_
 refine PW.k2 0 5 rfl (PW.seqOps (OL.dp rfl (OL.dp rfl ?_)))
 refine OL.det trivial (.to (v' := .slice (some ⟨r, i * 35, none⟩) (l.length - i) (c - i)) (Yields.slS (A := some ⟨r, 0, none⟩) (len := l.length) (cap := c) (l := i) (h := l.length) rfl rfl rfl (.inl rfl) (.inr ⟨rfl, rfl⟩) (by omega) (by omega)) (by unfold cutV; rw [if_neg (by omega)]; simp [Addr.add_lit])) ?_
 have hz35 : (Value.agg (lineC zLine).toArray).cells.toList = lineC zLine := rfl
 have hzl := lineC_len zLine
 have hml := madeL_len (lineC zLine) ((l.length - i) * 35)
 refine OL.cons trivial (OW.clr (k := 0) (c := lines R) (z := lineV zLine) (news := madeL (lineC zLine) ((l.length - i) * 35)) rfl rfl (by omega) (by decide) rfl (by rw [hml, lines_len]; omega) (made_one (lineC_one _) (by omega) _)) ?_
 rintro _ _ ⟨rfl, rfl⟩
 refine OL.tell (k := 0) rfl (fun w h => owns_take (i * 35) h) ?_
 change OL _ _ _ _ _ ([(r, .cells ((setAt (lines R) (i * 35) (madeL (lineC zLine) ((l.length - i) * 35))).take (i * 35)) 43 (c * 35))] :: S) _
 rw [setAt_take (by rw [hml, lines_len]; omega), lines_take (by omega)]
 refine OL.nil (PW.k2 0 5 rfl (PW.seqOps (OL.dp rfl (OL.dp rfl ?_))))
 refine OL.det trivial (.to (v' := .slice (some ⟨r, 0, none⟩) i c) (Yields.slS (A := some ⟨r, 0, none⟩) (len := l.length) (cap := c) (l := 0) (h := i) rfl rfl rfl (.inr ⟨rfl, rfl⟩) (.inl rfl) (by omega) (by omega)) (cutV0 _ _ _ _)) ?_
 refine OL.dp rfl (OL.nil (PW.k1 4 rfl (PW.ret ?_)))
 change (Exit.ret = Exit.normal ∨ Exit.ret = Exit.ret) /\ ∃ v, resV _ _ = some v /\ _
 refine ⟨.inr rfl, _, rfl, _, Sub.refl _, _, rfl, ?_⟩
 have hil : i = (live l).length := by rw [<- hpp, List.length_take, hRn, Nat.min_eq_left (by omega)]
 rw [hpp]
 rw [show Value.slice (some ⟨r, 0, none⟩) i c = .slice (some ⟨r, 0, none⟩) (live l).length c from by rw [hil]]
 exact SlV.mk' (by rw [lines_len]) (by omega) hcm
end Go.Proofs.Gr

namespace Go.Proofs.Gr
open Go.SL Go.RowKit Go.Proofs Go.GP
structure ItemP where
 lines : List LineP
 block : Bool
 mids : List Int
noncomputable def ordP (ps : List PartP) (a b : Vtx) : Bool := befP ps a b || befP ps b a
noncomputable def midsK (ps : List PartP) (l : List LineP) (k : Nat) : List Int := ((List.range k).filter fun i => decide (0 < i) && !ordP ps l[i - 1]!.v l[i]!.v).map Int.ofNat
noncomputable def blockP (ps : List PartP) (l : List LineP) : ItemP := ⟨l, true, midsK ps l l.length⟩
theorem midsK_succ (ps : List PartP) (l : List LineP) (k : Nat) : midsK ps l (k + 1) = if (decide (0 < k) && !ordP ps l[k - 1]!.v l[k]!.v) = true then midsK ps l k ++ [(k : Int)] else midsK ps l k := by
 unfold midsK
 rw [List.range_succ, List.filter_append, List.map_append, List.filter_cons, List.filter_nil]
 split <;> simp
noncomputable def solidP (ps : List PartP) (l : List LineP) (x : LineP) : Bool := l.all fun y => decide (x.v = y.v) || ordP ps x.v y.v
noncomputable def shut (ps : List PartP) (open_ : List LineP) : List ItemP := if open_ = [] then [] else [blockP ps open_]
noncomputable def stepI (ps : List PartP) (l : List LineP) (st : List ItemP × List LineP) (x : LineP) : List ItemP × List LineP :=
 if solidP ps l x then (st.1 ++ shut ps st.2 ++ [⟨[x], false, []⟩], []) else (st.1, st.2 ++ [x])
noncomputable def foldI (ps : List PartP) (l : List LineP) (k : Nat) : List ItemP × List LineP := (l.take k).foldl (stepI ps l) ([], [])
noncomputable def itemsL (ps : List PartP) (l : List LineP) : List ItemP := (foldI ps l l.length).1 ++ shut ps (foldI ps l l.length).2
noncomputable def itemsP (ps : List PartP) : List ItemP := itemsL ps (live (linesP ps))
theorem foldI_succ {ps : List PartP} {l : List LineP} {k : Nat} (hk : k < l.length) : foldI ps l (k + 1) = stepI ps l (foldI ps l k) l[k] := by
 unfold foldI
 rw [ltake_snoc hk, List.foldl_append]
 rfl
end Go.Proofs.Gr
namespace Go.Proofs.Gr
open Go.SL Go.RowKit Go.Proofs Go.GP
def beginB : ByteArray := ⟨#[62, 62, 62, 62, 62, 62, 62]⟩
def middleB : ByteArray := ⟨#[61, 61, 61, 61, 61, 61, 61]⟩
def closeB : ByteArray := ⟨#[60, 60, 60, 60, 60, 60, 60]⟩
def rowsT (x : ItemP) (k : Nat) : List ByteArray := (List.range k).flatMap fun (i : Nat) => (if x.block && x.mids.contains (i : Int) then [middleB] else []) ++ [x.lines[i]!.text]
def oneT (x : ItemP) : List ByteArray := (if x.block then [beginB] else []) ++ rowsT x x.lines.length ++ (if x.block then [closeB] else [])
def textI (l : List ItemP) : List ByteArray := l.flatMap oneT
instance : Inhabited ItemP := ⟨⟨[], false, []⟩⟩
theorem rowsT_succ (x : ItemP) (k : Nat) : rowsT x (k + 1) = rowsT x k ++ ((if x.block && x.mids.contains (k : Int) then [middleB] else []) ++ [x.lines[k]!.text]) := by
 unfold rowsT
 rw [List.range_succ, List.flatMap_append]
 simp
theorem rowsT_len (x : ItemP) : ∀ k, (rowsT x k).length <= 2 * k
 | 0 => by simp [rowsT]
 | k + 1 => by
  rw [rowsT_succ, List.length_append, List.length_append]
  have := rowsT_len x k
  split <;> simp <;> omega
theorem textI_snoc {l : List ItemP} {k : Nat} (hk : k < l.length) : textI (l.take (k + 1)) = textI (l.take k) ++ oneT l[k] := by
 unfold textI
 rw [ltake_snoc hk, List.flatMap_append]
 simp
theorem oneT_len (x : ItemP) : (oneT x).length <= 2 * x.lines.length + 2 := by
 unfold oneT
 have := rowsT_len x x.lines.length
 simp only [List.length_append]
 split <;> simp <;> omega
theorem textI_len {l : List ItemP} {N : Nat} (h : ∀ x ∈ l, x.lines.length <= N) : ∀ k, k <= l.length -> (textI (l.take k)).length <= (2 * N + 2) * k
 | 0, _ => by simp [textI]
 | k + 1, hk => by
  rw [textI_snoc (by omega), List.length_append]
  have h1 := textI_len h k (by omega)
  have h2 := oneT_len l[k]
  have h3 := h _ (List.getElem_mem (show k < l.length by omega))
  rw [Nat.mul_succ]
  omega
end Go.Proofs.Gr

namespace Go.Proofs.Gr
open Go.SL Go.RowKit Go.Proofs Go.GP
set_option maxHeartbeats 1000000
structure ItemM where
 LA : Option Addr
 lc : Nat
 lines : List LineP
 block : Bool
 MA : Option Addr
 mc : Nat
 mids : List Int
instance : Inhabited ItemM := ⟨⟨none, 0, [], false, none, 0, []⟩⟩
def ItemM.pl (x : ItemM) : ItemP := ⟨x.lines, x.block, x.mids⟩
def itemC (x : ItemM) : List Value := [.slice x.LA x.lines.length x.lc, .bool x.block, .slice x.MA x.mids.length x.mc]
def itemV (x : ItemM) : Value := .agg (itemC x).toArray
def itemS (l : List ItemM) : List Value := l.flatMap itemC
theorem itemC_len (x : ItemM) : (itemC x).length = 3 := rfl
theorem itemS_len (l : List ItemM) : (itemS l).length = l.length * 3 := by unfold itemS; rw [List.length_flatMap]; simp [itemC_len, List.map_const']
theorem itemS_app (a b : List ItemM) : itemS (a ++ b) = itemS a ++ itemS b := by unfold itemS; rw [List.flatMap_append]
theorem item_box (x : ItemM) : (itemV x).cells.toList = itemC x := rfl
theorem item_read {w0 : World} {S : SS} {r E tot : Nat} {u : ItemM} (hm : (r, AO.cells (itemC u) E tot) ∈ S.flatten) : ReadsAs w0 S (some 3) ⟨r, 0, none⟩ (itemV u) := ⟨itemC u, rfl, rfl, all_at hm⟩
theorem ints_snoc {v : Value} {l : List Int} {z : Int} {seg : Seg} (h : SlV 3 1 v (l.length + 1) (ints l ++ [Value.int .i64 z]) seg) : SlV 3 1 v (l ++ [z]).length (ints (l ++ [z])) seg := by
 rw [List.length_append]
 unfold ints at h ⊢
 rw [List.map_append]
 exact h
theorem ordered_fc {w0 : World} {S X : SS} {m : GrM} {ps : List PartP} {x y : LineP} (h : GG w0 X m ps) (hS : Over (GS m ++ X) S) (hx : okV x.v) (hy : okV y.v) :
  FC Try.prog w0 71 [m.ptr, lineV x, lineV y] S (fun v S' => v = .bool (ordP ps x.v y.v) /\ S' = S) := by
 refine FC.ofD Try.known71 (by simp) ?_
 unfold Try.pc71
 simp only [argT]
 refine PW.seqOps (OL.cons trivial (OW.bx rfl) ?_)
 rintro _ _ ⟨r4, rfl, rfl⟩
 rw [lineV_box, lineC_len]
 refine OL.cons trivial (OW.bx rfl) ?_
 rintro _ _ ⟨r5, rfl, rfl⟩
 rw [lineV_box, lineC_len]
 refine OL.dp rfl (OL.nil (PW.k3 0 4 5 rfl (PW.seqOps (OL.dp rfl (OL.dp rfl (OL.det trivial (.ldA rfl (vtxL_len _) (lcell_vtx (x := x) (E := 43) (tot := 35) zM1)) (OL.dp rfl (OL.det trivial (.ldA rfl (vtxL_len _) (lcell_vtx (x := y) (E := 43) (tot := 35) zM0)) (OL.call trivial rfl (before2_fc h hS.cons.cons hx hy) ?_)))))))))
 rintro _ Sx ⟨rfl, hSx⟩
 rw [hSx]
 clear hSx
 refine OL.bool trivial (Yields.pure rfl) (fun g13 => ?_) (fun g13 => ?_)
 ·try simp only [cvS] at g13
  refine OL.off rfl rfl (OL.off rfl rfl (OL.off rfl rfl (OL.off rfl rfl (OL.off rfl rfl (OL.off rfl rfl (OL.dp rfl (OL.dp rfl (OL.nil (PW.k1 6 rfl (PW.ret ?_))))))))))
  change (Exit.ret = Exit.normal ∨ Exit.ret = Exit.ret) /\ ∃ v, resV _ _ = some v /\ _
  first
   | exact ⟨.inr rfl, _, rfl, _, Sub.drop (Sub.drop (Sub.refl _)), by unfold ordP; rw [g13]; rfl, rfl⟩
 try simp only [cvS] at g13
 refine OL.det rfl (.pure rfl) (OL.det rfl (.pure rfl) (OL.det rfl (.ldA rfl (vtxL_len _) (lcell_vtx (x := y) (E := 43) (tot := 35) zM0)) (OL.det rfl (.pure rfl) (OL.det rfl (.ldA rfl (vtxL_len _) (lcell_vtx (x := x) (E := 43) (tot := 35) zM1)) (OL.call rfl rfl (before2_fc h hS.cons.cons hy hx) ?_)))))
 rintro _ Sx ⟨rfl, hSx⟩
 rw [hSx]
 clear hSx
 refine OL.dp rfl (OL.dp rfl (OL.nil (PW.k1 6 rfl (PW.ret ?_))))
 change (Exit.ret = Exit.normal ∨ Exit.ret = Exit.ret) /\ ∃ v, resV _ _ = some v /\ _
 first
  | exact ⟨.inr rfl, _, rfl, _, Sub.drop (Sub.drop (Sub.refl _)), by unfold ordP; rw [g13]; rfl, rfl⟩
theorem block_fc {w0 : World} {S X : SS} {m : GrM} {ps : List PartP} {A : Option Addr} {c : Nat} {l : List LineP} (h : GG w0 X m ps) (hS : Over (GS m ++ X) S) (hx : Rd w0 S A (lines l)) (hv : ∀ x ∈ l, okV x.v) (hl : l.length <= 1000000) :
    FC Try.prog w0 72 [m.ptr, .slice A l.length c] S (fun v S' => ∃ M mc seg, v = itemV ⟨A, c, l, true, M, mc, midsK ps l l.length⟩ /\ S' = seg :: S /\ SlV 3 1 (.slice M (midsK ps l l.length).length mc) (midsK ps l l.length).length (ints (midsK ps l l.length)) seg) := by
  refine FC.ofC Try.known72 (by simp) ?_
  unfold Try.pc72
  simp only [argT]
  refine PW.seqOps (OL.cons trivial OW.al ?_)
  rintro _ _ ⟨r4, rfl, rfl⟩
  refine OL.nil (PW.k3 0 1 4 rfl (PW.seqOps (OL.dp rfl (OL.det trivial (.build rfl) (OL.cons trivial OW.al ?_)))))
  rintro _ _ ⟨r5, rfl, rfl⟩
  refine OL.cons trivial (OW.st (k := 0) (c := [.slice none 0 0, .bool false, .slice none 0 0]) (u := .agg #[.slice A l.length c, .bool true, .slice none 0 0]) rfl rfl rfl rfl (Nat.le_refl 3) rfl) ?_
  rintro _ _ rfl
  refine OL.subS (S' := [] :: [(r5, .cells [.slice A l.length c, .bool true, .slice none 0 0] 73 3)] :: [(r4, .cells [.slice none 0 0, .bool false, .slice none 0 0] 73 3)] :: S) (Sub.nilL (Sub.refl _)) (OL.nil (PW.k4 0 1 4 5 rfl ?_))
  refine PW.seq fun K1 hK1 => ?_
  refine PW.seqOps (OL.dp rfl (OL.nil (PW.k5 0 1 4 5 6 rfl (PW.block (PW.k5 0 1 4 5 6 rfl ?_)))))
  refine PW.loopK (I := fun mm T S' => ∃ (i : Nat) (vm : Value) (ms : List Int) (segm : Seg), (1 <= i /\ (i <= l.length ∨ i = 1) /\ mm = l.length - i /\ ms = midsK ps l i /\ ms.length <= i /\ SlV 3 1 vm ms.length (ints ms) segm) /\ T = ([(0, m.ptr), (1, .slice A l.length c), (4, .pointer (some ⟨r4, 0, none⟩)), (5, .pointer (some ⟨r5, 0, none⟩)), (6, .int .i64 i)] : TT) /\ S' = segm :: [(r5, .cells [.slice A l.length c, .bool true, vm] 73 3)] :: [(r4, .cells [.slice none 0 0, .bool false, .slice none 0 0] 73 3)] :: S) (m := l.length - 1) ⟨1, _, [], [], ⟨Nat.le_refl 1, .inr rfl, rfl, by simp [midsK], Nat.zero_le _, SlV.nil 3 1⟩, rfl, rfl⟩ ?_
  rintro mm _ _ ⟨i, vm, ms, segm, ⟨hi1, hil0, hmm, hms, hmsl, hsm⟩, rfl, rfl⟩
  refine PW.seq fun K2 hK2 => ?_
  refine PW.seqOps (OL.dp rfl (OL.dp rfl (OL.dp rfl (OL.dp rfl (OL.nil (PW.k6 0 1 4 5 6 12 rfl ?_))))))
  refine PW.cond rfl (fun c12 => ?_) (fun c12 => ?_)
  · try simp only [cvS] at c12
    have hil : i < l.length := by omega
    have hx2 : Rd w0 (segm :: [(r5, .cells [.slice A l.length c, .bool true, vm] 73 3)] :: [(r4, .cells [.slice none 0 0, .bool false, .slice none 0 0] 73 3)] :: S) A (lines l) := hx.cons.cons.cons
    obtain ⟨a0, rfl⟩ := lines_some hx (by omega)
    refine PW.skip ?_
    refine hK2 _ _ ?_
    refine PW.k5 0 1 4 5 6 rfl ?_
    refine PW.seq fun K3 hK3 => ?_
    refine PW.block ?_
    refine PW.seq fun K4 hK4 => ?_
    refine PW.quietK Try.mixed (QK.dp rfl (QK.dp rfl (QK.dp rfl ?_)))
    refine QK.det trivial (.sub64 rfl rfl (by omega) (by omega)) ?_
    refine QK.det trivial (.ixN rfl rfl (show ((i : Nat) : Int) - 1 = ((i - 1 : Nat) : Int) by omega) (by omega)) ?_
    refine QK.det trivial (.ldA rfl (lineC_len _) (line_at (k := i - 1) hx2 (by omega))) ?_
    refine QK.dp rfl (QK.dp rfl ?_)
    refine QK.det trivial (.ixN rfl rfl rfl (by omega)) ?_
    refine QK.det trivial (.ldA rfl (lineC_len _) (line_at hx2 hil)) (QK.nil ?_)
    change OL _ _ _ [_, _] _ _ _
    refine OL.call trivial rfl (ordered_fc (x := l[i - 1]) (y := l[i]) h hS.cons.cons.cons (hv _ (List.getElem_mem _)) (hv _ (List.getElem_mem _))) ?_
    rintro _ Sx ⟨rfl, hSx⟩
    rw [hSx]
    clear hSx
    refine OL.dp rfl (OL.nil ?_)
    refine hK4 _ _ ?_
    refine PW.k6 0 1 4 5 6 26 rfl ?_
    refine PW.cond rfl (fun c26 => ?_) (fun c26 => ?_)
    · skip
      refine PW.ops (OL.dp rfl (OL.det trivial (.ld rfl (own_at (j := 2) (c := [.slice (some a0) l.length c, .bool true, vm]) (E := 73) (tot := 3) zM1 rfl)) (OL.dp rfl ?_)))
      apply OL.app1 (k := 0)
      · rfl
      · rfl
      · rfl
      · rfl
      · rfl
      · rfl
      · exact hsm
      · rfl
      · omega
      · unfold maxLen; omega
      intro v31 segd hsd
      obtain ⟨Ad, cd, rfl, hnd, hcd, hrdd⟩ := slv_rdL (w0 := w0) hsd
      change OL _ _ _ _ _ (segd :: [(r5, .cells [.slice (some a0) l.length c, .bool true, vm] 73 3)] :: [(r4, .cells [.slice none 0 0, .bool false, .slice none 0 0] 73 3)] :: S) _
      refine OL.dp rfl (OL.cons trivial (OW.st (k := 1) (c := [.slice (some a0) l.length c, .bool true, vm]) (u := .slice Ad (ms.length + 1) cd) rfl rfl rfl rfl (Nat.le_refl 3) rfl) ?_)
      rintro _ _ rfl
      change OL _ _ _ _ _ (segd :: [(r5, .cells [.slice (some a0) l.length c, .bool true, .slice Ad (ms.length + 1) cd] 73 3)] :: [(r4, .cells [.slice none 0 0, .bool false, .slice none 0 0] 73 3)] :: S) _
      refine OL.nil ?_
      refine hK3 _ _ ?_
      refine PW.k5 0 1 4 5 6 rfl (PW.ops (OL.dp rfl ?_))
      refine OL.det trivial (.add64 rfl rfl (by omega) (by omega)) ?_
      refine OL.dp rfl (OL.nil ?_)
      repeat rw [inBlk_n]
      try rw [thenK_n]
      refine LoopEnd.mk (T'' := [(0, _), (1, _), (4, _), (5, _), (6, _)]) (wi rfl) ?_
      have hms2 := midsK_succ ps l i
      rw [getElem!_pos l (i - 1) (by omega), getElem!_pos l i hil, decide_eq_true (show 0 < i by omega), Bool.true_and] at hms2
      first
        | (rw [if_pos c26, <- hms] at hms2
           exact ⟨l.length - (i + 1), by omega, i + 1, _, ms ++ [(i : Int)], segd, ⟨by omega, .inl (by omega), rfl, hms2.symm, by rw [List.length_append]; exact Nat.succ_le_succ hmsl, ints_snoc hsd⟩, rfl, rfl⟩)
        | (rw [if_neg (by rw [c26]; simp), <- hms] at hms2
           exact ⟨l.length - (i + 1), by omega, i + 1, vm, ms, segm, ⟨by omega, .inl (by omega), rfl, hms2.symm, by omega, hsm⟩, rfl, rfl⟩)
    skip
    refine PW.skip ?_
    refine hK3 _ _ ?_
    refine PW.k5 0 1 4 5 6 rfl (PW.ops (OL.dp rfl ?_))
    refine OL.det trivial (.add64 rfl rfl (by omega) (by omega)) ?_
    refine OL.dp rfl (OL.nil ?_)
    repeat rw [inBlk_n]
    try rw [thenK_n]
    refine LoopEnd.mk (T'' := [(0, _), (1, _), (4, _), (5, _), (6, _)]) (wi rfl) ?_
    have hms2 := midsK_succ ps l i
    rw [getElem!_pos l (i - 1) (by omega), getElem!_pos l i hil, decide_eq_true (show 0 < i by omega), Bool.true_and] at hms2
    first
      | (rw [if_pos c26, <- hms] at hms2
         exact ⟨l.length - (i + 1), by omega, i + 1, _, ms ++ [(i : Int)], segd, ⟨by omega, .inl (by omega), rfl, hms2.symm, by rw [List.length_append]; exact Nat.succ_le_succ hmsl, ints_snoc hsd⟩, rfl, rfl⟩)
      | (rw [if_neg (by rw [c26]; simp), <- hms] at hms2
         exact ⟨l.length - (i + 1), by omega, i + 1, vm, ms, segm, ⟨by omega, .inl (by omega), rfl, hms2.symm, by omega, hsm⟩, rfl, rfl⟩)
  try simp only [cvS] at c12
  refine PW.exit ?_
  refine hK1 _ _ ?_
  refine PW.k2 4 5 rfl (PW.seqOps ?_)
  have hkm : midsK ps l i = midsK ps l l.length := by
    by_cases h0 : l.length = 0
    · have : i = 1 := by omega
      subst this
      rw [h0, midsK_succ, if_neg (by simp)]
    rw [show i = l.length by omega]
  rw [hkm] at hms
  obtain ⟨Am, cm, rfl, hnm, hcm, hrdm⟩ := slv_rdL (w0 := w0) hsm
  refine OL.det trivial (.ldA rfl (cs := [.slice A l.length c, .bool true, .slice Am ms.length cm]) rfl (all_at (c := [.slice A l.length c, .bool true, .slice Am ms.length cm]) (E := 73) (tot := 3) zM1)) (OL.cons trivial (OW.st (k := 2) (c := [.slice none 0 0, .bool false, .slice none 0 0]) (u := .agg #[.slice A l.length c, .bool true, .slice Am ms.length cm]) rfl rfl rfl rfl (Nat.le_refl 3) rfl) ?_)
  rintro _ _ rfl
  refine OL.nil (PW.k1 4 rfl (PW.ret ?_))
  subst hms
  exact ⟨.inr rfl, _, itemV ⟨A, c, l, true, Am, cm, midsK ps l l.length⟩, rfl, item_read (E := 73) (tot := 3) zM2, _, Sub.cons (Sub.drop (Sub.drop (Sub.refl _))), Am, cm, segm, rfl, rfl, hsm⟩
end Go.Proofs.Gr





namespace Go.Proofs.Gr
open Go.SL Go.RowKit Go.Proofs Go.GP
set_option maxHeartbeats 1000000
theorem gs_a {a : GrM} {s : Seg} {S : SS} : Sub (GS a ++ (s :: S)) (s :: (GS a ++ S)) := Sub.sel [1, 2, 3, 4, 0] 5 (by decide) (s :: (GS a ++ S))
theorem rd_mem {w0 : World} {S : SS} {s : Seg} {A : Option Addr} {l : List Value} (h : Rd w0 (s :: []) A l) (hm : s ∈ S) : Rd w0 S A l := h.mono fun p hp => List.mem_flatten.2 ⟨s, hm, by simpa using hp⟩
structure ItemOk (w0 : World) (j : Seg) (x : ItemM) : Prop where
 rdL : Rd w0 (j :: []) x.LA (lines x.lines)
 rdM : Rd w0 (j :: []) x.MA (ints x.mids)
 nL : x.lines.length <= 60000
 nM : x.mids.length <= 60000
theorem ItemOk.more {w0 : World} {j j' : Seg} {x : ItemM} (h : ItemOk w0 j x) (hs : ∀ p ∈ j, p ∈ j') : ItemOk w0 j' x :=
 ⟨h.rdL.mono fun p hp => by simp at hp ⊢; exact hs p hp, h.rdM.mono fun p hp => by simp at hp ⊢; exact hs p hp, h.nL, h.nM⟩
theorem fill_line1 {T : TT} {x : PV} {u : LineP} {zero : List Value} (hx : x.val T = some (lineV u)) (hz : zero.length = 35) : fillP T zero [(0, 35, x)] = some (lineC u) := by
 simp only [fillP, hx]
 rw [if_pos ⟨(List.size_toArray).trans (lineC_len u), by omega⟩]
 exact congrArg some (setAll (by rw [hz]; exact (lineC_len u).symm))
theorem sub_pack {a b c p j : Seg} {S : SS} : Sub (b :: c :: [] :: (a ++ (p ++ j)) :: S) (a :: b :: c :: p :: j :: S) :=
 (Sub.cons (Sub.cons (Sub.nilL (Sub.refl _)))).trans ((Sub.cons (Sub.cons Sub.join)).trans ((Sub.cons (Sub.cons (Sub.cons Sub.join))).trans (Sub.sel [1, 2, 0, 3, 4] 5 (by decide) (a :: b :: c :: p :: j :: S))))
theorem sub_pack2 {a b c p j : Seg} {S : SS} : Sub (c :: p :: (a ++ j) :: S) (a :: b :: c :: p :: j :: S) :=
 (Sub.cons (Sub.cons Sub.join)).trans (Sub.sel [2, 3, 0, 4] 5 (by decide) (a :: b :: c :: p :: j :: S))
theorem sub_pack3 {a c p j s : Seg} {S : SS} : Sub (c :: (a ++ (p ++ j)) :: S) (a :: c :: p :: j :: s :: S) :=
 (Sub.cons Sub.join).trans ((Sub.cons (Sub.cons Sub.join)).trans (Sub.sel [1, 0, 2, 3] 5 (by decide) (a :: c :: p :: j :: s :: S)))
theorem sub_pack4 {c p j s : Seg} {S : SS} : Sub (c :: j :: S) (c :: p :: j :: s :: S) := Sub.sel [0, 2] 4 (by decide) (c :: p :: j :: s :: S)
theorem item_snoc {v : Value} {l : List ItemM} {x : ItemM} {seg : Seg} (h : SlV 73 3 v (l.length + 1) (itemS l ++ itemC x) seg) : SlV 73 3 v (l ++ [x]).length (itemS (l ++ [x])) seg := by
 rw [List.length_append, itemS_app]
 have : itemS [x] = itemC x := by simp [itemS]
 rw [this]
 exact h
theorem line_snoc {v : Value} {l : List LineP} {x : LineP} {seg : Seg} (h : SlV 43 35 v (l.length + 1) (lines l ++ lineC x) seg) : SlV 43 35 v (l ++ [x]).length (lines (l ++ [x])) seg := by
 rw [List.length_append, lines_app]
 have : lines [x] = lineC x := by simp [lines]
 rw [this]
 exact h
theorem midsK_len (ps : List PartP) (l : List LineP) (k : Nat) : (midsK ps l k).length <= k := by
 unfold midsK
 rw [List.length_map]
 exact Nat.le_trans (List.length_filter_le _ _) (by simp)
theorem blockM_ok {w0 : World} {ps : List PartP} {A M : Option Addr} {c mc : Nat} {l : List LineP} {s p j : Seg} (hs : SlV 3 1 (.slice M (midsK ps l l.length).length mc) (midsK ps l l.length).length (ints (midsK ps l l.length)) s) (hp : SlV 43 35 (.slice A l.length c) l.length (lines l) p) (hl : l.length <= 60000) :
  ItemOk w0 (s ++ (p ++ j)) ⟨A, c, l, true, M, mc, midsK ps l l.length⟩ := by
 obtain ⟨A1, c1, e1, _, _, r1⟩ := slv_rdL (w0 := w0) hs
 obtain ⟨A2, c2, e2, _, _, r2⟩ := slv_rdL (w0 := w0) hp
 obtain ⟨rfl, rfl⟩ : M = A1 /\ mc = c1 := by simpa using e1
 obtain ⟨rfl, rfl⟩ : A = A2 /\ c = c2 := by simpa using e2
 have := midsK_len ps l l.length
 exact ⟨(r2 []).mono fun q hq => by simp at hq ⊢; exact .inr (.inl hq), (r1 []).mono fun q hq => by simp at hq ⊢; exact .inl hq, hl, Nat.le_trans this hl⟩
theorem solidP_iff {ps : List PartP} {l : List LineP} {x : LineP} : solidP ps l x = true ↔ ∀ y ∈ l, (decide (x.v = y.v) || ordP ps x.v y.v) = true := by unfold solidP; rw [List.all_eq_true]
theorem items_fc {w0 : World} {S X : SS} {m : GrM} {ps : List PartP} (h : GG w0 X m ps) (hX : Over X S) (hn : (allV ps).length <= 60000) :
  FC Try.prog w0 33 [m.ptr] (GS m ++ S) (fun v S' => ∃ its seg junk, S' = seg :: junk :: (GS m ++ S) /\ its.map ItemM.pl = itemsP ps /\ SlV 73 3 v its.length (itemS its) seg /\ (∀ x ∈ its, ItemOk w0 junk x) /\ its.length <= 120001) := by
 refine FC.ofD Try.known33 (by simp) ?_
 unfold Try.pc33
 simp only [argT]
 refine PW.seqOps (OL.dp rfl (OL.nil (PW.k1 0 rfl (PW.scope (PW.seqOps (OL.dp rfl (OL.call trivial rfl (lines2_fc h hX) ?_)))))))
 rintro _ _ ⟨seg0, rfl, hsl0⟩
 obtain ⟨LA, lc, rfl, hLn, hLc, hrd0⟩ := slv_rdL (w0 := w0) hsl0
 have hln := linesP_len h.sq
 refine OL.call trivial rfl (deleteDead_fc hsl0 (by omega)) ?_
 rintro _ _ ⟨segl, rfl, hsl⟩
 obtain ⟨LB, lcB, rfl, hnB, hcB, hrdB⟩ := slv_rdL (w0 := w0) hsl
 have hlv := live_len (linesP ps)
 have hok : ∀ x ∈ live (linesP ps), okV x.v := fun x hx => by
  obtain ⟨v, hv, rfl⟩ := List.mem_map.1 (List.mem_filter.1 hx).1
  exact h.okV (topoF_mem hv)
 obtain ⟨L, hL⟩ : ∃ z, z = live (linesP ps) := ⟨_, rfl⟩
 have hip : itemsP ps = itemsL ps L := by rw [hL]; rfl
 rw [<- hL] at hrdB hcB hlv hok ⊢
 have hLn : L.length <= 60000 := by omega
 refine OL.dp rfl (OL.nil (PW.k2 0 3 rfl (PW.seqOps (OL.dp rfl (OL.nil (PW.k3 0 3 4 rfl (PW.seqOps (OL.dp rfl (OL.nil (PW.k4 0 3 4 5 rfl ?_))))))))))
 refine PW.seq fun K1 hK1 => ?_
 refine PW.label ?_
 refine hK1 _ _ ?_
 refine PW.k4 0 3 4 5 rfl ?_
 refine PW.seq fun K2 hK2 => ?_
 refine PW.seqOps (OL.subS (S' := [] :: [] :: [] :: segl :: (GS m ++ S)) (Sub.nilL (Sub.nilL (Sub.nilL (Sub.refl _)))) (OL.dp rfl (OL.dp rfl (OL.dp rfl (OL.nil (PW.k7 0 3 4 5 13 14 15 rfl (PW.block (PW.k7 0 3 4 5 13 14 15 rfl ?_))))))))
 refine PW.loopK (I := fun mm T S' => ∃ (k : Nat) (its : List ItemM) (op : List LineP) (vo vp : Value) (sgo sgp junk : Seg), (k <= L.length /\ mm = L.length - k /\ (its.map ItemM.pl, op) = foldI ps L k /\ its.length <= 2 * k /\ op.length <= k /\ SlV 73 3 vo its.length (itemS its) sgo /\ SlV 43 35 vp op.length (lines op) sgp /\ (∀ x ∈ its, ItemOk w0 junk x) /\ (∀ x ∈ op, x ∈ L)) /\ T = ([(0, m.ptr), (3, .slice LB L.length lcB), (4, vo), (5, vp), (13, .slice LB L.length lcB), (14, .int .i64 (L.length : Int)), (15, .int .i64 k)] : TT) /\ S' = sgo :: sgp :: junk :: segl :: (GS m ++ S)) (m := L.length) ⟨0, [], [], _, _, [], [], [], ⟨by omega, by omega, rfl, Nat.zero_le _, Nat.zero_le _, SlV.nil 73 3, SlV.nil 43 35, (fun x hx => by cases hx), (fun x hx => by cases hx)⟩, rfl, rfl⟩ ?_
 rintro mm _ _ ⟨k, its, op, vo, vp, sgo, sgp, junk, ⟨hk, hmm, hfold, hitl, hopl, hso, hsp, hio, hin⟩, rfl, rfl⟩
 obtain ⟨Ap, cp, rfl, hnp, hcp, hrdp⟩ := slv_rdL (w0 := w0) hsp
 refine PW.seqOps (OL.dp rfl (OL.nil (PW.k8 0 3 4 5 13 14 15 16 rfl ?_)))
 refine PW.seq fun K3 hK3 => ?_
 refine PW.cond rfl (fun c16 => ?_) (fun c16 => ?_)
 ·try simp only [cvS] at c16
  have hkl : k < L.length := by omega
  obtain ⟨a0, rfl⟩ := lines_some (hrdB []) (by omega)
  refine PW.skip ?_
  refine hK3 _ _ ?_
  refine PW.k7 0 3 4 5 13 14 15 rfl ?_
  refine PW.seq fun K4 hK4 => ?_
  refine PW.block (PW.seqOps (OL.det trivial (.ixN rfl rfl rfl hkl) ?_))
  refine OL.det trivial (.ldA rfl (lineC_len _) (line_at (rd_mem (hrdB []) (by simp)) hkl)) ?_
  refine OL.cons trivial OW.al ?_
  rintro _ _ ⟨r7, rfl, rfl⟩
  refine OL.cons trivial (line_st rfl rfl rfl) ?_
  rintro _ _ rfl
  change OL _ _ _ _ _ (lseg r7 L[k] :: sgo :: sgp :: junk :: segl :: (GS m ++ S)) _
  refine OL.nil (PW.k8 0 3 4 5 7 13 14 15 rfl ?_)
  refine PW.seq fun K5 hK5 => ?_
  refine PW.seqOps (OL.dp rfl (OL.dp rfl (OL.dp rfl (OL.nil (PW.k11 0 3 4 5 7 13 14 15 19 20 21 rfl (PW.block (PW.k11 0 3 4 5 7 13 14 15 19 20 21 rfl ?_)))))))
  refine PW.loopK (I := fun mj T S' => ∃ j : Nat, (j <= L.length /\ mj = L.length - j /\ ∀ y ∈ L.take j, (decide (L[k].v = y.v) || ordP ps L[k].v y.v) = true) /\ T = ([(0, m.ptr), (3, .slice (some a0) L.length lcB), (4, vo), (5, .slice Ap op.length cp), (7, .pointer (some ⟨r7, 0, none⟩)), (13, .slice (some a0) L.length lcB), (14, .int .i64 (L.length : Int)), (15, .int .i64 k), (19, .slice (some a0) L.length lcB), (20, .int .i64 (L.length : Int)), (21, .int .i64 j)] : TT) /\ S' = lseg r7 L[k] :: sgo :: sgp :: junk :: segl :: (GS m ++ S)) (m := L.length) ⟨0, ⟨by omega, by omega, by simp⟩, rfl, rfl⟩ ?_
  rintro mj _ _ ⟨j, ⟨hj, hmj, hall⟩, rfl, rfl⟩
  refine PW.seqOps (OL.dp rfl (OL.nil (PW.k12 0 3 4 5 7 13 14 15 19 20 21 22 rfl ?_)))
  refine PW.seq fun K6 hK6 => ?_
  refine PW.cond rfl (fun c22 => ?_) (fun c22 => ?_)
  ·try simp only [cvS] at c22
   have hjl : j < L.length := by omega
   refine PW.skip ?_
   refine hK6 _ _ ?_
   refine PW.k11 0 3 4 5 7 13 14 15 19 20 21 rfl ?_
   refine PW.seq fun K7 hK7 => ?_
   refine PW.block (PW.seqOps (OL.det trivial (.ixN rfl rfl rfl hjl) ?_))
   refine OL.det trivial (.ldA rfl (lineC_len _) (line_at (rd_mem (hrdB []) (by simp)) hjl)) ?_
   refine OL.cons trivial OW.al ?_
   rintro _ _ ⟨r9, rfl, rfl⟩
   refine OL.cons trivial (line_st rfl rfl rfl) ?_
   rintro _ _ rfl
   change OL _ _ _ _ _ (lseg r9 L[j] :: lseg r7 L[k] :: sgo :: sgp :: junk :: segl :: (GS m ++ S)) _
   refine OL.nil (PW.k12 0 3 4 5 7 9 13 14 15 19 20 21 rfl (PW.seqOps (OL.dp rfl (OL.det trivial (.ldA rfl (vtxL_len _) (lcell_vtx (x := L[k]) (E := 43) (tot := 35) zM1)) (OL.dp rfl (OL.det trivial (.ldA rfl (vtxL_len _) (lcell_vtx (x := L[j]) (E := 43) (tot := 35) zM0)) (OL.det trivial (.eqD (neg := true) rfl rfl (eqL_vtx _ _)) ?_)))))))
   refine OL.bool trivial (Yields.pure rfl) (fun g30 => ?_) (fun g30 => ?_)
   ·try simp only [cvS] at g30
    refine OL.det rfl (.pure rfl) (OL.det rfl (.ldA rfl (lineC_len _) (lcell (x := L[k]) (E := 43) (tot := 35) zM1)) (OL.det rfl (.ldA rfl (lineC_len _) (lcell (x := L[j]) (E := 43) (tot := 35) zM0)) (OL.call rfl rfl (ordered_fc (x := L[k]) (y := L[j]) h ((Over.both hX).cons.cons.cons.cons.cons.cons) (hok _ (List.getElem_mem _)) (hok _ (List.getElem_mem _))) ?_)))
    rintro _ Sx ⟨rfl, hSx⟩
    rw [hSx]
    clear hSx
    refine OL.det rfl (.pure rfl) (OL.dp rfl (OL.nil (PW.k12 0 3 4 5 7 13 14 15 19 20 21 36 rfl ?_)))
    refine PW.cond rfl (fun c36 => ?_) (fun c36 => ?_)
    ·skip
     refine PW.seqOps (OL.dp rfl (OL.det trivial (.ldA rfl (lineC_len _) (lcell (x := L[k]) (E := 43) (tot := 35) zM1)) ?_))
     apply OL.app1 (k := 3)
     ·rfl
     ·rfl
     ·exact (List.size_toArray).trans (lineC_len _)
     ·rfl
     ·rfl
     ·rfl
     ·exact hsp
     ·exact lineC_one _
     ·omega
     ·unfold maxLen; omega
     intro v40 seg40 hsl40
     refine OL.dp rfl (OL.nil (PW.k7 0 3 4 5 13 14 15 rfl (PW.exit ?_)))
     refine hK4 _ _ ?_
     refine PW.k7 0 3 4 5 13 14 15 rfl (PW.ops ?_)
     refine OL.det trivial (.add64 rfl rfl (by omega) (by omega)) ?_
     refine OL.dp rfl (OL.nil ?_)
     repeat rw [inBlk_n]
     try rw [thenK_n]
     refine LoopEnd.mkS (Sub.drop (Sub.drop (Sub.refl _))) (T'' := [(0, _), (3, _), (4, _), (5, _), (13, _), (14, _), (15, _)]) (wi rfl) ?_
     have hsc := foldI_succ (ps := ps) hkl
     rw [<- hfold] at hsc
     unfold stepI at hsc
     have hkl2 : L.length - (k + 1) < mm := by omega
     have hns : ¬ solidP ps L L[k] = true := fun hs => by
      have h1 := solidP_iff.1 hs L[j] (List.getElem_mem hjl)
      simp at g30 c36
      simp [g30, c36] at h1
     rw [if_neg hns] at hsc
     exact ⟨_, hkl2, k + 1, its, op ++ [L[k]], vo, _, sgo, seg40, junk, ⟨by omega, rfl, hsc.symm, by omega, by rw [List.length_append]; exact Nat.succ_le_succ hopl, hso, line_snoc hsl40, hio, fun x hx => by
      rcases List.mem_append.1 hx with h | h
      ·exact hin x h
      rw [List.mem_singleton] at h; subst h; exact List.getElem_mem _⟩, rfl, rfl⟩
    skip
    refine PW.skip ?_
    refine hK7 _ _ ?_
    refine PW.k11 0 3 4 5 7 13 14 15 19 20 21 rfl (PW.ops ?_)
    refine OL.det trivial (.add64 rfl rfl (by omega) (by omega)) ?_
    refine OL.dp rfl (OL.nil ?_)
    repeat rw [inBlk_n]
    try rw [thenK_n]
    refine LoopEnd.mkS (Sub.drop (Sub.refl _)) (T'' := [(0, _), (3, _), (4, _), (5, _), (7, _), (13, _), (14, _), (15, _), (19, _), (20, _), (21, _)]) (wi rfl) ?_
    refine ⟨L.length - (j + 1), by omega, j + 1, ⟨by omega, rfl, fun y hy => ?_⟩, rfl, rfl⟩
    rw [ltake_snoc hjl] at hy
    rcases List.mem_append.1 hy with h | h
    ·exact hall y h
    rw [List.mem_singleton] at h
    subst h
    first
     | (simp [g30]; done)
     | (simp at c36; simp [c36]; done)
     | (simp [c36]; done)
   try simp only [cvS] at g30
   refine OL.off rfl rfl (OL.off rfl rfl (OL.off rfl rfl (OL.off rfl rfl (OL.off rfl rfl (OL.dp rfl (OL.nil (PW.k12 0 3 4 5 7 13 14 15 19 20 21 36 rfl (PW.ite (b := false) rfl ?_))))))))
   rw [if_neg Bool.false_ne_true]
   refine PW.skip ?_
   refine hK7 _ _ ?_
   refine PW.k11 0 3 4 5 7 13 14 15 19 20 21 rfl (PW.ops ?_)
   refine OL.det trivial (.add64 rfl rfl (by omega) (by omega)) ?_
   refine OL.dp rfl (OL.nil ?_)
   repeat rw [inBlk_n]
   try rw [thenK_n]
   refine LoopEnd.mkS (Sub.drop (Sub.refl _)) (T'' := [(0, _), (3, _), (4, _), (5, _), (7, _), (13, _), (14, _), (15, _), (19, _), (20, _), (21, _)]) (wi rfl) ?_
   refine ⟨L.length - (j + 1), by omega, j + 1, ⟨by omega, rfl, fun y hy => ?_⟩, rfl, rfl⟩
   rw [ltake_snoc hjl] at hy
   rcases List.mem_append.1 hy with h | h
   ·exact hall y h
   rw [List.mem_singleton] at h
   subst h
   first
    | (simp [g30]; done)
    | (simp at c36; simp [c36]; done)
    | (simp [c36]; done)
  try simp only [cvS] at c22
  refine PW.exit ?_
  refine hK5 _ _ ?_
  refine PW.k8 0 3 4 5 7 13 14 15 rfl ?_
  refine PW.seq fun K8 hK8 => ?_
  refine PW.seqOps (OL.dp rfl (OL.dp rfl (OL.dp rfl (OL.nil (PW.k9 0 3 4 5 7 13 14 15 44 rfl ?_)))))
  refine PW.cond rfl (fun c44 => ?_) (fun c44 => ?_)
  ·try simp only [cvS] at c44
   refine PW.seqOps (OL.dp rfl (OL.dp rfl (OL.dp rfl ?_)))
   refine OL.call trivial rfl (by exact block_fc (X := X) h ((Over.both hX).cons.cons.cons.cons.cons) (rd_mem (hrdp []) (by simp)) (fun x hx => hok x (hin x hx)) (by omega)) ?_
   rintro _ _ ⟨Mb, mcb, segm, rfl, rfl, hsm⟩
   apply OL.app1 (k := 2)
   ·rfl
   ·rfl
   ·rfl
   ·rfl
   ·rfl
   ·rfl
   ·exact hso
   ·rfl
   ·omega
   ·unfold maxLen; omega
   intro v50 seg50 hsl50
   refine OL.subS (S' := lseg r7 L[k] :: seg50 :: [] :: (segm ++ (sgp ++ junk)) :: segl :: (GS m ++ S)) sub_pack ?_
   have hok2 := blockM_ok (j := junk) hsm hsp (w0 := w0) (by omega)
   have hso2 := item_snoc (x := ⟨Ap, cp, op, true, Mb, mcb, midsK ps op op.length⟩) hsl50
   refine OL.dp rfl (OL.nil (PW.k7 0 3 4 7 13 14 15 rfl (PW.ops (OL.dp rfl (OL.nil ?_)))))
   refine hK8 _ _ ?_
   refine PW.k8 0 3 4 5 7 13 14 15 rfl (PW.ops (OL.dp rfl (OL.det trivial (.ldA rfl (lineC_len _) (lcell (x := L[k]) (E := 43) (tot := 35) zM0)) (OL.cons trivial (OW.bsl (cs := lineC L[k]) (fill_line1 rfl rfl)) ?_))))
   rintro _ _ ⟨r53, rfl, rfl⟩
   rw [lineC_len]
   refine OL.det trivial (.build (cs := itemC ⟨some ⟨r53, 0, none⟩, 1, [L[k]], false, none, 0, []⟩) rfl) ?_
   apply OL.app1 (k := 2)
   ·rfl
   ·rfl
   ·rfl
   ·rfl
   ·rfl
   ·rfl
   ·exact (by first | exact hso2 | exact hso)
   ·rfl
   ·(first | omega | (simp only [List.length_append, List.length_cons, List.length_nil]; omega))
   ·unfold maxLen; (first | omega | (simp only [List.length_append, List.length_cons, List.length_nil]; omega))
   intro v56 seg56 hsl56
   refine OL.dp rfl (OL.nil ?_)
   refine hK4 _ _ ?_
   refine PW.k7 0 3 4 5 13 14 15 rfl (PW.ops ?_)
   refine OL.det trivial (.add64 rfl rfl (by omega) (by omega)) ?_
   refine OL.dp rfl (OL.nil ?_)
   repeat rw [inBlk_n]
   try rw [thenK_n]
   refine LoopEnd.mkS (sub_pack2) (T'' := [(0, _), (3, _), (4, _), (5, _), (13, _), (14, _), (15, _)]) (wi rfl) ?_
   have hsc := foldI_succ (ps := ps) hkl
   rw [<- hfold] at hsc
   unfold stepI at hsc
   have hkl2 : L.length - (k + 1) < mm := by omega
   have hs : solidP ps L L[k] = true := solidP_iff.2 fun y hy => hall y (by rw [List.take_of_length_le (by omega)]; exact hy)
   have hne : op ≠ [] := fun e => by subst e; simp at c44
   rw [if_pos hs] at hsc
   unfold shut at hsc
   rw [if_neg hne] at hsc
   have hrow : ItemOk w0 ([(r53, AO.cells (lineC L[k]) 43 35)] ++ (segm ++ (sgp ++ junk))) ⟨some ⟨r53, 0, none⟩, 1, [L[k]], false, none, 0, []⟩ := ⟨(Rd.own (E := 43) (tot := 35) (by simp [lines])).mono (fun q hq => hq), Rd.nil, Nat.succ_le_succ (Nat.zero_le _), Nat.zero_le _⟩
   exact ⟨_, hkl2, k + 1, its ++ [⟨Ap, cp, op, true, Mb, mcb, midsK ps op op.length⟩] ++ [⟨some ⟨r53, 0, none⟩, 1, [L[k]], false, none, 0, []⟩], [], _, _, seg56, [], [(r53, AO.cells (lineC L[k]) 43 35)] ++ (segm ++ (sgp ++ junk)), ⟨by omega, rfl, by rw [hsc, List.map_append, List.map_append]; rfl, by simp only [List.length_append, List.length_cons, List.length_nil]; omega, Nat.zero_le _, item_snoc hsl56, SlV.nil 43 35, fun x hx => by
    rcases List.mem_append.1 hx with h | h
    ·rcases List.mem_append.1 h with h | h
     ·exact (hio x h).more fun q hq => by simp [hq]
     rw [List.mem_singleton] at h; subst h; exact hok2.more fun q hq => List.mem_append_right _ hq
    rw [List.mem_singleton] at h; subst h; exact hrow, fun x hx => by cases hx⟩, rfl, rfl⟩
  try simp only [cvS] at c44
  refine PW.skip ?_
  refine hK8 _ _ ?_
  refine PW.k8 0 3 4 5 7 13 14 15 rfl (PW.ops (OL.dp rfl (OL.det trivial (.ldA rfl (lineC_len _) (lcell (x := L[k]) (E := 43) (tot := 35) zM0)) (OL.cons trivial (OW.bsl (cs := lineC L[k]) (fill_line1 rfl rfl)) ?_))))
  rintro _ _ ⟨r53, rfl, rfl⟩
  rw [lineC_len]
  refine OL.det trivial (.build (cs := itemC ⟨some ⟨r53, 0, none⟩, 1, [L[k]], false, none, 0, []⟩) rfl) ?_
  apply OL.app1 (k := 2)
  ·rfl
  ·rfl
  ·rfl
  ·rfl
  ·rfl
  ·rfl
  ·exact (by first | exact hso2 | exact hso)
  ·rfl
  ·(first | omega | (simp only [List.length_append, List.length_cons, List.length_nil]; omega))
  ·unfold maxLen; (first | omega | (simp only [List.length_append, List.length_cons, List.length_nil]; omega))
  intro v56 seg56 hsl56
  refine OL.dp rfl (OL.nil ?_)
  refine hK4 _ _ ?_
  refine PW.k7 0 3 4 5 13 14 15 rfl (PW.ops ?_)
  refine OL.det trivial (.add64 rfl rfl (by omega) (by omega)) ?_
  refine OL.dp rfl (OL.nil ?_)
  repeat rw [inBlk_n]
  try rw [thenK_n]
  refine LoopEnd.mkS (sub_pack2) (T'' := [(0, _), (3, _), (4, _), (5, _), (13, _), (14, _), (15, _)]) (wi rfl) ?_
  have hsc := foldI_succ (ps := ps) hkl
  rw [<- hfold] at hsc
  unfold stepI at hsc
  have hkl2 : L.length - (k + 1) < mm := by omega
  have hs : solidP ps L L[k] = true := solidP_iff.2 fun y hy => hall y (by rw [List.take_of_length_le (by omega)]; exact hy)
  have hne : op = [] := List.eq_nil_of_length_eq_zero (by omega)
  rw [if_pos hs] at hsc
  unfold shut at hsc
  rw [if_pos hne] at hsc
  have hrow : ItemOk w0 ([(r53, AO.cells (lineC L[k]) 43 35)] ++ junk) ⟨some ⟨r53, 0, none⟩, 1, [L[k]], false, none, 0, []⟩ := ⟨(Rd.own (E := 43) (tot := 35) (by simp [lines])).mono (fun q hq => hq), Rd.nil, Nat.succ_le_succ (Nat.zero_le _), Nat.zero_le _⟩
  exact ⟨_, hkl2, k + 1, its ++ [⟨some ⟨r53, 0, none⟩, 1, [L[k]], false, none, 0, []⟩], [], _, _, seg56, sgp, [(r53, AO.cells (lineC L[k]) 43 35)] ++ junk, ⟨by omega, rfl, by rw [hsc, List.map_append]; simp; rfl, by simp only [List.length_append, List.length_cons, List.length_nil]; omega, Nat.zero_le _, item_snoc hsl56, by subst hne; exact hsp, fun x hx => by
   rcases List.mem_append.1 hx with h | h
   ·exact (hio x h).more fun q hq => by simp [hq]
   rw [List.mem_singleton] at h; subst h; exact hrow, fun x hx => by cases hx⟩, rfl, rfl⟩
 try simp only [cvS] at c16
 refine PW.exit ?_
 refine hK2 _ _ ?_
 refine PW.k3 0 4 5 rfl ?_
 refine PW.seq fun K9 hK9 => ?_
 refine PW.seqOps (OL.dp rfl (OL.dp rfl (OL.dp rfl (OL.nil (PW.k4 0 4 5 60 rfl ?_)))))
 refine PW.cond rfl (fun c60 => ?_) (fun c60 => ?_)
 ·try simp only [cvS] at c60
  refine PW.ops (OL.dp rfl (OL.dp rfl (OL.dp rfl ?_)))
  refine OL.call trivial rfl (by exact block_fc (X := X) h ((Over.both hX).cons.cons.cons.cons) (rd_mem (hrdp []) (by simp)) (fun x hx => hok x (hin x hx)) (by omega)) ?_
  rintro _ _ ⟨Mb, mcb, segm, rfl, rfl, hsm⟩
  apply OL.app1 (k := 1)
  ·rfl
  ·rfl
  ·rfl
  ·rfl
  ·rfl
  ·rfl
  ·exact hso
  ·rfl
  ·omega
  ·unfold maxLen; omega
  intro v66 seg66 hsl66
  have hok2 := blockM_ok (j := junk) hsm hsp (w0 := w0) (by omega)
  have hso2 := item_snoc (x := ⟨Ap, cp, op, true, Mb, mcb, midsK ps op op.length⟩) hsl66
  have hke : k = L.length := by omega
  have hsub : Sub (seg66 :: (segm ++ (sgp ++ junk)) :: (GS m ++ S)) (segm :: seg66 :: sgp :: junk :: segl :: (GS m ++ S)) := sub_pack3
  have hpost : ∃ its2 seg2 junk2, seg66 :: (segm ++ (sgp ++ junk)) :: (GS m ++ S) = seg2 :: junk2 :: (GS m ++ S) /\ its2.map ItemM.pl = itemsP ps /\ SlV 73 3 v66 its2.length (itemS its2) seg2 /\ (∀ x ∈ its2, ItemOk w0 junk2 x) /\ its2.length <= 120001 := ⟨its ++ [⟨Ap, cp, op, true, Mb, mcb, midsK ps op op.length⟩], seg66, segm ++ (sgp ++ junk), rfl, by
   subst hke
   have hne : op ≠ [] := fun e => by subst e; simp at c60
   rw [hip]
   unfold itemsL
   rw [<- hfold]
   unfold shut
   rw [if_neg hne, List.map_append]
   rfl, hso2, (fun x hx => by
   rcases List.mem_append.1 hx with h | h
   ·exact (hio x h).more fun q hq => by simp [hq]
   rw [List.mem_singleton] at h; subst h; exact hok2), by rw [List.length_append]; simp only [List.length_cons, List.length_nil]; omega⟩
  refine OL.dp rfl (OL.nil ?_)
  refine hK9 _ _ ?_
  refine PW.k1 4 rfl (PW.seqOps (OL.dp rfl (OL.dp rfl (OL.nil (PW.k1 2 rfl (PW.ret ?_))))))
  change (Exit.ret = Exit.normal ∨ Exit.ret = Exit.ret) /\ ∃ v, resV _ _ = some v /\ _
  exact ⟨.inr rfl, _, rfl, _, hsub, hpost⟩
 try simp only [cvS] at c60
 have hke : k = L.length := by omega
 have hsub : Sub (sgo :: junk :: (GS m ++ S)) (sgo :: sgp :: junk :: segl :: (GS m ++ S)) := sub_pack4
 have hpost : ∃ its2 seg2 junk2, sgo :: junk :: (GS m ++ S) = seg2 :: junk2 :: (GS m ++ S) /\ its2.map ItemM.pl = itemsP ps /\ SlV 73 3 vo its2.length (itemS its2) seg2 /\ (∀ x ∈ its2, ItemOk w0 junk2 x) /\ its2.length <= 120001 := ⟨its, sgo, junk, rfl, by
  subst hke
  have hne : op = [] := List.eq_nil_of_length_eq_zero (by omega)
  rw [hip]
  unfold itemsL
  rw [<- hfold]
  unfold shut
  rw [if_pos hne]
  simp, hso, hio, by omega⟩
 refine PW.skip ?_
 refine hK9 _ _ ?_
 refine PW.k1 4 rfl (PW.seqOps (OL.dp rfl (OL.dp rfl (OL.nil (PW.k1 2 rfl (PW.ret ?_))))))
 change (Exit.ret = Exit.normal ∨ Exit.ret = Exit.ret) /\ ∃ v, resV _ _ = some v /\ _
 exact ⟨.inr rfl, _, rfl, _, hsub, hpost⟩
theorem ints_at {w0 : World} {S : SS} {a : Addr} {l : List Int} (h : Rd w0 S (some a) (ints l)) {k : Nat} (hk : k < l.length) : Cell w0 S (a.add k) (.int .i64 l[k]) := h.at (by unfold ints; rw [List.getElem?_map, List.getElem?_eq_getElem hk]; rfl)
theorem ints_some {w0 : World} {S : SS} {A : Option Addr} {l : List Int} (h : Rd w0 S A (ints l)) (hk : 0 < l.length) : ∃ a, A = some a :=
 h.some (fun e => by have := congrArg List.length e; simp [ints] at this; subst this; simp at hk)
theorem itemS_get {l : List ItemM} {k : Nat} (hk : k < l.length) {j : Nat} (hj : j < 3) : (itemS l)[k * 3 + j]? = (itemC l[k])[j]? := by
 unfold itemS
 rw [flat_get itemC_len l (k * 3 + j) (by omega), show (k * 3 + j) / 3 = k from by omega, show (k * 3 + j) % 3 = j from by omega, getElem!_pos l k hk]
theorem itemS_some {w0 : World} {S : SS} {A : Option Addr} {l : List ItemM} (h : Rd w0 S A (itemS l)) (hk : 0 < l.length) : ∃ a, A = some a :=
 h.some (fun e => by have := itemS_len l; rw [e] at this; simp at this; omega)
theorem item_at {w0 : World} {S : SS} {a : Addr} {l : List ItemM} (h : Rd w0 S (some a) (itemS l)) {k : Nat} (hk : k < l.length) : ∀ (j : Nat) (v : Value), (itemC l[k])[j]? = some v -> Cell w0 S ((a.add (k * 3)).add j) v := by
 intro j v hj
 have hj2 : j < 3 := by have := (List.getElem?_eq_some_iff.1 hj).1; rwa [itemC_len] at this
 rw [addr_add_add]
 exact h.at (by rw [itemS_get hk hj2]; exact hj)
theorem toL_inj {a b : ByteArray} : a.toList = b.toList ↔ a = b := by
 constructor
 ·intro h; rw [ByteArray.toList_eq, ByteArray.toList_eq] at h; cases a; cases b; congr 1; exact Array.toList_inj.1 h
 rintro rfl; rfl
theorem item_st {w0 : World} {S : SS} {P : Program} {n r : Nat} {T : TT} {x v : PV} {u : ItemM} {z : List Value} (hx : x.val T = some (.pointer (some ⟨r, 0, none⟩))) (hv : v.val T = some (itemV u)) (hz : z.length = 3) :
  OW P w0 n (.st 3 x v) T ([(r, .cells z 73 3)] :: S) (fun _ S' => S' = [(r, .cells (itemC u) 73 3)] :: S) := by
 refine (OW.st (k := 0) (c := z) (u := itemV u) hx hv rfl (show (itemV u).cells.size = 3 from rfl) (by omega) rfl).mono ?_
 rintro _ _ rfl
 rw [item_box, setAll (by rw [itemC_len, hz])]
 rfl
theorem indexI_fc {w0 : World} {S : SS} {A : Option Addr} {c : Nat} {l : List Int} {z : Int} {q : Int -> Bool} (hqd : q = fun x => decide (z = x)) (hx : Rd w0 S A (ints l)) (hb : l.length <= 1000000000000) :
  FC Try.prog w0 98 [.slice A l.length c, .int .i64 z] S (fun u S' => u = .int .i64 (gidx q l) /\ S' = S) := by
 refine FC.of Try.known98 (by simp) ?_
 unfold Try.pc98
 simp only [argT]
 refine PW.seqOps (OL.dp rfl (OL.nil (PW.k2 0 1 rfl ?_)))
 refine PW.seq fun K1 hK1 => ?_
 refine PW.seqOps (OL.dp rfl (OL.dp rfl (OL.dp rfl (OL.nil (PW.k4 0 1 7 8 rfl (PW.block (PW.k4 0 1 7 8 rfl ?_)))))))
 refine PW.loopK (I := fun m T S' => ∃ (k : Nat), (k <= l.length /\ m = l.length - k /\ ∀ x ∈ l.take k, q x = false) /\ T = ([(0, .slice A l.length c), (1, .int .i64 z), (7, .int .i64 (l.length : Int)), (8, .int .i64 k)] : TT) /\ S' = S) (m := l.length) ⟨0, ⟨by omega, by omega, by simp⟩, rfl, rfl⟩ ?_
 rintro m _ _ ⟨k, ⟨hk, hm, hall⟩, rfl, rfl⟩
 refine PW.seqOps (OL.dp rfl (OL.nil (PW.k5 0 1 7 8 9 rfl ?_)))
 refine PW.seq fun K2 hK2 => ?_
 refine PW.cond rfl (fun c9 => ?_) (fun c9 => ?_)
 ·try simp only [cvS] at c9
  have hkl : k < l.length := by omega
  obtain ⟨a0, rfl⟩ := ints_some hx (by omega)
  refine PW.skip ?_
  refine hK2 _ _ ?_
  refine PW.k4 0 1 7 8 rfl ?_
  refine PW.seq fun K3 hK3 => ?_
  refine PW.block (PW.seqOps (OL.dp rfl (OL.dp rfl (OL.nil (PW.k5 0 1 5 7 8 rfl (PW.seqOps (OL.dp rfl (OL.dp rfl (OL.dp rfl ?_)))))))))
  refine OL.det trivial (.ixN1 rfl rfl rfl (by omega)) ?_
  refine OL.det trivial (.ld rfl (ints_at hx hkl)) (OL.dp rfl (OL.nil (PW.k6 0 1 5 7 8 16 rfl ?_)))
  refine PW.cond rfl (fun c16 => ?_) (fun c16 => ?_)
  ·skip
   have hqt : q l[k] = true := by rw [hqd]; simpa using c16
   refine PW.seqOps (OL.dp rfl (OL.dp rfl (OL.nil (PW.k1 4 rfl (PW.ret ?_)))))
   change (Exit.ret = Exit.normal ∨ Exit.ret = Exit.ret) /\ ∃ v, resV _ _ = some v /\ _
   exact ⟨.inr rfl, _, rfl, by rw [gidx_take hkl hall hqt], rfl⟩
  skip
  refine PW.skip ?_
  refine hK3 _ _ ?_
  refine PW.k4 0 1 7 8 rfl (PW.ops ?_)
  refine OL.det trivial (.add64 rfl rfl (by omega) (by omega)) ?_
  refine OL.dp rfl (OL.nil ?_)
  repeat rw [inBlk_n]
  try rw [thenK_n]
  refine LoopEnd.mk (T'' := [(0, _), (1, _), (7, _), (8, _)]) (wi rfl) ?_
  refine ⟨l.length - (k + 1), by omega, k + 1, ⟨by omega, rfl, fun x hx => ?_⟩, rfl, rfl⟩
  rw [ltake_snoc hkl] at hx
  rcases List.mem_append.1 hx with h | h
  ·exact hall x h
  rw [List.mem_singleton] at h; subst h; simpa [hqd] using c16
 try simp only [cvS] at c9
 refine PW.exit ?_
 refine hK1 _ _ ?_
 refine PW.keep (T' := []) trivial (PW.seqOps (OL.dp rfl (OL.nil (PW.k1 4 rfl (PW.ret ?_)))))
 change (Exit.ret = Exit.normal ∨ Exit.ret = Exit.ret) /\ ∃ v, resV _ _ = some v /\ _
 exact ⟨.inr rfl, _, rfl, by rw [gidx_no (fun x hx => hall x (by rw [List.take_of_length_le (by omega)]; exact hx))], rfl⟩
theorem containsI_fc {w0 : World} {S : SS} {A : Option Addr} {c : Nat} {l : List Int} {z : Int} (hx : Rd w0 S A (ints l)) (hb : l.length <= 1000000000000) :
  FC Try.prog w0 76 [.slice A l.length c, .int .i64 z] S (fun u S' => u = .bool (l.contains z) /\ S' = S) := by
 refine FC.of Try.known76 (by simp) ?_
 unfold Try.pc76
 simp only [argT]
 refine PW.seqOps (OL.dp rfl (OL.nil (PW.k2 0 1 rfl (PW.seqOps (OL.dp rfl (OL.dp rfl ?_))))))
 refine OL.call trivial rfl (indexI_fc (q := fun x => decide (z = x)) rfl hx hb) ?_
 rintro _ Sx ⟨rfl, hSx⟩
 rw [hSx]
 clear hSx
 refine OL.dp rfl (OL.dp rfl (OL.nil (PW.k1 4 rfl (PW.ret ?_))))
 change (Exit.ret = Exit.normal ∨ Exit.ret = Exit.ret) /\ ∃ v, resV _ _ = some v /\ _
 refine ⟨.inr rfl, _, rfl, congrArg Value.bool ?_, rfl⟩
 rw [Bool.eq_iff_iff, decide_eq_true_eq, iff_of_eq gidx_any, List.any_eq_true, List.contains_iff_mem]
 constructor
 ·rintro ⟨x, hx, h⟩
  obtain rfl := of_decide_eq_true h
  exact hx
 exact fun h => ⟨z, h, by simp⟩
structure ItemRd (w0 : World) (S : SS) (x : ItemM) : Prop where
 rdL : Rd w0 S x.LA (lines x.lines)
 rdM : Rd w0 S x.MA (ints x.mids)
 nL : x.lines.length <= 60000
 nM : x.mids.length <= 60000
theorem ItemRd.mono {w0 : World} {S S' : SS} {x : ItemM} (h : ItemRd w0 S x) (hs : Over S S') : ItemRd w0 S' x := ⟨h.rdL.mono hs, h.rdM.mono hs, h.nL, h.nM⟩
theorem ItemOk.rd {w0 : World} {j : Seg} {x : ItemM} {S : SS} (h : ItemOk w0 j x) (hj : j ∈ S) : ItemRd w0 S x := ⟨rd_mem h.rdL hj, rd_mem h.rdM hj, h.nL, h.nM⟩
theorem strs_snoc {v : Value} {l : List ByteArray} {z : ByteArray} {seg : Seg} (h : SlV 9 1 v (l.length + 1) (strs l ++ [Value.string z]) seg) : SlV 9 1 v (l ++ [z]).length (strs (l ++ [z])) seg := by
 rw [List.length_append]
 unfold strs at h ⊢
 rw [List.map_append]
 exact h
def pli (l : List ItemM) : List ItemP := l.map ItemM.pl
theorem pli_get {l : List ItemM} {k : Nat} (hk : k < l.length) : (pli l)[k]'(by unfold pli; rw [List.length_map]; exact hk) = l[k].pl := List.getElem_map _
theorem textI_fc {w0 : World} {S : SS} {A : Option Addr} {c : Nat} {l : List ItemM} (hx : Rd w0 S A (itemS l)) (hr : ∀ x ∈ l, ItemRd w0 S x) (hb : l.length <= 1000000) :
  FC Try.prog w0 36 [.slice A l.length c] S (fun u S' => ∃ seg, S' = seg :: S /\ SlV 9 1 u (textI (pli l)).length (strs (textI (pli l))) seg /\ (textI (pli l)).length <= 120003000000) := by
 have hpl0 : (pli l).length = l.length := List.length_map _
 have hNL : ∀ x ∈ pli l, x.lines.length <= 60000 := fun x hx => by
  obtain ⟨y, hy, rfl⟩ := List.mem_map.1 hx
  exact (hr y hy).nL
 refine FC.ofD Try.known36 (by simp) ?_
 unfold Try.pc36
 simp only [argT]
 refine PW.seqOps (OL.dp rfl (OL.nil (PW.k1 0 rfl (PW.seqOps (OL.dp rfl (OL.nil (PW.k2 0 3 rfl ?_)))))))
 refine PW.seq fun K1 hK1 => ?_
 refine PW.seqOps (OL.subS (S' := [] :: S) (Sub.nilL (Sub.refl _)) (OL.dp rfl (OL.dp rfl (OL.dp rfl (OL.nil (PW.k4 3 8 9 10 rfl (PW.block (PW.k4 3 8 9 10 rfl ?_))))))))
 refine PW.loopK (I := fun mm T S' => ∃ (k : Nat) (vo : Value) (sgo : Seg), (k <= l.length /\ mm = l.length - k /\ SlV 9 1 vo (textI ((pli l).take k)).length (strs (textI ((pli l).take k))) sgo) /\ T = ([(3, vo), (8, .slice A l.length c), (9, .int .i64 (l.length : Int)), (10, .int .i64 k)] : TT) /\ S' = sgo :: S) (m := l.length) ⟨0, _, [], ⟨by omega, by omega, by simp [textI]; exact SlV.nil 9 1⟩, rfl, rfl⟩ ?_
 rintro mm _ _ ⟨k, vo, sgo, ⟨hk, hmm, hso⟩, rfl, rfl⟩
 refine PW.seqOps (OL.dp rfl (OL.nil (PW.k5 3 8 9 10 11 rfl ?_)))
 refine PW.seq fun K2 hK2 => ?_
 refine PW.cond rfl (fun c11 => ?_) (fun c11 => ?_)
 ·try simp only [cvS] at c11
  have hkl : k < l.length := by omega
  obtain ⟨a0, rfl⟩ := itemS_some hx (by omega)
  have hx2 := hx
  have hrk := hr _ (List.getElem_mem hkl)
  have hnL := hrk.nL
  have hnM := hrk.nM
  have htl := textI_len hNL k (by omega)
  refine PW.skip ?_
  refine hK2 _ _ ?_
  refine PW.k4 3 8 9 10 rfl ?_
  refine PW.seq fun K3 hK3 => ?_
  refine PW.block (PW.seqOps (OL.det trivial (.ixN rfl rfl rfl hkl) (OL.det trivial (.ldA rfl (itemC_len _) (item_at hx2.cons hkl)) (OL.cons trivial OW.al ?_))))
  rintro _ _ ⟨r5, rfl, rfl⟩
  refine OL.cons trivial (item_st rfl rfl rfl) ?_
  rintro _ _ rfl
  change OL _ _ _ _ _ ([(r5, .cells (itemC l[k]) 73 3)] :: sgo :: S) _
  refine OL.nil (PW.k5 3 5 8 9 10 rfl ?_)
  refine PW.seq fun K4 hK4 => ?_
  refine PW.seqOps (OL.dp rfl (OL.det trivial (.ld rfl (own_at (j := 1) (c := itemC l[k]) (E := 73) (tot := 3) zM0 rfl)) (OL.nil (PW.k6 3 5 8 9 10 15 rfl ?_))))
  refine PW.cond rfl (fun c15 => ?_) (fun c15 => ?_)
  ·skip
   refine PW.ops (OL.dp rfl ?_)
   apply OL.app1 (k := 1)
   ·rfl
   ·rfl
   ·rfl
   ·rfl
   ·rfl
   ·rfl
   ·exact hso
   ·rfl
   ·omega
   ·unfold maxLen; omega
   intro v18 seg18 hsl18
   obtain ⟨pre, hpre⟩ : ∃ z, z = textI ((pli l).take k) ++ (if l[k].block then [beginB] else []) := ⟨_, rfl⟩
   have hp : SlV 9 1 v18 pre.length (strs pre) seg18 := by
    rw [hpre, if_pos c15]
    exact strs_snoc (z := beginB) hsl18
   have hpl : pre.length <= 120003 * k + 1 := by rw [hpre, List.length_append]; have := textI_len hNL k (by rw [hpl0]; omega); split <;> simp <;> omega
   refine OL.dp rfl (OL.nil ?_)
   refine hK4 _ _ ?_
   refine PW.k5 3 5 8 9 10 rfl ?_
   refine PW.seq fun K5 hK5 => ?_
   refine PW.seqOps (OL.dp rfl (OL.det trivial (.ld rfl (own_at (j := 0) (c := itemC l[k]) (E := 73) (tot := 3) zM0 rfl)) (OL.dp rfl (OL.dp rfl (OL.nil (PW.k8 3 5 8 9 10 20 21 22 rfl (PW.block (PW.k8 3 5 8 9 10 20 21 22 rfl ?_))))))))
   refine PW.loopK (I := fun mi T S' => ∃ (i : Nat) (vi : Value) (sgi : Seg), (i <= l[k].lines.length /\ mi = l[k].lines.length - i /\ SlV 9 1 vi (pre ++ rowsT l[k].pl i).length (strs (pre ++ rowsT l[k].pl i)) sgi) /\ T = ([(3, vi), (5, .pointer (some ⟨r5, 0, none⟩)), (8, .slice (some a0) l.length c), (9, .int .i64 (l.length : Int)), (10, .int .i64 k), (20, .slice l[k].LA l[k].lines.length l[k].lc), (21, .int .i64 (l[k].lines.length : Int)), (22, .int .i64 i)] : TT) /\ S' = [(r5, .cells (itemC l[k]) 73 3)] :: sgi :: S) (m := l[k].lines.length) ⟨0, _, _, ⟨by omega, by omega, by simpa [rowsT] using hp⟩, rfl, rfl⟩ ?_
   rintro mi _ _ ⟨i, vi, sgi, ⟨hi, hmi, hsi⟩, rfl, rfl⟩
   refine PW.seqOps (OL.dp rfl (OL.nil (PW.k9 3 5 8 9 10 20 21 22 23 rfl ?_)))
   refine PW.seq fun K6 hK6 => ?_
   refine PW.cond rfl (fun c23 => ?_) (fun c23 => ?_)
   ·try simp only [cvS] at c23
    have hil : i < l[k].lines.length := by omega
    obtain ⟨b0, hb0⟩ := lines_some hrk.rdL (by omega)
    have hrl2 := hrk.rdL
    rw [hb0] at hrl2 ⊢
    have hrs := rowsT_succ l[k].pl i
    have hge : l[k].pl.lines[i]! = l[k].lines[i] := getElem!_pos l[k].lines i hil
    have hrl := rowsT_len l[k].pl i
    have hpa : (pre ++ rowsT l[k].pl i).length = pre.length + (rowsT l[k].pl i).length := List.length_append
    refine PW.skip ?_
    refine hK6 _ _ ?_
    refine PW.k8 3 5 8 9 10 20 21 22 rfl ?_
    refine PW.seq fun K7 hK7 => ?_
    refine PW.block (PW.seqOps (OL.dp rfl (OL.det trivial (.ixN rfl rfl rfl hil) (OL.det trivial (.ldA rfl (lineC_len _) (line_at hrl2.cons.cons hil)) (OL.cons trivial OW.al ?_)))))
    rintro _ _ ⟨r7, rfl, rfl⟩
    refine OL.dp rfl (OL.cons trivial (line_st rfl rfl rfl) ?_)
    rintro _ _ rfl
    change OL _ _ _ _ _ (lseg r7 l[k].lines[i] :: [(r5, .cells (itemC l[k]) 73 3)] :: sgi :: S) _
    refine OL.nil (PW.k10 3 5 6 7 8 9 10 20 21 22 rfl ?_)
    refine PW.seq fun K8 hK8 => ?_
    refine PW.seqOps (OL.dp rfl (OL.det trivial (.ld rfl (own_at (j := 1) (c := itemC l[k]) (E := 73) (tot := 3) zM1 rfl)) ?_))
    refine OL.bool trivial (Yields.pure rfl) (fun g29 => ?_) (fun g29 => ?_)
    ·try simp only [cvS] at g29
     refine OL.det rfl (.pure rfl) (OL.det rfl (.ld rfl (own_at (j := 2) (c := itemC l[k]) (E := 73) (tot := 3) zM1 rfl)) (OL.det rfl (.pure rfl) ?_))
     refine OL.call rfl rfl (containsI_fc (hrk.rdM.cons.cons.cons) (by omega)) ?_
     rintro _ Sx ⟨rfl, hSx⟩
     rw [hSx]
     clear hSx
     refine OL.dp rfl (OL.nil (PW.k10 3 5 7 8 9 10 20 21 22 34 rfl ?_))
     refine PW.cond rfl (fun c34 => ?_) (fun c34 => ?_)
     ·skip
      refine PW.ops (OL.dp rfl ?_)
      apply OL.app1 (k := 2)
      ·rfl
      ·rfl
      ·rfl
      ·rfl
      ·rfl
      ·rfl
      ·exact hsi
      ·rfl
      ·omega
      ·unfold maxLen; omega
      intro v37 seg37 hsl37
      have hsi2 := strs_snoc (l := pre ++ rowsT l[k].pl i) (z := middleB) hsl37
      refine OL.dp rfl (OL.nil ?_)
      refine hK8 _ _ ?_
      refine PW.k9 3 5 7 8 9 10 20 21 22 rfl (PW.ops (OL.dp rfl (OL.dp rfl (OL.det trivial (.ld rfl (lcell_text (x := l[k].lines[i]) (E := 43) (tot := 35) zM0)) ?_))))
      apply OL.app1 (k := 2)
      ·rfl
      ·rfl
      ·rfl
      ·rfl
      ·rfl
      ·rfl
      ·exact (by first | exact hsi2 | exact hsi)
      ·rfl
      ·(first | omega | (simp only [List.length_append, List.length_cons, List.length_nil] at *; omega))
      ·unfold maxLen; (first | omega | (simp only [List.length_append, List.length_cons, List.length_nil] at *; omega))
      intro v42 seg42 hsl42
      refine OL.dp rfl (OL.nil ?_)
      refine hK7 _ _ ?_
      refine PW.k8 3 5 8 9 10 20 21 22 rfl (PW.ops ?_)
      refine OL.det trivial (.add64 rfl rfl (by omega) (by omega)) ?_
      refine OL.dp rfl (OL.nil ?_)
      repeat rw [inBlk_n]
      try rw [thenK_n]
      refine LoopEnd.mkS (Sub.drop (Sub.refl _)) (T'' := [(3, _), (5, _), (8, _), (9, _), (10, _), (20, _), (21, _), (22, _)]) (wi rfl) ?_
      rw [hb0]
      have he : pre ++ rowsT l[k].pl (i + 1) = pre ++ rowsT l[k].pl i ++ [middleB] ++ [l[k].lines[i].text] := by
       rw [hrs, hge, if_pos (by show (l[k].block && l[k].mids.contains (i : Int)) = true; rw [g29, c34]; rfl)]
       simp only [List.append_assoc]
      have := strs_snoc (z := l[k].lines[i].text) hsl42
      exact ⟨l[k].lines.length - (i + 1), by omega, i + 1, _, seg42, ⟨by omega, rfl, by rw [he]; exact this⟩, rfl, rfl⟩
     skip
     refine PW.skip ?_
     refine hK8 _ _ ?_
     refine PW.k9 3 5 7 8 9 10 20 21 22 rfl (PW.ops (OL.dp rfl (OL.dp rfl (OL.det trivial (.ld rfl (lcell_text (x := l[k].lines[i]) (E := 43) (tot := 35) zM0)) ?_))))
     apply OL.app1 (k := 2)
     ·rfl
     ·rfl
     ·rfl
     ·rfl
     ·rfl
     ·rfl
     ·exact (by first | exact hsi2 | exact hsi)
     ·rfl
     ·(first | omega | (simp only [List.length_append, List.length_cons, List.length_nil] at *; omega))
     ·unfold maxLen; (first | omega | (simp only [List.length_append, List.length_cons, List.length_nil] at *; omega))
     intro v42 seg42 hsl42
     refine OL.dp rfl (OL.nil ?_)
     refine hK7 _ _ ?_
     refine PW.k8 3 5 8 9 10 20 21 22 rfl (PW.ops ?_)
     refine OL.det trivial (.add64 rfl rfl (by omega) (by omega)) ?_
     refine OL.dp rfl (OL.nil ?_)
     repeat rw [inBlk_n]
     try rw [thenK_n]
     refine LoopEnd.mkS (Sub.drop (Sub.refl _)) (T'' := [(3, _), (5, _), (8, _), (9, _), (10, _), (20, _), (21, _), (22, _)]) (wi rfl) ?_
     rw [hb0]
     have he : pre ++ rowsT l[k].pl (i + 1) = pre ++ rowsT l[k].pl i ++ [l[k].lines[i].text] := by
      rw [hrs, hge, if_neg (by show ¬ (l[k].block && l[k].mids.contains (i : Int)) = true; rw [g29, c34]; simp)]
      simp only [List.nil_append, List.append_assoc]
     have := strs_snoc (z := l[k].lines[i].text) hsl42
     exact ⟨l[k].lines.length - (i + 1), by omega, i + 1, _, seg42, ⟨by omega, rfl, by rw [he]; exact this⟩, rfl, rfl⟩
    try simp only [cvS] at g29
    refine OL.off rfl rfl (OL.off rfl rfl (OL.off rfl rfl (OL.off rfl rfl (OL.dp rfl (OL.nil (PW.k10 3 5 7 8 9 10 20 21 22 34 rfl (PW.ite (b := false) rfl ?_)))))))
    rw [if_neg Bool.false_ne_true]
    refine PW.skip ?_
    refine hK8 _ _ ?_
    refine PW.k9 3 5 7 8 9 10 20 21 22 rfl (PW.ops (OL.dp rfl (OL.dp rfl (OL.det trivial (.ld rfl (lcell_text (x := l[k].lines[i]) (E := 43) (tot := 35) zM0)) ?_))))
    apply OL.app1 (k := 2)
    ·rfl
    ·rfl
    ·rfl
    ·rfl
    ·rfl
    ·rfl
    ·exact (by first | exact hsi2 | exact hsi)
    ·rfl
    ·(first | omega | (simp only [List.length_append, List.length_cons, List.length_nil] at *; omega))
    ·unfold maxLen; (first | omega | (simp only [List.length_append, List.length_cons, List.length_nil] at *; omega))
    intro v42 seg42 hsl42
    refine OL.dp rfl (OL.nil ?_)
    refine hK7 _ _ ?_
    refine PW.k8 3 5 8 9 10 20 21 22 rfl (PW.ops ?_)
    refine OL.det trivial (.add64 rfl rfl (by omega) (by omega)) ?_
    refine OL.dp rfl (OL.nil ?_)
    repeat rw [inBlk_n]
    try rw [thenK_n]
    refine LoopEnd.mkS (Sub.drop (Sub.refl _)) (T'' := [(3, _), (5, _), (8, _), (9, _), (10, _), (20, _), (21, _), (22, _)]) (wi rfl) ?_
    rw [hb0]
    have he : pre ++ rowsT l[k].pl (i + 1) = pre ++ rowsT l[k].pl i ++ [l[k].lines[i].text] := by
     rw [hrs, hge, if_neg (by show ¬ (l[k].block && l[k].mids.contains (i : Int)) = true; rw [g29]; simp)]
     simp only [List.nil_append, List.append_assoc]
    have := strs_snoc (z := l[k].lines[i].text) hsl42
    exact ⟨l[k].lines.length - (i + 1), by omega, i + 1, _, seg42, ⟨by omega, rfl, by rw [he]; exact this⟩, rfl, rfl⟩
   try simp only [cvS] at c23
   have hie : i = l[k].lines.length := by omega
   have hpg := pli_get hkl
   have hts := textI_snoc (l := pli l) (k := k) (by omega)
   rw [hpg] at hts
   unfold oneT at hts
   have hts : textI ((pli l).take (k + 1)) = textI ((pli l).take k) ++ ((if l[k].block = true then [beginB] else []) ++ rowsT l[k].pl l[k].lines.length ++ (if l[k].block = true then [closeB] else [])) := hts
   have hrl := rowsT_len l[k].pl i
   have hpa : (pre ++ rowsT l[k].pl i).length = pre.length + (rowsT l[k].pl i).length := List.length_append
   refine PW.exit ?_
   refine hK5 _ _ ?_
   refine PW.k5 3 5 8 9 10 rfl (PW.seqOps (OL.dp rfl (OL.det trivial (.ld rfl (own_at (j := 1) (c := itemC l[k]) (E := 73) (tot := 3) zM0 rfl)) (OL.nil (PW.k5 3 8 9 10 45 rfl ?_)))))
   refine PW.cond rfl (fun c45 => ?_) (fun c45 => ?_)
   ·skip
    refine PW.ops (OL.dp rfl ?_)
    apply OL.app1 (k := 1)
    ·rfl
    ·rfl
    ·rfl
    ·rfl
    ·rfl
    ·rfl
    ·exact hsi
    ·rfl
    ·omega
    ·unfold maxLen; omega
    intro v48 seg48 hsl48
    refine OL.dp rfl (OL.nil ?_)
    refine hK3 _ _ ?_
    refine PW.k4 3 8 9 10 rfl (PW.ops ?_)
    refine OL.det trivial (.add64 rfl rfl (by omega) (by omega)) ?_
    refine OL.dp rfl (OL.nil ?_)
    repeat rw [inBlk_n]
    try rw [thenK_n]
    refine LoopEnd.mkS (Sub.drop (Sub.refl _)) (T'' := [(3, _), (8, _), (9, _), (10, _)]) (wi rfl) ?_
    have he : textI ((pli l).take (k + 1)) = pre ++ rowsT l[k].pl i ++ [closeB] := by
     rw [hts, hpre, hie]
     simp only [c45, if_true, List.append_assoc]
    have := strs_snoc (z := closeB) hsl48
    exact ⟨l.length - (k + 1), by omega, k + 1, _, seg48, ⟨by omega, rfl, by rw [he]; exact this⟩, rfl, rfl⟩
   skip
   refine PW.skip ?_
   refine hK3 _ _ ?_
   refine PW.k4 3 8 9 10 rfl (PW.ops ?_)
   refine OL.det trivial (.add64 rfl rfl (by omega) (by omega)) ?_
   refine OL.dp rfl (OL.nil ?_)
   repeat rw [inBlk_n]
   try rw [thenK_n]
   refine LoopEnd.mkS (Sub.drop (Sub.refl _)) (T'' := [(3, _), (8, _), (9, _), (10, _)]) (wi rfl) ?_
   have he : textI ((pli l).take (k + 1)) = pre ++ rowsT l[k].pl i := by
    rw [hts, hpre, hie]
    simp only [c45, Bool.false_eq_true, if_false, List.append_nil, List.nil_append, List.append_assoc]
   exact ⟨l.length - (k + 1), by omega, k + 1, vi, sgi, ⟨by omega, rfl, by rw [he]; exact hsi⟩, rfl, rfl⟩
  skip
  obtain ⟨pre, hpre⟩ : ∃ z, z = textI ((pli l).take k) ++ (if l[k].block then [beginB] else []) := ⟨_, rfl⟩
  have hp : SlV 9 1 vo pre.length (strs pre) sgo := by
   rw [hpre, if_neg (by rw [c15]; simp), List.append_nil]
   exact hso
  have hpl : pre.length <= 120003 * k + 1 := by rw [hpre, List.length_append]; have := textI_len hNL k (by rw [hpl0]; omega); split <;> simp <;> omega
  refine PW.skip ?_
  refine hK4 _ _ ?_
  refine PW.k5 3 5 8 9 10 rfl ?_
  refine PW.seq fun K9 hK9 => ?_
  refine PW.seqOps (OL.dp rfl (OL.det trivial (.ld rfl (own_at (j := 0) (c := itemC l[k]) (E := 73) (tot := 3) zM0 rfl)) (OL.dp rfl (OL.dp rfl (OL.nil (PW.k8 3 5 8 9 10 20 21 22 rfl (PW.block (PW.k8 3 5 8 9 10 20 21 22 rfl ?_))))))))
  refine PW.loopK (I := fun mi T S' => ∃ (i : Nat) (vi : Value) (sgi : Seg), (i <= l[k].lines.length /\ mi = l[k].lines.length - i /\ SlV 9 1 vi (pre ++ rowsT l[k].pl i).length (strs (pre ++ rowsT l[k].pl i)) sgi) /\ T = ([(3, vi), (5, .pointer (some ⟨r5, 0, none⟩)), (8, .slice (some a0) l.length c), (9, .int .i64 (l.length : Int)), (10, .int .i64 k), (20, .slice l[k].LA l[k].lines.length l[k].lc), (21, .int .i64 (l[k].lines.length : Int)), (22, .int .i64 i)] : TT) /\ S' = [(r5, .cells (itemC l[k]) 73 3)] :: sgi :: S) (m := l[k].lines.length) ⟨0, _, _, ⟨by omega, by omega, by simpa [rowsT] using hp⟩, rfl, rfl⟩ ?_
  rintro mi _ _ ⟨i, vi, sgi, ⟨hi, hmi, hsi⟩, rfl, rfl⟩
  refine PW.seqOps (OL.dp rfl (OL.nil (PW.k9 3 5 8 9 10 20 21 22 23 rfl ?_)))
  refine PW.seq fun K10 hK10 => ?_
  refine PW.cond rfl (fun c23 => ?_) (fun c23 => ?_)
  ·try simp only [cvS] at c23
   have hil : i < l[k].lines.length := by omega
   obtain ⟨b0, hb0⟩ := lines_some hrk.rdL (by omega)
   have hrl2 := hrk.rdL
   rw [hb0] at hrl2 ⊢
   have hrs := rowsT_succ l[k].pl i
   have hge : l[k].pl.lines[i]! = l[k].lines[i] := getElem!_pos l[k].lines i hil
   have hrl := rowsT_len l[k].pl i
   have hpa : (pre ++ rowsT l[k].pl i).length = pre.length + (rowsT l[k].pl i).length := List.length_append
   refine PW.skip ?_
   refine hK10 _ _ ?_
   refine PW.k8 3 5 8 9 10 20 21 22 rfl ?_
   refine PW.seq fun K11 hK11 => ?_
   refine PW.block (PW.seqOps (OL.dp rfl (OL.det trivial (.ixN rfl rfl rfl hil) (OL.det trivial (.ldA rfl (lineC_len _) (line_at hrl2.cons.cons hil)) (OL.cons trivial OW.al ?_)))))
   rintro _ _ ⟨r7, rfl, rfl⟩
   refine OL.dp rfl (OL.cons trivial (line_st rfl rfl rfl) ?_)
   rintro _ _ rfl
   change OL _ _ _ _ _ (lseg r7 l[k].lines[i] :: [(r5, .cells (itemC l[k]) 73 3)] :: sgi :: S) _
   refine OL.nil (PW.k10 3 5 6 7 8 9 10 20 21 22 rfl ?_)
   refine PW.seq fun K12 hK12 => ?_
   refine PW.seqOps (OL.dp rfl (OL.det trivial (.ld rfl (own_at (j := 1) (c := itemC l[k]) (E := 73) (tot := 3) zM1 rfl)) ?_))
   refine OL.bool trivial (Yields.pure rfl) (fun g29 => ?_) (fun g29 => ?_)
   ·try simp only [cvS] at g29
    refine OL.det rfl (.pure rfl) (OL.det rfl (.ld rfl (own_at (j := 2) (c := itemC l[k]) (E := 73) (tot := 3) zM1 rfl)) (OL.det rfl (.pure rfl) ?_))
    refine OL.call rfl rfl (containsI_fc (hrk.rdM.cons.cons.cons) (by omega)) ?_
    rintro _ Sx ⟨rfl, hSx⟩
    rw [hSx]
    clear hSx
    refine OL.dp rfl (OL.nil (PW.k10 3 5 7 8 9 10 20 21 22 34 rfl ?_))
    refine PW.cond rfl (fun c34 => ?_) (fun c34 => ?_)
    ·skip
     refine PW.ops (OL.dp rfl ?_)
     apply OL.app1 (k := 2)
     ·rfl
     ·rfl
     ·rfl
     ·rfl
     ·rfl
     ·rfl
     ·exact hsi
     ·rfl
     ·omega
     ·unfold maxLen; omega
     intro v37 seg37 hsl37
     have hsi2 := strs_snoc (l := pre ++ rowsT l[k].pl i) (z := middleB) hsl37
     refine OL.dp rfl (OL.nil ?_)
     refine hK12 _ _ ?_
     refine PW.k9 3 5 7 8 9 10 20 21 22 rfl (PW.ops (OL.dp rfl (OL.dp rfl (OL.det trivial (.ld rfl (lcell_text (x := l[k].lines[i]) (E := 43) (tot := 35) zM0)) ?_))))
     apply OL.app1 (k := 2)
     ·rfl
     ·rfl
     ·rfl
     ·rfl
     ·rfl
     ·rfl
     ·exact (by first | exact hsi2 | exact hsi)
     ·rfl
     ·(first | omega | (simp only [List.length_append, List.length_cons, List.length_nil] at *; omega))
     ·unfold maxLen; (first | omega | (simp only [List.length_append, List.length_cons, List.length_nil] at *; omega))
     intro v42 seg42 hsl42
     refine OL.dp rfl (OL.nil ?_)
     refine hK11 _ _ ?_
     refine PW.k8 3 5 8 9 10 20 21 22 rfl (PW.ops ?_)
     refine OL.det trivial (.add64 rfl rfl (by omega) (by omega)) ?_
     refine OL.dp rfl (OL.nil ?_)
     repeat rw [inBlk_n]
     try rw [thenK_n]
     refine LoopEnd.mkS (Sub.drop (Sub.refl _)) (T'' := [(3, _), (5, _), (8, _), (9, _), (10, _), (20, _), (21, _), (22, _)]) (wi rfl) ?_
     rw [hb0]
     have he : pre ++ rowsT l[k].pl (i + 1) = pre ++ rowsT l[k].pl i ++ [middleB] ++ [l[k].lines[i].text] := by
      rw [hrs, hge, if_pos (by show (l[k].block && l[k].mids.contains (i : Int)) = true; rw [g29, c34]; rfl)]
      simp only [List.append_assoc]
     have := strs_snoc (z := l[k].lines[i].text) hsl42
     exact ⟨l[k].lines.length - (i + 1), by omega, i + 1, _, seg42, ⟨by omega, rfl, by rw [he]; exact this⟩, rfl, rfl⟩
    skip
    refine PW.skip ?_
    refine hK12 _ _ ?_
    refine PW.k9 3 5 7 8 9 10 20 21 22 rfl (PW.ops (OL.dp rfl (OL.dp rfl (OL.det trivial (.ld rfl (lcell_text (x := l[k].lines[i]) (E := 43) (tot := 35) zM0)) ?_))))
    apply OL.app1 (k := 2)
    ·rfl
    ·rfl
    ·rfl
    ·rfl
    ·rfl
    ·rfl
    ·exact (by first | exact hsi2 | exact hsi)
    ·rfl
    ·(first | omega | (simp only [List.length_append, List.length_cons, List.length_nil] at *; omega))
    ·unfold maxLen; (first | omega | (simp only [List.length_append, List.length_cons, List.length_nil] at *; omega))
    intro v42 seg42 hsl42
    refine OL.dp rfl (OL.nil ?_)
    refine hK11 _ _ ?_
    refine PW.k8 3 5 8 9 10 20 21 22 rfl (PW.ops ?_)
    refine OL.det trivial (.add64 rfl rfl (by omega) (by omega)) ?_
    refine OL.dp rfl (OL.nil ?_)
    repeat rw [inBlk_n]
    try rw [thenK_n]
    refine LoopEnd.mkS (Sub.drop (Sub.refl _)) (T'' := [(3, _), (5, _), (8, _), (9, _), (10, _), (20, _), (21, _), (22, _)]) (wi rfl) ?_
    rw [hb0]
    have he : pre ++ rowsT l[k].pl (i + 1) = pre ++ rowsT l[k].pl i ++ [l[k].lines[i].text] := by
     rw [hrs, hge, if_neg (by show ¬ (l[k].block && l[k].mids.contains (i : Int)) = true; rw [g29, c34]; simp)]
     simp only [List.nil_append, List.append_assoc]
    have := strs_snoc (z := l[k].lines[i].text) hsl42
    exact ⟨l[k].lines.length - (i + 1), by omega, i + 1, _, seg42, ⟨by omega, rfl, by rw [he]; exact this⟩, rfl, rfl⟩
   try simp only [cvS] at g29
   refine OL.off rfl rfl (OL.off rfl rfl (OL.off rfl rfl (OL.off rfl rfl (OL.dp rfl (OL.nil (PW.k10 3 5 7 8 9 10 20 21 22 34 rfl (PW.ite (b := false) rfl ?_)))))))
   rw [if_neg Bool.false_ne_true]
   refine PW.skip ?_
   refine hK12 _ _ ?_
   refine PW.k9 3 5 7 8 9 10 20 21 22 rfl (PW.ops (OL.dp rfl (OL.dp rfl (OL.det trivial (.ld rfl (lcell_text (x := l[k].lines[i]) (E := 43) (tot := 35) zM0)) ?_))))
   apply OL.app1 (k := 2)
   ·rfl
   ·rfl
   ·rfl
   ·rfl
   ·rfl
   ·rfl
   ·exact (by first | exact hsi2 | exact hsi)
   ·rfl
   ·(first | omega | (simp only [List.length_append, List.length_cons, List.length_nil] at *; omega))
   ·unfold maxLen; (first | omega | (simp only [List.length_append, List.length_cons, List.length_nil] at *; omega))
   intro v42 seg42 hsl42
   refine OL.dp rfl (OL.nil ?_)
   refine hK11 _ _ ?_
   refine PW.k8 3 5 8 9 10 20 21 22 rfl (PW.ops ?_)
   refine OL.det trivial (.add64 rfl rfl (by omega) (by omega)) ?_
   refine OL.dp rfl (OL.nil ?_)
   repeat rw [inBlk_n]
   try rw [thenK_n]
   refine LoopEnd.mkS (Sub.drop (Sub.refl _)) (T'' := [(3, _), (5, _), (8, _), (9, _), (10, _), (20, _), (21, _), (22, _)]) (wi rfl) ?_
   rw [hb0]
   have he : pre ++ rowsT l[k].pl (i + 1) = pre ++ rowsT l[k].pl i ++ [l[k].lines[i].text] := by
    rw [hrs, hge, if_neg (by show ¬ (l[k].block && l[k].mids.contains (i : Int)) = true; rw [g29]; simp)]
    simp only [List.nil_append, List.append_assoc]
   have := strs_snoc (z := l[k].lines[i].text) hsl42
   exact ⟨l[k].lines.length - (i + 1), by omega, i + 1, _, seg42, ⟨by omega, rfl, by rw [he]; exact this⟩, rfl, rfl⟩
  try simp only [cvS] at c23
  have hie : i = l[k].lines.length := by omega
  have hpg := pli_get hkl
  have hts := textI_snoc (l := pli l) (k := k) (by omega)
  rw [hpg] at hts
  unfold oneT at hts
  have hts : textI ((pli l).take (k + 1)) = textI ((pli l).take k) ++ ((if l[k].block = true then [beginB] else []) ++ rowsT l[k].pl l[k].lines.length ++ (if l[k].block = true then [closeB] else [])) := hts
  have hrl := rowsT_len l[k].pl i
  have hpa : (pre ++ rowsT l[k].pl i).length = pre.length + (rowsT l[k].pl i).length := List.length_append
  refine PW.exit ?_
  refine hK9 _ _ ?_
  refine PW.k5 3 5 8 9 10 rfl (PW.seqOps (OL.dp rfl (OL.det trivial (.ld rfl (own_at (j := 1) (c := itemC l[k]) (E := 73) (tot := 3) zM0 rfl)) (OL.nil (PW.k5 3 8 9 10 45 rfl ?_)))))
  refine PW.cond rfl (fun c45 => ?_) (fun c45 => ?_)
  ·skip
   refine PW.ops (OL.dp rfl ?_)
   apply OL.app1 (k := 1)
   ·rfl
   ·rfl
   ·rfl
   ·rfl
   ·rfl
   ·rfl
   ·exact hsi
   ·rfl
   ·omega
   ·unfold maxLen; omega
   intro v48 seg48 hsl48
   refine OL.dp rfl (OL.nil ?_)
   refine hK3 _ _ ?_
   refine PW.k4 3 8 9 10 rfl (PW.ops ?_)
   refine OL.det trivial (.add64 rfl rfl (by omega) (by omega)) ?_
   refine OL.dp rfl (OL.nil ?_)
   repeat rw [inBlk_n]
   try rw [thenK_n]
   refine LoopEnd.mkS (Sub.drop (Sub.refl _)) (T'' := [(3, _), (8, _), (9, _), (10, _)]) (wi rfl) ?_
   have he : textI ((pli l).take (k + 1)) = pre ++ rowsT l[k].pl i ++ [closeB] := by
    rw [hts, hpre, hie]
    simp only [c45, if_true, List.append_assoc]
   have := strs_snoc (z := closeB) hsl48
   exact ⟨l.length - (k + 1), by omega, k + 1, _, seg48, ⟨by omega, rfl, by rw [he]; exact this⟩, rfl, rfl⟩
  skip
  refine PW.skip ?_
  refine hK3 _ _ ?_
  refine PW.k4 3 8 9 10 rfl (PW.ops ?_)
  refine OL.det trivial (.add64 rfl rfl (by omega) (by omega)) ?_
  refine OL.dp rfl (OL.nil ?_)
  repeat rw [inBlk_n]
  try rw [thenK_n]
  refine LoopEnd.mkS (Sub.drop (Sub.refl _)) (T'' := [(3, _), (8, _), (9, _), (10, _)]) (wi rfl) ?_
  have he : textI ((pli l).take (k + 1)) = pre ++ rowsT l[k].pl i := by
   rw [hts, hpre, hie]
   simp only [c45, Bool.false_eq_true, if_false, List.append_nil, List.nil_append, List.append_assoc]
  exact ⟨l.length - (k + 1), by omega, k + 1, vi, sgi, ⟨by omega, rfl, by rw [he]; exact hsi⟩, rfl, rfl⟩
 try simp only [cvS] at c11
 refine PW.exit ?_
 refine hK1 _ _ ?_
 refine PW.k1 3 rfl (PW.seqOps (OL.dp rfl (OL.dp rfl (OL.nil (PW.k1 2 rfl (PW.ret ?_))))))
 change (Exit.ret = Exit.normal ∨ Exit.ret = Exit.ret) /\ ∃ v, resV _ _ = some v /\ _
 have hke : k = (pli l).length := by omega
 rw [hke, List.take_length] at hso
 have := textI_len hNL (pli l).length (Nat.le_refl _)
 rw [List.take_length] at this
 exact ⟨.inr rfl, _, rfl, _, Sub.refl _, sgo, rfl, hso, by omega⟩
end Go.Proofs.Gr







namespace Go.SL
open Go Go.RowKit
variable {P : Program} {w0 : World} {n : Nat} {T : TT} {S : SS}
theorem PW.seqS {x y : PC} {Q : Exit -> TT -> SS -> Prop} (T0 : TT) (S0 : SS) (tail : PW P w0 n y T0 S0 Q)
  (h : ∀ K : TT -> SS -> Prop, (∀ T' S', Within T0 T' -> S' = S0 -> K T' S') -> PW P w0 n x T S (thenK K Q)) : PW P w0 n (.seq x y) T S Q :=
 PW.seq fun K hK => h K fun T' S' hW hS => hK T' S' (PW.keep hW (hS ▸ tail))
end Go.SL



namespace Go.Proofs.Gr
open Go.SL Go.RowKit Go.Proofs Go.GP
section
variable (bf : Vtx -> Vtx -> Bool)
def ordF (a b : Vtx) : Bool := bf a b || bf b a
def midsF (l : List LineP) (k : Nat) : List Int := ((List.range k).filter fun i => decide (0 < i) && !ordF bf l[i - 1]!.v l[i]!.v).map Int.ofNat
def blockF (l : List LineP) : ItemP := ⟨l, true, midsF bf l l.length⟩
def solidF (l : List LineP) (x : LineP) : Bool := l.all fun y => decide (x.v = y.v) || ordF bf x.v y.v
def shutF (open_ : List LineP) : List ItemP := if open_ = [] then [] else [blockF bf open_]
def stepF (l : List LineP) (st : List ItemP × List LineP) (x : LineP) : List ItemP × List LineP :=
 if solidF bf l x then (st.1 ++ shutF bf st.2 ++ [⟨[x], false, []⟩], []) else (st.1, st.2 ++ [x])
def foldF (l : List LineP) (k : Nat) : List ItemP × List LineP := (l.take k).foldl (stepF bf l) ([], [])
def itemsF (l : List LineP) : List ItemP := (foldF bf l l.length).1 ++ shutF bf (foldF bf l l.length).2
end
theorem itemsF_eq (ps : List PartP) (l : List LineP) : itemsL ps l = itemsF (befP ps) l := by
 have h1 : stepI ps l = stepF (befP ps) l := by
  funext st x
  unfold stepI stepF shut shutF blockP blockF midsK midsF solidP solidF ordP ordF
  rfl
 unfold itemsL itemsF foldI foldF
 rw [h1]
 unfold shut shutF blockP blockF midsK midsF ordP ordF
 rfl
theorem befP_eq {ps : List PartP} (hc : ((allV ps).all fun a => closedB (allE ps) a) = true) : befP ps = befC ps := by
 funext a b
 rw [Bool.eq_iff_iff, befP_iff]
 by_cases ha : a ∈ allV ps
 ·exact (befC_iff (List.all_eq_true.1 hc a ha)).symm
 by_cases hr : a = rootV
 ·unfold Bef befC
  simp only [Bool.and_eq_true, hasC_iff, Bool.or_eq_true, decide_eq_true_eq, Bool.not_eq_true', decide_eq_false_iff_not, and_assoc, ne_eq, hr, true_or]
 have h1 : ¬ Bef ps a b := by
  rintro ⟨h, _, _, h2, _⟩
  rcases h with h | h | h
  ·exact hr h
  ·exact h2 h
  exact ha h
 have h2 : befC ps a b = false := by
  unfold befC hasC
  by_cases he : a = endV
  ·simp [he]
  simp [ha, hr, he]
 simp [h1, h2]
theorem items_comp {ps : List PartP} (hc : ((allV ps).all fun a => closedB (allE ps) a) = true) : itemsP ps = itemsF (befC ps) (live (linesP ps)) := by
 unfold itemsP
 rw [itemsF_eq, befP_eq hc]
end Go.Proofs.Gr

namespace Go.Proofs.Gr
open Go.SL Go.RowKit Go.Proofs Go.GP
set_option maxHeartbeats 1000000
def mkP (b : UInt8) (up down : Vtx) (A : Option Addr) (c : Nat) (l : List ByteArray) : PartM := ⟨hb1 b, 0, 0, up, down, A, c, l, none, 0, []⟩
def zP : List Value := List.replicate 32 (.int .u8 0) ++ [.int .i64 0, .int .i64 0] ++ vtxL v0 ++ vtxL v0 ++ [.slice none 0 0, .slice none 0 0]
theorem setMid {a b c d e : List Value} {n : Nat} (h : c = a ++ (b ++ d)) (ha : a.length = n) (hb : b.length = e.length) : setAt c n e = a ++ (e ++ d) := by
 subst h
 rw [setAt_eq _ _ _ (by simp only [List.length_append]; omega), List.take_append_of_le_length (by omega), List.take_of_length_le (by omega), List.drop_append, List.drop_eq_nil_of_le (by omega), List.drop_append, List.drop_eq_nil_of_le (by omega), show n + e.length - a.length - b.length = 0 by omega]
 simp
theorem vtx_stk {w0 : World} {S : SS} {P : Program} {n r k : Nat} {T : TT} {x v : PV} {u : Vtx} {z : List Value} (hk : S[k]? = some [(r, .cells z 32 33)]) (hx : x.val T = some (.pointer (some ⟨r, 0, none⟩))) (hv : v.val T = some (vtxV u)) (hz : z.length = 33) :
  OW P w0 n (.st 33 x v) T S (fun _ S' => S' = S.set k (vseg r u)) := by
 refine (OW.st (k := k) (c := z) (u := vtxV u) hx hv hk ((List.size_toArray).trans (vtxL_len u)) (by omega) (vtxL_one u)).mono ?_
 rintro _ _ rfl
 rw [vtx_box, setAll (by rw [vtxL_len, hz])]
def va : Vtx := (hb1 1, 0)
def k1 : PartP := (mkP 1 rootV endV none 0 [str1 97, str1 98]).pl
theorem okRoot : okV rootV := by unfold okV; decide
theorem okEnd : okV endV := by unfold okV; decide
theorem GG.n100 {w0 : World} {X : SS} {m : GrM} {ps : List PartP} (h : GG w0 X m ps) {p : PartP} (hn : newC ps p = true) : addE m.gr p = 0 /\ came ps p = p :: ps := by
 have hnew := newC_new h.sq ⟨_, h.inv⟩ hn
 exact ⟨(addE_zero h.inv h.sq).2 hnew, came_new hnew⟩
theorem addF_fc {w0 : World} {S : SS} {s : Seg} {m : GrM} {ps : List PartP} {p : PartM} (h : GG w0 [] m ps) (hp : PartRd w0 (s :: S) p) (hn : newC ps p.pl = true) (hc : (allV ps).length + ps.length + p.lines.length + 1 <= 1000000) (hlim : m.lim + addL p <= 500000000000) :
  FC Try.prog w0 16 [m.ptr, partV p] (s :: (GS m ++ S)) (fun v S' => ∃ m', v = .int .i64 0 /\ S' = GS m' ++ (s :: S) /\ GG w0 [] m' (p.pl :: ps) /\ m'.lim <= m.lim + addL p /\ m'.r = m.r) := by
 refine (FC.subS gs_a (add2_fc (S := s :: S) h over_nil hp.rng hp.rdL hp.rdG hc hlim)).mono ?_
 rintro _ _ ⟨m1, rfl, rfl, hg1, hl1, hr1, _⟩
 obtain ⟨hz, hcm⟩ := h.n100 hn
 rw [hcm] at hg1
 exact ⟨m1, by rw [hz], rfl, hg1, hl1, hr1⟩
end Go.Proofs.Gr



namespace Go.Proofs.Gr
open Go.SL Go.RowKit Go.Proofs Go.GP
set_option maxHeartbeats 1000000
theorem linesNil_fc {w0 : World} {S : SS} : FC Try.prog w0 17 [.pointer none] S (fun v S' => v = .slice none 0 0 /\ S' = S) := by
 refine FC.ofD Try.known17 (by simp) ?_
 unfold Try.pc17
 simp only [argT]
 refine PW.seqOps (OL.dp rfl (OL.nil (PW.k2 0 2 rfl ?_)))
 refine PW.seq fun K1 hK1 => ?_
 refine PW.seqOps (OL.dp rfl (OL.call trivial rfl (isNil_fc) ?_))
 rintro _ Sx ⟨rfl, hSx⟩
 rw [hSx]
 clear hSx
 refine OL.dp rfl (OL.nil (PW.k3 0 2 13 rfl (PW.ite (b := true) rfl ?_)))
 rw [if_pos rfl]
 refine PW.seqOps (OL.dp rfl (OL.nil (PW.k1 2 rfl (PW.ret ?_))))
 change (Exit.ret = Exit.normal ∨ Exit.ret = Exit.ret) /\ ∃ v, resV _ _ = some v /\ _
 exact ⟨.inr rfl, _, rfl, _, Sub.refl _, rfl, rfl⟩
theorem itemsNil_fc {w0 : World} {S : SS} : FC Try.prog w0 33 [.pointer none] S (fun v S' => v = .slice none 0 0 /\ S' = S) := by
 refine FC.ofD Try.known33 (by simp) ?_
 unfold Try.pc33
 simp only [argT]
 refine PW.seqOps (OL.dp rfl (OL.nil (PW.k1 0 rfl (PW.scope (PW.seqOps (OL.dp rfl (OL.call trivial rfl (linesNil_fc) ?_)))))))
 rintro _ Sx ⟨rfl, hSx⟩
 rw [hSx]
 clear hSx
 refine OL.call trivial rfl (FC.nilseg (deleteDead_fc (l := []) (SlV.nil 43 35) (by decide))) ?_
 rintro v12 _ ⟨segl, rfl, hsl⟩
 obtain ⟨Al, cl, rfl, hnl, hcl, hrl⟩ := slv_rdL (w0 := w0) hsl
 refine OL.subS (S' := S) (Sub.drop (Sub.refl _)) (OL.dp rfl (OL.nil (PW.k2 0 3 rfl (PW.seqOps (OL.dp rfl (OL.nil (PW.k3 0 3 4 rfl (PW.seqOps (OL.dp rfl (OL.nil (PW.k4 0 3 4 5 rfl ?_)))))))))))
 refine PW.seq fun K1 hK1 => ?_
 refine PW.label ?_
 refine hK1 _ _ ?_
 refine PW.k4 0 3 4 5 rfl ?_
 refine PW.seq fun K2 hK2 => ?_
 refine PW.seqOps (OL.dp rfl (OL.dp rfl (OL.dp rfl (OL.nil (PW.k7 0 3 4 5 13 14 15 rfl (PW.block (PW.k7 0 3 4 5 13 14 15 rfl ?_)))))))
 refine PW.loopK (I := fun mm T S' => ∃ (k : Nat), (mm = 0) /\ T = ([(0, .pointer none), (3, .slice Al (live ([] : List LineP)).length cl), (4, .slice none 0 0), (5, .slice none 0 0), (13, .slice Al (live ([] : List LineP)).length cl), (14, .int .i64 ((live ([] : List LineP)).length : Int)), (15, .int .i64 0)] : TT) /\ S' = S) (m := 0) ⟨0, rfl, rfl, rfl⟩ ?_
 rintro mm _ _ ⟨k, ⟨hm⟩, rfl, rfl⟩
 refine PW.seqOps (OL.dp rfl (OL.nil (PW.k8 0 3 4 5 13 14 15 16 rfl ?_)))
 refine PW.seq fun K3 hK3 => ?_
 refine PW.cond rfl (fun c16 => ?_) (fun c16 => ?_)
 ·try simp only [cvS] at c16
  exfalso
  have : (live ([] : List LineP)).length = 0 := rfl
  omega
  -- done
 try simp only [cvS] at c16
 refine PW.exit ?_
 refine hK2 _ _ ?_
 refine PW.k3 0 4 5 rfl ?_
 refine PW.seq fun K4 hK4 => ?_
 refine PW.seqOps (OL.dp rfl (OL.dp rfl (OL.dp rfl (OL.nil (PW.k4 0 4 5 60 rfl ?_)))))
 refine PW.cond rfl (fun c60 => ?_) (fun c60 => ?_)
 ·try simp only [cvS] at c60
  exfalso
  simp at c60
  -- done
 try simp only [cvS] at c60
 refine PW.skip ?_
 refine hK4 _ _ ?_
 refine PW.k1 4 rfl (PW.seqOps (OL.dp rfl (OL.dp rfl (OL.nil (PW.k1 2 rfl (PW.ret ?_))))))
 change (Exit.ret = Exit.normal ∨ Exit.ret = Exit.ret) /\ ∃ v, resV _ _ = some v /\ _
 exact ⟨.inr rfl, _, rfl, _, Sub.refl _, rfl, rfl⟩
end Go.Proofs.Gr



namespace Go.Proofs.Gr
open Go.SL Go.RowKit Go.Proofs Go.GP
set_option maxHeartbeats 1000000
theorem fill_step {T : TT} {a b d : List Value} {n k : Nat} {x : PV} {v : Value} {r : List (Nat × Nat × PV)} (hx : x.val T = some v) (ha : a.length = n) (hb : b.length = k) (hv : v.cells.toList.length = k) :
  fillP T (a ++ (b ++ d)) ((n, k, x) :: r) = fillP T ((a ++ v.cells.toList) ++ d) r := by
 simp only [fillP, hx]
 rw [if_pos ⟨by rw [<- Array.length_toList]; exact hv, by simp only [List.length_append]; omega⟩, setMid rfl ha (hb.trans hv.symm), List.append_assoc]
section
variable {w0 : World} {S : SS} {a : Addr} {l : List PartM} {k : Nat}
end
end Go.Proofs.Gr



























namespace Go.SL
open Go.RowKit
theorem grow_of {w w' : World} (h : Below w.heap.size w w') (hd : w.drawn <= w'.drawn) : ∃ q os', w' = Go.Sort.grow (w.drewN q) os' := by
 refine ⟨w'.drawn - w.drawn, w'.heap.extract w.heap.size w'.heap.size, ?_⟩
 have e : w'.heap = w.heap ++ w'.heap.extract w.heap.size w'.heap.size := by
  apply Array.ext_getElem?
  intro i
  rw [Array.getElem?_append]
  split
  ·rename_i hi; exact h.block i hi
  rename_i hi
  rw [Array.getElem?_extract]
  have := h.size
  split
  ·congr 1; omega
  rw [Array.getElem?_eq_none (by omega)]
 obtain ⟨heap, tape, drawn, os, output⟩ := w
 obtain ⟨heap', tape', drawn', os', output'⟩ := w'
 obtain ⟨h1, h2, h3, h4, h5⟩ := h
 simp only at *
 subst h1 h2 h3
 simp only [Go.Sort.grow, World.drewN, World.mk.injEq, true_and, and_true]
 exact ⟨e, by omega⟩
section
variable {α : Type} [Inhabited α]
theorem flat_get {enc : α -> List Value} {k : Nat} (hk : ∀ x, (enc x).length = k) : ∀ (l : List α) (t : Nat), t < l.length * k -> (l.flatMap enc)[t]? = (enc l[t / k]!)[t % k]?
 | [], t, h => by simp at h
 | x :: l, t, h => by
  have h' : t < l.length * k + k := by simpa [Nat.add_mul] using h
  have k0 : 0 < k := by exact Nat.pos_of_ne_zero fun e => by subst e; simp at h
  rw [List.flatMap_cons]
  rcases Nat.lt_or_ge t k with a | a
  ·rw [List.getElem?_append_left (by rw [hk]; exact a), Nat.div_eq_of_lt a, Nat.mod_eq_of_lt a]; simp
  obtain ⟨u, rfl⟩ : ∃ u, t = u + k := ⟨t - k, by omega⟩
  rw [List.getElem?_append_right (by rw [hk]; omega), hk, Nat.add_sub_cancel, flat_get hk l u (by omega), Nat.add_div_right _ k0, Nat.add_mod_right]
  simp
theorem flatK_list {enc : α -> List Value} {k : Nat} (hk : ∀ x, (enc x).length = k) (d : Array α) : (Go.Sort.flatK enc k d).toList = d.toList.flatMap enc := by
 apply List.ext_getElem?
 intro t
 by_cases ht : t < d.size * k
 ·have k0 : 0 < k := by exact Nat.pos_of_ne_zero fun e => by subst e; simp at ht
  rw [flat_get hk _ _ (by simpa using ht)]
  have h1 := Go.Sort.get_flatK enc k d t ht
  have hs : t < (Go.Sort.flatK enc k d).size := by simpa using ht
  have hm : t % k < (enc d[t / k]!).length := by rw [hk]; exact Nat.mod_lt _ k0
  rw [getElem!_pos (Go.Sort.flatK enc k d) t hs, getElem!_pos (enc d[t / k]!) (t % k) hm] at h1
  have e2 : d.toList[t / k]! = d[t / k]! := by
   have : t / k < d.size := Nat.div_lt_of_lt_mul (by rwa [Nat.mul_comm] at ht)
   rw [getElem!_pos d.toList _ (by simpa using this), getElem!_pos d _ this]; simp
  rw [e2, List.getElem?_eq_getElem hm, <- h1]
  simp [hs]
 rw [List.getElem?_eq_none (by simp; omega), List.getElem?_eq_none]
 rw [List.length_flatMap, show (List.map (fun a => (enc a).length) d.toList) = List.replicate d.size k from by simp only [hk]; rw [List.map_const']; simp]
 simp; omega
theorem Rep.sorted {w0 w : World} {S : SS} {k E sz blk cap n : Nat} {os : Array Obj} {enc : α -> List Value} (hk : ∀ x, (enc x).length = sz) {d d' : Array α} (h : Rep w0 S w) (hs : S[k]? = some [(blk, .cells (d.toList.flatMap enc) E (cap * sz))]) (hd : d'.size = d.size)
  (hc : d.size <= cap) : Rep w0 (S.set k [(blk, .cells (d'.toList.flatMap enc) E (cap * sz))]) (Go.Proofs.sortWorldK enc sz w blk 0 n d' os) := by
 obtain ⟨hge, C, hC, htot, hpre⟩ := h.own (blk, .cells (d.toList.flatMap enc) E (cap * sz)) (List.mem_flatten.2 ⟨_, List.mem_of_getElem? hs, by simp⟩)
 have hlt : blk < w.heap.size := h.lt (List.mem_flatten.2 ⟨_, List.mem_of_getElem? hs, List.mem_singleton.2 rfl⟩)
 have hheap : ∀ i, i < w.heap.size -> i ≠ blk -> (Go.Proofs.sortWorldK enc sz w blk 0 n d' os).heap[i]? = w.heap[i]? := by
  intro i hi hne
  show (w.heap.modify blk _ ++ os)[i]? = _
  rw [Array.getElem?_append, if_pos (by simpa using hi), Array.getElem?_modify, if_neg (Ne.symm hne)]
 have hnew : (Go.Proofs.sortWorldK enc sz w blk 0 n d' os).heap[blk]? = some (.cells (Go.Sort.putCells id 0 (Go.Sort.flatK enc sz d') C) E (0, 0)) := by
  show (w.heap.modify blk _ ++ os)[blk]? = _
  rw [Array.getElem?_append, if_pos (by simpa using hlt), Array.getElem?_modify, if_pos rfl, hC]
  rfl
 refine h.replace hs ?_ (fun i hi hne => hheap i hi (by simpa using hne)) (by simp) ?_ (Nat.le_add_right _ _)
 ·refine ⟨rfl, rfl, rfl, ?_, fun i hi => hheap i (by omega) (by omega)⟩
  show _ <= (w.heap.modify blk _ ++ os).size
  simp
 intro p hp
 simp only [List.mem_singleton] at hp
 subst hp
 refine ⟨hge, ⟨_, hnew, ?_, ?_⟩, .inl (by simp)⟩
 ·rw [<- htot]; simp [Go.Sort.putCells]
 have hsz : (d'.toList.flatMap enc).length = d.size * sz := by
  rw [<- flatK_list hk, Array.length_toList, Go.Sort.size_flatK, hd]
 have hcs : d.size * sz <= C.size := by rw [htot]; exact Nat.mul_le_mul_right _ hc
 rw [hsz, <- flatK_list hk]
 apply List.ext_getElem?
 intro t
 rw [List.getElem?_take]
 split
 ·rename_i ht
  have hF : t < (Go.Sort.flatK enc sz d').size := by simpa [hd] using ht
  have hF' : t < d'.size * sz := by simpa using hF
  rw [Array.getElem?_toList, Array.getElem?_toList]
  simp only [Go.Sort.putCells, Array.getElem?_mapIdx]
  rw [Array.getElem?_eq_getElem (by omega : t < C.size), Array.getElem?_eq_getElem hF]
  simp [getElem!_pos (Go.Sort.flatK enc sz d') t hF, hF']
 rename_i ht
 rw [List.getElem?_eq_none (by simp [hd]; omega)]
end
end Go.SL

namespace Go.Proofs
open Go.Shelf Go.RowKit Go.Lib Go.Sort
def Try.sortL_ren : Go.Shelf.Ren := ⟨fun | 6 => 108 | 15 => 122 | 14 => 121 | 28 => 135 | 29 => 136 | 20 => 127 | 21 => 128 | 22 => 129 | 23 => 130 | 24 => 131 | 25 => 132 | 26 => 133 | 27 => 134 | 46 => 139 | 47 => 140 | 48 => 141 | 49 => 142 | 50 => 143 | 57 => 144 | n => n, fun | 22 => 34 | 24 => 32 | 25 => 179 | 3 => 3 | 39 => 191 | 0 => 0 | 53 => 205 | 55 => 85 | 4 => 4 | 46 => 199 | 45 => 198 | 50 => 196 | 5 => 5 | 9 => 9 | 66 => 207 | 70 => 211 | 76 => 213 | 77 => 214 | n => n, fun | n => n⟩
theorem Try.sortL : Go.Proofs.SlLaysF0.n6 Try.prog Try.sortL_ren := {
 mixed := by kernel_rfl
 f6 := ⟨Try.f108.name, by decide, Try.func108.trans (congrArg some (by kernel_rfl))⟩
 f14 := ⟨Try.f121.name, by decide, Try.func121.trans (congrArg some (by kernel_rfl))⟩
 f15 := Try.func122.trans (congrArg some (by kernel_rfl))
 f20 := ⟨Try.f127.name, by decide, Try.func127.trans (congrArg some (by kernel_rfl))⟩
 f21 := ⟨Try.f128.name, by decide, Try.func128.trans (congrArg some (by kernel_rfl))⟩
 f22 := ⟨Try.f129.name, by decide, Try.func129.trans (congrArg some (by kernel_rfl))⟩
 f23 := ⟨Try.f130.name, by decide, Try.func130.trans (congrArg some (by kernel_rfl))⟩
 f24 := ⟨Try.f131.name, by decide, Try.func131.trans (congrArg some (by kernel_rfl))⟩
 f25 := ⟨Try.f132.name, by decide, Try.func132.trans (congrArg some (by kernel_rfl))⟩
 f26 := ⟨Try.f133.name, by decide, Try.func133.trans (congrArg some (by kernel_rfl))⟩
 f27 := ⟨Try.f134.name, by decide, Try.func134.trans (congrArg some (by kernel_rfl))⟩
 f28 := Try.func135.trans (congrArg some (by kernel_rfl))
 f29 := Try.func136.trans (congrArg some (by kernel_rfl))
 f46 := ⟨Try.f139.name, by decide, Try.func139.trans (congrArg some (by kernel_rfl))⟩
 f47 := Try.func140.trans (congrArg some (by kernel_rfl))
 f48 := Try.func141.trans (congrArg some (by kernel_rfl))
 f49 := ⟨Try.f142.name, by decide, Try.func142.trans (congrArg some (by kernel_rfl))⟩
 f50 := ⟨Try.f143.name, by decide, Try.func143.trans (congrArg some (by kernel_rfl))⟩
 f57 := ⟨Try.f144.name, by decide, Try.func144.trans (congrArg some (by kernel_rfl))⟩
 t0 := Try.underlying0
 a0 := Try.isAgg0
 z0 := Try.sizeOf0
 v0 := Try.zeroValue0
 t3 := Try.underlying3
 a3 := Try.isAgg3
 z3 := Try.sizeOf3
 v3 := Try.zeroValue3
 t4 := Try.underlying4
 a4 := Try.isAgg4
 z4 := Try.sizeOf4
 v4 := Try.zeroValue4
 t5 := Try.underlying5
 a5 := Try.isAgg5
 z5 := Try.sizeOf5
 v5 := Try.zeroValue5
 t9 := Try.underlying9
 a9 := Try.isAgg9
 z9 := Try.sizeOf9
 v9 := Try.zeroValue9
 t22 := Try.underlying34
 a22 := Try.isAgg34
 z22 := Try.sizeOf34
 v22 := Try.zeroValue34
 t25 := Try.underlying179
 a25 := Try.isAgg179
 z25 := Try.sizeOf179
 v25 := Try.zeroValue179
 t39 := Try.underlying191
 a39 := Try.isAgg191
 z39 := Try.sizeOf191
 v39 := Try.zeroValue191
 t45 := Try.underlying198
 a45 := Try.isAgg198
 z45 := Try.sizeOf198
 v45 := Try.zeroValue198
 t46 := Try.underlying199
 a46 := Try.isAgg199
 z46 := Try.sizeOf199
 v46 := Try.zeroValue199
 t50 := Try.underlying196
 a50 := Try.isAgg196
 z50 := Try.sizeOf196
 v50 := Try.zeroValue196
 t53 := Try.underlying205
 a53 := Try.isAgg205
 z53 := Try.sizeOf205
 v53 := Try.zeroValue205
 t55 := Try.underlying85
 a55 := Try.isAgg85
 z55 := Try.sizeOf85
 v55 := Try.zeroValue85
 t66 := Try.underlying207
 a66 := Try.isAgg207
 z66 := Try.sizeOf207
 v66 := Try.zeroValue207
 t70 := Try.underlying211
 a70 := Try.isAgg211
 z70 := Try.sizeOf211
 v70 := Try.zeroValue211
 t76 := Try.underlying213
 a76 := Try.isAgg213
 z76 := Try.sizeOf213
 v76 := Try.zeroValue213
 t77 := Try.underlying214
 a77 := Try.isAgg214
 z77 := Try.sizeOf214
 v77 := Try.zeroValue214 }
end Go.Proofs
namespace Go.Proofs.Gr
open Go.SL Go.RowKit Go.Sort Go.Proofs Go.GP
def sortL (l : List Vtx) : List Vtx := l.mergeSort fun x y => !(ltOf ordV) y x
theorem ordV_swo : SWO (ltOf ordV) where
 irrefl x := by
  show ltV x x = false
  cases e : ltV x x with
  | false => rfl
  | true => have := ltV_ord.asymm x x e; rw [e] at this; cases this
 trans x y z h1 h2 := by
  show ltV x z = true
  cases e : ltV x z with
  | true => rfl
  | false => have := ltV_ord.trans z x y e (ltV_ord.asymm x y h1); rw [show ltV y z = true from h2] at this; cases this
 ntrans x y z h1 h2 := ltV_ord.trans z y x h2 h1
theorem ordV_tot (x y : Vtx) (h1 : ltOf ordV x y = false) (h2 : ltOf ordV y x = false) : x = y := ltV_tot x y h1 h2
theorem order_lays (blk off size : Nat) (w : World) : CmpLays Try.prog 109 #[] vtxL 33 ordV blk off size w := by
 intro m os dk hs x y
 refine (order_fc (a := x) (b := y) (S := []) _ (Rep.start _)).mono ?_
 rintro e w' ⟨u, S', rfl, hr, rfl, rfl⟩
 refine ⟨rfl, grow_of hr.below (hr.drawn.resolve_left ?_)⟩
 unfold Loose
 exact id
set_option maxRecDepth 100000 in
theorem sort_fc {w0 : World} {S : SS} {k : Nat} {v : Value} {seg : Seg} {l : List Vtx} (hs : S[k]? = some seg) (hv : SlV 32 33 v l.length (l.flatMap vtxL) seg) (hm : l.length < 4611686018427387904) :
  FC Try.prog w0 108 [v, .func (.func 109) #[] #[]] S (fun u S' => u = .tuple #[] /\ ∃ seg', SlV 32 33 v l.length ((sortL l).flatMap vtxL) seg' /\ S' = S.set k seg') := by
 intro w hr
 obtain ⟨hl, ⟨rfl, h0, rfl⟩ | ⟨r, cap, rfl, rfl, h1, h2⟩⟩ := hv
 ·obtain rfl : l = [] := List.length_eq_zero_iff.1 h0
  refine (AnyF.slices_SortFunc_none Try.sortL none 0 _ w).mono ?_
  rintro e w' ⟨rfl, rfl⟩
  have e0 : sortL [] = [] := by simp [sortL]
  rw [e0]
  refine ⟨_, S, rfl, hr, rfl, [], SlV.nil 32 33, ?_⟩
  apply List.ext_getElem?
  intro i
  rw [List.getElem?_set]
  split
  ·rename_i h; subst h; rw [hs]; split
   ·rfl
   rename_i h; rw [List.getElem?_eq_none (by omega)] at hs; cases hs
  rfl
 have hlt : r < w.heap.size := hr.lt (List.mem_flatten.2 ⟨_, List.mem_of_getElem? hs, List.mem_singleton.2 rfl⟩)
 obtain ⟨hge, C, hC, htot, hpre⟩ := hr.own (r, .cells (l.flatMap vtxL) 32 (cap * 33)) (List.mem_flatten.2 ⟨_, List.mem_of_getElem? hs, by simp⟩)
 have hH : HoldsK vtxL 33 w r 0 l.toArray := by
  intro j hj
  have hj' : j < l.length * 33 := by simpa using hj
  have e1 : (flatK vtxL 33 l.toArray)[j]? = C[j]? := by
   have := congrArg (·[j]?) hpre
   simp only [List.getElem?_take, Array.getElem?_toList] at this
   rw [if_pos (by rw [hl]; exact hj')] at this
   rw [this, <- Array.getElem?_toList, flatK_list vtxL_len]
  rw [Array.getElem?_eq_getElem hj] at e1
  constructor
  ·simp only [World.cell?, hC, Nat.zero_add]
   rw [getElem!_pos _ j hj]
   exact e1.symm
  simp [World.frozen?, hC]
 have hcon := AnyQ.slices_SortFunc_total Try.sortL 33 Try.isAgg32 Try.sizeOf32 vtxL vtxL_len (fun x v hv => List.all_eq_true.1 (vtxL_one x) v hv) ordV ordV_swo 109 #[] r 0 cap l.toArray w
  (enters_of Try.func109 (by kernel_rfl) rfl) (order_lays r 0 _ w) hH hlt (by simpa using hm) ordV_tot
 rw [List.size_toArray] at hcon
 refine hcon.mono ?_
 rintro e w' ⟨rfl, n, os, rfl⟩
 have hlen : (sortL l).length = l.length := by simp [sortL]
 refine ⟨_, _, rfl, hr.sorted (d := l.toArray) (d' := (sortL l).toArray) vtxL_len (by simpa using hs) (by simp [hlen]) (by simpa using h1), rfl, [(r, .cells ((sortL l).flatMap vtxL) 32 (cap * 33))], ?_, by simp⟩
 have := SlV.mk' (E := 32) (r := r) (xs := (sortL l).flatMap vtxL) (sz := 33) (m := l.length) (cap := cap) (by rw [List.length_flatMap]; simp [vtxL_len, List.map_const', hlen]) h1 h2
 exact this
end Go.Proofs.Gr





namespace Go.Proofs.Ln
open Go.SL Go.RowKit
def strs (ls : List ByteArray) : List Value := ls.map .string
theorem strs_len (ls : List ByteArray) : (strs ls).length = ls.length := by simp [strs]
theorem toL (s : ByteArray) : s.toList = s.data.toList := ByteArray.toList_eq s
set_option maxHeartbeats 1000000
theorem OL.nxt {P : Program} {w0 : World} {n : Nat} {T : TT} {S : SS} {x : PV} {s : ByteArray} {b k p d1 d2 : Nat} {rest : List PI} {K : TT -> SS -> Prop} (hx : x.val T = some (.pointer (some ⟨b, 0, none⟩))) (hk : S[k]? = some [(b, .obj (.stringIter s p))])
  (h1 : p < s.size -> OL P w0 n rest ((d2, .bool true) :: (d1, .tuple #[.bool true, .int .i64 (p : Int), .int .i32 ((Utf8.decode s p).1 : Int)]) :: T) (S.set k [(b, .obj (.stringIter s (p + (Utf8.decode s p).2)))]) K)
  (h2 : ¬ p < s.size -> OL P w0 n rest ((d2, .bool false) :: (d1, .tuple #[.bool false]) :: T) S K) :
  OL P w0 n (⟨some d1, none, .more (.nxtS x)⟩ :: ⟨some d2, none, .ext 0 (.t d1)⟩ :: rest) T S K := by
 have hl : ∀ v : Value, (PV.t d1).val ((d1, v) :: T) = some v := fun v => look_put_same d1 v T
 by_cases hp : p < s.size
 ·refine OL.cons trivial (OW.nxtS hx hk hp) ?_
  rintro _ _ ⟨rfl, rfl⟩
  refine OL.det trivial (.pure (v := .bool true) ?_) (h1 hp)
  show evalP _ _ = _
  unfold evalP
  simp only [put, hl]
  rfl
 refine OL.det trivial (OW.nxtS_end hx hk hp) ?_
 refine OL.det trivial (.pure (v := .bool false) ?_) (h2 hp)
 show evalP _ _ = _
 unfold evalP
 simp only [put, hl]
 rfl
def okB (b : UInt8) : Bool := decide (b.toNat = 9) || (decide (32 <= b.toNat) && decide (b.toNat <= 126))
def plainP (s : ByteArray) : Bool := s.data.toList.all okB && decide (s.size <= 80)
theorem ba_get {s : ByteArray} {k : Nat} (h : k < s.size) : ∃ b, s[k]? = some b /\ s.data.toList[k]? = some b /\ s.data.toList.take (k + 1) = s.data.toList.take k ++ [b] /\ s[k]'h = b := by
 have h' : k < s.data.toList.length := by simpa using h
 refine ⟨s[k], by rw [getElem?_pos s k h], ?_, ?_, rfl⟩
 ·rw [List.getElem?_eq_getElem h']; rfl
 rw [List.take_add_one, List.getElem?_eq_getElem h']; rfl
theorem plain_bad {s : ByteArray} {k : Nat} {b : UInt8} (h : s.data.toList[k]? = some b) (hb : okB b = false) : plainP s = false := by
 unfold plainP
 have : s.data.toList.all okB = false := by
  rw [List.all_eq_false]
  exact ⟨b, List.mem_of_getElem? h, by rw [hb]; simp⟩
 rw [this]; rfl
theorem plain_all {s : ByteArray} {k : Nat} (hk : k = s.size) (h : (s.data.toList.take k).all okB = true) : plainP s = decide ((s.size : Int) <= 80) := by
 subst hk
 rw [List.take_of_length_le (by simp)] at h
 unfold plainP
 rw [h]
 simp; omega
theorem dec_ok {s : ByteArray} {p : Nat} {b : UInt8} (hp : p < s.size) (hb : s[p]'hp = b) : (b.toNat < 128 /\ (Utf8.decode s p).1 = b.toNat /\ (Utf8.decode s p).2 = 1) ∨ (128 <= b.toNat /\ 128 <= (Utf8.decode s p).1) := by
 by_cases h : b.toNat < 128
 ·have := decode_ascii s p hp (by rw [hb]; exact h)
  rw [this, hb]
  exact .inl ⟨h, rfl, rfl⟩
 exact .inr ⟨by omega, (decode_high s p hp (by rw [hb]; omega)).1⟩
theorem plain_fc {w0 : World} {S : SS} {s : ByteArray} (hs : s.size <= 1000000000000000) : FC Try.prog w0 117 [.string s] S (fun v S' => v = .bool (plainP s) /\ S' = S) := by
 refine FC.ofD Try.known117 (by simp) ?_
 unfold Try.pc117
 simp only [argT]
 refine PW.seqOps (OL.dp rfl (OL.nil (PW.k1 0 rfl ?_)))
 refine PW.seq fun K1 hK1 => ?_
 refine PW.seqOps (OL.dp rfl (OL.cons trivial (OW.rngS rfl) ?_))
 rintro _ _ ⟨r6, rfl, rfl⟩
 refine OL.nil (PW.k2 0 6 rfl (PW.block (PW.k2 0 6 rfl ?_)))
 refine PW.loopK (I := fun m T S' => ∃ (k : Nat), (k <= s.size /\ m = s.size - k /\ (s.data.toList.take k).all okB = true) /\ T = ([(0, .string s), (6, .pointer (some ⟨r6, 0, none⟩))] : TT) /\ S' = [(r6, .obj (.stringIter s k))] :: S) (m := s.size) ⟨0, ⟨by omega, by omega, rfl⟩, rfl, rfl⟩ ?_
 rintro m _ _ ⟨k, ⟨hk, hm, hall⟩, rfl, rfl⟩
 refine PW.seqOps ?_
 refine OL.nxt (k := 0) rfl rfl ?_ ?_
 ·intro hp
  refine OL.nil (PW.k4 0 6 7 8 rfl ?_)
  refine PW.seq fun K2 hK2 => ?_
  refine PW.ite (b := true) rfl ?_
  rw [if_pos rfl]
  refine PW.skip ?_
  refine hK2 _ _ ?_
  refine PW.k3 0 6 7 rfl (PW.block (PW.seqOps ?_))
  obtain ⟨b, hb, hb2, htk, hbe⟩ := ba_get hp
  have hdec := dec_ok hp hbe
  refine OL.dp rfl (OL.dp rfl (OL.nil (PW.k3 0 4 6 rfl (PW.seqOps (OL.dp rfl (OL.dp rfl ?_))))))
  refine OL.bool trivial (Yields.pure rfl) (fun g12 => ?_) (fun g12 => ?_)
  ·try simp only [decide_eq_true_eq, decide_eq_false_iff_not, beq_iff_eq, bne_iff_ne, beq_eq_false_iff_ne, bne_eq_false_iff_eq, Bool.not_eq_true', Bool.not_eq_false', Bool.not_eq_true, ne_eq, Decidable.not_not] at g12
   refine OL.det rfl (.pure rfl) (OL.det rfl (.pure rfl) ?_)
   refine OL.bool rfl (Yields.pure rfl) (fun g15 => ?_) (fun g15 => ?_)
   ·try simp only [decide_eq_true_eq, decide_eq_false_iff_not, beq_iff_eq, bne_iff_ne, beq_eq_false_iff_ne, bne_eq_false_iff_eq, Bool.not_eq_true', Bool.not_eq_false', Bool.not_eq_true, ne_eq, Decidable.not_not] at g15
    refine OL.off rfl rfl (OL.off rfl rfl (OL.det rfl (.pure rfl) (OL.dp rfl (OL.nil (PW.k3 0 6 19 rfl (PW.ite (b := true) rfl ?_))))))
    rw [if_pos rfl]
    refine PW.seqOps (OL.dp rfl (OL.nil (PW.k1 2 rfl (PW.ret ?_))))
    change (Exit.ret = Exit.normal ∨ Exit.ret = Exit.ret) /\ ∃ v, resV _ _ = some v /\ _
    have hbad : okB b = false := by simp [okB]; omega
    exact ⟨.inr rfl, _, rfl, _, Sub.drop (Sub.refl _), by rw [plain_bad hb2 hbad], rfl⟩
   try simp only [decide_eq_true_eq, decide_eq_false_iff_not, beq_iff_eq, bne_iff_ne, beq_eq_false_iff_ne, bne_eq_false_iff_eq, Bool.not_eq_true', Bool.not_eq_false', Bool.not_eq_true, ne_eq, Decidable.not_not] at g15
   refine OL.det rfl (.pure rfl) (OL.det rfl (.pure rfl) (OL.det rfl (.pure rfl) (OL.dp rfl (OL.nil (PW.k3 0 6 19 rfl ?_)))))
   refine PW.cond rfl (fun c19 => ?_) (fun c19 => ?_)
   ·try simp only [decide_eq_true_eq, decide_eq_false_iff_not, beq_iff_eq, bne_iff_ne, beq_eq_false_iff_ne, bne_eq_false_iff_eq, Bool.not_eq_true', Bool.not_eq_false', Bool.not_eq_true, ne_eq, Decidable.not_not] at c19
    refine PW.seqOps (OL.dp rfl (OL.nil (PW.k1 2 rfl (PW.ret ?_))))
    change (Exit.ret = Exit.normal ∨ Exit.ret = Exit.ret) /\ ∃ v, resV _ _ = some v /\ _
    have hbad : okB b = false := by simp [okB]; omega
    exact ⟨.inr rfl, _, rfl, _, Sub.drop (Sub.refl _), by rw [plain_bad hb2 hbad], rfl⟩
   try simp only [decide_eq_true_eq, decide_eq_false_iff_not, beq_iff_eq, bne_iff_ne, beq_eq_false_iff_ne, bne_eq_false_iff_eq, Bool.not_eq_true', Bool.not_eq_false', Bool.not_eq_true, ne_eq, Decidable.not_not] at c19
   refine PW.skip ?_
   repeat rw [inBlk_n]
   try rw [thenK_n]
   refine LoopEnd.mk (T'' := [(0, _), (6, _)]) (wi rfl) ?_
   rcases hdec with ⟨e0, e1, e2⟩ | ⟨e0, e1⟩
   ·refine ⟨s.size - (k + 1), by omega, k + 1, ⟨by omega, rfl, ?_⟩, rfl, by rw [e2]; rfl⟩
    rw [htk, List.all_append, hall]; simp [okB]; omega
   exfalso; omega
  try simp only [decide_eq_true_eq, decide_eq_false_iff_not, beq_iff_eq, bne_iff_ne, beq_eq_false_iff_ne, bne_eq_false_iff_eq, Bool.not_eq_true', Bool.not_eq_false', Bool.not_eq_true, ne_eq, Decidable.not_not] at g12
  refine OL.off rfl rfl (OL.off rfl rfl (OL.off rfl rfl (OL.off rfl rfl (OL.off rfl rfl (OL.off rfl rfl (OL.dp rfl (OL.nil (PW.k3 0 6 19 rfl (PW.ite (b := false) rfl ?_)))))))))
  rw [if_neg Bool.false_ne_true]
  refine PW.skip ?_
  repeat rw [inBlk_n]
  try rw [thenK_n]
  refine LoopEnd.mk (T'' := [(0, _), (6, _)]) (wi rfl) ?_
  rcases hdec with ⟨e0, e1, e2⟩ | ⟨e0, e1⟩
  ·refine ⟨s.size - (k + 1), by omega, k + 1, ⟨by omega, rfl, ?_⟩, rfl, by rw [e2]; rfl⟩
   rw [htk, List.all_append, hall]; simp [okB]; omega
  exfalso; omega
 intro hp
 refine OL.nil (PW.k4 0 6 7 8 rfl ?_)
 refine PW.seq fun K3 hK3 => ?_
 refine PW.ite (b := false) rfl ?_
 rw [if_neg Bool.false_ne_true]
 refine PW.exit ?_
 refine hK1 _ _ ?_
 refine PW.k1 0 rfl (PW.seqOps (OL.dp rfl (OL.dp rfl (OL.dp rfl (OL.dp rfl (OL.nil (PW.k1 2 rfl (PW.ret ?_))))))))
 change (Exit.ret = Exit.normal ∨ Exit.ret = Exit.ret) /\ ∃ v, resV _ _ = some v /\ _
 exact ⟨.inr rfl, _, rfl, _, Sub.drop (Sub.refl _), by rw [plain_all (k := k) (by omega) hall], rfl⟩
end Go.Proofs.Ln

namespace Go.Proofs.Ln
open Go.SL Go.RowKit
set_option maxHeartbeats 1000000
def mA : ByteArray := ⟨#[62, 62, 62, 62, 62, 62, 62]⟩
def mB : ByteArray := ⟨#[61, 61, 61, 61, 61, 61, 61]⟩
def mC : ByteArray := ⟨#[60, 60, 60, 60, 60, 60, 60]⟩
def markP (s : ByteArray) : Bool := s.toList == mA.toList || s.toList == mB.toList || s.toList == mC.toList
theorem mark_iff (s : ByteArray) : markP s = true ↔ s.data.toList = List.replicate 7 62 ∨ s.data.toList = List.replicate 7 61 ∨ s.data.toList = List.replicate 7 60 := by
 unfold markP
 rw [toL, toL, toL, toL, show mA.data.toList = List.replicate 7 62 from rfl, show mB.data.toList = List.replicate 7 61 from rfl, show mC.data.toList = List.replicate 7 60 from rfl]
 simp only [Bool.or_eq_true, beq_iff_eq, or_assoc]
theorem mark_fc {w0 : World} {S : SS} {s : ByteArray} : FC Try.prog w0 118 [.string s] S (fun v S' => v = .bool (markP s) /\ S' = S) := by
 refine FC.of Try.known118 (by simp) ?_
 unfold Try.pc118
 simp only [argT]
 refine PW.seqOps (OL.dp rfl (OL.nil (PW.k1 0 rfl (PW.seqOps (OL.dp rfl (OL.dp rfl ?_))))))
 refine OL.bool trivial (Yields.pure rfl) (fun g5 => ?_) (fun g5 => ?_)
 ·try simp only [decide_eq_true_eq, decide_eq_false_iff_not, beq_iff_eq, bne_iff_ne, beq_eq_false_iff_ne, bne_eq_false_iff_eq, Bool.not_eq_true', Bool.not_eq_false', Bool.not_eq_true, ne_eq, Decidable.not_not] at g5
  have h1 : (s.toList == mA.toList) = true := by simpa [mA] using g5
  refine OL.off rfl rfl (OL.off rfl rfl (OL.dp rfl (OL.dp rfl (OL.off rfl rfl (OL.off rfl rfl (OL.dp rfl (OL.dp rfl (OL.nil (PW.k1 2 rfl (PW.ret ?_))))))))))
  change (Exit.ret = Exit.normal ∨ Exit.ret = Exit.ret) /\ ∃ v, resV _ _ = some v /\ _
  exact ⟨.inr rfl, _, rfl, by first | (unfold markP; rw [h1, h2]; rfl) | (unfold markP; rw [h1]; rfl), rfl⟩
 try simp only [decide_eq_true_eq, decide_eq_false_iff_not, beq_iff_eq, bne_iff_ne, beq_eq_false_iff_ne, bne_eq_false_iff_eq, Bool.not_eq_true', Bool.not_eq_false', Bool.not_eq_true, ne_eq, Decidable.not_not] at g5
 have h1 : (s.toList == mA.toList) = false := by simpa [mA] using g5
 refine OL.det rfl (.pure rfl) (OL.det rfl (.pure rfl) (OL.dp rfl ?_))
 refine OL.bool trivial (Yields.pure rfl) (fun g9 => ?_) (fun g9 => ?_)
 ·try simp only [decide_eq_true_eq, decide_eq_false_iff_not, beq_iff_eq, bne_iff_ne, beq_eq_false_iff_ne, bne_eq_false_iff_eq, Bool.not_eq_true', Bool.not_eq_false', Bool.not_eq_true, ne_eq, Decidable.not_not] at g9
  have h2 : (s.toList == mB.toList) = true := by simpa [mB] using g9
  refine OL.off rfl rfl (OL.off rfl rfl (OL.dp rfl (OL.dp rfl (OL.nil (PW.k1 2 rfl (PW.ret ?_))))))
  change (Exit.ret = Exit.normal ∨ Exit.ret = Exit.ret) /\ ∃ v, resV _ _ = some v /\ _
  exact ⟨.inr rfl, _, rfl, by first | (unfold markP; rw [h1, h2]; rfl) | (unfold markP; rw [h1]; rfl), rfl⟩
 try simp only [decide_eq_true_eq, decide_eq_false_iff_not, beq_iff_eq, bne_iff_ne, beq_eq_false_iff_ne, bne_eq_false_iff_eq, Bool.not_eq_true', Bool.not_eq_false', Bool.not_eq_true, ne_eq, Decidable.not_not] at g9
 have h2 : (s.toList == mB.toList) = false := by simpa [mB] using g9
 refine OL.det rfl (.pure rfl) (OL.det rfl (.pure rfl) (OL.dp rfl (OL.dp rfl (OL.nil (PW.k1 2 rfl (PW.ret ?_))))))
 change (Exit.ret = Exit.normal ∨ Exit.ret = Exit.ret) /\ ∃ v, resV _ _ = some v /\ _
 exact ⟨.inr rfl, _, rfl, by first | (unfold markP; rw [h1, h2]; rfl) | (unfold markP; rw [h1]; rfl), rfl⟩
def isP (s : ByteArray) : Bool := plainP s && !(markP s)
theorem strs_at {w0 : World} {S : SS} {a : Addr} {ls : List ByteArray} (h : Rd w0 S (some a) (strs ls)) {k : Nat} (hk : k < ls.length) : Cell w0 S (a.add k) (.string ls[k]) := h.at (by simp [strs, hk])
theorem strs_ne {ls : List ByteArray} (h : 0 < ls.length) : strs ls ≠ [] := by intro e; have := congrArg List.length e; rw [strs_len, List.length_nil] at this; omega
theorem is_fc {w0 : World} {S : SS} {s : ByteArray} (hs : s.size <= 1000000000000000) : FC Try.prog w0 103 [.string s] S (fun v S' => v = .bool (isP s) /\ S' = S) := by
 refine FC.of Try.known103 (by simp) ?_
 unfold Try.pc103
 simp only [argT]
 refine PW.seqOps (OL.dp rfl (OL.nil (PW.k1 0 rfl (PW.seqOps (OL.dp rfl (OL.call trivial rfl (plain_fc hs) ?_))))))
 rintro _ Sx ⟨rfl, hSx⟩
 rw [hSx]
 clear hSx
 refine OL.bool trivial (Yields.pure rfl) (fun g5 => ?_) (fun g5 => ?_)
 ·try simp only [decide_eq_true_eq, decide_eq_false_iff_not, beq_iff_eq, bne_iff_ne, beq_eq_false_iff_ne, bne_eq_false_iff_eq, Bool.not_eq_true', Bool.not_eq_false', Bool.not_eq_true, ne_eq, Decidable.not_not] at g5
  refine OL.det rfl (.pure rfl) (OL.call rfl rfl (mark_fc) ?_)
  rintro _ Sx ⟨rfl, hSx⟩
  rw [hSx]
  clear hSx
  refine OL.det rfl (.pure rfl) (OL.dp rfl (OL.dp rfl (OL.nil (PW.k1 2 rfl (PW.ret ?_)))))
  change (Exit.ret = Exit.normal ∨ Exit.ret = Exit.ret) /\ ∃ v, resV _ _ = some v /\ _
  exact ⟨.inr rfl, _, rfl, by unfold isP; rw [g5]; rfl, rfl⟩
 try simp only [decide_eq_true_eq, decide_eq_false_iff_not, beq_iff_eq, bne_iff_ne, beq_eq_false_iff_ne, bne_eq_false_iff_eq, Bool.not_eq_true', Bool.not_eq_false', Bool.not_eq_true, ne_eq, Decidable.not_not] at g5
 refine OL.off rfl rfl (OL.off rfl rfl (OL.off rfl rfl (OL.dp rfl (OL.dp rfl (OL.nil (PW.k1 2 rfl (PW.ret ?_)))))))
 change (Exit.ret = Exit.normal ∨ Exit.ret = Exit.ret) /\ ∃ v, resV _ _ = some v /\ _
 exact ⟨.inr rfl, _, rfl, by unfold isP; rw [g5]; rfl, rfl⟩
def idxQ (q : ByteArray -> Bool) (ls : List ByteArray) (z : Int) : Prop := (0 <= z ↔ ls.any q = true)
theorem any_take {q : ByteArray -> Bool} {ls : List ByteArray} {k : Nat} (h : k < ls.length) : (ls.take (k + 1)).any q = ((ls.take k).any q || q ls[k]) := by
 rw [List.take_add_one, List.getElem?_eq_getElem h, List.any_append]
 simp only [Option.toList, List.any_cons, List.any_nil, Bool.or_false]
theorem indexF_fc {w0 : World} {S : SS} {A : Option Addr} {cap g : Nat} {ls : List ByteArray} {q : ByteArray -> Bool} (hx : Rd w0 S A (strs ls)) (hb : ls.length <= 1000000000) (hok : fnOk Try.prog g = true) (hq : ∀ s ∈ ls, FC Try.prog w0 g [.string s] S (fun v S' => v = .bool (q s) /\ S' = S)) :
  FC Try.prog w0 116 [.slice A ls.length cap, .func (.func g) #[] #[]] S (fun v S' => ∃ z, v = .int .i64 z /\ idxQ q ls z /\ S' = S) := by
 refine FC.of Try.known116 (by simp) ?_
 unfold Try.pc116
 simp only [argT]
 refine PW.seqOps (OL.dp rfl (OL.nil (PW.k2 0 1 rfl ?_)))
 refine PW.seq fun K1 hK1 => ?_
 refine PW.seqOps (OL.dp rfl (OL.dp rfl (OL.dp rfl (OL.nil (PW.k4 0 1 7 8 rfl (PW.block (PW.k4 0 1 7 8 rfl ?_)))))))
 refine PW.loopK (I := fun m T S' => ∃ (k : Nat), (k <= ls.length /\ m = ls.length - k /\ (ls.take k).any q = false) /\ T = ([(0, .slice A ls.length cap), (1, .func (.func g) #[] #[]), (7, .int .i64 (ls.length : Int)), (8, .int .i64 k)] : TT) /\ S' = S) (m := ls.length) ⟨0, ⟨by omega, by omega, rfl⟩, rfl, rfl⟩ ?_
 rintro m _ _ ⟨k, ⟨hk, hm, hall⟩, rfl, rfl⟩
 refine PW.seqOps (OL.dp rfl (OL.nil (PW.k5 0 1 7 8 9 rfl ?_)))
 refine PW.seq fun K2 hK2 => ?_
 refine PW.cond rfl (fun c9 => ?_) (fun c9 => ?_)
 ·try simp only [decide_eq_true_eq, decide_eq_false_iff_not, beq_iff_eq, bne_iff_ne, beq_eq_false_iff_ne, bne_eq_false_iff_eq, Bool.not_eq_true', Bool.not_eq_false', Bool.not_eq_true, ne_eq, Decidable.not_not] at c9
  have hkl : k < ls.length := by omega
  obtain ⟨b0, rfl⟩ := hx.some (strs_ne (by omega))
  refine PW.skip ?_
  refine hK2 _ _ ?_
  refine PW.k4 0 1 7 8 rfl ?_
  refine PW.seq fun K3 hK3 => ?_
  refine PW.block (PW.seqOps (OL.dp rfl (OL.dp rfl (OL.nil (PW.k5 0 1 5 7 8 rfl (PW.seqOps (OL.dp rfl (OL.dp rfl (OL.dp rfl ?_)))))))))
  refine OL.det trivial (.ixN1 rfl rfl rfl (by omega)) ?_
  refine OL.det trivial (.ld rfl (strs_at hx hkl)) (OL.cons trivial (OW.callv (fi := []) (ca := []) rfl hok rfl (hq _ (List.getElem_mem hkl))) ?_)
  rintro _ Sx ⟨rfl, hSx⟩
  rw [hSx]
  clear hSx
  refine OL.nil (PW.k6 0 1 5 7 8 16 rfl ?_)
  refine PW.cond rfl (fun c16 => ?_) (fun c16 => ?_)
  ·try simp only [decide_eq_true_eq, decide_eq_false_iff_not, beq_iff_eq, bne_iff_ne, beq_eq_false_iff_ne, bne_eq_false_iff_eq, Bool.not_eq_true', Bool.not_eq_false', Bool.not_eq_true, ne_eq, Decidable.not_not] at c16
   refine PW.seqOps (OL.dp rfl (OL.dp rfl (OL.nil (PW.k1 4 rfl (PW.ret ?_)))))
   change (Exit.ret = Exit.normal ∨ Exit.ret = Exit.ret) /\ ∃ v, resV _ _ = some v /\ _
   exact ⟨.inr rfl, _, rfl, _, rfl, ⟨fun _ => List.any_eq_true.2 ⟨_, List.getElem_mem hkl, c16⟩, fun _ => by omega⟩, rfl⟩
  try simp only [decide_eq_true_eq, decide_eq_false_iff_not, beq_iff_eq, bne_iff_ne, beq_eq_false_iff_ne, bne_eq_false_iff_eq, Bool.not_eq_true', Bool.not_eq_false', Bool.not_eq_true, ne_eq, Decidable.not_not] at c16
  refine PW.skip ?_
  refine hK3 _ _ ?_
  refine PW.k4 0 1 7 8 rfl (PW.ops ?_)
  refine OL.det trivial (.add64 rfl rfl (by omega) (by omega)) ?_
  refine OL.dp rfl (OL.nil ?_)
  repeat rw [inBlk_n]
  try rw [thenK_n]
  refine LoopEnd.mk (T'' := [(0, _), (1, _), (7, _), (8, _)]) (wi rfl) ?_
  refine ⟨ls.length - (k + 1), by omega, k + 1, ⟨by omega, rfl, ?_⟩, by simp, rfl⟩
  rw [any_take hkl, hall, c16]; rfl
 try simp only [decide_eq_true_eq, decide_eq_false_iff_not, beq_iff_eq, bne_iff_ne, beq_eq_false_iff_ne, bne_eq_false_iff_eq, Bool.not_eq_true', Bool.not_eq_false', Bool.not_eq_true, ne_eq, Decidable.not_not] at c9
 refine PW.exit ?_
 refine hK1 _ _ ?_
 refine PW.keep (T' := []) trivial (PW.seqOps (OL.dp rfl (OL.nil (PW.k1 4 rfl (PW.ret ?_)))))
 change (Exit.ret = Exit.normal ∨ Exit.ret = Exit.ret) /\ ∃ v, resV _ _ = some v /\ _
 obtain rfl : k = ls.length := by omega
 rw [List.take_length] at hall
 exact ⟨.inr rfl, _, rfl, _, rfl, ⟨fun h => absurd h (by omega), fun h => by rw [hall] at h; cases h⟩, rfl⟩
theorem contains_fc {w0 : World} {S : SS} {A : Option Addr} {cap g : Nat} {ls : List ByteArray} {q : ByteArray -> Bool} (hx : Rd w0 S A (strs ls)) (hb : ls.length <= 1000000000) (hok : fnOk Try.prog g = true) (hq : ∀ s ∈ ls, FC Try.prog w0 g [.string s] S (fun v S' => v = .bool (q s) /\ S' = S)) :
  FC Try.prog w0 101 [.slice A ls.length cap, .func (.func g) #[] #[]] S (fun v S' => v = .bool (ls.any q) /\ S' = S) := by
 refine FC.of Try.known101 (by simp) ?_
 unfold Try.pc101
 simp only [argT]
 refine PW.seqOps (OL.dp rfl (OL.nil (PW.k2 0 1 rfl (PW.seqOps (OL.dp rfl (OL.dp rfl (OL.call trivial rfl (indexF_fc hx hb hok hq) ?_)))))))
 rintro _ Sx ⟨z, rfl, hz, hSx⟩
 rw [hSx]
 clear hSx
 refine OL.dp rfl (OL.dp rfl (OL.nil (PW.k1 4 rfl (PW.ret ?_))))
 change (Exit.ret = Exit.normal ∨ Exit.ret = Exit.ret) /\ ∃ v, resV _ _ = some v /\ _
 exact ⟨.inr rfl, _, rfl, congrArg Value.bool (by rw [Bool.eq_iff_iff, <- (show 0 <= z ↔ ls.any q = true from hz)]; simp), rfl⟩
end Go.Proofs.Ln

namespace Go.Proofs.My
open Go.SL Go.RowKit
theorem str_at {w0 : World} {S : SS} {a : Addr} {xs : List ByteArray} (h : Rd w0 S (some a) (xs.map .string)) {k : Nat} (hk : k < xs.length) : Cell w0 S (a.add k) (.string xs[k]) := h.at (by simp [hk])
theorem strs_ne {xs : List ByteArray} (h : 0 < xs.length) : xs.map Value.string ≠ [] := by intro e; simp at e; subst e; simp at h
set_option maxHeartbeats 1000000
end Go.Proofs.My

namespace Go.Proofs.My
open Go.SL Go.RowKit
set_option maxHeartbeats 1000000
def stC (t : Int × Int × Int) : List Value := [.int .i64 t.1, .int .i64 t.2.1, .int .i64 t.2.2]
def stsC (l : List (Int × Int × Int)) : List Value := l.flatMap stC
theorem stsC_length (l : List (Int × Int × Int)) : (stsC l).length = l.length * 3 := by
 induction l with
 | nil => rfl
 | cons x l ih => simp only [stsC, List.flatMap_cons, List.length_append] at ih ⊢; rw [ih]; simp [stC]; omega
theorem stsC_append (l r : List (Int × Int × Int)) : stsC (l ++ r) = stsC l ++ stsC r := by simp [stsC]
theorem stsC_get {l : List (Int × Int × Int)} {k : Nat} (h : k < l.length) (j : Nat) (hj : j < 3) : (stsC l)[k * 3 + j]? = (stC l[k])[j]? := by
 induction l generalizing k with
 | nil => simp at h
 | cons x l ih =>
  cases k with
  | zero =>
   simp only [stsC, List.flatMap_cons, Nat.zero_mul, Nat.zero_add, List.getElem_cons_zero]
   rw [List.getElem?_append_left (by simp [stC]; omega)]
  | succ k =>
   simp only [stsC, List.flatMap_cons]
   rw [List.getElem?_append_right (by simp [stC]; omega)]
   have := ih (k := k) (by simpa using h)
   simp only [stsC] at this
   rw [show (k + 1) * 3 + j - (stC x).length = k * 3 + j by simp [stC]; omega, this]
   simp
theorem st_at {w0 : World} {S : SS} {a : Addr} {l : List (Int × Int × Int)} (h : Rd w0 S (some a) (stsC l)) {k : Nat} (hk : k < l.length) (j : Nat) (hj : j < 3) {v : Value} (hv : (stC l[k])[j]? = some v) : Cell w0 S ((a.add (k * 3)).add j) v := by
 rw [addr_add_add]
 exact h.at (by rw [stsC_get hk j hj, hv])
theorem stsC_ne {l : List (Int × Int × Int)} (h : 0 < l.length) : stsC l ≠ [] := by
 intro e; have := congrArg List.length e; rw [stsC_length] at this; simp only [List.length_nil] at this; omega
end Go.Proofs.My

namespace Go.MyPlain
section
variable {α : Type} [DecidableEq α]
def nextRow (x : α) : List α -> List Nat -> List Nat
 | y :: ys, p :: ps => let r := nextRow x ys ps; (if x = y then ps.headD 0 + 1 else max p (r.headD 0)) :: r
 | _, _ => [0]
def row : List α -> List α -> List Nat
 | [], ys => ys.map (fun _ => 0) ++ [0]
 | x :: xs, ys => nextRow x ys (row xs ys)
def lcs (xs ys : List α) : Nat := (row xs ys).headD 0
theorem row_cons (xs : List α) (y : α) (ys : List α) : row xs (y :: ys) = lcs xs (y :: ys) :: row xs ys := by
 induction xs with
 | nil => simp [row, lcs]
 | cons x xs ih =>
  have h : row (x :: xs) (y :: ys) = nextRow x (y :: ys) (row xs (y :: ys)) := rfl
  rw [h]
  rw [ih]
  simp only [nextRow, lcs]
  rw [h, ih]
  simp only [nextRow, lcs, List.headD_cons]
  simp [row]
theorem row_nil (xs : List α) : row xs [] = [0] := by
 induction xs with
 | nil => rfl
 | cons x xs ih => simp [row, nextRow]
theorem lcs_nil_left (ys : List α) : lcs [] ys = 0 := by cases ys <;> simp [lcs, row]
theorem lcs_nil_right (xs : List α) : lcs xs [] = 0 := by simp [lcs, row_nil]
theorem lcs_cons (x : α) (xs : List α) (y : α) (ys : List α) : lcs (x :: xs) (y :: ys) = if x = y then lcs xs ys + 1 else max (lcs xs (y :: ys)) (lcs (x :: xs) ys) := by
 have h : row (x :: xs) (y :: ys) = nextRow x (y :: ys) (row xs (y :: ys)) := rfl
 unfold lcs
 rw [h, row_cons xs y ys]
 simp only [nextRow, List.headD_cons]
 rfl
theorem lcs_mono (xs ys : List α) : (∀ x, lcs xs ys <= lcs (x :: xs) ys /\ lcs (x :: xs) ys <= lcs xs ys + 1) /\ (∀ y, lcs xs ys <= lcs xs (y :: ys) /\ lcs xs (y :: ys) <= lcs xs ys + 1) := by
 have main : ∀ n (xs ys : List α), xs.length + ys.length = n -> (∀ x, lcs xs ys <= lcs (x :: xs) ys /\ lcs (x :: xs) ys <= lcs xs ys + 1) /\ (∀ y, lcs xs ys <= lcs xs (y :: ys) /\ lcs xs (y :: ys) <= lcs xs ys + 1) := by
  intro n
  induction n using Nat.strongRecOn with
  | _ n ih =>
   intro xs ys hn
   constructor
   ·intro x
    cases ys with
    | nil => simp [lcs_nil_right]
    | cons y ys =>
     rw [lcs_cons]
     have h1 := (ih (xs.length + ys.length) (by simp at hn; omega) xs ys rfl).2 y
     have h2 := (ih (xs.length + ys.length) (by simp at hn; omega) xs ys rfl).1 x
     split <;> omega
   intro y
   cases xs with
   | nil => simp [lcs_nil_left]
   | cons x xs =>
    rw [lcs_cons]
    have h1 := (ih (xs.length + ys.length) (by simp at hn; omega) xs ys rfl).1 x
    have h2 := (ih (xs.length + ys.length) (by simp at hn; omega) xs ys rfl).2 y
    split <;> omega
 exact main _ xs ys rfl
theorem lcs_le (xs ys : List α) : lcs xs ys <= xs.length := by
 induction xs with
 | nil => simp [lcs_nil_left]
 | cons x xs ih => have := ((lcs_mono xs ys).1 x).2; simp; omega
def scrF : Nat -> Nat -> Nat -> List α -> List α -> List (Int × Int × Int)
 | 0, _, _, _, _ => []
 | f + 1, i, j, x :: xs, y :: ys =>
  if x = y then (0, i, j) :: scrF f (i + 1) (j + 1) xs ys
  else if lcs (x :: xs) ys <= lcs xs (y :: ys) then (1, i, 0) :: scrF f (i + 1) j xs (y :: ys)
  else (2, 0, j) :: scrF f i (j + 1) (x :: xs) ys
 | f + 1, i, j, _ :: xs, [] => (1, i, 0) :: scrF f (i + 1) j xs []
 | f + 1, i, j, [], _ :: ys => (2, 0, j) :: scrF f i (j + 1) [] ys
 | _ + 1, _, _, [], [] => []
def scr (xs ys : List α) : List (Int × Int × Int) := scrF (xs.length + ys.length) 0 0 xs ys
theorem scrF_length (f i j : Nat) (xs ys : List α) : (scrF f i j xs ys).length <= f := by
 induction f generalizing i j xs ys with
 | zero => simp [scrF]
 | succ f ih =>
  cases xs with
  | nil => cases ys with
   | nil => simp [scrF]
   | cons y ys => simp [scrF]; exact ih ..
  | cons x xs => cases ys with
   | nil => simp [scrF]; exact ih ..
   | cons y ys =>
    simp only [scrF]
    split
    ·simp; exact ih ..
    split <;> (simp; exact ih ..)
theorem scr_length (xs ys : List α) : (scr xs ys).length <= xs.length + ys.length := scrF_length ..
theorem scrF_fuel (f g i j : Nat) (xs ys : List α) (hf : xs.length + ys.length <= f) (hg : xs.length + ys.length <= g) : scrF f i j xs ys = scrF g i j xs ys := by
 induction f generalizing g i j xs ys with
 | zero =>
  have h1 : xs = [] := List.eq_nil_of_length_eq_zero (by omega)
  have h2 : ys = [] := List.eq_nil_of_length_eq_zero (by omega)
  subst h1; subst h2
  cases g <;> simp [scrF]
 | succ f ih =>
  cases g with
  | zero =>
   have h1 : xs = [] := List.eq_nil_of_length_eq_zero (by omega)
   have h2 : ys = [] := List.eq_nil_of_length_eq_zero (by omega)
   subst h1; subst h2
   simp [scrF]
  | succ g =>
   cases xs with
   | nil => cases ys with
    | nil => simp [scrF]
    | cons y ys => simp only [scrF]; rw [ih]; all_goals simp at *; omega
   | cons x xs => cases ys with
    | nil => simp only [scrF]; rw [ih]; all_goals simp at *; omega
    | cons y ys =>
     simp only [scrF]
     rw [ih g (i + 1) (j + 1) xs ys (by simp at hf; omega) (by simp at hg; omega), ih g (i + 1) j xs (y :: ys) (by simp at hf ⊢; omega) (by simp at hg ⊢; omega), ih g i (j + 1) (x :: xs) ys (by simp at hf ⊢; omega) (by simp at hg ⊢; omega)]
end
section
variable {α β : Type} [DecidableEq α] [DecidableEq β]
theorem lcs_map (g : α -> β) : ∀ (xs ys : List α), (∀ x ∈ xs, ∀ y ∈ ys, g x = g y -> x = y) -> lcs (xs.map g) (ys.map g) = lcs xs ys := by
 have main : ∀ n (xs ys : List α), xs.length + ys.length = n -> (∀ x ∈ xs, ∀ y ∈ ys, g x = g y -> x = y) -> lcs (xs.map g) (ys.map g) = lcs xs ys := by
  intro n
  induction n using Nat.strongRecOn with
  | _ n ih =>
   intro xs ys hn h
   cases xs with
   | nil => simp [lcs_nil_left]
   | cons x xs =>
    cases ys with
    | nil => simp [lcs_nil_right]
    | cons y ys =>
     simp only [List.map_cons]
     rw [lcs_cons, lcs_cons]
     have e : (g x = g y) = (x = y) := propext ⟨fun e => h x (by simp) y (by simp) e, fun e => by rw [e]⟩
     simp only [e]
     rw [ih (xs.length + ys.length) (by simp at hn; omega) xs ys rfl (fun a ha b hb => h a (by simp [ha]) b (by simp [hb]))]
     have h1 := ih (xs.length + (y :: ys).length) (by simp at hn ⊢; omega) xs (y :: ys) rfl (fun a ha b hb => h a (by simp [ha]) b hb)
     have h2 := ih ((x :: xs).length + ys.length) (by simp at hn ⊢; omega) (x :: xs) ys rfl (fun a ha b hb => h a ha b (by simp [hb]))
     simp only [List.map_cons] at h1 h2
     rw [h1, h2]
 exact fun xs ys h => main _ xs ys rfl h
theorem scrF_map (g : α -> β) (f i j : Nat) (xs ys : List α) (h : ∀ x ∈ xs, ∀ y ∈ ys, g x = g y -> x = y) : scrF f i j (xs.map g) (ys.map g) = scrF f i j xs ys := by
 induction f generalizing i j xs ys with
 | zero => simp [scrF]
 | succ f ih =>
  cases xs with
  | nil => cases ys with
   | nil => simp [scrF]
   | cons y ys =>
    simp only [List.map_cons, List.map_nil, scrF]
    have := ih i (j + 1) [] ys (by simp)
    simp only [List.map_nil] at this
    rw [this]
  | cons x xs => cases ys with
   | nil =>
    simp only [List.map_cons, List.map_nil, scrF]
    have := ih (i + 1) j xs [] (by simp)
    simp only [List.map_nil] at this
    rw [this]
   | cons y ys =>
    simp only [List.map_cons, scrF]
    have e : (g x = g y) = (x = y) := propext ⟨fun e => h x (by simp) y (by simp) e, fun e => by rw [e]⟩
    have h0 := ih (i + 1) (j + 1) xs ys (fun a ha b hb => h a (by simp [ha]) b (by simp [hb]))
    have h1 := ih (i + 1) j xs (y :: ys) (fun a ha b hb => h a (by simp [ha]) b hb)
    have h2 := ih i (j + 1) (x :: xs) ys (fun a ha b hb => h a ha b (by simp [hb]))
    have l1 := lcs_map g xs (y :: ys) (fun a ha b hb => h a (by simp [ha]) b hb)
    have l2 := lcs_map g (x :: xs) ys (fun a ha b hb => h a ha b (by simp [hb]))
    simp only [List.map_cons] at h1 h2 l1 l2
    simp only [e, h0, h1, h2, l1, l2]
theorem scr_map (g : α -> β) (xs ys : List α) (h : ∀ x ∈ xs, ∀ y ∈ ys, g x = g y -> x = y) : scr (xs.map g) (ys.map g) = scr xs ys := by
 unfold scr
 rw [List.length_map, List.length_map]
 exact scrF_map g _ 0 0 xs ys h
end
section
variable {α : Type} [DecidableEq α]
def idx : List α -> α -> Option Nat
 | [], _ => none
 | k :: ks, s => if s = k then some 0 else (idx ks s).map (· + 1)
def numF : List α -> List α -> List α × List Nat
 | ks, [] => (ks, [])
 | ks, s :: r => match idx ks s with
  | some i => let q := numF ks r; (q.1, i :: q.2)
  | none => let q := numF (ks ++ [s]) r; (q.1, ks.length :: q.2)
theorem idx_append {ks r : List α} {s : α} {i : Nat} (h : idx ks s = some i) : idx (ks ++ r) s = some i := by
 induction ks generalizing i with
 | nil => simp [idx] at h
 | cons k ks ih =>
  simp only [idx, List.cons_append] at h ⊢
  split
  ·rename_i e; rw [if_pos e] at h; exact h
  rename_i e
  rw [if_neg e] at h
  cases hi : idx ks s with
  | none => rw [hi] at h; simp at h
  | some j => rw [hi] at h; rw [ih hi]; exact h
theorem idx_new {ks : List α} {s : α} (h : idx ks s = none) : idx (ks ++ [s]) s = some ks.length := by
 induction ks with
 | nil => simp [idx]
 | cons k ks ih =>
  simp only [idx, List.cons_append] at h ⊢
  split
  ·rename_i e; rw [if_pos e] at h; simp at h
  rename_i e
  rw [if_neg e] at h
  rw [ih (by simpa using h)]
  simp
theorem idx_inj {ks : List α} {s t : α} {i : Nat} (h : idx ks s = some i) (k : idx ks t = some i) : s = t := by
 induction ks generalizing i with
 | nil => simp [idx] at h
 | cons a ks ih =>
  simp only [idx] at h k
  split at h
  ·rename_i e
   split at k
   ·rename_i e'; rw [e, e']
   cases hi : idx ks t with
   | none => rw [hi] at k; simp at k
   | some j => rw [hi] at k; simp at h k; omega
  split at k
  ·cases hi : idx ks s with
   | none => rw [hi] at h; simp at h
   | some j => rw [hi] at h; simp at h k; omega
  cases hi : idx ks s with
  | none => rw [hi] at h; simp at h
  | some j =>
   cases hj : idx ks t with
   | none => rw [hj] at k; simp at k
   | some j' =>
    rw [hi] at h; rw [hj] at k
    simp at h k
    exact ih hi (by rw [hj]; congr 1; omega)
theorem numF_spec (ks xs : List α) : (∃ r, (numF ks xs).1 = ks ++ r) /\ (∀ s ∈ xs, ∃ i, idx (numF ks xs).1 s = some i) /\ (numF ks xs).2 = xs.map fun s => (idx (numF ks xs).1 s).getD 0 := by
 induction xs generalizing ks with
 | nil => exact ⟨⟨[], by simp [numF]⟩, by simp, rfl⟩
 | cons s r ih =>
  simp only [numF]
  cases h : idx ks s with
  | some i =>
   obtain ⟨⟨q, hq⟩, h2, h3⟩ := ih ks
   simp only
   have hs : idx (numF ks r).1 s = some i := by rw [hq]; exact idx_append h
   refine ⟨⟨q, hq⟩, fun t ht => ?_, ?_⟩
   ·rcases List.mem_cons.1 ht with rfl | ht
    ·exact ⟨i, hs⟩
    exact h2 t ht
   rw [List.map_cons, hs, <- h3]; rfl
  | none =>
   obtain ⟨⟨q, hq⟩, h2, h3⟩ := ih (ks ++ [s])
   simp only
   have hs : idx (numF (ks ++ [s]) r).1 s = some ks.length := by rw [hq]; exact idx_append (idx_new h)
   refine ⟨⟨s :: q, by rw [hq]; simp⟩, fun t ht => ?_, ?_⟩
   ·rcases List.mem_cons.1 ht with rfl | ht
    ·exact ⟨_, hs⟩
    exact h2 t ht
   rw [List.map_cons, hs, <- h3]; rfl
theorem numF_length (ks xs : List α) : (numF ks xs).2.length = xs.length := by rw [(numF_spec ks xs).2.2]; simp
theorem numF_keys (ks xs : List α) : (numF ks xs).1.length <= ks.length + xs.length := by
 induction xs generalizing ks with
 | nil => simp [numF]
 | cons s r ih =>
  simp only [numF]
  cases h : idx ks s with
  | some i => simp only; have := ih ks; simp; omega
  | none => simp only; have := ih (ks ++ [s]); simp at this ⊢; omega
theorem scr_nums (xs ys : List α) : scr (numF [] xs).2 (numF (numF [] xs).1 ys).2 = scr xs ys := by
 obtain ⟨⟨r, hr⟩, h2, h3⟩ := numF_spec [] xs
 obtain ⟨⟨q, hq⟩, k2, k3⟩ := numF_spec (numF [] xs).1 ys
 have e : (numF [] xs).2 = xs.map fun s => (idx (numF (numF [] xs).1 ys).1 s).getD 0 := by
  conv => lhs; rw [h3]
  refine List.map_congr_left fun s hs => ?_
  obtain ⟨i, hi⟩ := h2 s hs
  rw [hi, hq, idx_append hi]
 rw [k3, e]
 refine scr_map _ xs ys fun x hx y hy hxy => ?_
 obtain ⟨i, hi⟩ := h2 x hx
 obtain ⟨j, hj⟩ := k2 y hy
 have hi' : idx (numF (numF [] xs).1 ys).1 x = some i := by rw [hq]; exact idx_append hi
 rw [hi', hj] at hxy
 simp at hxy
 subst hxy
 exact idx_inj hi' hj
def numS (st : List α × List Nat) (s : α) : List α × List Nat :=
 match idx st.1 s with
 | some i => (st.1, st.2 ++ [i])
 | none => (st.1 ++ [s], st.2 ++ [st.1.length])
theorem numS_foldl (xs : List α) : ∀ (ks : List α) (l : List Nat), xs.foldl numS (ks, l) = ((numF ks xs).1, l ++ (numF ks xs).2) := by
 induction xs with
 | nil => intro ks l; simp [numF]
 | cons s r ih =>
  intro ks l
  simp only [List.foldl_cons, numF, numS]
  cases h : idx ks s with
  | some i => simp only; rw [ih]; simp
  | none => simp only; rw [ih]; simp
end
end Go.MyPlain

namespace Go.Proofs.My
open Go.SL Go.RowKit
open Go.MyPlain
set_option maxHeartbeats 1000000
def intC (l : List Nat) : List Value := l.map fun (i : Nat) => Value.int .i64 (i : Int)
def ent (ks : List ByteArray) (i : Nat) : List (ByteArray × Value) := match ks with | [] => [] | k :: r => (k, .int .i64 (i : Int)) :: ent r (i + 1)
theorem ent_length (ks : List ByteArray) (i : Nat) : (ent ks i).length = ks.length := by induction ks generalizing i with | nil => rfl | cons k r ih => simp [ent, ih]
theorem beq_bytes (a b : ByteArray) : (a == b) = decide (a = b) := by
 by_cases h : a = b
 ·simp [h, (Go.MapKept.bytes_beq b b).2 rfl]
 have : ¬ (a == b) = true := fun e => h ((Go.MapKept.bytes_beq a b).1 e)
 simp [h, this]
theorem mget_ent (ks : List ByteArray) (s : ByteArray) (i : Nat) : mget (ent ks i) s = (idx ks s).map fun j => .int .i64 ((i + j : Nat) : Int) := by
 induction ks generalizing i with
 | nil => simp [ent, mget, idx]
 | cons k r ih =>
  by_cases h : s = k
  ·simp [ent, mget, idx, List.find?_cons, beq_bytes, h]
  have := ih (i + 1)
  simp only [mget, beq_bytes] at this
  simp only [ent, mget, idx, List.find?_cons, beq_bytes, h, decide_false, if_false]
  rw [this]
  cases idx r s <;> simp <;> omega
theorem mput_ent (ks : List ByteArray) (s : ByteArray) (i : Nat) (h : idx ks s = none) : mputAt (ent ks i) s (.int .i64 ((i + ks.length : Nat) : Int)) = ent (ks ++ [s]) i := by
 induction ks generalizing i with
 | nil => simp [ent, mputAt]
 | cons k r ih =>
  simp only [idx] at h
  split at h
  ·simp at h
  rename_i hk
  have := ih (i + 1) (by simpa using h)
  simp only [ent, mputAt, beq_bytes, hk, decide_false, List.cons_append, Bool.false_eq_true, if_false]
  rw [<- this]
  simp [Nat.add_assoc, Nat.add_comm, Nat.add_left_comm]
theorem numS_len (xs : List ByteArray) (st : List ByteArray × List Nat) : (xs.foldl numS st).2.length = st.2.length + xs.length /\ (xs.foldl numS st).1.length <= st.1.length + xs.length := by
 obtain ⟨a, b⟩ := st
 rw [numS_foldl]
 have := numF_keys a xs
 simp [numF_length, this]
theorem numbered_fc {w0 : World} {S : SS} {A : Option Addr} {ca mb : Nat} {ks xs : List ByteArray} (hx : Rd w0 S A (xs.map .string)) (hb : xs.length <= 100000) (hk : ks.length <= 100000) :
  FC Try.prog w0 119 [.map (some mb), .slice A xs.length ca] ([(mb, .map (skey (ent ks 0)))] :: S) (fun v S' => ∃ seg, S' = seg :: [(mb, .map (skey (ent (numF ks xs).1 0)))] :: S /\ SlV 3 1 v xs.length (intC (numF ks xs).2) seg) := by
 refine FC.of Try.known119 (by simp) ?_
 unfold Try.pc119
 simp only [argT]
 refine PW.seqOps (OL.dp rfl (OL.nil (PW.k2 0 1 rfl (PW.seqOps (OL.dp rfl (OL.dp rfl ?_))))))
 refine OL.cons trivial (OW.mkS_cap rfl rfl (by omega) (by unfold maxLen; omega)) ?_
 rintro _ _ ⟨r12, rfl, rfl⟩
 refine OL.dp rfl (OL.nil (PW.k3 0 1 5 rfl ?_))
 refine PW.seq fun K1 hK1 => ?_
 refine PW.seqOps (OL.dp rfl (OL.dp rfl (OL.dp rfl (OL.nil (PW.k5 0 5 13 14 15 rfl (PW.block (PW.k5 0 5 13 14 15 rfl ?_)))))))
 refine PW.loopK (I := fun m T S' => ∃ (k : Nat) (v : Value) (seg : Seg), (k <= xs.length /\ m = xs.length - k /\ SlV 3 1 v k (intC ((xs.take k).foldl numS (ks, [])).2) seg) /\ T = ([(0, .map (some mb)), (5, v), (13, .slice A xs.length ca), (14, .int .i64 xs.length), (15, .int .i64 k)] : TT) /\ S' = seg :: [(mb, .map (skey (ent ((xs.take k).foldl numS (ks, [])).1 0)))] :: S) (m := xs.length) ⟨0, _, [(r12, .cells [] 3 (xs.length * 1))], ⟨by omega, by omega, by simpa [intC] using SlV.mk' (E := 3) (sz := 1) (m := 0) (cap := xs.length) (r := r12) (xs := []) (by simp) (by omega) (by unfold maxLen; omega)⟩, rfl, rfl⟩ ?_
 rintro m _ _ ⟨k, v, seg, ⟨hkk, hm, hsl⟩, rfl, rfl⟩
 refine PW.seqOps (OL.dp rfl (OL.nil (PW.k6 0 5 13 14 15 16 rfl ?_)))
 refine PW.seq fun K2 hK2 => ?_
 refine PW.cond rfl (fun c16 => ?_) (fun c16 => ?_)
 ·try simp only [decide_eq_true_eq, decide_eq_false_iff_not, beq_iff_eq, bne_iff_ne, beq_eq_false_iff_ne, bne_eq_false_iff_eq, Bool.not_eq_true', Bool.not_eq_false', Bool.not_eq_true, ne_eq, Decidable.not_not] at c16
  have hlt : k < xs.length := by omega
  obtain ⟨a, rfl⟩ := hx.some (strs_ne (by omega))
  have hx2 : Rd w0 (seg :: [(mb, .map (skey (ent ((xs.take k).foldl numS (ks, [])).1 0)))] :: S) (some a) (xs.map .string) := hx.cons.cons
  have hst : (xs.take (k + 1)).foldl numS (ks, []) = numS ((xs.take k).foldl numS (ks, [])) xs[k] := by
   rw [List.take_add_one, List.getElem?_eq_getElem hlt, List.foldl_append]; rfl
  have hlen := numS_len (xs.take k) (ks, [])
  simp only [List.length_take] at hlen
  generalize hstk : (xs.take k).foldl numS (ks, []) = st at *
  have hget := mget_ent st.1 xs[k] 0
  have hkl : (skey (ent st.1 0)).length = st.1.length := by simp [skey, ent_length]
  refine PW.skip ?_
  refine hK2 _ _ ?_
  refine PW.k5 0 5 13 14 15 rfl ?_
  refine PW.seq fun K3 hK3 => ?_
  refine PW.block (PW.seqOps ?_)
  refine OL.det trivial (.ixN1 rfl rfl rfl (by omega)) ?_
  refine OL.det trivial (.ld rfl (str_at hx2 hlt)) (OL.dp rfl (OL.nil (PW.k6 0 5 7 13 14 15 rfl (PW.seqOps (OL.dp rfl (OL.dp rfl (OL.det trivial (Yields.lookS (k := 1) rfl rfl rfl) (OL.dp rfl (OL.dp rfl (OL.dp rfl (OL.dp rfl ?_)))))))))))
  refine OL.dp rfl (OL.nil (PW.k8 0 5 7 8 9 13 14 15 rfl ?_))
  refine PW.seq fun K4 hK4 => ?_
  refine PW.seqOps (OL.dp rfl (OL.dp rfl (OL.nil (PW.k8 0 5 7 8 13 14 15 26 rfl ?_))))
  refine PW.cond rfl (fun c26 => ?_) (fun c26 => ?_)
  ·try simp only [decide_eq_true_eq, decide_eq_false_iff_not, beq_iff_eq, bne_iff_ne, beq_eq_false_iff_ne, bne_eq_false_iff_eq, Bool.not_eq_true', Bool.not_eq_false', Bool.not_eq_true, ne_eq, Decidable.not_not] at c26
   have hidx : idx st.1 xs[k] = none := by
    cases hh : idx st.1 xs[k] with
    | none => rfl
    | some i => rw [hget, hh] at c26; simp at c26
   have hput := mput_ent st.1 xs[k] 0 hidx
   rw [Nat.zero_add] at hput
   refine PW.seqOps (OL.dp rfl (OL.det trivial (Yields.lenM (k := 1) rfl rfl) (OL.dp rfl (OL.nil (PW.k7 0 5 7 8 13 14 15 rfl (PW.ops (OL.dp rfl (OL.dp rfl (OL.dp rfl (OL.cons trivial (OW.updS (k := 1) rfl rfl rfl rfl) ?_))))))))))
   rintro _ _ rfl
   refine OL.nil ?_
   refine hK4 _ _ ?_
   refine PW.k6 0 5 8 13 14 15 rfl (PW.ops (OL.dp rfl (OL.dp rfl ?_)))
   apply OL.app1 (k := 0)
   ·rfl
   ·rfl
   ·rfl
   ·rfl
   ·rfl
   ·rfl
   ·exact hsl
   ·rfl
   ·omega
   ·unfold maxLen; omega
   intro v35 seg35 hsl35
   refine OL.dp rfl (OL.nil ?_)
   refine hK3 _ _ ?_
   refine PW.k5 0 5 13 14 15 rfl (PW.ops ?_)
   refine OL.det trivial (.add64 rfl rfl (by omega) (by omega)) ?_
   refine OL.dp rfl (OL.nil ?_)
   repeat rw [inBlk_n]
   try rw [thenK_n]
   refine LoopEnd.mk (T'' := [(0, _), (5, _), (13, _), (14, _), (15, _)]) (wi rfl) ?_
   refine ⟨xs.length - (k + 1), by omega, k + 1, v35, seg35, ⟨by omega, rfl, ?_⟩, rfl, ?_⟩
   ·rw [hst]; simp only [numS, hidx]; simpa [intC, hkl, Value.cells] using hsl35
   rw [hst]; simp only [numS, hidx]; first | (simp [hput, hkl]; done) | (simp [hkl]; done) | rfl
  try simp only [decide_eq_true_eq, decide_eq_false_iff_not, beq_iff_eq, bne_iff_ne, beq_eq_false_iff_ne, bne_eq_false_iff_eq, Bool.not_eq_true', Bool.not_eq_false', Bool.not_eq_true, ne_eq, Decidable.not_not] at c26
  obtain ⟨i, hidx⟩ : ∃ i, idx st.1 xs[k] = some i := by
   cases hh : idx st.1 xs[k] with
   | none => rw [hget, hh] at c26; simp at c26
   | some i => exact ⟨i, rfl⟩
  have hval : (mget (ent st.1 0) xs[k]).getD (.int .i64 0) = .int .i64 (i : Int) := by rw [hget, hidx]; simp
  rw [hval]
  refine PW.skip ?_
  refine hK4 _ _ ?_
  refine PW.k6 0 5 8 13 14 15 rfl (PW.ops (OL.dp rfl (OL.dp rfl ?_)))
  apply OL.app1 (k := 0)
  ·rfl
  ·rfl
  ·rfl
  ·rfl
  ·rfl
  ·rfl
  ·exact hsl
  ·rfl
  ·omega
  ·unfold maxLen; omega
  intro v35 seg35 hsl35
  refine OL.dp rfl (OL.nil ?_)
  refine hK3 _ _ ?_
  refine PW.k5 0 5 13 14 15 rfl (PW.ops ?_)
  refine OL.det trivial (.add64 rfl rfl (by omega) (by omega)) ?_
  refine OL.dp rfl (OL.nil ?_)
  repeat rw [inBlk_n]
  try rw [thenK_n]
  refine LoopEnd.mk (T'' := [(0, _), (5, _), (13, _), (14, _), (15, _)]) (wi rfl) ?_
  refine ⟨xs.length - (k + 1), by omega, k + 1, v35, seg35, ⟨by omega, rfl, ?_⟩, rfl, ?_⟩
  ·rw [hst]; simp only [numS, hidx]; simpa [intC, hkl, Value.cells] using hsl35
  rw [hst]; simp only [numS, hidx]; first | (simp [hput, hkl]; done) | (simp [hkl]; done) | rfl
 try simp only [decide_eq_true_eq, decide_eq_false_iff_not, beq_iff_eq, bne_iff_ne, beq_eq_false_iff_ne, bne_eq_false_iff_eq, Bool.not_eq_true', Bool.not_eq_false', Bool.not_eq_true, ne_eq, Decidable.not_not] at c16
 refine PW.exit ?_
 refine hK1 _ _ ?_
 refine PW.k1 5 rfl (PW.seqOps (OL.dp rfl (OL.dp rfl (OL.nil (PW.k1 4 rfl (PW.ret ?_))))))
 change (Exit.ret = Exit.normal ∨ Exit.ret = Exit.ret) /\ ∃ v, resV _ _ = some v /\ _
 obtain rfl : k = xs.length := by omega
 have e := numS_foldl xs ks []
 rw [List.take_length] at hsl
 rw [e] at hsl
 rw [List.take_length, e]
 exact ⟨.inr rfl, _, rfl, seg, rfl, by simpa using hsl⟩
end Go.Proofs.My

namespace Go.Proofs.My
open Go.SL Go.RowKit
open Go.MyPlain
set_option maxHeartbeats 1000000
def RowOK (X Y : List Nat) (i jj : Nat) (c : List Value) : Prop := c.length = Y.length + 1 /\ ∀ b, jj <= b -> b <= Y.length -> c[b]? = some (.int .i64 (lcs (X.drop i) (Y.drop b) : Int))
theorem RowOK.zero (X Y : List Nat) (i : Nat) : RowOK X Y i Y.length (List.replicate (Y.length + 1) (.int .i64 0)) := by
 refine ⟨by simp, fun b h1 h2 => ?_⟩
 obtain rfl : b = Y.length := by omega
 rw [List.drop_length, lcs_nil_right]
 simp
theorem RowOK.last (X Y : List Nat) : RowOK X Y X.length 0 (List.replicate (Y.length + 1) (.int .i64 0)) := by
 refine ⟨by simp, fun b h1 h2 => ?_⟩
 rw [List.drop_length, lcs_nil_left]
 have : b < Y.length + 1 := by omega
 simp [this]
theorem RowOK.put {X Y : List Nat} {i j : Nat} {c : List Value} (h : RowOK X Y i (j + 1) c) (hj : j < Y.length) (v : Value) : RowOK X Y i (j + 1) (setAt c j [v]) := by
 refine ⟨by rw [setAt_length]; exact h.1, fun b h1 h2 => ?_⟩
 rw [setAt_get c j v (by rw [h.1]; omega), if_neg (by omega)]
 exact h.2 b h1 h2
theorem RowOK.done {X Y : List Nat} {i j : Nat} {c : List Value} (h : RowOK X Y i (j + 1) c) (hj : j < Y.length) {v : Int} (hv : v = lcs (X.drop i) (Y.drop j)) : RowOK X Y i j (setAt c j [.int .i64 v]) := by
 refine ⟨by rw [setAt_length]; exact h.1, fun b h1 h2 => ?_⟩
 rw [setAt_get c j _ (by rw [h.1]; omega)]
 split
 ·rename_i e; subst e; rw [hv]
 exact h.2 b (by omega) h2
theorem lcs_drop {X Y : List Nat} {i j : Nat} (hi : i < X.length) (hj : j < Y.length) : lcs (X.drop i) (Y.drop j) = if X[i] = Y[j] then lcs (X.drop (i + 1)) (Y.drop (j + 1)) + 1 else max (lcs (X.drop (i + 1)) (Y.drop j)) (lcs (X.drop i) (Y.drop (j + 1))) := by
 have e1 : X.drop i = X[i] :: X.drop (i + 1) := List.drop_eq_getElem_cons hi
 have e2 : Y.drop j = Y[j] :: Y.drop (j + 1) := List.drop_eq_getElem_cons hj
 rw [e1, e2, lcs_cons]
theorem RowOK.two {X Y : List Nat} {i j : Nat} {c : List Value} (h : RowOK X Y i (j + 1) c) (hi : i < X.length) (hj : j < Y.length) (he : (X[i] : Int) = (Y[j] : Int)) (v : Value) : RowOK X Y i j (setAt (setAt c j [v]) j [.int .i64 ((lcs (X.drop (i + 1)) (Y.drop (j + 1)) : Int) + 1)]) :=
 (h.put hj v).done hj (by rw [lcs_drop hi hj, if_pos (by omega)]; omega)
theorem RowOK.one {X Y : List Nat} {i j : Nat} {c : List Value} (h : RowOK X Y i (j + 1) c) (hi : i < X.length) (hj : j < Y.length) (he : ¬ (X[i] : Int) = (Y[j] : Int)) :
  RowOK X Y i j (setAt c j [.int .i64 (if true = true then if (lcs (X.drop i) (Y.drop (j + 1)) : Int) > (lcs (X.drop (i + 1)) (Y.drop j) : Int) then (lcs (X.drop i) (Y.drop (j + 1)) : Int) else (lcs (X.drop (i + 1)) (Y.drop j) : Int) else if (lcs (X.drop i) (Y.drop (j + 1)) : Int) < (lcs (X.drop (i + 1)) (Y.drop j) : Int) then (lcs (X.drop i) (Y.drop (j + 1)) : Int) else (lcs (X.drop (i + 1)) (Y.drop j) : Int))]) :=
 h.done hj (by rw [if_pos rfl, lcs_drop hi hj, if_neg (show ¬ X[i] = Y[j] by omega)]; split <;> omega)
def rowsSeg (m : Nat) (rs : List (Nat × List Value)) : Seg := rs.map fun p => (p.1, .cells p.2 3 ((m + 1) * 1))
def rowsC (m : Nat) (rs : List (Nat × List Value)) : List Value := rs.map fun p => .slice (some ⟨p.1, 0, none⟩) (m + 1) (m + 1)
def outerC (m ii : Nat) (rs : List (Nat × List Value)) : List Value := List.replicate ii (.slice none 0 0) ++ rowsC m rs
theorem int_at {w0 : World} {S : SS} {a : Addr} {xs : List Nat} (h : Rd w0 S (some a) (intC xs)) {k : Nat} (hk : k < xs.length) : Cell w0 S (a.add k) (.int .i64 (xs[k] : Int)) := h.at (by simp [intC, hk])
theorem intC_ne {xs : List Nat} (h : 0 < xs.length) : intC xs ≠ [] := by intro e; simp [intC] at e; subst e; simp at h
theorem outer_set {m i : Nat} {rs : List (Nat × List Value)} {r : Nat} {c : List Value} : setAt (outerC m (i + 1) rs) i [.slice (some ⟨r, 0, none⟩) (m + 1) (m + 1)] = outerC m i ((r, c) :: rs) := by
 unfold outerC
 rw [setAt_eq _ _ _ (by simp)]
 simp [rowsC, List.replicate_succ', List.take_append, List.drop_append]
theorem table_fc {w0 : World} {S : SS} {A B : Option Addr} {ca cb : Nat} {X Y : List Nat} (hx : Rd w0 S A (intC X)) (hy : Rd w0 S B (intC Y)) (hX : X.length <= 100000) (hY : Y.length <= 100000) :
  FC Try.prog w0 120 [.slice A X.length ca, .slice B Y.length cb] S (fun v S' => ∃ ro rs, v = .slice (some ⟨ro, 0, none⟩) (X.length + 1) (X.length + 1) /\ S' = rowsSeg Y.length rs :: [(ro, .cells (rowsC Y.length rs) 71 ((X.length + 1) * 1))] :: S /\ rs.length = X.length + 1 /\ ∀ t (h : t < rs.length), RowOK X Y t 0 rs[t].2) := by
 refine FC.of Try.known120 (by simp) ?_
 unfold Try.pc120
 simp only [argT]
 refine PW.seqOps (OL.dp rfl (OL.nil (PW.k2 0 1 rfl (PW.seqOps (OL.dp rfl (OL.dp rfl ?_))))))
 refine OL.det trivial (.add64 rfl rfl (by omega) (by omega)) ?_
 refine OL.cons trivial (OW.mkS_full (m := X.length + 1) rfl rfl (by omega) (by unfold maxLen; omega)) ?_
 rintro _ _ ⟨r12, rfl, rfl⟩
 rw [made1 _ rfl]
 refine OL.dp rfl (OL.nil (PW.k3 0 1 5 rfl (PW.seqOps (OL.dp rfl (OL.dp rfl (OL.dp rfl (OL.dp rfl (OL.dp rfl ?_))))))))
 refine OL.det trivial (.add64 rfl rfl (by omega) (by omega)) ?_
 refine OL.cons trivial (OW.mkS_full (m := Y.length + 1) rfl rfl (by omega) (by unfold maxLen; omega)) ?_
 rintro _ _ ⟨r19, rfl, rfl⟩
 rw [made1 _ rfl]
 refine OL.det trivial (Yields.ixO1 rfl rfl rfl (by omega)) ?_
 refine OL.cons trivial (OW.st (k := 1) rfl rfl rfl rfl (by first | decide | (simp; done) | (simp; omega)) (by first | rfl | simp)) ?_
 rintro _ _ rfl
 refine OL.nil (PW.k3 0 1 5 rfl ?_)
 refine PW.seq fun K1 hK1 => ?_
 refine PW.seqOps (OL.dp rfl (OL.dp rfl ?_))
 refine OL.det trivial (.sub64 rfl rfl (by omega) (by omega)) ?_
 refine OL.dp rfl (OL.nil (PW.k4 0 1 5 6 rfl (PW.block (PW.k4 0 1 5 6 rfl ?_))))
 refine PW.loopK (I := fun m T S' => ∃ (ii : Nat) (rs : List (Nat × List Value)), (ii <= X.length /\ m = ii /\ rs.length + ii = X.length + 1 /\ ∀ t (h : t < rs.length), RowOK X Y (ii + t) 0 rs[t].2) /\ T = ([(0, .slice A X.length ca), (1, .slice B Y.length cb), (5, .slice (some ⟨r12, 0, none⟩) (X.length + 1) (X.length + 1)), (6, .int .i64 ((ii : Int) - 1))] : TT) /\ S' = rowsSeg Y.length rs :: [(r12, .cells (outerC Y.length ii rs) 71 ((X.length + 1) * 1))] :: S) (m := X.length) ⟨X.length, [(r19, List.replicate (Y.length + 1) (.int .i64 0))], ⟨by omega, rfl, by simp; omega, fun t h => by
   simp at h; subst h; exact RowOK.last X Y⟩, rfl, by
   have e : List.replicate (X.length + 1) (Value.slice none 0 0) = outerC Y.length (X.length + 1) [] := by simp [outerC, rowsC]
   rw [e]; simp only [List.set_cons_succ, List.set_cons_zero, Value.cells, Array.toList]; rw [outer_set (c := List.replicate (Y.length + 1) (.int .i64 0))]; rfl⟩ ?_
 rintro m _ _ ⟨ii, rs, ⟨hii, hm, hlen, hrows⟩, rfl, rfl⟩
 refine PW.seq fun K2 hK2 => ?_
 refine PW.seqOps (OL.dp rfl (OL.dp rfl (OL.nil (PW.k5 0 1 5 6 25 rfl ?_))))
 refine PW.cond rfl (fun c25 => ?_) (fun c25 => ?_)
 ·try simp only [decide_eq_true_eq, decide_eq_false_iff_not, beq_iff_eq, bne_iff_ne, beq_eq_false_iff_ne, bne_eq_false_iff_eq, Bool.not_eq_true', Bool.not_eq_false', Bool.not_eq_true, ne_eq, Decidable.not_not] at c25
  obtain ⟨i, rfl⟩ : ∃ i, ii = i + 1 := ⟨ii - 1, by omega⟩
  have ei : ((i + 1 : Nat) : Int) - 1 = i := by omega
  rw [ei]
  have hrs0 : 0 < rs.length := by omega
  obtain ⟨r0, c0, rs', hrs⟩ : ∃ r0 c0 rs', rs = (r0, c0) :: rs' := by
   cases rs with
   | nil => simp at hrs0
   | cons p rs' => exact ⟨p.1, p.2, rs', rfl⟩
  have hrow0 : RowOK X Y (i + 1) 0 c0 := by have := hrows 0 hrs0; simpa [hrs] using this
  have hout : (outerC Y.length (i + 1) rs)[i + 1]? = some (.slice (some ⟨r0, 0, none⟩) (Y.length + 1) (Y.length + 1)) := by simp [outerC, rowsC, hrs]
  refine PW.skip ?_
  refine hK2 _ _ ?_
  refine PW.k4 0 1 5 6 rfl ?_
  refine PW.seq fun K3 hK3 => ?_
  refine PW.block (PW.seqOps (OL.dp rfl (OL.dp rfl ?_)))
  refine OL.det trivial (.add64 rfl rfl (by omega) (by omega)) ?_
  refine OL.cons trivial (OW.mkS_full (m := Y.length + 1) rfl rfl (by omega) (by unfold maxLen; omega)) ?_
  rintro _ _ ⟨r31, rfl, rfl⟩
  rw [made1 _ rfl]
  refine OL.dp rfl (OL.nil (PW.k5 0 1 5 6 7 rfl ?_))
  refine PW.seq fun K4 hK4 => ?_
  refine PW.seqOps (OL.dp rfl (OL.dp rfl ?_))
  refine OL.det trivial (.sub64 rfl rfl (by omega) (by omega)) ?_
  refine OL.dp rfl (OL.nil (PW.k6 0 1 5 6 7 8 rfl (PW.block (PW.k6 0 1 5 6 7 8 rfl ?_))))
  refine PW.loopK (I := fun m T S' => ∃ (jj : Nat) (c : List Value), (jj <= Y.length /\ m = jj /\ RowOK X Y i jj c) /\ T = ([(0, .slice A X.length ca), (1, .slice B Y.length cb), (5, .slice (some ⟨r12, 0, none⟩) (X.length + 1) (X.length + 1)), (6, .int .i64 (i : Int)), (7, .slice (some ⟨r31, 0, none⟩) (Y.length + 1) (Y.length + 1)), (8, .int .i64 ((jj : Int) - 1))] : TT) /\ S' = [(r31, .cells c 3 ((Y.length + 1) * 1))] :: rowsSeg Y.length rs :: [(r12, .cells (outerC Y.length (i + 1) rs) 71 ((X.length + 1) * 1))] :: S) (m := Y.length) ⟨Y.length, _, ⟨by omega, rfl, RowOK.zero X Y i⟩, rfl, rfl⟩ ?_
  rintro m _ _ ⟨jj, c, ⟨hjj, hmj, hrow⟩, rfl, rfl⟩
  refine PW.seq fun K5 hK5 => ?_
  refine PW.seqOps (OL.dp rfl (OL.dp rfl (OL.nil (PW.k7 0 1 5 6 7 8 36 rfl ?_))))
  refine PW.cond rfl (fun c36 => ?_) (fun c36 => ?_)
  ·try simp only [decide_eq_true_eq, decide_eq_false_iff_not, beq_iff_eq, bne_iff_ne, beq_eq_false_iff_ne, bne_eq_false_iff_eq, Bool.not_eq_true', Bool.not_eq_false', Bool.not_eq_true, ne_eq, Decidable.not_not] at c36
   obtain ⟨j, rfl⟩ : ∃ j, jj = j + 1 := ⟨jj - 1, by omega⟩
   have ej : ((j + 1 : Nat) : Int) - 1 = j := by omega
   rw [ej]
   obtain ⟨aX, rfl⟩ := hx.some (intC_ne (by omega))
   obtain ⟨aY, rfl⟩ := hy.some (intC_ne (by omega))
   refine PW.skip ?_
   refine hK5 _ _ ?_
   refine PW.k6 0 1 5 6 7 8 rfl ?_
   refine PW.seq fun K6 hK6 => ?_
   refine PW.block ?_
   refine PW.seq fun K7 hK7 => ?_
   refine PW.quietK Try.mixed (QK.dp rfl (QK.dp rfl (QK.dp rfl (QK.dp rfl ?_))))
   refine QK.det trivial (.add64 rfl rfl (by omega) (by omega)) ?_
   refine QK.det trivial (Yields.ixO1 rfl rfl (show _ = ((i + 1 : Nat) : Int) from rfl) (by omega)) ?_
   refine QK.det trivial (.ld rfl (own_at (E := 71) (tot := (X.length + 1) * 1) (by simp) hout)) ?_
   refine QK.dp rfl ?_
   refine QK.det trivial (Yields.ixO1 rfl rfl rfl (by omega)) ?_
   refine QK.det trivial (.ld rfl (own_at (E := 3) (tot := (Y.length + 1) * 1) (by simp [rowsSeg, hrs]) (hrow0.2 j (by omega) (by omega)))) ?_
   refine QK.dp rfl (QK.dp rfl ?_)
   refine QK.det trivial (.add64 rfl rfl (by omega) (by omega)) ?_
   refine QK.det trivial (Yields.ixO1 rfl rfl (show _ = ((j + 1 : Nat) : Int) from rfl) (by omega)) ?_
   refine QK.det trivial (.ld rfl (own_at (E := 3) (tot := (Y.length + 1) * 1) (by simp) (hrow.2 (j + 1) (by omega) (by omega)))) ?_
   refine QK.nil ?_
   change OL _ _ _ [_, _, _] _ _ _
   refine OL.dp rfl ?_
   refine OL.det trivial (Yields.ixO1 rfl rfl rfl (by omega)) ?_
   refine OL.cons trivial (OW.st (k := 0) rfl rfl rfl rfl (by have := hrow.1; omega) rfl) ?_
   rintro _ _ rfl
   refine OL.nil ?_
   refine hK7 _ _ ?_
   refine PW.k6 0 1 5 6 7 8 rfl ?_
   refine PW.seq fun K8 hK8 => ?_
   refine PW.quietK Try.mixed (QK.dp rfl (QK.dp rfl ?_))
   refine QK.det trivial (.ixN1 rfl rfl rfl (by omega)) ?_
   refine QK.det trivial (.ld rfl (int_at hx.cons.cons.cons (by omega))) ?_
   refine QK.dp rfl (QK.dp rfl ?_)
   refine QK.det trivial (.ixN1 rfl rfl rfl (by omega)) ?_
   refine QK.det trivial (.ld rfl (int_at hy.cons.cons.cons (by omega))) ?_
   refine QK.nil ?_
   change OL _ _ _ [_] _ _ _
   refine OL.dp rfl (OL.nil ?_)
   refine hK8 _ _ ?_
   refine PW.k7 0 1 5 6 7 8 64 rfl ?_
   refine PW.cond rfl (fun c64 => ?_) (fun c64 => ?_)
   ·try simp only [decide_eq_true_eq, decide_eq_false_iff_not, beq_iff_eq, bne_iff_ne, beq_eq_false_iff_ne, bne_eq_false_iff_eq, Bool.not_eq_true', Bool.not_eq_false', Bool.not_eq_true, ne_eq, Decidable.not_not] at c64
    refine PW.ops (OL.dp rfl (OL.dp rfl (OL.dp rfl (OL.dp rfl ?_))))
    refine OL.det trivial (.add64 rfl rfl (by omega) (by omega)) ?_
    refine OL.det trivial (Yields.ixO1 rfl rfl (show _ = ((i + 1 : Nat) : Int) from rfl) (by omega)) ?_
    refine OL.det trivial (.ld rfl (own_at (E := 71) (tot := (X.length + 1) * 1) (by simp) hout)) ?_
    refine OL.dp rfl ?_
    refine OL.det trivial (.add64 rfl rfl (by omega) (by omega)) ?_
    refine OL.det trivial (Yields.ixO1 rfl rfl (show _ = ((j + 1 : Nat) : Int) from rfl) (by omega)) ?_
    refine OL.det trivial (.ld rfl (own_at (E := 3) (tot := (Y.length + 1) * 1) (by simp [rowsSeg, hrs]) (hrow0.2 (j + 1) (by omega) (by omega)))) ?_
    refine OL.det trivial (.add64 rfl rfl (by omega) (by have := lcs_le (X.drop (i + 1)) (Y.drop (j + 1)); simp only [List.length_drop] at this; omega)) ?_
    refine OL.det trivial (Yields.ixO1 rfl rfl rfl (by omega)) ?_
    refine OL.cons trivial (OW.st (k := 0) rfl rfl rfl rfl (by rw [setAt_length]; have := hrow.1; omega) rfl) ?_
    rintro _ _ rfl
    refine OL.nil ?_
    refine hK6 _ _ ?_
    refine PW.k6 0 1 5 6 7 8 rfl (PW.ops (OL.dp rfl ?_))
    refine OL.det trivial (.sub64 rfl rfl (by omega) (by omega)) ?_
    refine OL.dp rfl (OL.nil ?_)
    repeat rw [inBlk_n]
    try rw [thenK_n]
    refine LoopEnd.mk (T'' := [(0, _), (1, _), (5, _), (6, _), (7, _), (8, _)]) (wi rfl) ?_
    refine ⟨j, by omega, j, _, ⟨by omega, rfl, ?_⟩, rfl, rfl⟩
    first
     | exact hrow.two (by omega) (by omega) c64 _
     | exact hrow.one (by omega) (by omega) c64
   try simp only [decide_eq_true_eq, decide_eq_false_iff_not, beq_iff_eq, bne_iff_ne, beq_eq_false_iff_ne, bne_eq_false_iff_eq, Bool.not_eq_true', Bool.not_eq_false', Bool.not_eq_true, ne_eq, Decidable.not_not] at c64
   refine PW.skip ?_
   refine hK6 _ _ ?_
   refine PW.k6 0 1 5 6 7 8 rfl (PW.ops (OL.dp rfl ?_))
   refine OL.det trivial (.sub64 rfl rfl (by omega) (by omega)) ?_
   refine OL.dp rfl (OL.nil ?_)
   repeat rw [inBlk_n]
   try rw [thenK_n]
   refine LoopEnd.mk (T'' := [(0, _), (1, _), (5, _), (6, _), (7, _), (8, _)]) (wi rfl) ?_
   refine ⟨j, by omega, j, _, ⟨by omega, rfl, ?_⟩, rfl, rfl⟩
   first
    | exact hrow.two (by omega) (by omega) c64 _
    | exact hrow.one (by omega) (by omega) c64
  try simp only [decide_eq_true_eq, decide_eq_false_iff_not, beq_iff_eq, bne_iff_ne, beq_eq_false_iff_ne, bne_eq_false_iff_eq, Bool.not_eq_true', Bool.not_eq_false', Bool.not_eq_true, ne_eq, Decidable.not_not] at c36
  refine PW.exit ?_
  refine hK4 _ _ ?_
  refine PW.k5 0 1 5 6 7 rfl (PW.ops (OL.dp rfl (OL.dp rfl (OL.dp rfl ?_))))
  refine OL.det trivial (Yields.ixO1 rfl rfl rfl (by omega)) ?_
  refine OL.cons trivial (OW.st (k := 2) rfl rfl rfl rfl (by simp [outerC, rowsC]) rfl) ?_
  rintro _ _ rfl
  refine OL.nil ?_
  refine hK3 _ _ ?_
  refine PW.k4 0 1 5 6 rfl (PW.ops (OL.dp rfl ?_))
  refine OL.det trivial (.sub64 rfl rfl (by omega) (by omega)) ?_
  refine OL.dp rfl (OL.nil ?_)
  repeat rw [inBlk_n]
  try rw [thenK_n]
  refine LoopEnd.mkS (Sub.join) (T'' := [(0, _), (1, _), (5, _), (6, _)]) (wi rfl) ?_
  obtain rfl : jj = 0 := by omega
  refine ⟨i, by omega, i, (r31, c) :: rs, ⟨by omega, rfl, by simp; omega, fun t h => ?_⟩, rfl, ?_⟩
  ·cases t with
   | zero => simpa using hrow
   | succ t => have := hrows t (by simpa using h); simpa [Nat.add_assoc, Nat.add_comm, Nat.add_left_comm] using this
  simp only [List.set_cons_succ, List.set_cons_zero, Value.cells, Array.toList]
  rw [outer_set (c := c)]
  rfl
 try simp only [decide_eq_true_eq, decide_eq_false_iff_not, beq_iff_eq, bne_iff_ne, beq_eq_false_iff_ne, bne_eq_false_iff_eq, Bool.not_eq_true', Bool.not_eq_false', Bool.not_eq_true, ne_eq, Decidable.not_not] at c25
 refine PW.exit ?_
 refine hK1 _ _ ?_
 refine PW.k1 5 rfl (PW.seqOps (OL.dp rfl (OL.dp rfl (OL.nil (PW.k1 4 rfl (PW.ret ?_))))))
 change (Exit.ret = Exit.normal ∨ Exit.ret = Exit.ret) /\ ∃ v, resV _ _ = some v /\ _
 obtain rfl : ii = 0 := by omega
 refine ⟨.inr rfl, _, rfl, r12, rs, rfl, by simp [outerC], by omega, fun t h => by simpa using hrows t h⟩
end Go.Proofs.My

namespace Go.Proofs.My
open Go.SL Go.RowKit
open Go.MyPlain
set_option maxHeartbeats 1000000
section
variable {α : Type} [DecidableEq α]
def rest (X Y : List α) (i j : Nat) : List (Int × Int × Int) := scrF ((X.length - i) + (Y.length - j)) i j (X.drop i) (Y.drop j)
theorem rest_zero (X Y : List α) : rest X Y 0 0 = scr X Y := by simp [rest, scr]
theorem rest_end {X Y : List α} {i j : Nat} (hi : i = X.length) (hj : j = Y.length) : rest X Y i j = [] := by subst hi; subst hj; simp [rest, scrF]
theorem rest_keep {X Y : List α} {i j : Nat} (hi : i < X.length) (hj : j < Y.length) (h : X[i] = Y[j]) : rest X Y i j = (0, (i : Int), (j : Int)) :: rest X Y (i + 1) (j + 1) := by
 have e1 : X.drop i = X[i] :: X.drop (i + 1) := List.drop_eq_getElem_cons hi
 have e2 : Y.drop j = Y[j] :: Y.drop (j + 1) := List.drop_eq_getElem_cons hj
 obtain ⟨f, hf⟩ : ∃ f, (X.length - i) + (Y.length - j) = f + 1 := ⟨(X.length - i) + (Y.length - j) - 1, by omega⟩
 unfold rest
 rw [hf, e1, e2]
 simp only [scrF, if_pos h]
 rw [scrF_fuel f ((X.length - (i + 1)) + (Y.length - (j + 1)))] <;> simp <;> omega
theorem rest_gone {X Y : List α} {i j : Nat} (hi : i < X.length) (hj : j <= Y.length) (h : ∀ h : j < Y.length, ¬ X[i] = Y[j] /\ lcs (X.drop i) (Y.drop (j + 1)) <= lcs (X.drop (i + 1)) (Y.drop j)) : rest X Y i j = (1, (i : Int), 0) :: rest X Y (i + 1) j := by
 have e1 : X.drop i = X[i] :: X.drop (i + 1) := List.drop_eq_getElem_cons hi
 obtain ⟨f, hf⟩ : ∃ f, (X.length - i) + (Y.length - j) = f + 1 := ⟨(X.length - i) + (Y.length - j) - 1, by omega⟩
 by_cases hj2 : j < Y.length
 ·obtain ⟨h1, h2⟩ := h hj2
  have e2 : Y.drop j = Y[j] :: Y.drop (j + 1) := List.drop_eq_getElem_cons hj2
  unfold rest
  rw [hf, e2, e1]
  rw [e2, e1] at h2
  simp only [scrF, if_neg h1, if_pos h2]
  rw [scrF_fuel f ((X.length - (i + 1)) + (Y.length - j))] <;> simp <;> omega
 have e2 : Y.drop j = [] := List.drop_eq_nil_of_le (by omega)
 unfold rest
 rw [hf, e2, e1]
 simp only [scrF]
 rw [scrF_fuel f ((X.length - (i + 1)) + (Y.length - j))] <;> simp <;> omega
theorem rest_new {X Y : List α} {i j : Nat} (hi : i <= X.length) (hj : j < Y.length) (h : ∀ h : i < X.length, ¬ X[i] = Y[j] /\ ¬ lcs (X.drop i) (Y.drop (j + 1)) <= lcs (X.drop (i + 1)) (Y.drop j)) : rest X Y i j = (2, 0, (j : Int)) :: rest X Y i (j + 1) := by
 have e2 : Y.drop j = Y[j] :: Y.drop (j + 1) := List.drop_eq_getElem_cons hj
 obtain ⟨f, hf⟩ : ∃ f, (X.length - i) + (Y.length - j) = f + 1 := ⟨(X.length - i) + (Y.length - j) - 1, by omega⟩
 by_cases hi2 : i < X.length
 ·obtain ⟨h1, h2⟩ := h hi2
  have e1 : X.drop i = X[i] :: X.drop (i + 1) := List.drop_eq_getElem_cons hi2
  unfold rest
  rw [hf, e2, e1]
  rw [e2, e1] at h2
  simp only [scrF, if_neg h1, if_neg h2]
  rw [scrF_fuel f ((X.length - i) + (Y.length - (j + 1)))] <;> simp <;> omega
 have e1 : X.drop i = [] := List.drop_eq_nil_of_le (by omega)
 unfold rest
 rw [hf, e2, e1]
 simp only [scrF]
 rw [scrF_fuel f ((X.length - i) + (Y.length - (j + 1)))] <;> simp <;> omega
end
theorem rows_at {Y : List Nat} {rs : List (Nat × List Value)} {i : Nat} (h : i < rs.length) : (rowsC Y.length rs)[i]? = some (.slice (some ⟨rs[i].1, 0, none⟩) (Y.length + 1) (Y.length + 1)) := by simp [rowsC, h]
theorem row_mem {m : Nat} {rs : List (Nat × List Value)} {i : Nat} (h : i < rs.length) : (rs[i].1, AO.cells rs[i].2 3 ((m + 1) * 1)) ∈ rowsSeg m rs := List.mem_map.2 ⟨rs[i], List.getElem_mem h, rfl⟩
theorem row_at {w0 : World} {S : SS} {X Y : List Nat} {rs : List (Nat × List Value)} {i j : Nat} (hm : ∀ p ∈ rowsSeg Y.length rs, p ∈ S.flatten) (hr : ∀ t (h : t < rs.length), RowOK X Y t 0 rs[t].2) (h : i < rs.length) (hj : j <= Y.length) : Cell w0 S ((⟨rs[i].1, 0, none⟩ : Addr).add j) (.int .i64 (lcs (X.drop i) (Y.drop j) : Int)) :=
 (Rd.own (hm _ (row_mem h))).at ((hr i h).2 j (by omega) hj)
theorem diff_fc {w0 : World} {S : SS} {A B : Option Addr} {ca cb : Nat} {xs ys : List ByteArray} (hx : Rd w0 S A (xs.map .string)) (hy : Rd w0 S B (ys.map .string)) (hX : xs.length <= 1024) (hY : ys.length <= 1024) :
  FC Try.prog w0 104 [.slice A xs.length ca, .slice B ys.length cb] S (fun v S' => ∃ u seg, v = .tuple #[u, .int .i64 0] /\ S' = seg :: S /\ SlV 176 3 u (scr xs ys).length (stsC (scr xs ys)) seg) := by
 refine FC.ofD Try.known104 (by simp) ?_
 unfold Try.pc104
 simp only [argT]
 refine PW.seqOps (OL.dp rfl (OL.dp rfl (OL.nil (PW.k2 0 1 rfl ?_))))
 refine PW.seq fun K1 hK1 => ?_
 refine PW.seqOps (OL.dp rfl (OL.dp rfl (OL.dp rfl ?_)))
 refine OL.bool trivial (Yields.pure rfl) (fun g16 => ?_) (fun g16 => ?_)
 ·try simp only [decide_eq_true_eq, decide_eq_false_iff_not, beq_iff_eq, bne_iff_ne, beq_eq_false_iff_ne, bne_eq_false_iff_eq, Bool.not_eq_true', Bool.not_eq_false', Bool.not_eq_true, ne_eq, Decidable.not_not] at g16
  exfalso; omega -- done
 try simp only [decide_eq_true_eq, decide_eq_false_iff_not, beq_iff_eq, bne_iff_ne, beq_eq_false_iff_ne, bne_eq_false_iff_eq, Bool.not_eq_true', Bool.not_eq_false', Bool.not_eq_true, ne_eq, Decidable.not_not] at g16
 refine OL.det rfl (.pure rfl) (OL.det rfl (.pure rfl) (OL.det rfl (.pure rfl) (OL.dp rfl (OL.nil (PW.k3 0 1 20 rfl ?_)))))
 refine PW.cond rfl (fun c20 => ?_) (fun c20 => ?_)
 ·try simp only [decide_eq_true_eq, decide_eq_false_iff_not, beq_iff_eq, bne_iff_ne, beq_eq_false_iff_ne, bne_eq_false_iff_eq, Bool.not_eq_true', Bool.not_eq_false', Bool.not_eq_true, ne_eq, Decidable.not_not] at c20
  exfalso; omega -- done
 try simp only [decide_eq_true_eq, decide_eq_false_iff_not, beq_iff_eq, bne_iff_ne, beq_eq_false_iff_ne, bne_eq_false_iff_eq, Bool.not_eq_true', Bool.not_eq_false', Bool.not_eq_true, ne_eq, Decidable.not_not] at c20
 refine PW.skip ?_
 refine hK1 _ _ ?_
 refine PW.k2 0 1 rfl (PW.seqOps (OL.cons trivial OW.mkM ?_))
 rintro _ _ ⟨r21, rfl, rfl⟩
 refine OL.dp rfl (OL.nil (PW.k3 0 1 6 rfl (PW.seqOps (OL.dp rfl (OL.dp rfl ?_)))))
 refine OL.call trivial rfl (numbered_fc (ks := []) hx (by omega) (by simp)) ?_
 rintro vX _ ⟨segX, rfl, hslX⟩
 rw [<- numF_length [] xs] at hslX
 refine OL.dp rfl (OL.dp rfl ?_)
 refine OL.call trivial rfl (FC.sel [1, 0] 2 rfl (numbered_fc (ks := (numF [] xs).1) hy.cons (by omega) (by have := numF_keys [] xs; simp at this; omega))) ?_
 rintro vY _ ⟨segY, rfl, hslY⟩
 rw [<- numF_length (numF [] xs).1 ys] at hslY
 refine OL.dp rfl (OL.dp rfl (OL.nil (PW.k2 7 8 rfl (PW.seqOps (OL.sel [0, 2] 3 rfl ?_)))))
 change OL _ _ _ _ _ (segY :: segX :: S) _
 have hscr := scr_nums xs ys
 have hXl := numF_length ([] : List ByteArray) xs
 have hYl := numF_length (numF [] xs).1 ys
 generalize hX' : (numF [] xs).2 = X at *
 generalize hY' : (numF (numF [] xs).1 ys).2 = Y at *
 obtain ⟨AX, capX, rfl, hrX, hlX⟩ := hslX.rd (S := segY :: segX :: S) (k := 1) rfl
 obtain ⟨AY, capY, rfl, hrY, hlY⟩ := hslY.rd (S := segY :: segX :: S) (k := 0) rfl
 refine OL.dp rfl (OL.dp rfl ?_)
 refine OL.call trivial rfl (table_fc hrX hrY (by omega) (by omega)) ?_
 rintro _ _ ⟨ro, rs, rfl, rfl, hrs, hrow⟩
 refine OL.dp rfl (OL.nil (PW.k3 7 8 9 rfl (PW.seqOps (OL.dp rfl (OL.nil (PW.k4 7 8 9 10 rfl ?_))))))
 refine PW.seq fun K2 hK2 => ?_
 refine PW.seqOps (OL.nilseg (OL.dp rfl (OL.dp rfl (OL.nil (PW.k6 7 8 9 10 11 12 rfl (PW.block (PW.k6 7 8 9 10 11 12 rfl ?_)))))))
 refine PW.loopK (I := fun m T S' => ∃ (i j : Nat) (o : List (Int × Int × Int)) (v : Value) (seg : Seg), (i <= X.length /\ j <= Y.length /\ m = (X.length - i) + (Y.length - j) /\ o ++ rest X Y i j = scr X Y /\ o.length <= i + j /\ SlV 176 3 v o.length (stsC o) seg) /\ T = ([(7, .slice AX X.length capX), (8, .slice AY Y.length capY), (9, .slice (some ⟨ro, 0, none⟩) (X.length + 1) (X.length + 1)), (10, v), (11, .int .i64 i), (12, .int .i64 j)] : TT) /\ S' = seg :: rowsSeg Y.length rs :: [(ro, .cells (rowsC Y.length rs) 71 ((X.length + 1) * 1))] :: segY :: segX :: S) (m := X.length + Y.length) ⟨0, 0, [], _, [], ⟨by omega, by omega, by omega, by rw [rest_zero]; rfl, by simp, by simpa [stsC] using SlV.nil 176 3⟩, rfl, rfl⟩ ?_
 rintro m _ _ ⟨i, j, o, v, seg, ⟨hi, hj, hm, hrest, holen, hsl⟩, rfl, rfl⟩
 refine PW.seq fun K3 hK3 => ?_
 refine PW.seqOps (OL.dp rfl (OL.dp rfl (OL.dp rfl (OL.dp rfl ?_))))
 refine OL.bool trivial (Yields.pure rfl) (fun g35 => ?_) (fun g35 => ?_)
 ·try simp only [decide_eq_true_eq, decide_eq_false_iff_not, beq_iff_eq, bne_iff_ne, beq_eq_false_iff_ne, bne_eq_false_iff_eq, Bool.not_eq_true', Bool.not_eq_false', Bool.not_eq_true, ne_eq, Decidable.not_not] at g35
  refine OL.off rfl rfl (OL.off rfl rfl (OL.off rfl rfl (OL.off rfl rfl (OL.dp rfl (OL.nil (PW.k7 7 8 9 10 11 12 40 rfl (PW.ite (b := true) rfl ?_)))))))
  rw [if_pos rfl]
  refine PW.skip ?_
  refine hK3 _ _ ?_
  refine PW.k6 7 8 9 10 11 12 rfl (PW.block (PW.block ?_))
  refine PW.seq fun K4 hK4 => ?_
  refine PW.quietK Try.mixed (QK.dp rfl (QK.dp rfl (QK.dp rfl (QK.dp rfl ?_))))
  refine QK.bool trivial (Yields.pure rfl) (fun g53 => ?_) (fun g53 => ?_)
  ·try simp only [decide_eq_true_eq, decide_eq_false_iff_not, beq_iff_eq, bne_iff_ne, beq_eq_false_iff_ne, bne_eq_false_iff_eq, Bool.not_eq_true', Bool.not_eq_false', Bool.not_eq_true, ne_eq, Decidable.not_not] at g53
   obtain ⟨aX, rfl⟩ := hrX.some (intC_ne (by omega))
   refine QK.det rfl (.pure rfl) (QK.det rfl (.pure rfl) (QK.det rfl (.pure rfl) (QK.det rfl (.pure rfl) (QK.dp rfl ?_))))
   refine QK.bool trivial (Yields.pure rfl) (fun g59 => ?_) (fun g59 => ?_)
   ·try simp only [decide_eq_true_eq, decide_eq_false_iff_not, beq_iff_eq, bne_iff_ne, beq_eq_false_iff_ne, bne_eq_false_iff_eq, Bool.not_eq_true', Bool.not_eq_false', Bool.not_eq_true, ne_eq, Decidable.not_not] at g59
    obtain ⟨aY, rfl⟩ := hrY.some (intC_ne (by omega))
    refine QK.det rfl (.pure rfl) (QK.det rfl (.pure rfl) ?_)
    refine QK.det rfl (.ixN1 rfl rfl rfl (by omega)) ?_
    refine QK.det rfl (.ld rfl (int_at hrX.cons.cons.cons (by omega))) ?_
    refine QK.det rfl (.pure rfl) (QK.det rfl (.pure rfl) ?_)
    refine QK.det rfl (.ixN1 rfl rfl rfl (by omega)) ?_
    refine QK.det rfl (.ld rfl (int_at hrY.cons.cons.cons (by omega))) ?_
    refine QK.nil ?_
    change OL _ _ _ [_, _, _] _ _ _
    refine OL.det rfl (.pure rfl) (OL.dp rfl (OL.dp rfl (OL.nil ?_)))
    refine hK4 _ _ ?_
    refine PW.k7 7 8 9 10 11 12 48 rfl ?_
    refine PW.cond rfl (fun c48 => ?_) (fun c48 => ?_)
    ·try simp only [decide_eq_true_eq, decide_eq_false_iff_not, beq_iff_eq, bne_iff_ne, beq_eq_false_iff_ne, bne_eq_false_iff_eq, Bool.not_eq_true', Bool.not_eq_false', Bool.not_eq_true, ne_eq, Decidable.not_not] at c48
     refine PW.seqOps (OL.dp rfl (OL.dp rfl (OL.dp rfl (OL.det trivial (.build rfl) ?_))))
     apply OL.app1 (k := 0)
     ·rfl
     ·rfl
     ·rfl
     ·rfl
     ·rfl
     ·rfl
     ·exact hsl
     ·rfl
     ·omega
     ·unfold maxLen; omega
     intro v75 seg75 hsl75
     refine OL.dp rfl (OL.nil (PW.k6 7 8 9 10 11 12 rfl (PW.seqOps (OL.dp rfl ?_))))
     refine OL.det trivial (.add64 rfl rfl (by omega) (by omega)) ?_
     refine OL.dp rfl (OL.nil (PW.k6 7 8 9 10 11 12 rfl (PW.ops (OL.dp rfl ?_))))
     refine OL.det trivial (.add64 rfl rfl (by omega) (by omega)) ?_
     refine OL.dp rfl (OL.nil ?_)
     repeat rw [inBlk_n]
     try rw [thenK_n]
     refine LoopEnd.mk (T'' := [(7, _), (8, _), (9, _), (10, _), (11, _), (12, _)]) (wi rfl) ?_
     refine ⟨(X.length - (i + 1)) + (Y.length - (j + 1)), by omega, i + 1, j + 1, o ++ [(0, (i : Int), (j : Int))], v75, seg75, ⟨by omega, by omega, rfl, ?_, by simp; omega, ?_⟩, rfl, rfl⟩
     ·rw [<- hrest, rest_keep (i := i) (j := j) (by omega) (by omega) (by omega), List.append_assoc]; rfl
     rw [stsC_append, List.length_append]; exact hsl75
    try simp only [decide_eq_true_eq, decide_eq_false_iff_not, beq_iff_eq, bne_iff_ne, beq_eq_false_iff_ne, bne_eq_false_iff_eq, Bool.not_eq_true', Bool.not_eq_false', Bool.not_eq_true, ne_eq, Decidable.not_not] at c48
    refine PW.seq fun K5 hK5 => ?_
    refine PW.quietK Try.mixed (QK.dp rfl (QK.dp rfl (QK.dp rfl (QK.dp rfl ?_))))
    refine QK.bool trivial (Yields.pure rfl) (fun g85 => ?_) (fun g85 => ?_)
    ·try simp only [decide_eq_true_eq, decide_eq_false_iff_not, beq_iff_eq, bne_iff_ne, beq_eq_false_iff_ne, bne_eq_false_iff_eq, Bool.not_eq_true', Bool.not_eq_false', Bool.not_eq_true, ne_eq, Decidable.not_not] at g85
     refine QK.det rfl (.pure rfl) (QK.det rfl (.pure rfl) (QK.det rfl (.pure rfl) (QK.det rfl (.pure rfl) ?_)))
     refine QK.bool rfl (Yields.pure rfl) (fun g90 => ?_) (fun g90 => ?_)
     ·(try simp only [decide_eq_true_eq, decide_eq_false_iff_not, beq_iff_eq, bne_iff_ne, beq_eq_false_iff_ne, bne_eq_false_iff_eq, Bool.not_eq_true', Bool.not_eq_false', Bool.not_eq_true, ne_eq, Decidable.not_not] at g90) <;> (exfalso; first | omega | (simp at g90; done) | (revert g90; simp; done))
     try simp only [decide_eq_true_eq, decide_eq_false_iff_not, beq_iff_eq, bne_iff_ne, beq_eq_false_iff_ne, bne_eq_false_iff_eq, Bool.not_eq_true', Bool.not_eq_false', Bool.not_eq_true, ne_eq, Decidable.not_not] at g90
     refine QK.det rfl (.pure rfl) (QK.det rfl (.pure rfl) ?_)
     refine QK.det rfl (.add64 rfl rfl (by omega) (by omega)) ?_
     refine QK.det rfl (.ixN1 rfl rfl (show _ = ((i + 1 : Nat) : Int) from rfl) (by omega)) ?_
     refine QK.det rfl (.ld rfl ((Rd.own (E := 71) (tot := (X.length + 1) * 1) (by simp)).at (rows_at (Y := Y) (rs := rs) (i := i + 1) (by omega)))) ?_
     refine QK.det rfl (.pure rfl) ?_
     refine QK.det rfl (.ixN1 rfl rfl rfl (by omega)) ?_
     refine QK.det rfl (.ld rfl (row_at (Y := Y) (rs := rs) (i := i + 1) (j := j) (fun p hp => by simp [hp]) hrow (by omega) (by omega))) ?_
     refine QK.det rfl (.pure rfl) (QK.det rfl (.pure rfl) ?_)
     refine QK.det rfl (.ixN1 rfl rfl rfl (by omega)) ?_
     refine QK.det rfl (.ld rfl ((Rd.own (E := 71) (tot := (X.length + 1) * 1) (by simp)).at (rows_at (Y := Y) (rs := rs) (i := i) (by omega)))) ?_
     refine QK.det rfl (.pure rfl) ?_
     refine QK.det rfl (.add64 rfl rfl (by omega) (by omega)) ?_
     refine QK.det rfl (.ixN1 rfl rfl (show _ = ((j + 1 : Nat) : Int) from rfl) (by omega)) ?_
     refine QK.det rfl (.ld rfl (row_at (Y := Y) (rs := rs) (i := i) (j := j + 1) (fun p hp => by simp [hp]) hrow (by omega) (by omega))) ?_
     refine QK.nil ?_
     change OL _ _ _ [_, _, _, _] _ _ _
     refine OL.det rfl (.pure rfl) (OL.det rfl (.pure rfl) (OL.dp rfl (OL.dp rfl (OL.nil ?_))))
     refine hK5 _ _ ?_
     refine PW.k7 7 8 9 10 11 12 80 rfl ?_
     refine PW.cond rfl (fun c80 => ?_) (fun c80 => ?_)
     ·try simp only [decide_eq_true_eq, decide_eq_false_iff_not, beq_iff_eq, bne_iff_ne, beq_eq_false_iff_ne, bne_eq_false_iff_eq, Bool.not_eq_true', Bool.not_eq_false', Bool.not_eq_true, ne_eq, Decidable.not_not] at c80
      refine PW.seqOps (OL.dp rfl (OL.dp rfl (OL.det trivial (.build rfl) ?_)))
      apply OL.app1 (k := 0)
      ·rfl
      ·rfl
      ·rfl
      ·rfl
      ·rfl
      ·rfl
      ·exact hsl
      ·rfl
      ·omega
      ·unfold maxLen; omega
      intro v114 seg114 hsl114
      refine OL.dp rfl (OL.nil (PW.k6 7 8 9 10 11 12 rfl (PW.ops (OL.dp rfl ?_))))
      refine OL.det trivial (.add64 rfl rfl (by omega) (by omega)) ?_
      refine OL.dp rfl (OL.nil ?_)
      repeat rw [inBlk_n]
      try rw [thenK_n]
      refine LoopEnd.mk (T'' := [(7, _), (8, _), (9, _), (10, _), (11, _), (12, _)]) (wi rfl) ?_
      refine ⟨(X.length - (i + 1)) + (Y.length - (j)), by omega, i + 1, j, o ++ [(1, (i : Int), 0)], v114, seg114, ⟨by omega, by omega, rfl, ?_, by simp; omega, ?_⟩, rfl, rfl⟩
      ·rw [<- hrest, rest_gone (i := i) (j := j) (by omega) (by omega) (fun h => by first | omega | exact ⟨by omega, by omega⟩), List.append_assoc]; rfl
      rw [stsC_append, List.length_append]; exact hsl114
     try simp only [decide_eq_true_eq, decide_eq_false_iff_not, beq_iff_eq, bne_iff_ne, beq_eq_false_iff_ne, bne_eq_false_iff_eq, Bool.not_eq_true', Bool.not_eq_false', Bool.not_eq_true, ne_eq, Decidable.not_not] at c80
     refine PW.seqOps (OL.dp rfl (OL.dp rfl (OL.det trivial (.build rfl) ?_)))
     apply OL.app1 (k := 0)
     ·rfl
     ·rfl
     ·rfl
     ·rfl
     ·rfl
     ·rfl
     ·exact hsl
     ·rfl
     ·omega
     ·unfold maxLen; omega
     intro v45 seg45 hsl45
     refine OL.dp rfl (OL.nil (PW.k6 7 8 9 10 11 12 rfl (PW.ops (OL.dp rfl ?_))))
     refine OL.det trivial (.add64 rfl rfl (by omega) (by omega)) ?_
     refine OL.dp rfl (OL.nil ?_)
     repeat rw [inBlk_n]
     try rw [thenK_n]
     refine LoopEnd.mk (T'' := [(7, _), (8, _), (9, _), (10, _), (11, _), (12, _)]) (wi rfl) ?_
     refine ⟨(X.length - (i)) + (Y.length - (j + 1)), by omega, i, j + 1, o ++ [(2, 0, (j : Int))], v45, seg45, ⟨by omega, by omega, rfl, ?_, by simp; omega, ?_⟩, rfl, rfl⟩
     ·rw [<- hrest, rest_new (i := i) (j := j) (by omega) (by omega) (fun h => by first | omega | exact ⟨by omega, by omega⟩), List.append_assoc]; rfl
     rw [stsC_append, List.length_append]; exact hsl45
    (try simp only [decide_eq_true_eq, decide_eq_false_iff_not, beq_iff_eq, bne_iff_ne, beq_eq_false_iff_ne, bne_eq_false_iff_eq, Bool.not_eq_true', Bool.not_eq_false', Bool.not_eq_true, ne_eq, Decidable.not_not] at g85) <;> (exfalso; first | omega | (simp at g85; done) | (revert g85; simp; done))
   try simp only [decide_eq_true_eq, decide_eq_false_iff_not, beq_iff_eq, bne_iff_ne, beq_eq_false_iff_ne, bne_eq_false_iff_eq, Bool.not_eq_true', Bool.not_eq_false', Bool.not_eq_true, ne_eq, Decidable.not_not] at g59
   refine QK.off rfl rfl (QK.off rfl rfl (QK.off rfl rfl (QK.off rfl rfl (QK.off rfl rfl (QK.off rfl rfl (QK.off rfl rfl (QK.off rfl rfl (QK.nil ?_))))))))
   change OL _ _ _ [_, _, _] _ _ _
   refine OL.off rfl rfl (OL.dp rfl (OL.dp rfl (OL.nil ?_)))
   refine hK4 _ _ ?_
   refine PW.k7 7 8 9 10 11 12 48 rfl (PW.ite (b := false) rfl ?_)
   rw [if_neg Bool.false_ne_true]
   refine PW.seq fun K6 hK6 => ?_
   refine PW.quietK Try.mixed (QK.dp rfl (QK.dp rfl (QK.dp rfl (QK.dp rfl ?_))))
   refine QK.bool trivial (Yields.pure rfl) (fun g85 => ?_) (fun g85 => ?_)
   ·try simp only [decide_eq_true_eq, decide_eq_false_iff_not, beq_iff_eq, bne_iff_ne, beq_eq_false_iff_ne, bne_eq_false_iff_eq, Bool.not_eq_true', Bool.not_eq_false', Bool.not_eq_true, ne_eq, Decidable.not_not] at g85
    refine QK.det rfl (.pure rfl) (QK.det rfl (.pure rfl) (QK.det rfl (.pure rfl) (QK.det rfl (.pure rfl) ?_)))
    refine QK.bool rfl (Yields.pure rfl) (fun g90 => ?_) (fun g90 => ?_)
    ·try simp only [decide_eq_true_eq, decide_eq_false_iff_not, beq_iff_eq, bne_iff_ne, beq_eq_false_iff_ne, bne_eq_false_iff_eq, Bool.not_eq_true', Bool.not_eq_false', Bool.not_eq_true, ne_eq, Decidable.not_not] at g90
     refine QK.off rfl rfl (QK.off rfl rfl (QK.off rfl rfl (QK.off rfl rfl (QK.off rfl rfl (QK.off rfl rfl (QK.off rfl rfl (QK.off rfl rfl (QK.off rfl rfl (QK.off rfl rfl (QK.off rfl rfl (QK.off rfl rfl ?_)))))))))))
     refine QK.off rfl rfl (QK.off rfl rfl (QK.off rfl rfl (QK.off rfl rfl (QK.nil ?_))))
     change OL _ _ _ [_, _, _, _] _ _ _
     refine OL.off rfl rfl (OL.det rfl (.pure rfl) (OL.dp rfl (OL.dp rfl (OL.nil ?_))))
     refine hK6 _ _ ?_
     refine PW.k7 7 8 9 10 11 12 80 rfl (PW.ite (b := true) rfl ?_)
     rw [if_pos rfl]
     refine PW.seqOps (OL.dp rfl (OL.dp rfl (OL.det trivial (.build rfl) ?_)))
     apply OL.app1 (k := 0)
     ·rfl
     ·rfl
     ·rfl
     ·rfl
     ·rfl
     ·rfl
     ·exact hsl
     ·rfl
     ·omega
     ·unfold maxLen; omega
     intro v114 seg114 hsl114
     refine OL.dp rfl (OL.nil (PW.k6 7 8 9 10 11 12 rfl (PW.ops (OL.dp rfl ?_))))
     refine OL.det trivial (.add64 rfl rfl (by omega) (by omega)) ?_
     refine OL.dp rfl (OL.nil ?_)
     repeat rw [inBlk_n]
     try rw [thenK_n]
     refine LoopEnd.mk (T'' := [(7, _), (8, _), (9, _), (10, _), (11, _), (12, _)]) (wi rfl) ?_
     refine ⟨(X.length - (i + 1)) + (Y.length - (j)), by omega, i + 1, j, o ++ [(1, (i : Int), 0)], v114, seg114, ⟨by omega, by omega, rfl, ?_, by simp; omega, ?_⟩, rfl, rfl⟩
     ·rw [<- hrest, rest_gone (i := i) (j := j) (by omega) (by omega) (fun h => by first | omega | exact ⟨by omega, by omega⟩), List.append_assoc]; rfl
     rw [stsC_append, List.length_append]; exact hsl114
    (try simp only [decide_eq_true_eq, decide_eq_false_iff_not, beq_iff_eq, bne_iff_ne, beq_eq_false_iff_ne, bne_eq_false_iff_eq, Bool.not_eq_true', Bool.not_eq_false', Bool.not_eq_true, ne_eq, Decidable.not_not] at g90) <;> (exfalso; first | omega | (simp at g90; done) | (revert g90; simp; done))
   (try simp only [decide_eq_true_eq, decide_eq_false_iff_not, beq_iff_eq, bne_iff_ne, beq_eq_false_iff_ne, bne_eq_false_iff_eq, Bool.not_eq_true', Bool.not_eq_false', Bool.not_eq_true, ne_eq, Decidable.not_not] at g85) <;> (exfalso; first | omega | (simp at g85; done) | (revert g85; simp; done))
  (try simp only [decide_eq_true_eq, decide_eq_false_iff_not, beq_iff_eq, bne_iff_ne, beq_eq_false_iff_ne, bne_eq_false_iff_eq, Bool.not_eq_true', Bool.not_eq_false', Bool.not_eq_true, ne_eq, Decidable.not_not] at g53) <;> (exfalso; first | omega | (simp at g53; done) | (revert g53; simp; done))
 try simp only [decide_eq_true_eq, decide_eq_false_iff_not, beq_iff_eq, bne_iff_ne, beq_eq_false_iff_ne, bne_eq_false_iff_eq, Bool.not_eq_true', Bool.not_eq_false', Bool.not_eq_true, ne_eq, Decidable.not_not] at g35
 refine OL.det rfl (.pure rfl) (OL.det rfl (.pure rfl) (OL.det rfl (.pure rfl) (OL.det rfl (.pure rfl) (OL.dp rfl (OL.nil (PW.k7 7 8 9 10 11 12 40 rfl ?_))))))
 refine PW.cond rfl (fun c40 => ?_) (fun c40 => ?_)
 ·try simp only [decide_eq_true_eq, decide_eq_false_iff_not, beq_iff_eq, bne_iff_ne, beq_eq_false_iff_ne, bne_eq_false_iff_eq, Bool.not_eq_true', Bool.not_eq_false', Bool.not_eq_true, ne_eq, Decidable.not_not] at c40
  refine PW.skip ?_
  refine hK3 _ _ ?_
  refine PW.k6 7 8 9 10 11 12 rfl (PW.block (PW.block ?_))
  refine PW.seq fun K7 hK7 => ?_
  refine PW.quietK Try.mixed (QK.dp rfl (QK.dp rfl (QK.dp rfl (QK.dp rfl ?_))))
  refine QK.bool trivial (Yields.pure rfl) (fun g53 => ?_) (fun g53 => ?_)
  ·(try simp only [decide_eq_true_eq, decide_eq_false_iff_not, beq_iff_eq, bne_iff_ne, beq_eq_false_iff_ne, bne_eq_false_iff_eq, Bool.not_eq_true', Bool.not_eq_false', Bool.not_eq_true, ne_eq, Decidable.not_not] at g53) <;> (exfalso; first | omega | (simp at g53; done) | (revert g53; simp; done))
  try simp only [decide_eq_true_eq, decide_eq_false_iff_not, beq_iff_eq, bne_iff_ne, beq_eq_false_iff_ne, bne_eq_false_iff_eq, Bool.not_eq_true', Bool.not_eq_false', Bool.not_eq_true, ne_eq, Decidable.not_not] at g53
  refine QK.off rfl rfl (QK.off rfl rfl (QK.off rfl rfl (QK.off rfl rfl (QK.dp rfl (QK.dp rfl (QK.off rfl rfl (QK.off rfl rfl (QK.off rfl rfl (QK.off rfl rfl (QK.off rfl rfl (QK.off rfl rfl ?_)))))))))))
  refine QK.off rfl rfl (QK.off rfl rfl (QK.nil ?_))
  change OL _ _ _ [_, _, _] _ _ _
  refine OL.off rfl rfl (OL.dp rfl (OL.dp rfl (OL.nil ?_)))
  refine hK7 _ _ ?_
  refine PW.k7 7 8 9 10 11 12 48 rfl (PW.ite (b := false) rfl ?_)
  rw [if_neg Bool.false_ne_true]
  refine PW.seq fun K8 hK8 => ?_
  refine PW.quietK Try.mixed (QK.dp rfl (QK.dp rfl (QK.dp rfl (QK.dp rfl ?_))))
  refine QK.bool trivial (Yields.pure rfl) (fun g85 => ?_) (fun g85 => ?_)
  ·(try simp only [decide_eq_true_eq, decide_eq_false_iff_not, beq_iff_eq, bne_iff_ne, beq_eq_false_iff_ne, bne_eq_false_iff_eq, Bool.not_eq_true', Bool.not_eq_false', Bool.not_eq_true, ne_eq, Decidable.not_not] at g85) <;> (exfalso; first | omega | (simp at g85; done) | (revert g85; simp; done))
  try simp only [decide_eq_true_eq, decide_eq_false_iff_not, beq_iff_eq, bne_iff_ne, beq_eq_false_iff_ne, bne_eq_false_iff_eq, Bool.not_eq_true', Bool.not_eq_false', Bool.not_eq_true, ne_eq, Decidable.not_not] at g85
  refine QK.off rfl rfl (QK.off rfl rfl (QK.off rfl rfl (QK.off rfl rfl (QK.off rfl rfl (QK.off rfl rfl (QK.off rfl rfl (QK.off rfl rfl (QK.off rfl rfl (QK.off rfl rfl (QK.off rfl rfl (QK.off rfl rfl ?_)))))))))))
  refine QK.off rfl rfl (QK.off rfl rfl (QK.off rfl rfl (QK.off rfl rfl (QK.off rfl rfl (QK.off rfl rfl (QK.off rfl rfl (QK.off rfl rfl (QK.off rfl rfl (QK.nil ?_)))))))))
  change OL _ _ _ [_, _, _, _] _ _ _
  refine OL.off rfl rfl (OL.off rfl rfl (OL.dp rfl (OL.dp rfl (OL.nil ?_))))
  refine hK8 _ _ ?_
  refine PW.k7 7 8 9 10 11 12 80 rfl (PW.ite (b := false) rfl ?_)
  rw [if_neg Bool.false_ne_true]
  refine PW.seqOps (OL.dp rfl (OL.dp rfl (OL.det trivial (.build rfl) ?_)))
  apply OL.app1 (k := 0)
  ·rfl
  ·rfl
  ·rfl
  ·rfl
  ·rfl
  ·rfl
  ·exact hsl
  ·rfl
  ·omega
  ·unfold maxLen; omega
  intro v45 seg45 hsl45
  refine OL.dp rfl (OL.nil (PW.k6 7 8 9 10 11 12 rfl (PW.ops (OL.dp rfl ?_))))
  refine OL.det trivial (.add64 rfl rfl (by omega) (by omega)) ?_
  refine OL.dp rfl (OL.nil ?_)
  repeat rw [inBlk_n]
  try rw [thenK_n]
  refine LoopEnd.mk (T'' := [(7, _), (8, _), (9, _), (10, _), (11, _), (12, _)]) (wi rfl) ?_
  refine ⟨(X.length - (i)) + (Y.length - (j + 1)), by omega, i, j + 1, o ++ [(2, 0, (j : Int))], v45, seg45, ⟨by omega, by omega, rfl, ?_, by simp; omega, ?_⟩, rfl, rfl⟩
  ·rw [<- hrest, rest_new (i := i) (j := j) (by omega) (by omega) (fun h => by first | omega | exact ⟨by omega, by omega⟩), List.append_assoc]; rfl
  rw [stsC_append, List.length_append]; exact hsl45
 try simp only [decide_eq_true_eq, decide_eq_false_iff_not, beq_iff_eq, bne_iff_ne, beq_eq_false_iff_ne, bne_eq_false_iff_eq, Bool.not_eq_true', Bool.not_eq_false', Bool.not_eq_true, ne_eq, Decidable.not_not] at c40
 refine PW.exit ?_
 refine hK2 _ _ ?_
 refine PW.k1 10 rfl (PW.seqOps (OL.dp rfl (OL.dp rfl (OL.dp rfl (OL.nil (PW.k2 4 5 rfl (PW.ret ?_)))))))
 change (Exit.ret = Exit.normal ∨ Exit.ret = Exit.ret) /\ ∃ v, resV _ _ = some v /\ _
 have e1 := rest_end (X := X) (Y := Y) (show i = X.length by omega) (show j = Y.length by omega)
 rw [e1, List.append_nil] at hrest
 refine ⟨.inr rfl, _, rfl, seg :: S, ?_, v, seg, rfl, rfl, by rw [<- hscr, <- hrest]; exact hsl⟩
 exact Sub.cons (Sub.drop (Sub.drop (Sub.drop (Sub.drop (Sub.refl S)))))
end Go.Proofs.My




