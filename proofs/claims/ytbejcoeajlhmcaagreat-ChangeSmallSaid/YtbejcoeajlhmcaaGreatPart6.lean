/- Walks. -/
import Derived.Test.YtbejcoeajlhmcaaGreatPart5
set_option linter.unusedVariables false
set_option linter.unusedSimpArgs false
set_option linter.unusedSectionVars false

namespace Go.Proofs.Gr
open Go.SL Go.RowKit Go.Proofs Go.GP
set_option maxHeartbeats 1000000
def gidx {α : Type} (q : α -> Bool) (l : List α) : Int := match l.findIdx? q with | some k => (k : Int) | none => -1
theorem gidx_take {α : Type} {q : α -> Bool} {l : List α} {k : Nat} (hk : k < l.length) (h : ∀ x ∈ l.take k, q x = false) (hq : q l[k] = true) : gidx q l = (k : Int) := by
 unfold gidx
 have : l.findIdx? q = some k := by
  rw [List.findIdx?_eq_some_iff_getElem]
  refine ⟨hk, hq, fun j hj => ?_⟩
  have := h l[j] (List.mem_take_iff_getElem.2 ⟨j, by omega, rfl⟩)
  simp [this]
 rw [this]
theorem gidx_no {α : Type} {q : α -> Bool} {l : List α} (h : ∀ x ∈ l, q x = false) : gidx q l = -1 := by
 unfold gidx
 have : l.findIdx? q = none := by rw [List.findIdx?_eq_none_iff]; exact h
 rw [this]
theorem gidx_any {α : Type} {q : α -> Bool} {l : List α} : (gidx q l ≥ 0) = (l.any q = true) := by
 unfold gidx
 apply propext
 cases h : l.findIdx? q with
 | none =>
  have := List.findIdx?_eq_none_iff.1 h
  simp only [List.any_eq_true]
  constructor
  ·intro h; omega
  rintro ⟨x, hx, hq⟩; rw [this x hx] at hq; cases hq
 | some k =>
  obtain ⟨h1, h2, _⟩ := List.findIdx?_eq_some_iff_getElem.1 h
  simp only [List.any_eq_true]
  exact ⟨fun _ => ⟨_, List.getElem_mem h1, h2⟩, fun _ => by omega⟩
theorem gidx_cases {α : Type} (q : α -> Bool) (l : List α) : (gidx q l = -1 /\ ∀ x ∈ l, q x = false) ∨ ∃ k, ∃ h : k < l.length, gidx q l = (k : Int) /\ q l[k] = true /\ ∀ x ∈ l.take k, q x = false := by
 unfold gidx
 cases h : l.findIdx? q with
 | none => exact .inl ⟨rfl, List.findIdx?_eq_none_iff.1 h⟩
 | some k =>
  obtain ⟨h1, h2, h3⟩ := List.findIdx?_eq_some_iff_getElem.1 h
  refine .inr ⟨k, h1, rfl, h2, fun x hx => ?_⟩
  obtain ⟨j, hj, rfl⟩ := List.mem_take_iff_getElem.1 hx
  have := h3 j (by omega)
  simpa using this
theorem lineV_box (x : LineP) : (lineV x).cells.toList = lineC x := rfl
abbrev lseg (r : Nat) (x : LineP) : Seg := [(r, .cells (lineC x) 99 35)]
theorem line_st {w0 : World} {S : SS} {P : Program} {n r : Nat} {T : TT} {x v : PV} {u : LineP} {z : List Value} (hx : x.val T = some (.pointer (some ⟨r, 0, none⟩))) (hv : v.val T = some (lineV u)) (hz : z.length = 35) :
  OW P w0 n (.st 35 x v) T ([(r, .cells z 99 35)] :: S) (fun _ S' => S' = lseg r u :: S) := by
 refine (OW.st (k := 0) (c := z) (u := lineV u) hx hv rfl ((List.size_toArray).trans (lineC_len u)) (by omega) (lineC_one u)).mono ?_
 rintro _ _ rfl
 rw [lineV_box, setAll (by rw [lineC_len, hz])]
 rfl
section
variable {w0 : World} {S : SS} {r E tot : Nat} {x : LineP}
theorem lcell (hm : (r, AO.cells (lineC x) E tot) ∈ S.flatten) : ∀ (j : Nat) (v : Value), (lineC x)[j]? = some v -> Cell w0 S ((⟨r, 0, none⟩ : Addr).add j) v := all_at hm
theorem lcell_vtx (hm : (r, AO.cells (lineC x) E tot) ∈ S.flatten) : ∀ (j : Nat) (v : Value), (vtxL x.v)[j]? = some v -> Cell w0 S (((⟨r, 0, none⟩ : Addr).add 0).add j) v := fun j v hj => by
 have := lcell (w0 := w0) hm j v (by unfold lineC; rw [List.getElem?_append_left (List.getElem?_eq_some_iff.1 hj).1]; exact hj)
 simpa [Addr.add_lit] using this
theorem lcell_text (hm : (r, AO.cells (lineC x) E tot) ∈ S.flatten) : Cell w0 S ((⟨r, 0, none⟩ : Addr).add 33) (.string x.text) := lcell hm _ _ (lineC_text x).1
theorem lcell_alive (hm : (r, AO.cells (lineC x) E tot) ∈ S.flatten) : Cell w0 S ((⟨r, 0, none⟩ : Addr).add 34) (.bool x.alive) := lcell hm _ _ (lineC_text x).2
end
theorem lines_app (a b : List LineP) : lines (a ++ b) = lines a ++ lines b := by unfold lines; rw [List.flatMap_append]
theorem lines_set {q : List LineP} {i : Nat} (hi : i < q.length) (v : LineP) : setAt (lines q) (i * 35) (lineC v) = lines (q.set i v) := by
 have hl := lines_len q
 have hv := lineC_len v
 have e : q = q.take i ++ q[i] :: q.drop (i + 1) := by rw [List.getElem_cons_drop, List.take_append_drop]
 have e1 : (lines (q.take i)).length = i * 35 := by rw [lines_len, List.length_take, Nat.min_eq_left (by omega)]
 have e2 : lines q = lines (q.take i) ++ (lineC q[i] ++ lines (q.drop (i + 1))) := by
  have : lines (q[i] :: q.drop (i + 1)) = lineC q[i] ++ lines (q.drop (i + 1)) := by unfold lines; rw [List.flatMap_cons]
  rw [<- this, <- lines_app, <- e]
 have hq := lineC_len q[i]
 rw [setAt_eq _ _ _ (by omega), e2, List.take_append_of_le_length (by omega), List.take_of_length_le (by omega), hv, List.drop_append, List.drop_eq_nil_of_le (by omega), e1, show i * 35 + 35 - i * 35 = 35 by omega, List.drop_append, List.drop_eq_nil_of_le (by omega), hq, List.set_eq_take_append_cons_drop, if_pos hi, lines_app]
 unfold lines
 simp
theorem madeL_len (z : List Value) (n : Nat) : (madeL z n).length = n := by simp [madeL]
theorem made_one {z : List Value} (hz : z.all (·.oneCell') = true) (h0 : 0 < z.length) (n : Nat) : (madeL z n).all (·.oneCell') = true := by
 rw [List.all_eq_true]
 intro v hv
 obtain ⟨i, _, rfl⟩ := List.mem_map.1 hv
 have hlt := Nat.mod_lt i h0
 have : z.getD (i % z.length) undef = z[i % z.length] := by simp [List.getD, List.getElem?_eq_getElem hlt]
 rw [this]
 exact List.all_eq_true.1 hz _ (List.getElem_mem hlt)
theorem indexFuncL_fc {w0 : World} {S : SS} {A : Option Addr} {c : Nat} {l : List LineP} {g : FuncId} {ca : List Value} {q : LineP -> Bool} (hx : Rd w0 S A (lines l)) (hb : l.length <= 1000000000000) (hok : fnOk Tryz.prog g = true)
  (hq : ∀ x ∈ l, FC Tryz.prog w0 g ([] ++ [lineV x] ++ ca) S (fun u S' => u = .bool (q x) /\ S' = S)) :
  FC Tryz.prog w0 83 [.slice A l.length c, .func (.func g) #[] ca.toArray] S (fun u S' => u = .int .i64 (gidx q l) /\ S' = S) := by
 refine FC.of Tryz.known83 (by simp) ?_
 unfold Tryz.pc83
 simp only [argT]
 refine PW.seqOps (OL.dp rfl (OL.nil (PW.k2 0 1 rfl ?_)))
 refine PW.seq fun K1 hK1 => ?_
 refine PW.seqOps (OL.dp rfl (OL.dp rfl (OL.dp rfl (OL.nil (PW.k4 0 1 7 8 rfl (PW.block (PW.k4 0 1 7 8 rfl ?_)))))))
 refine PW.loopK (I := fun m T S' => ∃ (k : Nat), (k <= l.length /\ m = l.length - k /\ ∀ x ∈ l.take k, q x = false) /\ T = ([(0, .slice A l.length c), (1, .func (.func g) #[] ca.toArray), (7, .int .i64 (l.length : Int)), (8, .int .i64 k)] : TT) /\ S' = S) (m := l.length) ⟨0, ⟨by omega, by omega, by simp⟩, rfl, rfl⟩ ?_
 rintro m _ _ ⟨k, ⟨hk, hm, hall⟩, rfl, rfl⟩
 refine PW.seqOps (OL.dp rfl (OL.nil (PW.k5 0 1 7 8 9 rfl ?_)))
 refine PW.seq fun K2 hK2 => ?_
 refine PW.cond rfl (fun c9 => ?_) (fun c9 => ?_)
 ·try simp only [cvS] at c9
  have hkl : k < l.length := by omega
  obtain ⟨a0, rfl⟩ := lines_some hx (by omega)
  refine PW.skip ?_
  refine hK2 _ _ ?_
  refine PW.k4 0 1 7 8 rfl ?_
  refine PW.seq fun K3 hK3 => ?_
  refine PW.block (PW.seqOps (OL.dp rfl (OL.dp rfl (OL.nil (PW.k5 0 1 5 7 8 rfl (PW.seqOps (OL.dp rfl (OL.dp rfl (OL.dp rfl ?_)))))))))
  refine OL.det trivial (.ixN rfl rfl rfl (by omega)) ?_
  refine OL.det trivial (.ldA rfl (lineC_len _) (line_at hx hkl)) (OL.cons trivial (OW.callv (fi := []) (ca := ca) rfl hok rfl (hq _ (List.getElem_mem hkl))) ?_)
  rintro _ Sx ⟨rfl, hSx⟩
  rw [hSx]
  clear hSx
  refine OL.nil (PW.k6 0 1 5 7 8 16 rfl ?_)
  refine PW.cond rfl (fun c16 => ?_) (fun c16 => ?_)
  ·skip
   have hqt : q l[k] = true := by simpa using c16
   refine PW.seqOps (OL.dp rfl (OL.dp rfl (OL.nil (PW.k1 4 rfl (PW.ret ?_)))))
   change (Exit.ret = Exit.normal ∨ Exit.ret = Exit.ret) /\ ∃ v, resV _ _ = some v /\ _
   exact ⟨.inr rfl, _, rfl, by rw [gidx_take hkl hall hqt], rfl⟩
  skip
  refine PW.skip ?_
  refine hK3 _ _ ?_
  refine PW.k4 0 1 7 8 rfl (PW.ops ?_)
  refine OL.det trivial (.add64 rfl rfl (by omega) (by omega)) ?_
  refine OL.dp rfl (OL.nil ?_)
  repeat rw [inBlk_n]
  try rw [thenK_n]
  refine LoopEnd.mk (T'' := [(0, _), (1, _), (7, _), (8, _)]) (wi rfl) ?_
  refine ⟨l.length - (k + 1), by omega, k + 1, ⟨by omega, rfl, fun x hx => ?_⟩, rfl, rfl⟩
  rw [ltake_snoc hkl] at hx
  rcases List.mem_append.1 hx with h | h
  ·exact hall x h
  rw [List.mem_singleton] at h; subst h; simpa using c16
 try simp only [cvS] at c9
 refine PW.exit ?_
 refine hK1 _ _ ?_
 refine PW.keep (T' := []) trivial (PW.seqOps (OL.dp rfl (OL.nil (PW.k1 4 rfl (PW.ret ?_)))))
 change (Exit.ret = Exit.normal ∨ Exit.ret = Exit.ret) /\ ∃ v, resV _ _ = some v /\ _
 exact ⟨.inr rfl, _, rfl, by rw [gidx_no (fun x hx => hall x (by rw [List.take_of_length_le (by omega)]; exact hx))], rfl⟩
theorem dead_fc {w0 : World} {S : SS} {x : LineP} : FC Tryz.prog w0 39 [lineV x] S (fun v S' => v = .bool (!x.alive) /\ S' = S) := by
 refine FC.ofD Tryz.known39 (by simp) ?_
 unfold Tryz.pc39
 simp only [argT]
 refine PW.seqOps (OL.cons trivial (OW.bx rfl) ?_)
 rintro _ _ ⟨r1, rfl, rfl⟩
 rw [lineV_box, lineC_len]
 refine OL.dp rfl (OL.nil (PW.k1 1 rfl (PW.seqOps (OL.dp rfl (OL.det trivial (.ld rfl (lcell_alive (x := x) (E := 99) (tot := 35) zM0)) (OL.dp rfl (OL.dp rfl (OL.nil (PW.k1 2 rfl (PW.ret ?_))))))))))
 change (Exit.ret = Exit.normal ∨ Exit.ret = Exit.ret) /\ ∃ v, resV _ _ = some v /\ _
 exact ⟨.inr rfl, _, rfl, _, Sub.drop (Sub.refl _), rfl, rfl⟩
def live (l : List LineP) : List LineP := l.filter (·.alive)
theorem live_snoc {l : List LineP} {j : Nat} (hj : j < l.length) : live (l.take (j + 1)) = if l[j].alive then live (l.take j) ++ [l[j]] else live (l.take j) := by
 unfold live
 rw [ltake_snoc hj, List.filter_append, List.filter_cons, List.filter_nil]
 split <;> simp
theorem live_len (l : List LineP) : (live l).length <= l.length := List.length_filter_le _ _
structure Pack (l R : List LineP) (i j : Nat) : Prop where
 jl : j <= l.length
 n : R.length = l.length
 ij : i < j
 pre : R.take i = live (l.take j)
 suf : R.drop j = l.drop j
theorem Pack.at {l R : List LineP} {i j : Nat} (h : Pack l R i j) (hj : j < l.length) : R[j]'(by have := h.n; omega) = l[j] := by
 have h1 := h.suf
 have hR : j < R.length := by have := h.n; omega
 have h2 : (R.drop j)[0]? = (l.drop j)[0]? := by rw [h1]
 rw [List.getElem?_drop, List.getElem?_drop, Nat.add_zero, List.getElem?_eq_getElem hR, List.getElem?_eq_getElem hj] at h2
 exact Option.some.inj h2
theorem Pack.keep {l R : List LineP} {i j : Nat} (h : Pack l R i j) (hj : j < l.length) (ha : l[j].alive = true) : Pack l (R.set i l[j]) (i + 1) (j + 1) where
 jl := by omega
 n := by rw [List.length_set]; exact h.n
 ij := by have := h.ij; omega
 pre := by
  have hi := h.ij
  have hR := h.n
  rw [live_snoc hj, if_pos ha, <- h.pre, ltake_snoc (by rw [List.length_set]; omega), List.getElem_set_self, List.take_set_of_le (Nat.le_refl i)]
 suf := by
  have hi := h.ij
  have h1 : R.drop (j + 1) = l.drop (j + 1) := by
   have := congrArg (List.drop 1) h.suf
   simpa [List.drop_drop] using this
  rw [List.drop_set_of_lt (by omega)]
  exact h1
theorem Pack.skip {l R : List LineP} {i j : Nat} (h : Pack l R i j) (hj : j < l.length) (ha : l[j].alive = false) : Pack l R i (j + 1) where
 jl := by omega
 n := h.n
 ij := by have := h.ij; omega
 pre := by rw [live_snoc hj, if_neg (by rw [ha]; simp)]; exact h.pre
 suf := by
  have := congrArg (List.drop 1) h.suf
  simpa [List.drop_drop] using this
theorem lines_take {l : List LineP} {i : Nat} (hi : i <= l.length) : (lines l).take (i * 35) = lines (l.take i) := by
 have e : lines l = lines (l.take i) ++ lines (l.drop i) := by rw [<- lines_app, List.take_append_drop]
 have e1 : (lines (l.take i)).length = i * 35 := by rw [lines_len, List.length_take, Nat.min_eq_left hi]
 rw [e, List.take_append_of_le_length (by omega), List.take_of_length_le (by omega)]
theorem setAt_take {c d : List Value} {o : Nat} (h : o + d.length <= c.length) : (setAt c o d).take o = c.take o := by
 rw [setAt_eq _ _ _ h, List.append_assoc, List.take_append_of_le_length (by rw [List.length_take]; omega), List.take_take, Nat.min_self]
def zLine : LineP := ⟨v0, ⟨#[]⟩, false⟩
theorem deleteDead_fc {w0 : World} {S : SS} {A : Option Addr} {c : Nat} {l : List LineP} {seg : Seg} (h : SlV 99 35 (.slice A l.length c) l.length (lines l) seg) (hb : l.length <= 1000000000) :
  FC Tryz.prog w0 37 [.slice A l.length c, .func (.func 39) #[] #[]] (seg :: S) (fun v S' => ∃ seg', S' = seg' :: S /\ SlV 99 35 v (live l).length (lines (live l)) seg') := by
 obtain ⟨A2, c2, e2, hnA, hcA, hrd0⟩ := slv_rdL (w0 := w0) h
 obtain ⟨rfl, rfl⟩ : A = A2 /\ c = c2 := by simpa using e2
 have hrd := hrd0 S
 refine FC.ofD Tryz.known37 (by simp) ?_
 unfold Tryz.pc37
 simp only [argT]
 refine PW.seqOps (OL.dp rfl (OL.nil (PW.k2 0 1 rfl (PW.seqOps (OL.dp rfl (OL.dp rfl ?_))))))
 refine OL.call trivial rfl (indexFuncL_fc (g := 39) (ca := []) (q := fun x => !x.alive) hrd (by omega) (by kernel_rfl) (fun x _ => dead_fc)) ?_
 rintro _ Sx ⟨rfl, hSx⟩
 rw [hSx]
 clear hSx
 obtain ⟨iz, hiz⟩ : ∃ z, z = gidx (fun x : LineP => !x.alive) l := ⟨_, rfl⟩
 have hcs := gidx_cases (fun x : LineP => !x.alive) l
 rw [<- hiz] at hcs ⊢
 refine OL.dp rfl (OL.nil (PW.k3 0 1 5 rfl ?_))
 refine PW.seq fun K1 hK1 => ?_
 refine PW.seqOps (OL.dp rfl (OL.dp rfl (OL.nil (PW.k4 0 1 5 12 rfl ?_))))
 refine PW.cond rfl (fun c12 => ?_) (fun c12 => ?_)
 ·skip
  have hi1 : iz = -1 := by simpa using c12
  have hall : ∀ x ∈ l, (!x.alive) = false := by
   rcases hcs with ⟨_, h⟩ | ⟨k, hk, e, _⟩
   ·exact h
   omega
  have hlv : live l = l := List.filter_eq_self.2 fun x hx => by have := hall x hx; simpa using this
  refine PW.seqOps (OL.dp rfl (OL.dp rfl (OL.nil (PW.k1 4 rfl (PW.ret ?_)))))
  change (Exit.ret = Exit.normal ∨ Exit.ret = Exit.ret) /\ ∃ v, resV _ _ = some v /\ _
  rw [<- hlv] at h
  exact ⟨.inr rfl, _, rfl, _, Sub.refl _, seg, rfl, by rw [hlv] at h ⊢; exact h⟩
 skip
 have hi1 : iz ≠ -1 := by simpa using c12
 obtain ⟨i0, hi0, rfl, hdead, hpre⟩ : ∃ k, ∃ h : k < l.length, iz = (k : Int) /\ l[k].alive = false /\ ∀ x ∈ l.take k, x.alive = true := by
  rcases hcs with ⟨e, _⟩ | ⟨k, hk, e, h1, h2⟩
  ·exact absurd e hi1
  exact ⟨k, hk, e, by simpa using h1, fun x hx => by have := h2 x hx; simpa using this⟩
 obtain ⟨r, c3, e3, rfl, hlc, hcm⟩ := slv_own h (by omega)
 obtain ⟨rfl, rfl⟩ : A = some ⟨r, 0, none⟩ /\ c = c3 := by simpa using e3
 have hp0 : Pack l l i0 (i0 + 1) := ⟨by omega, rfl, by omega, by
  rw [live_snoc hi0, if_neg (by rw [hdead]; simp)]
  exact (List.filter_eq_self.2 hpre).symm, rfl⟩
 refine PW.skip ?_
 refine hK1 _ _ ?_
 refine PW.k3 0 1 5 rfl ?_
 refine PW.seq fun K2 hK2 => ?_
 refine PW.seqOps (OL.dp rfl ?_)
 refine OL.det trivial (.to (v' := .int .i64 ((i0 + 1 : Nat) : Int)) (Yields.add64 rfl rfl (by omega) (by omega)) rfl) ?_
 refine OL.dp rfl (OL.nil (PW.k4 0 1 5 6 rfl (PW.block (PW.k4 0 1 5 6 rfl ?_))))
 refine PW.loopK (I := fun mm T S' => ∃ (i j : Nat) (R : List LineP), (Pack l R i j /\ mm = l.length - j) /\ T = ([(0, .slice (some ⟨r, 0, none⟩) l.length c), (1, .func (.func 39) #[] #[]), (5, .int .i64 i), (6, .int .i64 j)] : TT) /\ S' = [(r, .cells (lines R) 99 (c * 35))] :: S) (m := l.length - (i0 + 1)) ⟨i0, i0 + 1, l, ⟨hp0, by omega⟩, rfl, rfl⟩ ?_
 rintro mm _ _ ⟨i, j, R, ⟨hp, hmm⟩, rfl, rfl⟩
 refine PW.seq fun K3 hK3 => ?_
 refine PW.seqOps (OL.dp rfl (OL.dp rfl (OL.dp rfl (OL.dp rfl (OL.nil (PW.k5 0 1 5 6 19 rfl ?_))))))
 refine PW.cond rfl (fun c19 => ?_) (fun c19 => ?_)
 ·try simp only [cvS] at c19
  have hjl : j < l.length := by omega
  have hRn := hp.n
  have hpi := hp.ij
  have hrdR : Rd w0 ([(r, .cells (lines R) 99 (c * 35))] :: S) (some ⟨r, 0, none⟩) (lines R) := Rd.own (E := 99) (tot := c * 35) (by simp)
  refine PW.skip ?_
  refine hK3 _ _ ?_
  refine PW.k4 0 1 5 6 rfl ?_
  refine PW.seq fun K4 hK4 => ?_
  refine PW.block (PW.seqOps (OL.dp rfl (OL.dp rfl (OL.det trivial (Yields.ixO rfl rfl rfl hjl) ?_))))
  refine OL.det trivial (.ldA rfl (lineC_len _) ((fun i v hv => by have := line_at (k := j) hrdR (by omega) i v hv; simpa [Addr.add_lit] using this : ∀ (i : Nat) (v : Value), (lineC (R[j]'(by omega)))[i]? = some v -> Cell w0 ([(r, .cells (lines R) 99 (c * 35))] :: S) ((⟨r, j * 35, none⟩ : Addr).add i) v))) ?_
  refine OL.cons trivial OW.al ?_
  rintro _ _ ⟨r7, rfl, rfl⟩
  rw [hp.at hjl]
  refine OL.cons trivial (line_st rfl rfl rfl) ?_
  rintro _ _ rfl
  refine OL.nil (PW.k5 0 1 5 6 7 rfl (PW.seqOps (OL.dp rfl (OL.det trivial (.ldA rfl (lineC_len _) (lcell (x := l[j]) (E := 99) (tot := 35) zM0)) ?_))))
  refine OL.cons trivial (OW.callv (fi := []) (ca := []) rfl (by kernel_rfl) rfl dead_fc) ?_
  rintro _ Sx ⟨rfl, hSx⟩
  rw [hSx]
  clear hSx
  refine OL.dp rfl (OL.nil (PW.k6 0 1 5 6 7 29 rfl ?_))
  refine PW.cond rfl (fun c29 => ?_) (fun c29 => ?_)
  ·skip
   have hal : l[j].alive = true := by simpa using c29
   refine PW.seqOps (OL.dp rfl (OL.dp rfl (OL.det trivial (.ldA rfl (lineC_len _) (lcell (x := l[j]) (E := 99) (tot := 35) zM0)) ?_)))
   refine OL.det trivial (Yields.ixO rfl rfl rfl (by omega)) ?_
   refine OL.cons trivial (OW.st (k := 1) (c := lines R) (u := lineV l[j]) rfl rfl rfl ((List.size_toArray).trans (lineC_len _)) (by rw [lines_len]; omega) (lineC_one _)) ?_
   rintro _ _ rfl
   rw [lineV_box, lines_set (by omega)]
   refine OL.nil (PW.k4 0 1 5 6 rfl (PW.ops (OL.dp rfl ?_)))
   refine OL.det trivial (.add64 rfl rfl (by omega) (by omega)) ?_
   refine OL.dp rfl (OL.nil ?_)
   refine hK4 _ _ ?_
   refine PW.k4 0 1 5 6 rfl (PW.ops (OL.dp rfl ?_))
   refine OL.det trivial (.add64 rfl rfl (by omega) (by omega)) ?_
   refine OL.dp rfl (OL.nil ?_)
   repeat rw [inBlk_n]
   try rw [thenK_n]
   refine LoopEnd.mkS (Sub.drop (Sub.refl _)) (T'' := [(0, _), (1, _), (5, _), (6, _)]) (wi rfl) ?_
   first
    | exact ⟨l.length - (j + 1), by omega, i + 1, j + 1, R.set i l[j], ⟨hp.keep hjl hal, rfl⟩, rfl, rfl⟩
    | exact ⟨l.length - (j + 1), by omega, i, j + 1, R, ⟨hp.skip hjl hal, rfl⟩, rfl, rfl⟩
  skip
  have hal : l[j].alive = false := by simpa using c29
  refine PW.skip ?_
  refine hK4 _ _ ?_
  refine PW.k4 0 1 5 6 rfl (PW.ops (OL.dp rfl ?_))
  refine OL.det trivial (.add64 rfl rfl (by omega) (by omega)) ?_
  refine OL.dp rfl (OL.nil ?_)
  repeat rw [inBlk_n]
  try rw [thenK_n]
  refine LoopEnd.mkS (Sub.drop (Sub.refl _)) (T'' := [(0, _), (1, _), (5, _), (6, _)]) (wi rfl) ?_
  first
   | exact ⟨l.length - (j + 1), by omega, i + 1, j + 1, R.set i l[j], ⟨hp.keep hjl hal, rfl⟩, rfl, rfl⟩
   | exact ⟨l.length - (j + 1), by omega, i, j + 1, R, ⟨hp.skip hjl hal, rfl⟩, rfl, rfl⟩
 try simp only [cvS] at c19
 have hpi := hp.ij
 have hRn := hp.n
 have hpj := hp.jl
 obtain rfl : j = l.length := by omega
 have hpp := hp.pre
 rw [List.take_length] at hpp
 refine PW.exit ?_
 refine hK2 _ _ ?_
 refine PW.k2 0 5 rfl (PW.seqOps (OL.dp rfl (OL.dp rfl ?_)))
 refine OL.det trivial (.to (v' := .slice (some ⟨r, i * 35, none⟩) (l.length - i) (c - i)) (Yields.slS (A := some ⟨r, 0, none⟩) (len := l.length) (cap := c) (l := i) (h := l.length) rfl rfl rfl (.inl rfl) (.inr ⟨rfl, rfl⟩) (by omega) (by omega)) (by unfold cutV; rw [if_neg (by omega)]; simp [Addr.add_lit])) ?_
 have hz35 : (Value.agg (lineC zLine).toArray).cells.toList = lineC zLine := rfl
 have hzl := lineC_len zLine
 have hml := madeL_len (lineC zLine) ((l.length - i) * 35)
 refine OL.cons trivial (OW.clr (k := 0) (c := lines R) (z := lineV zLine) (news := madeL (lineC zLine) ((l.length - i) * 35)) rfl rfl (by omega) (by decide) rfl (by rw [hml, lines_len]; omega) (made_one (lineC_one _) (by omega) _)) ?_
 rintro _ _ ⟨rfl, rfl⟩
 refine OL.tell (k := 0) rfl (fun w h => owns_take (i * 35) h) ?_
 change OL _ _ _ _ _ ([(r, .cells ((setAt (lines R) (i * 35) (madeL (lineC zLine) ((l.length - i) * 35))).take (i * 35)) 99 (c * 35))] :: S) _
 rw [setAt_take (by rw [hml, lines_len]; omega), lines_take (by omega)]
 refine OL.nil (PW.k2 0 5 rfl (PW.seqOps (OL.dp rfl (OL.dp rfl ?_))))
 refine OL.det trivial (.to (v' := .slice (some ⟨r, 0, none⟩) i c) (Yields.slS (A := some ⟨r, 0, none⟩) (len := l.length) (cap := c) (l := 0) (h := i) rfl rfl rfl (.inr ⟨rfl, rfl⟩) (.inl rfl) (by omega) (by omega)) (cutV0 _ _ _ _)) ?_
 refine OL.dp rfl (OL.nil (PW.k1 4 rfl (PW.ret ?_)))
 change (Exit.ret = Exit.normal ∨ Exit.ret = Exit.ret) /\ ∃ v, resV _ _ = some v /\ _
 refine ⟨.inr rfl, _, rfl, _, Sub.refl _, _, rfl, ?_⟩
 have hil : i = (live l).length := by rw [<- hpp, List.length_take, hRn, Nat.min_eq_left (by omega)]
 rw [hpp]
 rw [show Value.slice (some ⟨r, 0, none⟩) i c = .slice (some ⟨r, 0, none⟩) (live l).length c from by rw [hil]]
 exact SlV.mk' (by rw [lines_len]) (by omega) hcm
end Go.Proofs.Gr

namespace Go.Proofs.Gr
open Go.SL Go.RowKit Go.Proofs Go.GP
structure ItemP where
 lines : List LineP
 block : Bool
 mids : List Int
noncomputable def ordP (ps : List PartP) (a b : Vtx) : Bool := befP ps a b || befP ps b a
theorem ordP_comm (ps : List PartP) (a b : Vtx) : ordP ps a b = ordP ps b a := by unfold ordP; rw [Bool.or_comm]
noncomputable def midsK (ps : List PartP) (l : List LineP) (k : Nat) : List Int := ((List.range k).filter fun i => decide (0 < i) && !ordP ps l[i - 1]!.v l[i]!.v).map Int.ofNat
noncomputable def blockP (ps : List PartP) (l : List LineP) : ItemP := ⟨l, true, midsK ps l l.length⟩
theorem midsK_succ (ps : List PartP) (l : List LineP) (k : Nat) : midsK ps l (k + 1) = if (decide (0 < k) && !ordP ps l[k - 1]!.v l[k]!.v) = true then midsK ps l k ++ [(k : Int)] else midsK ps l k := by
 unfold midsK
 rw [List.range_succ, List.filter_append, List.map_append, List.filter_cons, List.filter_nil]
 split <;> simp
noncomputable def solidP (ps : List PartP) (l : List LineP) (x : LineP) : Bool := l.all fun y => decide (x.v = y.v) || ordP ps x.v y.v
noncomputable def shut (ps : List PartP) (open_ : List LineP) : List ItemP := if open_ = [] then [] else [blockP ps open_]
noncomputable def stepI (ps : List PartP) (l : List LineP) (st : List ItemP × List LineP) (x : LineP) : List ItemP × List LineP :=
 if solidP ps l x then (st.1 ++ shut ps st.2 ++ [⟨[x], false, []⟩], []) else (st.1, st.2 ++ [x])
noncomputable def foldI (ps : List PartP) (l : List LineP) (k : Nat) : List ItemP × List LineP := (l.take k).foldl (stepI ps l) ([], [])
noncomputable def itemsL (ps : List PartP) (l : List LineP) : List ItemP := (foldI ps l l.length).1 ++ shut ps (foldI ps l l.length).2
noncomputable def itemsP (ps : List PartP) : List ItemP := itemsL ps (live (linesP ps))
theorem foldI_succ {ps : List PartP} {l : List LineP} {k : Nat} (hk : k < l.length) : foldI ps l (k + 1) = stepI ps l (foldI ps l k) l[k] := by
 unfold foldI
 rw [ltake_snoc hk, List.foldl_append]
 rfl
end Go.Proofs.Gr
namespace Go.Proofs.Gr
open Go.SL Go.RowKit Go.Proofs Go.GP
def beginB : ByteArray := ⟨#[62, 62, 62, 62, 62, 62, 62]⟩
def middleB : ByteArray := ⟨#[61, 61, 61, 61, 61, 61, 61]⟩
def closeB : ByteArray := ⟨#[60, 60, 60, 60, 60, 60, 60]⟩
def rowsT (x : ItemP) (k : Nat) : List ByteArray := (List.range k).flatMap fun (i : Nat) => (if x.block && x.mids.contains (i : Int) then [middleB] else []) ++ [x.lines[i]!.text]
def oneT (x : ItemP) : List ByteArray := (if x.block then [beginB] else []) ++ rowsT x x.lines.length ++ (if x.block then [closeB] else [])
def textI (l : List ItemP) : List ByteArray := l.flatMap oneT
instance : Inhabited ItemP := ⟨⟨[], false, []⟩⟩
theorem rowsT_succ (x : ItemP) (k : Nat) : rowsT x (k + 1) = rowsT x k ++ ((if x.block && x.mids.contains (k : Int) then [middleB] else []) ++ [x.lines[k]!.text]) := by
 unfold rowsT
 rw [List.range_succ, List.flatMap_append]
 simp
theorem rowsT_len (x : ItemP) : ∀ k, (rowsT x k).length <= 2 * k
 | 0 => by simp [rowsT]
 | k + 1 => by
  rw [rowsT_succ, List.length_append, List.length_append]
  have := rowsT_len x k
  split <;> simp <;> omega
theorem textI_snoc {l : List ItemP} {k : Nat} (hk : k < l.length) : textI (l.take (k + 1)) = textI (l.take k) ++ oneT l[k] := by
 unfold textI
 rw [ltake_snoc hk, List.flatMap_append]
 simp
theorem oneT_len (x : ItemP) : (oneT x).length <= 2 * x.lines.length + 2 := by
 unfold oneT
 have := rowsT_len x x.lines.length
 simp only [List.length_append]
 split <;> simp <;> omega
theorem textI_len {l : List ItemP} {N : Nat} (h : ∀ x ∈ l, x.lines.length <= N) : ∀ k, k <= l.length -> (textI (l.take k)).length <= (2 * N + 2) * k
 | 0, _ => by simp [textI]
 | k + 1, hk => by
  rw [textI_snoc (by omega), List.length_append]
  have h1 := textI_len h k (by omega)
  have h2 := oneT_len l[k]
  have h3 := h _ (List.getElem_mem (show k < l.length by omega))
  rw [Nat.mul_succ]
  omega
end Go.Proofs.Gr

namespace Go.Proofs.Gr
open Go.SL Go.RowKit Go.Proofs Go.GP
set_option maxHeartbeats 1000000
structure ItemM where
 LA : Option Addr
 lc : Nat
 lines : List LineP
 block : Bool
 MA : Option Addr
 mc : Nat
 mids : List Int
instance : Inhabited ItemM := ⟨⟨none, 0, [], false, none, 0, []⟩⟩
def ItemM.pl (x : ItemM) : ItemP := ⟨x.lines, x.block, x.mids⟩
def itemC (x : ItemM) : List Value := [.slice x.LA x.lines.length x.lc, .bool x.block, .slice x.MA x.mids.length x.mc]
def itemV (x : ItemM) : Value := .agg (itemC x).toArray
def itemS (l : List ItemM) : List Value := l.flatMap itemC
theorem itemC_len (x : ItemM) : (itemC x).length = 3 := rfl
theorem itemS_len (l : List ItemM) : (itemS l).length = l.length * 3 := by unfold itemS; rw [List.length_flatMap]; simp [itemC_len, List.map_const']
theorem itemS_app (a b : List ItemM) : itemS (a ++ b) = itemS a ++ itemS b := by unfold itemS; rw [List.flatMap_append]
theorem item_box (x : ItemM) : (itemV x).cells.toList = itemC x := rfl
theorem item_read {w0 : World} {S : SS} {r E tot : Nat} {u : ItemM} (hm : (r, AO.cells (itemC u) E tot) ∈ S.flatten) : ReadsAs w0 S (some 3) ⟨r, 0, none⟩ (itemV u) := ⟨itemC u, rfl, rfl, all_at hm⟩
theorem ints_snoc {v : Value} {l : List Int} {z : Int} {seg : Seg} (h : SlV 3 1 v (l.length + 1) (ints l ++ [Value.int .i64 z]) seg) : SlV 3 1 v (l ++ [z]).length (ints (l ++ [z])) seg := by
 rw [List.length_append]
 unfold ints at h ⊢
 rw [List.map_append]
 exact h
theorem ordered_fc {w0 : World} {S X : SS} {m : GrM} {ps : List PartP} {x y : LineP} (h : GG w0 X m ps) (hS : Over (GS m ++ X) S) (hx : okV x.v) (hy : okV y.v) :
  FC Tryz.prog w0 40 [m.ptr, lineV x, lineV y] S (fun v S' => v = .bool (ordP ps x.v y.v) /\ S' = S) := by
 refine FC.ofD Tryz.known40 (by simp) ?_
 unfold Tryz.pc40
 simp only [argT]
 refine PW.seqOps (OL.cons trivial (OW.bx rfl) ?_)
 rintro _ _ ⟨r4, rfl, rfl⟩
 rw [lineV_box, lineC_len]
 refine OL.cons trivial (OW.bx rfl) ?_
 rintro _ _ ⟨r5, rfl, rfl⟩
 rw [lineV_box, lineC_len]
 refine OL.dp rfl (OL.nil (PW.k3 0 4 5 rfl (PW.seqOps (OL.dp rfl (OL.dp rfl (OL.det trivial (.ldA rfl (vtxL_len _) (lcell_vtx (x := x) (E := 99) (tot := 35) zM1)) (OL.dp rfl (OL.det trivial (.ldA rfl (vtxL_len _) (lcell_vtx (x := y) (E := 99) (tot := 35) zM0)) (OL.call trivial rfl (before2_fc h hS.cons.cons hx hy) ?_)))))))))
 rintro _ Sx ⟨rfl, hSx⟩
 rw [hSx]
 clear hSx
 refine OL.bool trivial (Yields.pure rfl) (fun g13 => ?_) (fun g13 => ?_)
 ·try simp only [cvS] at g13
  refine OL.off rfl rfl (OL.off rfl rfl (OL.off rfl rfl (OL.off rfl rfl (OL.off rfl rfl (OL.off rfl rfl (OL.dp rfl (OL.dp rfl (OL.nil (PW.k1 6 rfl (PW.ret ?_))))))))))
  change (Exit.ret = Exit.normal ∨ Exit.ret = Exit.ret) /\ ∃ v, resV _ _ = some v /\ _
  first
   | exact ⟨.inr rfl, _, rfl, _, Sub.drop (Sub.drop (Sub.refl _)), by unfold ordP; rw [g13]; rfl, rfl⟩
 try simp only [cvS] at g13
 refine OL.det rfl (.pure rfl) (OL.det rfl (.pure rfl) (OL.det rfl (.ldA rfl (vtxL_len _) (lcell_vtx (x := y) (E := 99) (tot := 35) zM0)) (OL.det rfl (.pure rfl) (OL.det rfl (.ldA rfl (vtxL_len _) (lcell_vtx (x := x) (E := 99) (tot := 35) zM1)) (OL.call rfl rfl (before2_fc h hS.cons.cons hy hx) ?_)))))
 rintro _ Sx ⟨rfl, hSx⟩
 rw [hSx]
 clear hSx
 refine OL.dp rfl (OL.dp rfl (OL.nil (PW.k1 6 rfl (PW.ret ?_))))
 change (Exit.ret = Exit.normal ∨ Exit.ret = Exit.ret) /\ ∃ v, resV _ _ = some v /\ _
 first
  | exact ⟨.inr rfl, _, rfl, _, Sub.drop (Sub.drop (Sub.refl _)), by unfold ordP; rw [g13]; rfl, rfl⟩
theorem block_fc {w0 : World} {S X : SS} {m : GrM} {ps : List PartP} {A : Option Addr} {c : Nat} {l : List LineP} (h : GG w0 X m ps) (hS : Over (GS m ++ X) S) (hx : Rd w0 S A (lines l)) (hv : ∀ x ∈ l, okV x.v) (hl : l.length <= 1000000) :
    FC Tryz.prog w0 41 [m.ptr, .slice A l.length c] S (fun v S' => ∃ M mc seg, v = itemV ⟨A, c, l, true, M, mc, midsK ps l l.length⟩ /\ S' = seg :: S /\ SlV 3 1 (.slice M (midsK ps l l.length).length mc) (midsK ps l l.length).length (ints (midsK ps l l.length)) seg) := by
  refine FC.ofC Tryz.known41 (by simp) ?_
  unfold Tryz.pc41
  simp only [argT]
  refine PW.seqOps (OL.cons trivial OW.al ?_)
  rintro _ _ ⟨r4, rfl, rfl⟩
  refine OL.nil (PW.k3 0 1 4 rfl (PW.seqOps (OL.dp rfl (OL.det trivial (.build rfl) (OL.cons trivial OW.al ?_)))))
  rintro _ _ ⟨r5, rfl, rfl⟩
  refine OL.cons trivial (OW.st (k := 0) (c := [.slice none 0 0, .bool false, .slice none 0 0]) (u := .agg #[.slice A l.length c, .bool true, .slice none 0 0]) rfl rfl rfl rfl (Nat.le_refl 3) rfl) ?_
  rintro _ _ rfl
  refine OL.subS (S' := [] :: [(r5, .cells [.slice A l.length c, .bool true, .slice none 0 0] 75 3)] :: [(r4, .cells [.slice none 0 0, .bool false, .slice none 0 0] 75 3)] :: S) (Sub.nilL (Sub.refl _)) (OL.nil (PW.k4 0 1 4 5 rfl ?_))
  refine PW.seq fun K1 hK1 => ?_
  refine PW.seqOps (OL.dp rfl (OL.nil (PW.k5 0 1 4 5 6 rfl (PW.block (PW.k5 0 1 4 5 6 rfl ?_)))))
  refine PW.loopK (I := fun mm T S' => ∃ (i : Nat) (vm : Value) (ms : List Int) (segm : Seg), (1 <= i /\ (i <= l.length ∨ i = 1) /\ mm = l.length - i /\ ms = midsK ps l i /\ ms.length <= i /\ SlV 3 1 vm ms.length (ints ms) segm) /\ T = ([(0, m.ptr), (1, .slice A l.length c), (4, .pointer (some ⟨r4, 0, none⟩)), (5, .pointer (some ⟨r5, 0, none⟩)), (6, .int .i64 i)] : TT) /\ S' = segm :: [(r5, .cells [.slice A l.length c, .bool true, vm] 75 3)] :: [(r4, .cells [.slice none 0 0, .bool false, .slice none 0 0] 75 3)] :: S) (m := l.length - 1) ⟨1, _, [], [], ⟨Nat.le_refl 1, .inr rfl, rfl, by simp [midsK], Nat.zero_le _, SlV.nil 3 1⟩, rfl, rfl⟩ ?_
  rintro mm _ _ ⟨i, vm, ms, segm, ⟨hi1, hil0, hmm, hms, hmsl, hsm⟩, rfl, rfl⟩
  refine PW.seq fun K2 hK2 => ?_
  refine PW.seqOps (OL.dp rfl (OL.dp rfl (OL.dp rfl (OL.dp rfl (OL.nil (PW.k6 0 1 4 5 6 12 rfl ?_))))))
  refine PW.cond rfl (fun c12 => ?_) (fun c12 => ?_)
  · try simp only [cvS] at c12
    have hil : i < l.length := by omega
    have hx2 : Rd w0 (segm :: [(r5, .cells [.slice A l.length c, .bool true, vm] 75 3)] :: [(r4, .cells [.slice none 0 0, .bool false, .slice none 0 0] 75 3)] :: S) A (lines l) := hx.cons.cons.cons
    obtain ⟨a0, rfl⟩ := lines_some hx (by omega)
    refine PW.skip ?_
    refine hK2 _ _ ?_
    refine PW.k5 0 1 4 5 6 rfl ?_
    refine PW.seq fun K3 hK3 => ?_
    refine PW.block ?_
    refine PW.seq fun K4 hK4 => ?_
    refine PW.quietK Tryz.mixed (QK.dp rfl (QK.dp rfl (QK.dp rfl ?_)))
    refine QK.det trivial (.sub64 rfl rfl (by omega) (by omega)) ?_
    refine QK.det trivial (.ixN rfl rfl (show ((i : Nat) : Int) - 1 = ((i - 1 : Nat) : Int) by omega) (by omega)) ?_
    refine QK.det trivial (.ldA rfl (lineC_len _) (line_at (k := i - 1) hx2 (by omega))) ?_
    refine QK.dp rfl (QK.dp rfl ?_)
    refine QK.det trivial (.ixN rfl rfl rfl (by omega)) ?_
    refine QK.det trivial (.ldA rfl (lineC_len _) (line_at hx2 hil)) (QK.nil ?_)
    change OL _ _ _ [_, _] _ _ _
    refine OL.call trivial rfl (ordered_fc (x := l[i - 1]) (y := l[i]) h hS.cons.cons.cons (hv _ (List.getElem_mem _)) (hv _ (List.getElem_mem _))) ?_
    rintro _ Sx ⟨rfl, hSx⟩
    rw [hSx]
    clear hSx
    refine OL.dp rfl (OL.nil ?_)
    refine hK4 _ _ ?_
    refine PW.k6 0 1 4 5 6 26 rfl ?_
    refine PW.cond rfl (fun c26 => ?_) (fun c26 => ?_)
    · skip
      refine PW.ops (OL.dp rfl (OL.det trivial (.ld rfl (own_at (j := 2) (c := [.slice (some a0) l.length c, .bool true, vm]) (E := 75) (tot := 3) zM1 rfl)) (OL.dp rfl ?_)))
      apply OL.app1 (k := 0)
      · rfl
      · rfl
      · rfl
      · rfl
      · rfl
      · rfl
      · exact hsm
      · rfl
      · omega
      · unfold maxLen; omega
      intro v31 segd hsd
      obtain ⟨Ad, cd, rfl, hnd, hcd, hrdd⟩ := slv_rdL (w0 := w0) hsd
      change OL _ _ _ _ _ (segd :: [(r5, .cells [.slice (some a0) l.length c, .bool true, vm] 75 3)] :: [(r4, .cells [.slice none 0 0, .bool false, .slice none 0 0] 75 3)] :: S) _
      refine OL.dp rfl (OL.cons trivial (OW.st (k := 1) (c := [.slice (some a0) l.length c, .bool true, vm]) (u := .slice Ad (ms.length + 1) cd) rfl rfl rfl rfl (Nat.le_refl 3) rfl) ?_)
      rintro _ _ rfl
      change OL _ _ _ _ _ (segd :: [(r5, .cells [.slice (some a0) l.length c, .bool true, .slice Ad (ms.length + 1) cd] 75 3)] :: [(r4, .cells [.slice none 0 0, .bool false, .slice none 0 0] 75 3)] :: S) _
      refine OL.nil ?_
      refine hK3 _ _ ?_
      refine PW.k5 0 1 4 5 6 rfl (PW.ops (OL.dp rfl ?_))
      refine OL.det trivial (.add64 rfl rfl (by omega) (by omega)) ?_
      refine OL.dp rfl (OL.nil ?_)
      repeat rw [inBlk_n]
      try rw [thenK_n]
      refine LoopEnd.mk (T'' := [(0, _), (1, _), (4, _), (5, _), (6, _)]) (wi rfl) ?_
      have hms2 := midsK_succ ps l i
      rw [getElem!_pos l (i - 1) (by omega), getElem!_pos l i hil, decide_eq_true (show 0 < i by omega), Bool.true_and] at hms2
      first
        | (rw [if_pos c26, <- hms] at hms2
           exact ⟨l.length - (i + 1), by omega, i + 1, _, ms ++ [(i : Int)], segd, ⟨by omega, .inl (by omega), rfl, hms2.symm, by rw [List.length_append]; exact Nat.succ_le_succ hmsl, ints_snoc hsd⟩, rfl, rfl⟩)
        | (rw [if_neg (by rw [c26]; simp), <- hms] at hms2
           exact ⟨l.length - (i + 1), by omega, i + 1, vm, ms, segm, ⟨by omega, .inl (by omega), rfl, hms2.symm, by omega, hsm⟩, rfl, rfl⟩)
    skip
    refine PW.skip ?_
    refine hK3 _ _ ?_
    refine PW.k5 0 1 4 5 6 rfl (PW.ops (OL.dp rfl ?_))
    refine OL.det trivial (.add64 rfl rfl (by omega) (by omega)) ?_
    refine OL.dp rfl (OL.nil ?_)
    repeat rw [inBlk_n]
    try rw [thenK_n]
    refine LoopEnd.mk (T'' := [(0, _), (1, _), (4, _), (5, _), (6, _)]) (wi rfl) ?_
    have hms2 := midsK_succ ps l i
    rw [getElem!_pos l (i - 1) (by omega), getElem!_pos l i hil, decide_eq_true (show 0 < i by omega), Bool.true_and] at hms2
    first
      | (rw [if_pos c26, <- hms] at hms2
         exact ⟨l.length - (i + 1), by omega, i + 1, _, ms ++ [(i : Int)], segd, ⟨by omega, .inl (by omega), rfl, hms2.symm, by rw [List.length_append]; exact Nat.succ_le_succ hmsl, ints_snoc hsd⟩, rfl, rfl⟩)
      | (rw [if_neg (by rw [c26]; simp), <- hms] at hms2
         exact ⟨l.length - (i + 1), by omega, i + 1, vm, ms, segm, ⟨by omega, .inl (by omega), rfl, hms2.symm, by omega, hsm⟩, rfl, rfl⟩)
  try simp only [cvS] at c12
  refine PW.exit ?_
  refine hK1 _ _ ?_
  refine PW.k2 4 5 rfl (PW.seqOps ?_)
  have hkm : midsK ps l i = midsK ps l l.length := by
    by_cases h0 : l.length = 0
    · have : i = 1 := by omega
      subst this
      rw [h0, midsK_succ, if_neg (by simp)]
    rw [show i = l.length by omega]
  rw [hkm] at hms
  obtain ⟨Am, cm, rfl, hnm, hcm, hrdm⟩ := slv_rdL (w0 := w0) hsm
  refine OL.det trivial (.ldA rfl (cs := [.slice A l.length c, .bool true, .slice Am ms.length cm]) rfl (all_at (c := [.slice A l.length c, .bool true, .slice Am ms.length cm]) (E := 75) (tot := 3) zM1)) (OL.cons trivial (OW.st (k := 2) (c := [.slice none 0 0, .bool false, .slice none 0 0]) (u := .agg #[.slice A l.length c, .bool true, .slice Am ms.length cm]) rfl rfl rfl rfl (Nat.le_refl 3) rfl) ?_)
  rintro _ _ rfl
  refine OL.nil (PW.k1 4 rfl (PW.ret ?_))
  subst hms
  exact ⟨.inr rfl, _, itemV ⟨A, c, l, true, Am, cm, midsK ps l l.length⟩, rfl, item_read (E := 75) (tot := 3) zM2, _, Sub.cons (Sub.drop (Sub.drop (Sub.refl _))), Am, cm, segm, rfl, rfl, hsm⟩
end Go.Proofs.Gr

namespace Go.Proofs.Gr
open Go.SL Go.RowKit Go.Proofs Go.GP
theorem _root_.Go.GP.New.more {ps qs : List PartP} {p : PartP} (h : New ps p) (hs : ∀ q ∈ ps, q ∈ qs) (hn : ∀ q ∈ qs, q.name ≠ p.name) (ho : ∀ v ∈ own p, v ∉ allV qs) : New qs p :=
 ⟨hn, ho, h.first, h.upE, h.downR, h.gone0, h.goneR, h.up.mono hs, h.down.mono hs, fun v hv => by
  obtain ⟨q, hq, hvq⟩ := mem_allV.1 (h.gone v hv)
  exact mem_allV.2 ⟨q, hs q hq, hvq⟩, h.bef.mono hs⟩
end Go.Proofs.Gr

namespace Go.Proofs.Gr
open Go.SL Go.RowKit Go.Proofs Go.GP
set_option maxHeartbeats 1000000
theorem partS_app (a b : List PartM) : partS (a ++ b) = partS a ++ partS b := by unfold partS; rw [List.flatMap_append]
theorem partS_one (l : List PartM) : (partS l).all (·.oneCell') = true := by
 unfold partS
 rw [List.all_flatMap]
 exact List.all_eq_true.2 fun x _ => partC_one x
section
variable {w0 : World} {S : SS} {a : Addr} {l : List PartM} {k : Nat}
end
structure PartB (w0 : World) (p : PartM) : Prop where
 rdL : Rd w0 [] p.LA (strs p.lines)
 rdG : Rd w0 [] p.GA (vtxs p.gone)
 rng : PartR p
 small : p.lines.length <= 12 /\ p.gone.length <= 12
 text : ∀ s ∈ p.lines, s.size <= 140737488351232
theorem pls_app (a b : List PartM) : pls (a ++ b) = pls a ++ pls b := List.map_append
theorem pls_snoc {l : List PartM} {p : PartM} : (pls (l ++ [p])).reverse = p.pl :: (pls l).reverse := by rw [pls_app, List.reverse_append]; rfl
theorem tmod_nat {x : Int} {n b : Nat} (h : x = (n : Int)) : x.tmod (b : Int) = ((n % b : Nat) : Int) := by
 subst h
 rw [Int.tmod_eq_emod_of_nonneg (by omega)]
 rfl
theorem slv_len {E sz m m' : Nat} {v : Value} {xs : List Value} {seg : Seg} (h : SlV E sz v m xs seg) (e : m = m') : SlV E sz v m' xs seg := e ▸ h
theorem gs_a {a : GrM} {s : Seg} {S : SS} : Sub (GS a ++ (s :: S)) (s :: (GS a ++ S)) := Sub.sel [1, 2, 3, 4, 0] 5 (by decide) (s :: (GS a ++ S))
theorem rd_mem {w0 : World} {S : SS} {s : Seg} {A : Option Addr} {l : List Value} (h : Rd w0 (s :: []) A l) (hm : s ∈ S) : Rd w0 S A l := h.mono fun p hp => List.mem_flatten.2 ⟨s, hm, by simpa using hp⟩
theorem i64_id {x : Int} (h1 : -9223372036854775808 <= x) (h2 : x <= 9223372036854775807) : IntKind.i64.wrap x = x := IntWalk.i64_in _ ⟨h1, h2⟩
structure ItemOk (w0 : World) (j : Seg) (x : ItemM) : Prop where
 rdL : Rd w0 (j :: []) x.LA (lines x.lines)
 rdM : Rd w0 (j :: []) x.MA (ints x.mids)
 nL : x.lines.length <= 60000
 nM : x.mids.length <= 60000
theorem ItemOk.more {w0 : World} {j j' : Seg} {x : ItemM} (h : ItemOk w0 j x) (hs : ∀ p ∈ j, p ∈ j') : ItemOk w0 j' x :=
 ⟨h.rdL.mono fun p hp => by simp at hp ⊢; exact hs p hp, h.rdM.mono fun p hp => by simp at hp ⊢; exact hs p hp, h.nL, h.nM⟩
theorem fill_line1 {T : TT} {x : PV} {u : LineP} {zero : List Value} (hx : x.val T = some (lineV u)) (hz : zero.length = 35) : fillP T zero [(0, 35, x)] = some (lineC u) := by
 simp only [fillP, hx]
 rw [if_pos ⟨(List.size_toArray).trans (lineC_len u), by omega⟩]
 exact congrArg some (setAll (by rw [hz]; exact (lineC_len u).symm))
theorem sub_pack {a b c p j : Seg} {S : SS} : Sub (b :: c :: [] :: (a ++ (p ++ j)) :: S) (a :: b :: c :: p :: j :: S) :=
 (Sub.cons (Sub.cons (Sub.nilL (Sub.refl _)))).trans ((Sub.cons (Sub.cons Sub.join)).trans ((Sub.cons (Sub.cons (Sub.cons Sub.join))).trans (Sub.sel [1, 2, 0, 3, 4] 5 (by decide) (a :: b :: c :: p :: j :: S))))
theorem sub_pack2 {a b c p j : Seg} {S : SS} : Sub (c :: p :: (a ++ j) :: S) (a :: b :: c :: p :: j :: S) :=
 (Sub.cons (Sub.cons Sub.join)).trans (Sub.sel [2, 3, 0, 4] 5 (by decide) (a :: b :: c :: p :: j :: S))
theorem sub_pack3 {a c p j s : Seg} {S : SS} : Sub (c :: (a ++ (p ++ j)) :: S) (a :: c :: p :: j :: s :: S) :=
 (Sub.cons Sub.join).trans ((Sub.cons (Sub.cons Sub.join)).trans (Sub.sel [1, 0, 2, 3] 5 (by decide) (a :: c :: p :: j :: s :: S)))
theorem sub_pack4 {c p j s : Seg} {S : SS} : Sub (c :: j :: S) (c :: p :: j :: s :: S) := Sub.sel [0, 2] 4 (by decide) (c :: p :: j :: s :: S)
theorem item_snoc {v : Value} {l : List ItemM} {x : ItemM} {seg : Seg} (h : SlV 75 3 v (l.length + 1) (itemS l ++ itemC x) seg) : SlV 75 3 v (l ++ [x]).length (itemS (l ++ [x])) seg := by
 rw [List.length_append, itemS_app]
 have : itemS [x] = itemC x := by simp [itemS]
 rw [this]
 exact h
theorem line_snoc {v : Value} {l : List LineP} {x : LineP} {seg : Seg} (h : SlV 99 35 v (l.length + 1) (lines l ++ lineC x) seg) : SlV 99 35 v (l ++ [x]).length (lines (l ++ [x])) seg := by
 rw [List.length_append, lines_app]
 have : lines [x] = lineC x := by simp [lines]
 rw [this]
 exact h
theorem midsK_len (ps : List PartP) (l : List LineP) (k : Nat) : (midsK ps l k).length <= k := by
 unfold midsK
 rw [List.length_map]
 exact Nat.le_trans (List.length_filter_le _ _) (by simp)
theorem blockM_ok {w0 : World} {ps : List PartP} {A M : Option Addr} {c mc : Nat} {l : List LineP} {s p j : Seg} (hs : SlV 3 1 (.slice M (midsK ps l l.length).length mc) (midsK ps l l.length).length (ints (midsK ps l l.length)) s) (hp : SlV 99 35 (.slice A l.length c) l.length (lines l) p) (hl : l.length <= 60000) :
  ItemOk w0 (s ++ (p ++ j)) ⟨A, c, l, true, M, mc, midsK ps l l.length⟩ := by
 obtain ⟨A1, c1, e1, _, _, r1⟩ := slv_rdL (w0 := w0) hs
 obtain ⟨A2, c2, e2, _, _, r2⟩ := slv_rdL (w0 := w0) hp
 obtain ⟨rfl, rfl⟩ : M = A1 /\ mc = c1 := by simpa using e1
 obtain ⟨rfl, rfl⟩ : A = A2 /\ c = c2 := by simpa using e2
 have := midsK_len ps l l.length
 exact ⟨(r2 []).mono fun q hq => by simp at hq ⊢; exact .inr (.inl hq), (r1 []).mono fun q hq => by simp at hq ⊢; exact .inl hq, hl, Nat.le_trans this hl⟩
theorem solidP_iff {ps : List PartP} {l : List LineP} {x : LineP} : solidP ps l x = true ↔ ∀ y ∈ l, (decide (x.v = y.v) || ordP ps x.v y.v) = true := by unfold solidP; rw [List.all_eq_true]
theorem items_fc {w0 : World} {S X : SS} {m : GrM} {ps : List PartP} (h : GG w0 X m ps) (hX : Over X S) (hn : (allV ps).length <= 60000) :
  FC Tryz.prog w0 16 [m.ptr] (GS m ++ S) (fun v S' => ∃ its seg junk, S' = seg :: junk :: (GS m ++ S) /\ its.map ItemM.pl = itemsP ps /\ SlV 75 3 v its.length (itemS its) seg /\ (∀ x ∈ its, ItemOk w0 junk x) /\ its.length <= 120001) := by
 refine FC.ofD Tryz.known16 (by simp) ?_
 unfold Tryz.pc16
 simp only [argT]
 refine PW.seqOps (OL.dp rfl (OL.nil (PW.k1 0 rfl (PW.scope (PW.seqOps (OL.dp rfl (OL.call trivial rfl (lines2_fc h hX) ?_)))))))
 rintro _ _ ⟨seg0, rfl, hsl0⟩
 obtain ⟨LA, lc, rfl, hLn, hLc, hrd0⟩ := slv_rdL (w0 := w0) hsl0
 have hln := linesP_len h.sq
 refine OL.call trivial rfl (deleteDead_fc hsl0 (by omega)) ?_
 rintro _ _ ⟨segl, rfl, hsl⟩
 obtain ⟨LB, lcB, rfl, hnB, hcB, hrdB⟩ := slv_rdL (w0 := w0) hsl
 have hlv := live_len (linesP ps)
 have hok : ∀ x ∈ live (linesP ps), okV x.v := fun x hx => by
  obtain ⟨v, hv, rfl⟩ := List.mem_map.1 (List.mem_filter.1 hx).1
  exact h.okV (topoF_mem hv)
 obtain ⟨L, hL⟩ : ∃ z, z = live (linesP ps) := ⟨_, rfl⟩
 have hip : itemsP ps = itemsL ps L := by rw [hL]; rfl
 rw [<- hL] at hrdB hcB hlv hok ⊢
 have hLn : L.length <= 60000 := by omega
 refine OL.dp rfl (OL.nil (PW.k2 0 3 rfl (PW.seqOps (OL.dp rfl (OL.nil (PW.k3 0 3 4 rfl (PW.seqOps (OL.dp rfl (OL.nil (PW.k4 0 3 4 5 rfl ?_))))))))))
 refine PW.seq fun K1 hK1 => ?_
 refine PW.label ?_
 refine hK1 _ _ ?_
 refine PW.k4 0 3 4 5 rfl ?_
 refine PW.seq fun K2 hK2 => ?_
 refine PW.seqOps (OL.subS (S' := [] :: [] :: [] :: segl :: (GS m ++ S)) (Sub.nilL (Sub.nilL (Sub.nilL (Sub.refl _)))) (OL.dp rfl (OL.dp rfl (OL.dp rfl (OL.nil (PW.k7 0 3 4 5 13 14 15 rfl (PW.block (PW.k7 0 3 4 5 13 14 15 rfl ?_))))))))
 refine PW.loopK (I := fun mm T S' => ∃ (k : Nat) (its : List ItemM) (op : List LineP) (vo vp : Value) (sgo sgp junk : Seg), (k <= L.length /\ mm = L.length - k /\ (its.map ItemM.pl, op) = foldI ps L k /\ its.length <= 2 * k /\ op.length <= k /\ SlV 75 3 vo its.length (itemS its) sgo /\ SlV 99 35 vp op.length (lines op) sgp /\ (∀ x ∈ its, ItemOk w0 junk x) /\ (∀ x ∈ op, x ∈ L)) /\ T = ([(0, m.ptr), (3, .slice LB L.length lcB), (4, vo), (5, vp), (13, .slice LB L.length lcB), (14, .int .i64 (L.length : Int)), (15, .int .i64 k)] : TT) /\ S' = sgo :: sgp :: junk :: segl :: (GS m ++ S)) (m := L.length) ⟨0, [], [], _, _, [], [], [], ⟨by omega, by omega, rfl, Nat.zero_le _, Nat.zero_le _, SlV.nil 75 3, SlV.nil 99 35, (fun x hx => by cases hx), (fun x hx => by cases hx)⟩, rfl, rfl⟩ ?_
 rintro mm _ _ ⟨k, its, op, vo, vp, sgo, sgp, junk, ⟨hk, hmm, hfold, hitl, hopl, hso, hsp, hio, hin⟩, rfl, rfl⟩
 obtain ⟨Ap, cp, rfl, hnp, hcp, hrdp⟩ := slv_rdL (w0 := w0) hsp
 refine PW.seqOps (OL.dp rfl (OL.nil (PW.k8 0 3 4 5 13 14 15 16 rfl ?_)))
 refine PW.seq fun K3 hK3 => ?_
 refine PW.cond rfl (fun c16 => ?_) (fun c16 => ?_)
 ·try simp only [cvS] at c16
  have hkl : k < L.length := by omega
  obtain ⟨a0, rfl⟩ := lines_some (hrdB []) (by omega)
  refine PW.skip ?_
  refine hK3 _ _ ?_
  refine PW.k7 0 3 4 5 13 14 15 rfl ?_
  refine PW.seq fun K4 hK4 => ?_
  refine PW.block (PW.seqOps (OL.det trivial (.ixN rfl rfl rfl hkl) ?_))
  refine OL.det trivial (.ldA rfl (lineC_len _) (line_at (rd_mem (hrdB []) (by simp)) hkl)) ?_
  refine OL.cons trivial OW.al ?_
  rintro _ _ ⟨r7, rfl, rfl⟩
  refine OL.cons trivial (line_st rfl rfl rfl) ?_
  rintro _ _ rfl
  change OL _ _ _ _ _ (lseg r7 L[k] :: sgo :: sgp :: junk :: segl :: (GS m ++ S)) _
  refine OL.nil (PW.k8 0 3 4 5 7 13 14 15 rfl ?_)
  refine PW.seq fun K5 hK5 => ?_
  refine PW.seqOps (OL.dp rfl (OL.dp rfl (OL.dp rfl (OL.nil (PW.k11 0 3 4 5 7 13 14 15 19 20 21 rfl (PW.block (PW.k11 0 3 4 5 7 13 14 15 19 20 21 rfl ?_)))))))
  refine PW.loopK (I := fun mj T S' => ∃ j : Nat, (j <= L.length /\ mj = L.length - j /\ ∀ y ∈ L.take j, (decide (L[k].v = y.v) || ordP ps L[k].v y.v) = true) /\ T = ([(0, m.ptr), (3, .slice (some a0) L.length lcB), (4, vo), (5, .slice Ap op.length cp), (7, .pointer (some ⟨r7, 0, none⟩)), (13, .slice (some a0) L.length lcB), (14, .int .i64 (L.length : Int)), (15, .int .i64 k), (19, .slice (some a0) L.length lcB), (20, .int .i64 (L.length : Int)), (21, .int .i64 j)] : TT) /\ S' = lseg r7 L[k] :: sgo :: sgp :: junk :: segl :: (GS m ++ S)) (m := L.length) ⟨0, ⟨by omega, by omega, by simp⟩, rfl, rfl⟩ ?_
  rintro mj _ _ ⟨j, ⟨hj, hmj, hall⟩, rfl, rfl⟩
  refine PW.seqOps (OL.dp rfl (OL.nil (PW.k12 0 3 4 5 7 13 14 15 19 20 21 22 rfl ?_)))
  refine PW.seq fun K6 hK6 => ?_
  refine PW.cond rfl (fun c22 => ?_) (fun c22 => ?_)
  ·try simp only [cvS] at c22
   have hjl : j < L.length := by omega
   refine PW.skip ?_
   refine hK6 _ _ ?_
   refine PW.k11 0 3 4 5 7 13 14 15 19 20 21 rfl ?_
   refine PW.seq fun K7 hK7 => ?_
   refine PW.block (PW.seqOps (OL.det trivial (.ixN rfl rfl rfl hjl) ?_))
   refine OL.det trivial (.ldA rfl (lineC_len _) (line_at (rd_mem (hrdB []) (by simp)) hjl)) ?_
   refine OL.cons trivial OW.al ?_
   rintro _ _ ⟨r9, rfl, rfl⟩
   refine OL.cons trivial (line_st rfl rfl rfl) ?_
   rintro _ _ rfl
   change OL _ _ _ _ _ (lseg r9 L[j] :: lseg r7 L[k] :: sgo :: sgp :: junk :: segl :: (GS m ++ S)) _
   refine OL.nil (PW.k12 0 3 4 5 7 9 13 14 15 19 20 21 rfl (PW.seqOps (OL.dp rfl (OL.det trivial (.ldA rfl (vtxL_len _) (lcell_vtx (x := L[k]) (E := 99) (tot := 35) zM1)) (OL.dp rfl (OL.det trivial (.ldA rfl (vtxL_len _) (lcell_vtx (x := L[j]) (E := 99) (tot := 35) zM0)) (OL.det trivial (.eqD (neg := true) rfl rfl (eqL_vtx _ _)) ?_)))))))
   refine OL.bool trivial (Yields.pure rfl) (fun g30 => ?_) (fun g30 => ?_)
   ·try simp only [cvS] at g30
    refine OL.det rfl (.pure rfl) (OL.det rfl (.ldA rfl (lineC_len _) (lcell (x := L[k]) (E := 99) (tot := 35) zM1)) (OL.det rfl (.ldA rfl (lineC_len _) (lcell (x := L[j]) (E := 99) (tot := 35) zM0)) (OL.call rfl rfl (ordered_fc (x := L[k]) (y := L[j]) h ((Over.both hX).cons.cons.cons.cons.cons.cons) (hok _ (List.getElem_mem _)) (hok _ (List.getElem_mem _))) ?_)))
    rintro _ Sx ⟨rfl, hSx⟩
    rw [hSx]
    clear hSx
    refine OL.det rfl (.pure rfl) (OL.dp rfl (OL.nil (PW.k12 0 3 4 5 7 13 14 15 19 20 21 36 rfl ?_)))
    refine PW.cond rfl (fun c36 => ?_) (fun c36 => ?_)
    ·skip
     refine PW.seqOps (OL.dp rfl (OL.det trivial (.ldA rfl (lineC_len _) (lcell (x := L[k]) (E := 99) (tot := 35) zM1)) ?_))
     apply OL.app1 (k := 3)
     ·rfl
     ·rfl
     ·exact (List.size_toArray).trans (lineC_len _)
     ·rfl
     ·rfl
     ·rfl
     ·exact hsp
     ·exact lineC_one _
     ·omega
     ·unfold maxLen; omega
     intro v40 seg40 hsl40
     refine OL.dp rfl (OL.nil (PW.k7 0 3 4 5 13 14 15 rfl (PW.exit ?_)))
     refine hK4 _ _ ?_
     refine PW.k7 0 3 4 5 13 14 15 rfl (PW.ops ?_)
     refine OL.det trivial (.add64 rfl rfl (by omega) (by omega)) ?_
     refine OL.dp rfl (OL.nil ?_)
     repeat rw [inBlk_n]
     try rw [thenK_n]
     refine LoopEnd.mkS (Sub.drop (Sub.drop (Sub.refl _))) (T'' := [(0, _), (3, _), (4, _), (5, _), (13, _), (14, _), (15, _)]) (wi rfl) ?_
     have hsc := foldI_succ (ps := ps) hkl
     rw [<- hfold] at hsc
     unfold stepI at hsc
     have hkl2 : L.length - (k + 1) < mm := by omega
     have hns : ¬ solidP ps L L[k] = true := fun hs => by
      have h1 := solidP_iff.1 hs L[j] (List.getElem_mem hjl)
      simp at g30 c36
      simp [g30, c36] at h1
     rw [if_neg hns] at hsc
     exact ⟨_, hkl2, k + 1, its, op ++ [L[k]], vo, _, sgo, seg40, junk, ⟨by omega, rfl, hsc.symm, by omega, by rw [List.length_append]; exact Nat.succ_le_succ hopl, hso, line_snoc hsl40, hio, fun x hx => by
      rcases List.mem_append.1 hx with h | h
      ·exact hin x h
      rw [List.mem_singleton] at h; subst h; exact List.getElem_mem _⟩, rfl, rfl⟩
    skip
    refine PW.skip ?_
    refine hK7 _ _ ?_
    refine PW.k11 0 3 4 5 7 13 14 15 19 20 21 rfl (PW.ops ?_)
    refine OL.det trivial (.add64 rfl rfl (by omega) (by omega)) ?_
    refine OL.dp rfl (OL.nil ?_)
    repeat rw [inBlk_n]
    try rw [thenK_n]
    refine LoopEnd.mkS (Sub.drop (Sub.refl _)) (T'' := [(0, _), (3, _), (4, _), (5, _), (7, _), (13, _), (14, _), (15, _), (19, _), (20, _), (21, _)]) (wi rfl) ?_
    refine ⟨L.length - (j + 1), by omega, j + 1, ⟨by omega, rfl, fun y hy => ?_⟩, rfl, rfl⟩
    rw [ltake_snoc hjl] at hy
    rcases List.mem_append.1 hy with h | h
    ·exact hall y h
    rw [List.mem_singleton] at h
    subst h
    first
     | (simp [g30]; done)
     | (simp at c36; simp [c36]; done)
     | (simp [c36]; done)
   try simp only [cvS] at g30
   refine OL.off rfl rfl (OL.off rfl rfl (OL.off rfl rfl (OL.off rfl rfl (OL.off rfl rfl (OL.dp rfl (OL.nil (PW.k12 0 3 4 5 7 13 14 15 19 20 21 36 rfl (PW.ite (b := false) rfl ?_))))))))
   rw [if_neg Bool.false_ne_true]
   refine PW.skip ?_
   refine hK7 _ _ ?_
   refine PW.k11 0 3 4 5 7 13 14 15 19 20 21 rfl (PW.ops ?_)
   refine OL.det trivial (.add64 rfl rfl (by omega) (by omega)) ?_
   refine OL.dp rfl (OL.nil ?_)
   repeat rw [inBlk_n]
   try rw [thenK_n]
   refine LoopEnd.mkS (Sub.drop (Sub.refl _)) (T'' := [(0, _), (3, _), (4, _), (5, _), (7, _), (13, _), (14, _), (15, _), (19, _), (20, _), (21, _)]) (wi rfl) ?_
   refine ⟨L.length - (j + 1), by omega, j + 1, ⟨by omega, rfl, fun y hy => ?_⟩, rfl, rfl⟩
   rw [ltake_snoc hjl] at hy
   rcases List.mem_append.1 hy with h | h
   ·exact hall y h
   rw [List.mem_singleton] at h
   subst h
   first
    | (simp [g30]; done)
    | (simp at c36; simp [c36]; done)
    | (simp [c36]; done)
  try simp only [cvS] at c22
  refine PW.exit ?_
  refine hK5 _ _ ?_
  refine PW.k8 0 3 4 5 7 13 14 15 rfl ?_
  refine PW.seq fun K8 hK8 => ?_
  refine PW.seqOps (OL.dp rfl (OL.dp rfl (OL.dp rfl (OL.nil (PW.k9 0 3 4 5 7 13 14 15 44 rfl ?_)))))
  refine PW.cond rfl (fun c44 => ?_) (fun c44 => ?_)
  ·try simp only [cvS] at c44
   refine PW.seqOps (OL.dp rfl (OL.dp rfl (OL.dp rfl ?_)))
   refine OL.call trivial rfl (by exact block_fc (X := X) h ((Over.both hX).cons.cons.cons.cons.cons) (rd_mem (hrdp []) (by simp)) (fun x hx => hok x (hin x hx)) (by omega)) ?_
   rintro _ _ ⟨Mb, mcb, segm, rfl, rfl, hsm⟩
   apply OL.app1 (k := 2)
   ·rfl
   ·rfl
   ·rfl
   ·rfl
   ·rfl
   ·rfl
   ·exact hso
   ·rfl
   ·omega
   ·unfold maxLen; omega
   intro v50 seg50 hsl50
   refine OL.subS (S' := lseg r7 L[k] :: seg50 :: [] :: (segm ++ (sgp ++ junk)) :: segl :: (GS m ++ S)) sub_pack ?_
   have hok2 := blockM_ok (j := junk) hsm hsp (w0 := w0) (by omega)
   have hso2 := item_snoc (x := ⟨Ap, cp, op, true, Mb, mcb, midsK ps op op.length⟩) hsl50
   refine OL.dp rfl (OL.nil (PW.k7 0 3 4 7 13 14 15 rfl (PW.ops (OL.dp rfl (OL.nil ?_)))))
   refine hK8 _ _ ?_
   refine PW.k8 0 3 4 5 7 13 14 15 rfl (PW.ops (OL.dp rfl (OL.det trivial (.ldA rfl (lineC_len _) (lcell (x := L[k]) (E := 99) (tot := 35) zM0)) (OL.cons trivial (OW.bsl (cs := lineC L[k]) (fill_line1 rfl rfl)) ?_))))
   rintro _ _ ⟨r53, rfl, rfl⟩
   rw [lineC_len]
   refine OL.det trivial (.build (cs := itemC ⟨some ⟨r53, 0, none⟩, 1, [L[k]], false, none, 0, []⟩) rfl) ?_
   apply OL.app1 (k := 2)
   ·rfl
   ·rfl
   ·rfl
   ·rfl
   ·rfl
   ·rfl
   ·exact (by first | exact hso2 | exact hso)
   ·rfl
   ·(first | omega | (simp only [List.length_append, List.length_cons, List.length_nil]; omega))
   ·unfold maxLen; (first | omega | (simp only [List.length_append, List.length_cons, List.length_nil]; omega))
   intro v56 seg56 hsl56
   refine OL.dp rfl (OL.nil ?_)
   refine hK4 _ _ ?_
   refine PW.k7 0 3 4 5 13 14 15 rfl (PW.ops ?_)
   refine OL.det trivial (.add64 rfl rfl (by omega) (by omega)) ?_
   refine OL.dp rfl (OL.nil ?_)
   repeat rw [inBlk_n]
   try rw [thenK_n]
   refine LoopEnd.mkS (sub_pack2) (T'' := [(0, _), (3, _), (4, _), (5, _), (13, _), (14, _), (15, _)]) (wi rfl) ?_
   have hsc := foldI_succ (ps := ps) hkl
   rw [<- hfold] at hsc
   unfold stepI at hsc
   have hkl2 : L.length - (k + 1) < mm := by omega
   have hs : solidP ps L L[k] = true := solidP_iff.2 fun y hy => hall y (by rw [List.take_of_length_le (by omega)]; exact hy)
   have hne : op ≠ [] := fun e => by subst e; simp at c44
   rw [if_pos hs] at hsc
   unfold shut at hsc
   rw [if_neg hne] at hsc
   have hrow : ItemOk w0 ([(r53, AO.cells (lineC L[k]) 99 35)] ++ (segm ++ (sgp ++ junk))) ⟨some ⟨r53, 0, none⟩, 1, [L[k]], false, none, 0, []⟩ := ⟨(Rd.own (E := 99) (tot := 35) (by simp [lines])).mono (fun q hq => hq), Rd.nil, Nat.succ_le_succ (Nat.zero_le _), Nat.zero_le _⟩
   exact ⟨_, hkl2, k + 1, its ++ [⟨Ap, cp, op, true, Mb, mcb, midsK ps op op.length⟩] ++ [⟨some ⟨r53, 0, none⟩, 1, [L[k]], false, none, 0, []⟩], [], _, _, seg56, [], [(r53, AO.cells (lineC L[k]) 99 35)] ++ (segm ++ (sgp ++ junk)), ⟨by omega, rfl, by rw [hsc, List.map_append, List.map_append]; rfl, by simp only [List.length_append, List.length_cons, List.length_nil]; omega, Nat.zero_le _, item_snoc hsl56, SlV.nil 99 35, fun x hx => by
    rcases List.mem_append.1 hx with h | h
    ·rcases List.mem_append.1 h with h | h
     ·exact (hio x h).more fun q hq => by simp [hq]
     rw [List.mem_singleton] at h; subst h; exact hok2.more fun q hq => List.mem_append_right _ hq
    rw [List.mem_singleton] at h; subst h; exact hrow, fun x hx => by cases hx⟩, rfl, rfl⟩
  try simp only [cvS] at c44
  refine PW.skip ?_
  refine hK8 _ _ ?_
  refine PW.k8 0 3 4 5 7 13 14 15 rfl (PW.ops (OL.dp rfl (OL.det trivial (.ldA rfl (lineC_len _) (lcell (x := L[k]) (E := 99) (tot := 35) zM0)) (OL.cons trivial (OW.bsl (cs := lineC L[k]) (fill_line1 rfl rfl)) ?_))))
  rintro _ _ ⟨r53, rfl, rfl⟩
  rw [lineC_len]
  refine OL.det trivial (.build (cs := itemC ⟨some ⟨r53, 0, none⟩, 1, [L[k]], false, none, 0, []⟩) rfl) ?_
  apply OL.app1 (k := 2)
  ·rfl
  ·rfl
  ·rfl
  ·rfl
  ·rfl
  ·rfl
  ·exact (by first | exact hso2 | exact hso)
  ·rfl
  ·(first | omega | (simp only [List.length_append, List.length_cons, List.length_nil]; omega))
  ·unfold maxLen; (first | omega | (simp only [List.length_append, List.length_cons, List.length_nil]; omega))
  intro v56 seg56 hsl56
  refine OL.dp rfl (OL.nil ?_)
  refine hK4 _ _ ?_
  refine PW.k7 0 3 4 5 13 14 15 rfl (PW.ops ?_)
  refine OL.det trivial (.add64 rfl rfl (by omega) (by omega)) ?_
  refine OL.dp rfl (OL.nil ?_)
  repeat rw [inBlk_n]
  try rw [thenK_n]
  refine LoopEnd.mkS (sub_pack2) (T'' := [(0, _), (3, _), (4, _), (5, _), (13, _), (14, _), (15, _)]) (wi rfl) ?_
  have hsc := foldI_succ (ps := ps) hkl
  rw [<- hfold] at hsc
  unfold stepI at hsc
  have hkl2 : L.length - (k + 1) < mm := by omega
  have hs : solidP ps L L[k] = true := solidP_iff.2 fun y hy => hall y (by rw [List.take_of_length_le (by omega)]; exact hy)
  have hne : op = [] := List.eq_nil_of_length_eq_zero (by omega)
  rw [if_pos hs] at hsc
  unfold shut at hsc
  rw [if_pos hne] at hsc
  have hrow : ItemOk w0 ([(r53, AO.cells (lineC L[k]) 99 35)] ++ junk) ⟨some ⟨r53, 0, none⟩, 1, [L[k]], false, none, 0, []⟩ := ⟨(Rd.own (E := 99) (tot := 35) (by simp [lines])).mono (fun q hq => hq), Rd.nil, Nat.succ_le_succ (Nat.zero_le _), Nat.zero_le _⟩
  exact ⟨_, hkl2, k + 1, its ++ [⟨some ⟨r53, 0, none⟩, 1, [L[k]], false, none, 0, []⟩], [], _, _, seg56, sgp, [(r53, AO.cells (lineC L[k]) 99 35)] ++ junk, ⟨by omega, rfl, by rw [hsc, List.map_append]; simp; rfl, by simp only [List.length_append, List.length_cons, List.length_nil]; omega, Nat.zero_le _, item_snoc hsl56, by subst hne; exact hsp, fun x hx => by
   rcases List.mem_append.1 hx with h | h
   ·exact (hio x h).more fun q hq => by simp [hq]
   rw [List.mem_singleton] at h; subst h; exact hrow, fun x hx => by cases hx⟩, rfl, rfl⟩
 try simp only [cvS] at c16
 refine PW.exit ?_
 refine hK2 _ _ ?_
 refine PW.k3 0 4 5 rfl ?_
 refine PW.seq fun K9 hK9 => ?_
 refine PW.seqOps (OL.dp rfl (OL.dp rfl (OL.dp rfl (OL.nil (PW.k4 0 4 5 60 rfl ?_)))))
 refine PW.cond rfl (fun c60 => ?_) (fun c60 => ?_)
 ·try simp only [cvS] at c60
  refine PW.ops (OL.dp rfl (OL.dp rfl (OL.dp rfl ?_)))
  refine OL.call trivial rfl (by exact block_fc (X := X) h ((Over.both hX).cons.cons.cons.cons) (rd_mem (hrdp []) (by simp)) (fun x hx => hok x (hin x hx)) (by omega)) ?_
  rintro _ _ ⟨Mb, mcb, segm, rfl, rfl, hsm⟩
  apply OL.app1 (k := 1)
  ·rfl
  ·rfl
  ·rfl
  ·rfl
  ·rfl
  ·rfl
  ·exact hso
  ·rfl
  ·omega
  ·unfold maxLen; omega
  intro v66 seg66 hsl66
  have hok2 := blockM_ok (j := junk) hsm hsp (w0 := w0) (by omega)
  have hso2 := item_snoc (x := ⟨Ap, cp, op, true, Mb, mcb, midsK ps op op.length⟩) hsl66
  have hke : k = L.length := by omega
  have hsub : Sub (seg66 :: (segm ++ (sgp ++ junk)) :: (GS m ++ S)) (segm :: seg66 :: sgp :: junk :: segl :: (GS m ++ S)) := sub_pack3
  have hpost : ∃ its2 seg2 junk2, seg66 :: (segm ++ (sgp ++ junk)) :: (GS m ++ S) = seg2 :: junk2 :: (GS m ++ S) /\ its2.map ItemM.pl = itemsP ps /\ SlV 75 3 v66 its2.length (itemS its2) seg2 /\ (∀ x ∈ its2, ItemOk w0 junk2 x) /\ its2.length <= 120001 := ⟨its ++ [⟨Ap, cp, op, true, Mb, mcb, midsK ps op op.length⟩], seg66, segm ++ (sgp ++ junk), rfl, by
   subst hke
   have hne : op ≠ [] := fun e => by subst e; simp at c60
   rw [hip]
   unfold itemsL
   rw [<- hfold]
   unfold shut
   rw [if_neg hne, List.map_append]
   rfl, hso2, (fun x hx => by
   rcases List.mem_append.1 hx with h | h
   ·exact (hio x h).more fun q hq => by simp [hq]
   rw [List.mem_singleton] at h; subst h; exact hok2), by rw [List.length_append]; simp only [List.length_cons, List.length_nil]; omega⟩
  refine OL.dp rfl (OL.nil ?_)
  refine hK9 _ _ ?_
  refine PW.k1 4 rfl (PW.seqOps (OL.dp rfl (OL.dp rfl (OL.nil (PW.k1 2 rfl (PW.ret ?_))))))
  change (Exit.ret = Exit.normal ∨ Exit.ret = Exit.ret) /\ ∃ v, resV _ _ = some v /\ _
  exact ⟨.inr rfl, _, rfl, _, hsub, hpost⟩
 try simp only [cvS] at c60
 have hke : k = L.length := by omega
 have hsub : Sub (sgo :: junk :: (GS m ++ S)) (sgo :: sgp :: junk :: segl :: (GS m ++ S)) := sub_pack4
 have hpost : ∃ its2 seg2 junk2, sgo :: junk :: (GS m ++ S) = seg2 :: junk2 :: (GS m ++ S) /\ its2.map ItemM.pl = itemsP ps /\ SlV 75 3 vo its2.length (itemS its2) seg2 /\ (∀ x ∈ its2, ItemOk w0 junk2 x) /\ its2.length <= 120001 := ⟨its, sgo, junk, rfl, by
  subst hke
  have hne : op = [] := List.eq_nil_of_length_eq_zero (by omega)
  rw [hip]
  unfold itemsL
  rw [<- hfold]
  unfold shut
  rw [if_pos hne]
  simp, hso, hio, by omega⟩
 refine PW.skip ?_
 refine hK9 _ _ ?_
 refine PW.k1 4 rfl (PW.seqOps (OL.dp rfl (OL.dp rfl (OL.nil (PW.k1 2 rfl (PW.ret ?_))))))
 change (Exit.ret = Exit.normal ∨ Exit.ret = Exit.ret) /\ ∃ v, resV _ _ = some v /\ _
 exact ⟨.inr rfl, _, rfl, _, hsub, hpost⟩
theorem ints_at {w0 : World} {S : SS} {a : Addr} {l : List Int} (h : Rd w0 S (some a) (ints l)) {k : Nat} (hk : k < l.length) : Cell w0 S (a.add k) (.int .i64 l[k]) := h.at (by unfold ints; rw [List.getElem?_map, List.getElem?_eq_getElem hk]; rfl)
theorem ints_some {w0 : World} {S : SS} {A : Option Addr} {l : List Int} (h : Rd w0 S A (ints l)) (hk : 0 < l.length) : ∃ a, A = some a :=
 h.some (fun e => by have := congrArg List.length e; simp [ints] at this; subst this; simp at hk)
theorem itemS_get {l : List ItemM} {k : Nat} (hk : k < l.length) {j : Nat} (hj : j < 3) : (itemS l)[k * 3 + j]? = (itemC l[k])[j]? := by
 unfold itemS
 rw [flat_get itemC_len l (k * 3 + j) (by omega), show (k * 3 + j) / 3 = k from by omega, show (k * 3 + j) % 3 = j from by omega, getElem!_pos l k hk]
theorem itemS_some {w0 : World} {S : SS} {A : Option Addr} {l : List ItemM} (h : Rd w0 S A (itemS l)) (hk : 0 < l.length) : ∃ a, A = some a :=
 h.some (fun e => by have := itemS_len l; rw [e] at this; simp at this; omega)
theorem item_at {w0 : World} {S : SS} {a : Addr} {l : List ItemM} (h : Rd w0 S (some a) (itemS l)) {k : Nat} (hk : k < l.length) : ∀ (j : Nat) (v : Value), (itemC l[k])[j]? = some v -> Cell w0 S ((a.add (k * 3)).add j) v := by
 intro j v hj
 have hj2 : j < 3 := by have := (List.getElem?_eq_some_iff.1 hj).1; rwa [itemC_len] at this
 rw [addr_add_add]
 exact h.at (by rw [itemS_get hk hj2]; exact hj)
theorem toL_inj {a b : ByteArray} : a.toList = b.toList ↔ a = b := by
 constructor
 ·intro h; rw [ByteArray.toList_eq, ByteArray.toList_eq] at h; cases a; cases b; congr 1; exact Array.toList_inj.1 h
 rintro rfl; rfl
theorem item_st {w0 : World} {S : SS} {P : Program} {n r : Nat} {T : TT} {x v : PV} {u : ItemM} {z : List Value} (hx : x.val T = some (.pointer (some ⟨r, 0, none⟩))) (hv : v.val T = some (itemV u)) (hz : z.length = 3) :
  OW P w0 n (.st 3 x v) T ([(r, .cells z 75 3)] :: S) (fun _ S' => S' = [(r, .cells (itemC u) 75 3)] :: S) := by
 refine (OW.st (k := 0) (c := z) (u := itemV u) hx hv rfl (show (itemV u).cells.size = 3 from rfl) (by omega) rfl).mono ?_
 rintro _ _ rfl
 rw [item_box, setAll (by rw [itemC_len, hz])]
 rfl
theorem indexI_fc {w0 : World} {S : SS} {A : Option Addr} {c : Nat} {l : List Int} {z : Int} {q : Int -> Bool} (hqd : q = fun x => decide (z = x)) (hx : Rd w0 S A (ints l)) (hb : l.length <= 1000000000000) :
  FC Tryz.prog w0 82 [.slice A l.length c, .int .i64 z] S (fun u S' => u = .int .i64 (gidx q l) /\ S' = S) := by
 refine FC.of Tryz.known82 (by simp) ?_
 unfold Tryz.pc82
 simp only [argT]
 refine PW.seqOps (OL.dp rfl (OL.nil (PW.k2 0 1 rfl ?_)))
 refine PW.seq fun K1 hK1 => ?_
 refine PW.seqOps (OL.dp rfl (OL.dp rfl (OL.dp rfl (OL.nil (PW.k4 0 1 7 8 rfl (PW.block (PW.k4 0 1 7 8 rfl ?_)))))))
 refine PW.loopK (I := fun m T S' => ∃ (k : Nat), (k <= l.length /\ m = l.length - k /\ ∀ x ∈ l.take k, q x = false) /\ T = ([(0, .slice A l.length c), (1, .int .i64 z), (7, .int .i64 (l.length : Int)), (8, .int .i64 k)] : TT) /\ S' = S) (m := l.length) ⟨0, ⟨by omega, by omega, by simp⟩, rfl, rfl⟩ ?_
 rintro m _ _ ⟨k, ⟨hk, hm, hall⟩, rfl, rfl⟩
 refine PW.seqOps (OL.dp rfl (OL.nil (PW.k5 0 1 7 8 9 rfl ?_)))
 refine PW.seq fun K2 hK2 => ?_
 refine PW.cond rfl (fun c9 => ?_) (fun c9 => ?_)
 ·try simp only [cvS] at c9
  have hkl : k < l.length := by omega
  obtain ⟨a0, rfl⟩ := ints_some hx (by omega)
  refine PW.skip ?_
  refine hK2 _ _ ?_
  refine PW.k4 0 1 7 8 rfl ?_
  refine PW.seq fun K3 hK3 => ?_
  refine PW.block (PW.seqOps (OL.dp rfl (OL.dp rfl (OL.nil (PW.k5 0 1 5 7 8 rfl (PW.seqOps (OL.dp rfl (OL.dp rfl (OL.dp rfl ?_)))))))))
  refine OL.det trivial (.ixN1 rfl rfl rfl (by omega)) ?_
  refine OL.det trivial (.ld rfl (ints_at hx hkl)) (OL.dp rfl (OL.nil (PW.k6 0 1 5 7 8 16 rfl ?_)))
  refine PW.cond rfl (fun c16 => ?_) (fun c16 => ?_)
  ·skip
   have hqt : q l[k] = true := by rw [hqd]; simpa using c16
   refine PW.seqOps (OL.dp rfl (OL.dp rfl (OL.nil (PW.k1 4 rfl (PW.ret ?_)))))
   change (Exit.ret = Exit.normal ∨ Exit.ret = Exit.ret) /\ ∃ v, resV _ _ = some v /\ _
   exact ⟨.inr rfl, _, rfl, by rw [gidx_take hkl hall hqt], rfl⟩
  skip
  refine PW.skip ?_
  refine hK3 _ _ ?_
  refine PW.k4 0 1 7 8 rfl (PW.ops ?_)
  refine OL.det trivial (.add64 rfl rfl (by omega) (by omega)) ?_
  refine OL.dp rfl (OL.nil ?_)
  repeat rw [inBlk_n]
  try rw [thenK_n]
  refine LoopEnd.mk (T'' := [(0, _), (1, _), (7, _), (8, _)]) (wi rfl) ?_
  refine ⟨l.length - (k + 1), by omega, k + 1, ⟨by omega, rfl, fun x hx => ?_⟩, rfl, rfl⟩
  rw [ltake_snoc hkl] at hx
  rcases List.mem_append.1 hx with h | h
  ·exact hall x h
  rw [List.mem_singleton] at h; subst h; simpa [hqd] using c16
 try simp only [cvS] at c9
 refine PW.exit ?_
 refine hK1 _ _ ?_
 refine PW.keep (T' := []) trivial (PW.seqOps (OL.dp rfl (OL.nil (PW.k1 4 rfl (PW.ret ?_)))))
 change (Exit.ret = Exit.normal ∨ Exit.ret = Exit.ret) /\ ∃ v, resV _ _ = some v /\ _
 exact ⟨.inr rfl, _, rfl, by rw [gidx_no (fun x hx => hall x (by rw [List.take_of_length_le (by omega)]; exact hx))], rfl⟩
theorem containsI_fc {w0 : World} {S : SS} {A : Option Addr} {c : Nat} {l : List Int} {z : Int} (hx : Rd w0 S A (ints l)) (hb : l.length <= 1000000000000) :
  FC Tryz.prog w0 36 [.slice A l.length c, .int .i64 z] S (fun u S' => u = .bool (l.contains z) /\ S' = S) := by
 refine FC.of Tryz.known36 (by simp) ?_
 unfold Tryz.pc36
 simp only [argT]
 refine PW.seqOps (OL.dp rfl (OL.nil (PW.k2 0 1 rfl (PW.seqOps (OL.dp rfl (OL.dp rfl ?_))))))
 refine OL.call trivial rfl (indexI_fc (q := fun x => decide (z = x)) rfl hx hb) ?_
 rintro _ Sx ⟨rfl, hSx⟩
 rw [hSx]
 clear hSx
 refine OL.dp rfl (OL.dp rfl (OL.nil (PW.k1 4 rfl (PW.ret ?_))))
 change (Exit.ret = Exit.normal ∨ Exit.ret = Exit.ret) /\ ∃ v, resV _ _ = some v /\ _
 refine ⟨.inr rfl, _, rfl, congrArg Value.bool ?_, rfl⟩
 rw [Bool.eq_iff_iff, decide_eq_true_eq, iff_of_eq gidx_any, List.any_eq_true, List.contains_iff_mem]
 constructor
 ·rintro ⟨x, hx, h⟩
  obtain rfl := of_decide_eq_true h
  exact hx
 exact fun h => ⟨z, h, by simp⟩
theorem isBlock_fc {w0 : World} {S : SS} {x : ItemM} : FC Tryz.prog w0 43 [itemV x] S (fun v S' => v = .bool x.block /\ S' = S) := by
 refine FC.ofD Tryz.known43 (by simp) ?_
 unfold Tryz.pc43
 simp only [argT]
 refine PW.seqOps (OL.cons trivial (OW.bx rfl) ?_)
 rintro _ _ ⟨r1, rfl, rfl⟩
 rw [item_box, itemC_len]
 refine OL.dp rfl (OL.nil (PW.k1 1 rfl (PW.seqOps (OL.dp rfl (OL.det trivial (.ld rfl (own_at (j := 1) (c := itemC x) (E := 75) (tot := 3) zM0 rfl)) (OL.dp rfl (OL.nil (PW.k1 2 rfl (PW.ret ?_)))))))))
 change (Exit.ret = Exit.normal ∨ Exit.ret = Exit.ret) /\ ∃ v, resV _ _ = some v /\ _
 exact ⟨.inr rfl, _, rfl, _, Sub.drop (Sub.refl _), rfl, rfl⟩
theorem indexFuncI_fc {w0 : World} {S : SS} {A : Option Addr} {c : Nat} {l : List ItemM} {g : FuncId} {ca : List Value} {q : ItemM -> Bool} (hx : Rd w0 S A (itemS l)) (hb : l.length <= 1000000000000) (hok : fnOk Tryz.prog g = true)
  (hq : ∀ x ∈ l, FC Tryz.prog w0 g ([] ++ [itemV x] ++ ca) S (fun u S' => u = .bool (q x) /\ S' = S)) :
  FC Tryz.prog w0 89 [.slice A l.length c, .func (.func g) #[] ca.toArray] S (fun u S' => u = .int .i64 (gidx q l) /\ S' = S) := by
 refine FC.of Tryz.known89 (by simp) ?_
 unfold Tryz.pc89
 simp only [argT]
 refine PW.seqOps (OL.dp rfl (OL.nil (PW.k2 0 1 rfl ?_)))
 refine PW.seq fun K1 hK1 => ?_
 refine PW.seqOps (OL.dp rfl (OL.dp rfl (OL.dp rfl (OL.nil (PW.k4 0 1 7 8 rfl (PW.block (PW.k4 0 1 7 8 rfl ?_)))))))
 refine PW.loopK (I := fun m T S' => ∃ (k : Nat), (k <= l.length /\ m = l.length - k /\ ∀ x ∈ l.take k, q x = false) /\ T = ([(0, .slice A l.length c), (1, .func (.func g) #[] ca.toArray), (7, .int .i64 (l.length : Int)), (8, .int .i64 k)] : TT) /\ S' = S) (m := l.length) ⟨0, ⟨by omega, by omega, by simp⟩, rfl, rfl⟩ ?_
 rintro m _ _ ⟨k, ⟨hk, hm, hall⟩, rfl, rfl⟩
 refine PW.seqOps (OL.dp rfl (OL.nil (PW.k5 0 1 7 8 9 rfl ?_)))
 refine PW.seq fun K2 hK2 => ?_
 refine PW.cond rfl (fun c9 => ?_) (fun c9 => ?_)
 ·try simp only [cvS] at c9
  have hkl : k < l.length := by omega
  obtain ⟨a0, rfl⟩ := itemS_some hx (by omega)
  refine PW.skip ?_
  refine hK2 _ _ ?_
  refine PW.k4 0 1 7 8 rfl ?_
  refine PW.seq fun K3 hK3 => ?_
  refine PW.block (PW.seqOps (OL.dp rfl (OL.dp rfl (OL.nil (PW.k5 0 1 5 7 8 rfl (PW.seqOps (OL.dp rfl (OL.dp rfl (OL.dp rfl ?_)))))))))
  refine OL.det trivial (.ixN rfl rfl rfl (by omega)) ?_
  refine OL.det trivial (.ldA rfl (itemC_len _) (item_at hx hkl)) (OL.cons trivial (OW.callv (fi := []) (ca := ca) rfl hok rfl (hq _ (List.getElem_mem hkl))) ?_)
  rintro _ Sx ⟨rfl, hSx⟩
  rw [hSx]
  clear hSx
  refine OL.nil (PW.k6 0 1 5 7 8 16 rfl ?_)
  refine PW.cond rfl (fun c16 => ?_) (fun c16 => ?_)
  ·skip
   have hqt : q l[k] = true := by simpa using c16
   refine PW.seqOps (OL.dp rfl (OL.dp rfl (OL.nil (PW.k1 4 rfl (PW.ret ?_)))))
   change (Exit.ret = Exit.normal ∨ Exit.ret = Exit.ret) /\ ∃ v, resV _ _ = some v /\ _
   exact ⟨.inr rfl, _, rfl, by rw [gidx_take hkl hall hqt], rfl⟩
  skip
  refine PW.skip ?_
  refine hK3 _ _ ?_
  refine PW.k4 0 1 7 8 rfl (PW.ops ?_)
  refine OL.det trivial (.add64 rfl rfl (by omega) (by omega)) ?_
  refine OL.dp rfl (OL.nil ?_)
  repeat rw [inBlk_n]
  try rw [thenK_n]
  refine LoopEnd.mk (T'' := [(0, _), (1, _), (7, _), (8, _)]) (wi rfl) ?_
  refine ⟨l.length - (k + 1), by omega, k + 1, ⟨by omega, rfl, fun x hx => ?_⟩, rfl, rfl⟩
  rw [ltake_snoc hkl] at hx
  rcases List.mem_append.1 hx with h | h
  ·exact hall x h
  rw [List.mem_singleton] at h; subst h; simpa using c16
 try simp only [cvS] at c9
 refine PW.exit ?_
 refine hK1 _ _ ?_
 refine PW.keep (T' := []) trivial (PW.seqOps (OL.dp rfl (OL.nil (PW.k1 4 rfl (PW.ret ?_)))))
 change (Exit.ret = Exit.normal ∨ Exit.ret = Exit.ret) /\ ∃ v, resV _ _ = some v /\ _
 exact ⟨.inr rfl, _, rfl, by rw [gidx_no (fun x hx => hall x (by rw [List.take_of_length_le (by omega)]; exact hx))], rfl⟩
theorem containsFuncI_fc {w0 : World} {S : SS} {A : Option Addr} {c : Nat} {l : List ItemM} {g : FuncId} {ca : List Value} {q : ItemM -> Bool} (hx : Rd w0 S A (itemS l)) (hb : l.length <= 1000000000000) (hok : fnOk Tryz.prog g = true)
  (hq : ∀ x ∈ l, FC Tryz.prog w0 g ([] ++ [itemV x] ++ ca) S (fun u S' => u = .bool (q x) /\ S' = S)) :
  FC Tryz.prog w0 42 [.slice A l.length c, .func (.func g) #[] ca.toArray] S (fun u S' => u = .bool (l.any q) /\ S' = S) := by
 refine FC.of Tryz.known42 (by simp) ?_
 unfold Tryz.pc42
 simp only [argT]
 refine PW.seqOps (OL.dp rfl (OL.nil (PW.k2 0 1 rfl (PW.seqOps (OL.dp rfl (OL.dp rfl (OL.call trivial rfl (indexFuncI_fc (q := q) hx hb hok hq) ?_)))))))
 rintro _ Sx ⟨rfl, hSx⟩
 rw [hSx]
 clear hSx
 refine OL.dp rfl (OL.dp rfl (OL.nil (PW.k1 4 rfl (PW.ret ?_))))
 change (Exit.ret = Exit.normal ∨ Exit.ret = Exit.ret) /\ ∃ v, resV _ _ = some v /\ _
 exact ⟨.inr rfl, _, rfl, congrArg Value.bool (by rw [Bool.eq_iff_iff, decide_eq_true_eq, iff_of_eq gidx_any]), rfl⟩
theorem conflict_fc {w0 : World} {S : SS} {A : Option Addr} {c : Nat} {l : List ItemM} (hx : Rd w0 S A (itemS l)) (hb : l.length <= 1000000000000) :
  FC Tryz.prog w0 19 [.slice A l.length c] S (fun u S' => u = .bool (l.any (·.block)) /\ S' = S) := by
 refine FC.of Tryz.known19 (by simp) ?_
 unfold Tryz.pc19
 simp only [argT]
 refine PW.seqOps (OL.dp rfl (OL.nil (PW.k1 0 rfl (PW.seqOps (OL.dp rfl ?_)))))
 refine OL.call trivial rfl (containsFuncI_fc (g := 43) (ca := []) (q := fun x => x.block) hx hb (by kernel_rfl) (fun x _ => isBlock_fc)) ?_
 rintro _ Sx ⟨rfl, hSx⟩
 rw [hSx]
 clear hSx
 refine OL.dp rfl (OL.nil (PW.k1 2 rfl (PW.ret ?_)))
 change (Exit.ret = Exit.normal ∨ Exit.ret = Exit.ret) /\ ∃ v, resV _ _ = some v /\ _
 exact ⟨.inr rfl, _, rfl, rfl, rfl⟩
structure ItemRd (w0 : World) (S : SS) (x : ItemM) : Prop where
 rdL : Rd w0 S x.LA (lines x.lines)
 rdM : Rd w0 S x.MA (ints x.mids)
 nL : x.lines.length <= 60000
 nM : x.mids.length <= 60000
theorem ItemRd.mono {w0 : World} {S S' : SS} {x : ItemM} (h : ItemRd w0 S x) (hs : Over S S') : ItemRd w0 S' x := ⟨h.rdL.mono hs, h.rdM.mono hs, h.nL, h.nM⟩
theorem ItemOk.rd {w0 : World} {j : Seg} {x : ItemM} {S : SS} (h : ItemOk w0 j x) (hj : j ∈ S) : ItemRd w0 S x := ⟨rd_mem h.rdL hj, rd_mem h.rdM hj, h.nL, h.nM⟩
theorem strs_snoc {v : Value} {l : List ByteArray} {z : ByteArray} {seg : Seg} (h : SlV 9 1 v (l.length + 1) (strs l ++ [Value.string z]) seg) : SlV 9 1 v (l ++ [z]).length (strs (l ++ [z])) seg := by
 rw [List.length_append]
 unfold strs at h ⊢
 rw [List.map_append]
 exact h
def pli (l : List ItemM) : List ItemP := l.map ItemM.pl
theorem pli_get {l : List ItemM} {k : Nat} (hk : k < l.length) : (pli l)[k]'(by unfold pli; rw [List.length_map]; exact hk) = l[k].pl := List.getElem_map _
theorem textI_fc {w0 : World} {S : SS} {A : Option Addr} {c : Nat} {l : List ItemM} (hx : Rd w0 S A (itemS l)) (hr : ∀ x ∈ l, ItemRd w0 S x) (hb : l.length <= 1000000) :
  FC Tryz.prog w0 15 [.slice A l.length c] S (fun u S' => ∃ seg, S' = seg :: S /\ SlV 9 1 u (textI (pli l)).length (strs (textI (pli l))) seg /\ (textI (pli l)).length <= 120003000000) := by
 have hpl0 : (pli l).length = l.length := List.length_map _
 have hNL : ∀ x ∈ pli l, x.lines.length <= 60000 := fun x hx => by
  obtain ⟨y, hy, rfl⟩ := List.mem_map.1 hx
  exact (hr y hy).nL
 refine FC.ofD Tryz.known15 (by simp) ?_
 unfold Tryz.pc15
 simp only [argT]
 refine PW.seqOps (OL.dp rfl (OL.nil (PW.k1 0 rfl (PW.seqOps (OL.dp rfl (OL.nil (PW.k2 0 3 rfl ?_)))))))
 refine PW.seq fun K1 hK1 => ?_
 refine PW.seqOps (OL.subS (S' := [] :: S) (Sub.nilL (Sub.refl _)) (OL.dp rfl (OL.dp rfl (OL.dp rfl (OL.nil (PW.k4 3 8 9 10 rfl (PW.block (PW.k4 3 8 9 10 rfl ?_))))))))
 refine PW.loopK (I := fun mm T S' => ∃ (k : Nat) (vo : Value) (sgo : Seg), (k <= l.length /\ mm = l.length - k /\ SlV 9 1 vo (textI ((pli l).take k)).length (strs (textI ((pli l).take k))) sgo) /\ T = ([(3, vo), (8, .slice A l.length c), (9, .int .i64 (l.length : Int)), (10, .int .i64 k)] : TT) /\ S' = sgo :: S) (m := l.length) ⟨0, _, [], ⟨by omega, by omega, by simp [textI]; exact SlV.nil 9 1⟩, rfl, rfl⟩ ?_
 rintro mm _ _ ⟨k, vo, sgo, ⟨hk, hmm, hso⟩, rfl, rfl⟩
 refine PW.seqOps (OL.dp rfl (OL.nil (PW.k5 3 8 9 10 11 rfl ?_)))
 refine PW.seq fun K2 hK2 => ?_
 refine PW.cond rfl (fun c11 => ?_) (fun c11 => ?_)
 ·try simp only [cvS] at c11
  have hkl : k < l.length := by omega
  obtain ⟨a0, rfl⟩ := itemS_some hx (by omega)
  have hx2 := hx
  have hrk := hr _ (List.getElem_mem hkl)
  have hnL := hrk.nL
  have hnM := hrk.nM
  have htl := textI_len hNL k (by omega)
  refine PW.skip ?_
  refine hK2 _ _ ?_
  refine PW.k4 3 8 9 10 rfl ?_
  refine PW.seq fun K3 hK3 => ?_
  refine PW.block (PW.seqOps (OL.det trivial (.ixN rfl rfl rfl hkl) (OL.det trivial (.ldA rfl (itemC_len _) (item_at hx2.cons hkl)) (OL.cons trivial OW.al ?_))))
  rintro _ _ ⟨r5, rfl, rfl⟩
  refine OL.cons trivial (item_st rfl rfl rfl) ?_
  rintro _ _ rfl
  change OL _ _ _ _ _ ([(r5, .cells (itemC l[k]) 75 3)] :: sgo :: S) _
  refine OL.nil (PW.k5 3 5 8 9 10 rfl ?_)
  refine PW.seq fun K4 hK4 => ?_
  refine PW.seqOps (OL.dp rfl (OL.det trivial (.ld rfl (own_at (j := 1) (c := itemC l[k]) (E := 75) (tot := 3) zM0 rfl)) (OL.nil (PW.k6 3 5 8 9 10 15 rfl ?_))))
  refine PW.cond rfl (fun c15 => ?_) (fun c15 => ?_)
  ·skip
   refine PW.ops (OL.dp rfl ?_)
   apply OL.app1 (k := 1)
   ·rfl
   ·rfl
   ·rfl
   ·rfl
   ·rfl
   ·rfl
   ·exact hso
   ·rfl
   ·omega
   ·unfold maxLen; omega
   intro v18 seg18 hsl18
   obtain ⟨pre, hpre⟩ : ∃ z, z = textI ((pli l).take k) ++ (if l[k].block then [beginB] else []) := ⟨_, rfl⟩
   have hp : SlV 9 1 v18 pre.length (strs pre) seg18 := by
    rw [hpre, if_pos c15]
    exact strs_snoc (z := beginB) hsl18
   have hpl : pre.length <= 120003 * k + 1 := by rw [hpre, List.length_append]; have := textI_len hNL k (by rw [hpl0]; omega); split <;> simp <;> omega
   refine OL.dp rfl (OL.nil ?_)
   refine hK4 _ _ ?_
   refine PW.k5 3 5 8 9 10 rfl ?_
   refine PW.seq fun K5 hK5 => ?_
   refine PW.seqOps (OL.dp rfl (OL.det trivial (.ld rfl (own_at (j := 0) (c := itemC l[k]) (E := 75) (tot := 3) zM0 rfl)) (OL.dp rfl (OL.dp rfl (OL.nil (PW.k8 3 5 8 9 10 20 21 22 rfl (PW.block (PW.k8 3 5 8 9 10 20 21 22 rfl ?_))))))))
   refine PW.loopK (I := fun mi T S' => ∃ (i : Nat) (vi : Value) (sgi : Seg), (i <= l[k].lines.length /\ mi = l[k].lines.length - i /\ SlV 9 1 vi (pre ++ rowsT l[k].pl i).length (strs (pre ++ rowsT l[k].pl i)) sgi) /\ T = ([(3, vi), (5, .pointer (some ⟨r5, 0, none⟩)), (8, .slice (some a0) l.length c), (9, .int .i64 (l.length : Int)), (10, .int .i64 k), (20, .slice l[k].LA l[k].lines.length l[k].lc), (21, .int .i64 (l[k].lines.length : Int)), (22, .int .i64 i)] : TT) /\ S' = [(r5, .cells (itemC l[k]) 75 3)] :: sgi :: S) (m := l[k].lines.length) ⟨0, _, _, ⟨by omega, by omega, by simpa [rowsT] using hp⟩, rfl, rfl⟩ ?_
   rintro mi _ _ ⟨i, vi, sgi, ⟨hi, hmi, hsi⟩, rfl, rfl⟩
   refine PW.seqOps (OL.dp rfl (OL.nil (PW.k9 3 5 8 9 10 20 21 22 23 rfl ?_)))
   refine PW.seq fun K6 hK6 => ?_
   refine PW.cond rfl (fun c23 => ?_) (fun c23 => ?_)
   ·try simp only [cvS] at c23
    have hil : i < l[k].lines.length := by omega
    obtain ⟨b0, hb0⟩ := lines_some hrk.rdL (by omega)
    have hrl2 := hrk.rdL
    rw [hb0] at hrl2 ⊢
    have hrs := rowsT_succ l[k].pl i
    have hge : l[k].pl.lines[i]! = l[k].lines[i] := getElem!_pos l[k].lines i hil
    have hrl := rowsT_len l[k].pl i
    have hpa : (pre ++ rowsT l[k].pl i).length = pre.length + (rowsT l[k].pl i).length := List.length_append
    refine PW.skip ?_
    refine hK6 _ _ ?_
    refine PW.k8 3 5 8 9 10 20 21 22 rfl ?_
    refine PW.seq fun K7 hK7 => ?_
    refine PW.block (PW.seqOps (OL.dp rfl (OL.det trivial (.ixN rfl rfl rfl hil) (OL.det trivial (.ldA rfl (lineC_len _) (line_at hrl2.cons.cons hil)) (OL.cons trivial OW.al ?_)))))
    rintro _ _ ⟨r7, rfl, rfl⟩
    refine OL.dp rfl (OL.cons trivial (line_st rfl rfl rfl) ?_)
    rintro _ _ rfl
    change OL _ _ _ _ _ (lseg r7 l[k].lines[i] :: [(r5, .cells (itemC l[k]) 75 3)] :: sgi :: S) _
    refine OL.nil (PW.k10 3 5 6 7 8 9 10 20 21 22 rfl ?_)
    refine PW.seq fun K8 hK8 => ?_
    refine PW.seqOps (OL.dp rfl (OL.det trivial (.ld rfl (own_at (j := 1) (c := itemC l[k]) (E := 75) (tot := 3) zM1 rfl)) ?_))
    refine OL.bool trivial (Yields.pure rfl) (fun g29 => ?_) (fun g29 => ?_)
    ·try simp only [cvS] at g29
     refine OL.det rfl (.pure rfl) (OL.det rfl (.ld rfl (own_at (j := 2) (c := itemC l[k]) (E := 75) (tot := 3) zM1 rfl)) (OL.det rfl (.pure rfl) ?_))
     refine OL.call rfl rfl (containsI_fc (hrk.rdM.cons.cons.cons) (by omega)) ?_
     rintro _ Sx ⟨rfl, hSx⟩
     rw [hSx]
     clear hSx
     refine OL.dp rfl (OL.nil (PW.k10 3 5 7 8 9 10 20 21 22 34 rfl ?_))
     refine PW.cond rfl (fun c34 => ?_) (fun c34 => ?_)
     ·skip
      refine PW.ops (OL.dp rfl ?_)
      apply OL.app1 (k := 2)
      ·rfl
      ·rfl
      ·rfl
      ·rfl
      ·rfl
      ·rfl
      ·exact hsi
      ·rfl
      ·omega
      ·unfold maxLen; omega
      intro v37 seg37 hsl37
      have hsi2 := strs_snoc (l := pre ++ rowsT l[k].pl i) (z := middleB) hsl37
      refine OL.dp rfl (OL.nil ?_)
      refine hK8 _ _ ?_
      refine PW.k9 3 5 7 8 9 10 20 21 22 rfl (PW.ops (OL.dp rfl (OL.dp rfl (OL.det trivial (.ld rfl (lcell_text (x := l[k].lines[i]) (E := 99) (tot := 35) zM0)) ?_))))
      apply OL.app1 (k := 2)
      ·rfl
      ·rfl
      ·rfl
      ·rfl
      ·rfl
      ·rfl
      ·exact (by first | exact hsi2 | exact hsi)
      ·rfl
      ·(first | omega | (simp only [List.length_append, List.length_cons, List.length_nil] at *; omega))
      ·unfold maxLen; (first | omega | (simp only [List.length_append, List.length_cons, List.length_nil] at *; omega))
      intro v42 seg42 hsl42
      refine OL.dp rfl (OL.nil ?_)
      refine hK7 _ _ ?_
      refine PW.k8 3 5 8 9 10 20 21 22 rfl (PW.ops ?_)
      refine OL.det trivial (.add64 rfl rfl (by omega) (by omega)) ?_
      refine OL.dp rfl (OL.nil ?_)
      repeat rw [inBlk_n]
      try rw [thenK_n]
      refine LoopEnd.mkS (Sub.drop (Sub.refl _)) (T'' := [(3, _), (5, _), (8, _), (9, _), (10, _), (20, _), (21, _), (22, _)]) (wi rfl) ?_
      rw [hb0]
      have he : pre ++ rowsT l[k].pl (i + 1) = pre ++ rowsT l[k].pl i ++ [middleB] ++ [l[k].lines[i].text] := by
       rw [hrs, hge, if_pos (by show (l[k].block && l[k].mids.contains (i : Int)) = true; rw [g29, c34]; rfl)]
       simp only [List.append_assoc]
      have := strs_snoc (z := l[k].lines[i].text) hsl42
      exact ⟨l[k].lines.length - (i + 1), by omega, i + 1, _, seg42, ⟨by omega, rfl, by rw [he]; exact this⟩, rfl, rfl⟩
     skip
     refine PW.skip ?_
     refine hK8 _ _ ?_
     refine PW.k9 3 5 7 8 9 10 20 21 22 rfl (PW.ops (OL.dp rfl (OL.dp rfl (OL.det trivial (.ld rfl (lcell_text (x := l[k].lines[i]) (E := 99) (tot := 35) zM0)) ?_))))
     apply OL.app1 (k := 2)
     ·rfl
     ·rfl
     ·rfl
     ·rfl
     ·rfl
     ·rfl
     ·exact (by first | exact hsi2 | exact hsi)
     ·rfl
     ·(first | omega | (simp only [List.length_append, List.length_cons, List.length_nil] at *; omega))
     ·unfold maxLen; (first | omega | (simp only [List.length_append, List.length_cons, List.length_nil] at *; omega))
     intro v42 seg42 hsl42
     refine OL.dp rfl (OL.nil ?_)
     refine hK7 _ _ ?_
     refine PW.k8 3 5 8 9 10 20 21 22 rfl (PW.ops ?_)
     refine OL.det trivial (.add64 rfl rfl (by omega) (by omega)) ?_
     refine OL.dp rfl (OL.nil ?_)
     repeat rw [inBlk_n]
     try rw [thenK_n]
     refine LoopEnd.mkS (Sub.drop (Sub.refl _)) (T'' := [(3, _), (5, _), (8, _), (9, _), (10, _), (20, _), (21, _), (22, _)]) (wi rfl) ?_
     rw [hb0]
     have he : pre ++ rowsT l[k].pl (i + 1) = pre ++ rowsT l[k].pl i ++ [l[k].lines[i].text] := by
      rw [hrs, hge, if_neg (by show ¬ (l[k].block && l[k].mids.contains (i : Int)) = true; rw [g29, c34]; simp)]
      simp only [List.nil_append, List.append_assoc]
     have := strs_snoc (z := l[k].lines[i].text) hsl42
     exact ⟨l[k].lines.length - (i + 1), by omega, i + 1, _, seg42, ⟨by omega, rfl, by rw [he]; exact this⟩, rfl, rfl⟩
    try simp only [cvS] at g29
    refine OL.off rfl rfl (OL.off rfl rfl (OL.off rfl rfl (OL.off rfl rfl (OL.dp rfl (OL.nil (PW.k10 3 5 7 8 9 10 20 21 22 34 rfl (PW.ite (b := false) rfl ?_)))))))
    rw [if_neg Bool.false_ne_true]
    refine PW.skip ?_
    refine hK8 _ _ ?_
    refine PW.k9 3 5 7 8 9 10 20 21 22 rfl (PW.ops (OL.dp rfl (OL.dp rfl (OL.det trivial (.ld rfl (lcell_text (x := l[k].lines[i]) (E := 99) (tot := 35) zM0)) ?_))))
    apply OL.app1 (k := 2)
    ·rfl
    ·rfl
    ·rfl
    ·rfl
    ·rfl
    ·rfl
    ·exact (by first | exact hsi2 | exact hsi)
    ·rfl
    ·(first | omega | (simp only [List.length_append, List.length_cons, List.length_nil] at *; omega))
    ·unfold maxLen; (first | omega | (simp only [List.length_append, List.length_cons, List.length_nil] at *; omega))
    intro v42 seg42 hsl42
    refine OL.dp rfl (OL.nil ?_)
    refine hK7 _ _ ?_
    refine PW.k8 3 5 8 9 10 20 21 22 rfl (PW.ops ?_)
    refine OL.det trivial (.add64 rfl rfl (by omega) (by omega)) ?_
    refine OL.dp rfl (OL.nil ?_)
    repeat rw [inBlk_n]
    try rw [thenK_n]
    refine LoopEnd.mkS (Sub.drop (Sub.refl _)) (T'' := [(3, _), (5, _), (8, _), (9, _), (10, _), (20, _), (21, _), (22, _)]) (wi rfl) ?_
    rw [hb0]
    have he : pre ++ rowsT l[k].pl (i + 1) = pre ++ rowsT l[k].pl i ++ [l[k].lines[i].text] := by
     rw [hrs, hge, if_neg (by show ¬ (l[k].block && l[k].mids.contains (i : Int)) = true; rw [g29]; simp)]
     simp only [List.nil_append, List.append_assoc]
    have := strs_snoc (z := l[k].lines[i].text) hsl42
    exact ⟨l[k].lines.length - (i + 1), by omega, i + 1, _, seg42, ⟨by omega, rfl, by rw [he]; exact this⟩, rfl, rfl⟩
   try simp only [cvS] at c23
   have hie : i = l[k].lines.length := by omega
   have hpg := pli_get hkl
   have hts := textI_snoc (l := pli l) (k := k) (by omega)
   rw [hpg] at hts
   unfold oneT at hts
   have hts : textI ((pli l).take (k + 1)) = textI ((pli l).take k) ++ ((if l[k].block = true then [beginB] else []) ++ rowsT l[k].pl l[k].lines.length ++ (if l[k].block = true then [closeB] else [])) := hts
   have hrl := rowsT_len l[k].pl i
   have hpa : (pre ++ rowsT l[k].pl i).length = pre.length + (rowsT l[k].pl i).length := List.length_append
   refine PW.exit ?_
   refine hK5 _ _ ?_
   refine PW.k5 3 5 8 9 10 rfl (PW.seqOps (OL.dp rfl (OL.det trivial (.ld rfl (own_at (j := 1) (c := itemC l[k]) (E := 75) (tot := 3) zM0 rfl)) (OL.nil (PW.k5 3 8 9 10 45 rfl ?_)))))
   refine PW.cond rfl (fun c45 => ?_) (fun c45 => ?_)
   ·skip
    refine PW.ops (OL.dp rfl ?_)
    apply OL.app1 (k := 1)
    ·rfl
    ·rfl
    ·rfl
    ·rfl
    ·rfl
    ·rfl
    ·exact hsi
    ·rfl
    ·omega
    ·unfold maxLen; omega
    intro v48 seg48 hsl48
    refine OL.dp rfl (OL.nil ?_)
    refine hK3 _ _ ?_
    refine PW.k4 3 8 9 10 rfl (PW.ops ?_)
    refine OL.det trivial (.add64 rfl rfl (by omega) (by omega)) ?_
    refine OL.dp rfl (OL.nil ?_)
    repeat rw [inBlk_n]
    try rw [thenK_n]
    refine LoopEnd.mkS (Sub.drop (Sub.refl _)) (T'' := [(3, _), (8, _), (9, _), (10, _)]) (wi rfl) ?_
    have he : textI ((pli l).take (k + 1)) = pre ++ rowsT l[k].pl i ++ [closeB] := by
     rw [hts, hpre, hie]
     simp only [c45, if_true, List.append_assoc]
    have := strs_snoc (z := closeB) hsl48
    exact ⟨l.length - (k + 1), by omega, k + 1, _, seg48, ⟨by omega, rfl, by rw [he]; exact this⟩, rfl, rfl⟩
   skip
   refine PW.skip ?_
   refine hK3 _ _ ?_
   refine PW.k4 3 8 9 10 rfl (PW.ops ?_)
   refine OL.det trivial (.add64 rfl rfl (by omega) (by omega)) ?_
   refine OL.dp rfl (OL.nil ?_)
   repeat rw [inBlk_n]
   try rw [thenK_n]
   refine LoopEnd.mkS (Sub.drop (Sub.refl _)) (T'' := [(3, _), (8, _), (9, _), (10, _)]) (wi rfl) ?_
   have he : textI ((pli l).take (k + 1)) = pre ++ rowsT l[k].pl i := by
    rw [hts, hpre, hie]
    simp only [c45, Bool.false_eq_true, if_false, List.append_nil, List.nil_append, List.append_assoc]
   exact ⟨l.length - (k + 1), by omega, k + 1, vi, sgi, ⟨by omega, rfl, by rw [he]; exact hsi⟩, rfl, rfl⟩
  skip
  obtain ⟨pre, hpre⟩ : ∃ z, z = textI ((pli l).take k) ++ (if l[k].block then [beginB] else []) := ⟨_, rfl⟩
  have hp : SlV 9 1 vo pre.length (strs pre) sgo := by
   rw [hpre, if_neg (by rw [c15]; simp), List.append_nil]
   exact hso
  have hpl : pre.length <= 120003 * k + 1 := by rw [hpre, List.length_append]; have := textI_len hNL k (by rw [hpl0]; omega); split <;> simp <;> omega
  refine PW.skip ?_
  refine hK4 _ _ ?_
  refine PW.k5 3 5 8 9 10 rfl ?_
  refine PW.seq fun K9 hK9 => ?_
  refine PW.seqOps (OL.dp rfl (OL.det trivial (.ld rfl (own_at (j := 0) (c := itemC l[k]) (E := 75) (tot := 3) zM0 rfl)) (OL.dp rfl (OL.dp rfl (OL.nil (PW.k8 3 5 8 9 10 20 21 22 rfl (PW.block (PW.k8 3 5 8 9 10 20 21 22 rfl ?_))))))))
  refine PW.loopK (I := fun mi T S' => ∃ (i : Nat) (vi : Value) (sgi : Seg), (i <= l[k].lines.length /\ mi = l[k].lines.length - i /\ SlV 9 1 vi (pre ++ rowsT l[k].pl i).length (strs (pre ++ rowsT l[k].pl i)) sgi) /\ T = ([(3, vi), (5, .pointer (some ⟨r5, 0, none⟩)), (8, .slice (some a0) l.length c), (9, .int .i64 (l.length : Int)), (10, .int .i64 k), (20, .slice l[k].LA l[k].lines.length l[k].lc), (21, .int .i64 (l[k].lines.length : Int)), (22, .int .i64 i)] : TT) /\ S' = [(r5, .cells (itemC l[k]) 75 3)] :: sgi :: S) (m := l[k].lines.length) ⟨0, _, _, ⟨by omega, by omega, by simpa [rowsT] using hp⟩, rfl, rfl⟩ ?_
  rintro mi _ _ ⟨i, vi, sgi, ⟨hi, hmi, hsi⟩, rfl, rfl⟩
  refine PW.seqOps (OL.dp rfl (OL.nil (PW.k9 3 5 8 9 10 20 21 22 23 rfl ?_)))
  refine PW.seq fun K10 hK10 => ?_
  refine PW.cond rfl (fun c23 => ?_) (fun c23 => ?_)
  ·try simp only [cvS] at c23
   have hil : i < l[k].lines.length := by omega
   obtain ⟨b0, hb0⟩ := lines_some hrk.rdL (by omega)
   have hrl2 := hrk.rdL
   rw [hb0] at hrl2 ⊢
   have hrs := rowsT_succ l[k].pl i
   have hge : l[k].pl.lines[i]! = l[k].lines[i] := getElem!_pos l[k].lines i hil
   have hrl := rowsT_len l[k].pl i
   have hpa : (pre ++ rowsT l[k].pl i).length = pre.length + (rowsT l[k].pl i).length := List.length_append
   refine PW.skip ?_
   refine hK10 _ _ ?_
   refine PW.k8 3 5 8 9 10 20 21 22 rfl ?_
   refine PW.seq fun K11 hK11 => ?_
   refine PW.block (PW.seqOps (OL.dp rfl (OL.det trivial (.ixN rfl rfl rfl hil) (OL.det trivial (.ldA rfl (lineC_len _) (line_at hrl2.cons.cons hil)) (OL.cons trivial OW.al ?_)))))
   rintro _ _ ⟨r7, rfl, rfl⟩
   refine OL.dp rfl (OL.cons trivial (line_st rfl rfl rfl) ?_)
   rintro _ _ rfl
   change OL _ _ _ _ _ (lseg r7 l[k].lines[i] :: [(r5, .cells (itemC l[k]) 75 3)] :: sgi :: S) _
   refine OL.nil (PW.k10 3 5 6 7 8 9 10 20 21 22 rfl ?_)
   refine PW.seq fun K12 hK12 => ?_
   refine PW.seqOps (OL.dp rfl (OL.det trivial (.ld rfl (own_at (j := 1) (c := itemC l[k]) (E := 75) (tot := 3) zM1 rfl)) ?_))
   refine OL.bool trivial (Yields.pure rfl) (fun g29 => ?_) (fun g29 => ?_)
   ·try simp only [cvS] at g29
    refine OL.det rfl (.pure rfl) (OL.det rfl (.ld rfl (own_at (j := 2) (c := itemC l[k]) (E := 75) (tot := 3) zM1 rfl)) (OL.det rfl (.pure rfl) ?_))
    refine OL.call rfl rfl (containsI_fc (hrk.rdM.cons.cons.cons) (by omega)) ?_
    rintro _ Sx ⟨rfl, hSx⟩
    rw [hSx]
    clear hSx
    refine OL.dp rfl (OL.nil (PW.k10 3 5 7 8 9 10 20 21 22 34 rfl ?_))
    refine PW.cond rfl (fun c34 => ?_) (fun c34 => ?_)
    ·skip
     refine PW.ops (OL.dp rfl ?_)
     apply OL.app1 (k := 2)
     ·rfl
     ·rfl
     ·rfl
     ·rfl
     ·rfl
     ·rfl
     ·exact hsi
     ·rfl
     ·omega
     ·unfold maxLen; omega
     intro v37 seg37 hsl37
     have hsi2 := strs_snoc (l := pre ++ rowsT l[k].pl i) (z := middleB) hsl37
     refine OL.dp rfl (OL.nil ?_)
     refine hK12 _ _ ?_
     refine PW.k9 3 5 7 8 9 10 20 21 22 rfl (PW.ops (OL.dp rfl (OL.dp rfl (OL.det trivial (.ld rfl (lcell_text (x := l[k].lines[i]) (E := 99) (tot := 35) zM0)) ?_))))
     apply OL.app1 (k := 2)
     ·rfl
     ·rfl
     ·rfl
     ·rfl
     ·rfl
     ·rfl
     ·exact (by first | exact hsi2 | exact hsi)
     ·rfl
     ·(first | omega | (simp only [List.length_append, List.length_cons, List.length_nil] at *; omega))
     ·unfold maxLen; (first | omega | (simp only [List.length_append, List.length_cons, List.length_nil] at *; omega))
     intro v42 seg42 hsl42
     refine OL.dp rfl (OL.nil ?_)
     refine hK11 _ _ ?_
     refine PW.k8 3 5 8 9 10 20 21 22 rfl (PW.ops ?_)
     refine OL.det trivial (.add64 rfl rfl (by omega) (by omega)) ?_
     refine OL.dp rfl (OL.nil ?_)
     repeat rw [inBlk_n]
     try rw [thenK_n]
     refine LoopEnd.mkS (Sub.drop (Sub.refl _)) (T'' := [(3, _), (5, _), (8, _), (9, _), (10, _), (20, _), (21, _), (22, _)]) (wi rfl) ?_
     rw [hb0]
     have he : pre ++ rowsT l[k].pl (i + 1) = pre ++ rowsT l[k].pl i ++ [middleB] ++ [l[k].lines[i].text] := by
      rw [hrs, hge, if_pos (by show (l[k].block && l[k].mids.contains (i : Int)) = true; rw [g29, c34]; rfl)]
      simp only [List.append_assoc]
     have := strs_snoc (z := l[k].lines[i].text) hsl42
     exact ⟨l[k].lines.length - (i + 1), by omega, i + 1, _, seg42, ⟨by omega, rfl, by rw [he]; exact this⟩, rfl, rfl⟩
    skip
    refine PW.skip ?_
    refine hK12 _ _ ?_
    refine PW.k9 3 5 7 8 9 10 20 21 22 rfl (PW.ops (OL.dp rfl (OL.dp rfl (OL.det trivial (.ld rfl (lcell_text (x := l[k].lines[i]) (E := 99) (tot := 35) zM0)) ?_))))
    apply OL.app1 (k := 2)
    ·rfl
    ·rfl
    ·rfl
    ·rfl
    ·rfl
    ·rfl
    ·exact (by first | exact hsi2 | exact hsi)
    ·rfl
    ·(first | omega | (simp only [List.length_append, List.length_cons, List.length_nil] at *; omega))
    ·unfold maxLen; (first | omega | (simp only [List.length_append, List.length_cons, List.length_nil] at *; omega))
    intro v42 seg42 hsl42
    refine OL.dp rfl (OL.nil ?_)
    refine hK11 _ _ ?_
    refine PW.k8 3 5 8 9 10 20 21 22 rfl (PW.ops ?_)
    refine OL.det trivial (.add64 rfl rfl (by omega) (by omega)) ?_
    refine OL.dp rfl (OL.nil ?_)
    repeat rw [inBlk_n]
    try rw [thenK_n]
    refine LoopEnd.mkS (Sub.drop (Sub.refl _)) (T'' := [(3, _), (5, _), (8, _), (9, _), (10, _), (20, _), (21, _), (22, _)]) (wi rfl) ?_
    rw [hb0]
    have he : pre ++ rowsT l[k].pl (i + 1) = pre ++ rowsT l[k].pl i ++ [l[k].lines[i].text] := by
     rw [hrs, hge, if_neg (by show ¬ (l[k].block && l[k].mids.contains (i : Int)) = true; rw [g29, c34]; simp)]
     simp only [List.nil_append, List.append_assoc]
    have := strs_snoc (z := l[k].lines[i].text) hsl42
    exact ⟨l[k].lines.length - (i + 1), by omega, i + 1, _, seg42, ⟨by omega, rfl, by rw [he]; exact this⟩, rfl, rfl⟩
   try simp only [cvS] at g29
   refine OL.off rfl rfl (OL.off rfl rfl (OL.off rfl rfl (OL.off rfl rfl (OL.dp rfl (OL.nil (PW.k10 3 5 7 8 9 10 20 21 22 34 rfl (PW.ite (b := false) rfl ?_)))))))
   rw [if_neg Bool.false_ne_true]
   refine PW.skip ?_
   refine hK12 _ _ ?_
   refine PW.k9 3 5 7 8 9 10 20 21 22 rfl (PW.ops (OL.dp rfl (OL.dp rfl (OL.det trivial (.ld rfl (lcell_text (x := l[k].lines[i]) (E := 99) (tot := 35) zM0)) ?_))))
   apply OL.app1 (k := 2)
   ·rfl
   ·rfl
   ·rfl
   ·rfl
   ·rfl
   ·rfl
   ·exact (by first | exact hsi2 | exact hsi)
   ·rfl
   ·(first | omega | (simp only [List.length_append, List.length_cons, List.length_nil] at *; omega))
   ·unfold maxLen; (first | omega | (simp only [List.length_append, List.length_cons, List.length_nil] at *; omega))
   intro v42 seg42 hsl42
   refine OL.dp rfl (OL.nil ?_)
   refine hK11 _ _ ?_
   refine PW.k8 3 5 8 9 10 20 21 22 rfl (PW.ops ?_)
   refine OL.det trivial (.add64 rfl rfl (by omega) (by omega)) ?_
   refine OL.dp rfl (OL.nil ?_)
   repeat rw [inBlk_n]
   try rw [thenK_n]
   refine LoopEnd.mkS (Sub.drop (Sub.refl _)) (T'' := [(3, _), (5, _), (8, _), (9, _), (10, _), (20, _), (21, _), (22, _)]) (wi rfl) ?_
   rw [hb0]
   have he : pre ++ rowsT l[k].pl (i + 1) = pre ++ rowsT l[k].pl i ++ [l[k].lines[i].text] := by
    rw [hrs, hge, if_neg (by show ¬ (l[k].block && l[k].mids.contains (i : Int)) = true; rw [g29]; simp)]
    simp only [List.nil_append, List.append_assoc]
   have := strs_snoc (z := l[k].lines[i].text) hsl42
   exact ⟨l[k].lines.length - (i + 1), by omega, i + 1, _, seg42, ⟨by omega, rfl, by rw [he]; exact this⟩, rfl, rfl⟩
  try simp only [cvS] at c23
  have hie : i = l[k].lines.length := by omega
  have hpg := pli_get hkl
  have hts := textI_snoc (l := pli l) (k := k) (by omega)
  rw [hpg] at hts
  unfold oneT at hts
  have hts : textI ((pli l).take (k + 1)) = textI ((pli l).take k) ++ ((if l[k].block = true then [beginB] else []) ++ rowsT l[k].pl l[k].lines.length ++ (if l[k].block = true then [closeB] else [])) := hts
  have hrl := rowsT_len l[k].pl i
  have hpa : (pre ++ rowsT l[k].pl i).length = pre.length + (rowsT l[k].pl i).length := List.length_append
  refine PW.exit ?_
  refine hK9 _ _ ?_
  refine PW.k5 3 5 8 9 10 rfl (PW.seqOps (OL.dp rfl (OL.det trivial (.ld rfl (own_at (j := 1) (c := itemC l[k]) (E := 75) (tot := 3) zM0 rfl)) (OL.nil (PW.k5 3 8 9 10 45 rfl ?_)))))
  refine PW.cond rfl (fun c45 => ?_) (fun c45 => ?_)
  ·skip
   refine PW.ops (OL.dp rfl ?_)
   apply OL.app1 (k := 1)
   ·rfl
   ·rfl
   ·rfl
   ·rfl
   ·rfl
   ·rfl
   ·exact hsi
   ·rfl
   ·omega
   ·unfold maxLen; omega
   intro v48 seg48 hsl48
   refine OL.dp rfl (OL.nil ?_)
   refine hK3 _ _ ?_
   refine PW.k4 3 8 9 10 rfl (PW.ops ?_)
   refine OL.det trivial (.add64 rfl rfl (by omega) (by omega)) ?_
   refine OL.dp rfl (OL.nil ?_)
   repeat rw [inBlk_n]
   try rw [thenK_n]
   refine LoopEnd.mkS (Sub.drop (Sub.refl _)) (T'' := [(3, _), (8, _), (9, _), (10, _)]) (wi rfl) ?_
   have he : textI ((pli l).take (k + 1)) = pre ++ rowsT l[k].pl i ++ [closeB] := by
    rw [hts, hpre, hie]
    simp only [c45, if_true, List.append_assoc]
   have := strs_snoc (z := closeB) hsl48
   exact ⟨l.length - (k + 1), by omega, k + 1, _, seg48, ⟨by omega, rfl, by rw [he]; exact this⟩, rfl, rfl⟩
  skip
  refine PW.skip ?_
  refine hK3 _ _ ?_
  refine PW.k4 3 8 9 10 rfl (PW.ops ?_)
  refine OL.det trivial (.add64 rfl rfl (by omega) (by omega)) ?_
  refine OL.dp rfl (OL.nil ?_)
  repeat rw [inBlk_n]
  try rw [thenK_n]
  refine LoopEnd.mkS (Sub.drop (Sub.refl _)) (T'' := [(3, _), (8, _), (9, _), (10, _)]) (wi rfl) ?_
  have he : textI ((pli l).take (k + 1)) = pre ++ rowsT l[k].pl i := by
   rw [hts, hpre, hie]
   simp only [c45, Bool.false_eq_true, if_false, List.append_nil, List.nil_append, List.append_assoc]
  exact ⟨l.length - (k + 1), by omega, k + 1, vi, sgi, ⟨by omega, rfl, by rw [he]; exact hsi⟩, rfl, rfl⟩
 try simp only [cvS] at c11
 refine PW.exit ?_
 refine hK1 _ _ ?_
 refine PW.k1 3 rfl (PW.seqOps (OL.dp rfl (OL.dp rfl (OL.nil (PW.k1 2 rfl (PW.ret ?_))))))
 change (Exit.ret = Exit.normal ∨ Exit.ret = Exit.ret) /\ ∃ v, resV _ _ = some v /\ _
 have hke : k = (pli l).length := by omega
 rw [hke, List.take_length] at hso
 have := textI_len hNL (pli l).length (Nat.le_refl _)
 rw [List.take_length] at this
 exact ⟨.inr rfl, _, rfl, _, Sub.refl _, sgo, rfl, hso, by omega⟩
theorem vtxs_snoc' {v : Value} {l : List Vtx} {x : Vtx} {seg : Seg} (h : SlV 27 33 v (l.length + 1) (vtxs l ++ vtxL x) seg) : SlV 27 33 v (l ++ [x]).length (vtxs (l ++ [x])) seg := by
 rw [List.length_append, vtxs_app]
 have : vtxs [x] = vtxL x := by simp [vtxs]
 rw [this]
 exact h
theorem appVs {P : Program} {w0 : World} {n : Nat} {T : TT} {S : SS} {k m q c : Nat} {z v : Value} {s x : PV} {A : Option Addr} {xs l : List Vtx} {seg : Seg} (hs' : s.val T = some v) (hk : S[k]? = some seg) (hv : SlV 27 33 v m (vtxs xs) seg)
  (hx : x.val T = some (.slice A q c)) (hm : xs.length = m) (hq : l.length = q) (hrd : Rd w0 S A (vtxs l)) (hc : A = none -> c = 0) (hb : m + q <= 100000000) :
  OW P w0 n (.app 44 27 33 40 z s x) T S (fun v' S' => ∃ seg', S' = S.set k seg' /\ SlV 27 33 v' (xs ++ l).length (vtxs (xs ++ l)) seg') := by
 have h := OW.appL (P := P) (w0 := w0) (n := n) (t := 44) (z := z) (bytes := 40) hs' hk hv hx (by rw [vtxs_len, hq]) hrd (by decide) hc (vtxs_one l) (by omega) (by unfold maxLen; omega)
 rw [<- vtxs_app] at h
 rw [List.length_append, hm, hq]
 exact h
theorem own_take (p : PartP) (k : Nat) (hk : k < p.lines.length) : (own p).take (k + 1) = (own p).take k ++ [p.vtx k] := by
 have hl := own_len p
 rw [ltake_snoc (by omega)]
 congr 2
 simp [own]
theorem rOwn_fc {w0 : World} {S : SS} {p : PartM} (hp : PartR p) : FC Tryz.prog w0 59 [partV p] S (fun v S' => ∃ seg, S' = seg :: S /\ SlV 27 33 v (own p.pl).length (vtxs (own p.pl)) seg) := by
 have hpl := hp.lines
 have hpf := hp.first
 have hol : (own p.pl).length = p.lines.length := own_len p.pl
 refine FC.ofD Tryz.known59 (by simp) ?_
 unfold Tryz.pc59
 simp only [argT]
 refine PW.seqOps (OL.cons trivial (OW.bx rfl) ?_)
 rintro _ _ ⟨r1, rfl, rfl⟩
 rw [part_box, partC_len]
 refine OL.dp rfl (OL.nil (PW.k1 1 rfl (PW.seqOps (OL.dp rfl (OL.nil (PW.k2 1 3 rfl ?_))))))
 refine PW.seq fun K1 hK1 => ?_
 refine PW.seqOps (OL.subS (S' := [] :: [(r1, .cells (partC p) 66 102)] :: S) (Sub.nilL (Sub.refl _)) (OL.dp rfl (OL.nil (PW.k3 1 3 4 rfl (PW.block (PW.k3 1 3 4 rfl ?_))))))
 refine PW.loopK (I := fun mm T S' => ∃ (k : Nat) (vo : Value) (sgo : Seg), (k <= p.lines.length /\ mm = p.lines.length - k /\ ((own p.pl).take k).length = k /\ SlV 27 33 vo ((own p.pl).take k).length (vtxs ((own p.pl).take k)) sgo) /\ T = ([(1, .pointer (some ⟨r1, 0, none⟩)), (3, vo), (4, .int .i64 k)] : TT) /\ S' = sgo :: [(r1, .cells (partC p) 66 102)] :: S) (m := p.lines.length) ⟨0, _, [], ⟨by omega, by omega, rfl, SlV.nil 27 33⟩, rfl, rfl⟩ ?_
 rintro mm _ _ ⟨k, vo, sgo, ⟨hk, hmm, hkt, hso⟩, rfl, rfl⟩
 refine PW.seq fun K2 hK2 => ?_
 refine PW.seqOps (OL.dp rfl (OL.dp rfl (OL.det trivial (.ld rfl (part_lines (p := p) (E := 66) (tot := 102) zM1)) (OL.dp rfl (OL.dp rfl (OL.nil (PW.k4 1 3 4 9 rfl ?_)))))))
 refine PW.cond rfl (fun c9 => ?_) (fun c9 => ?_)
 ·try simp only [cvS] at c9
  refine PW.skip ?_
  refine hK2 _ _ ?_
  refine PW.k3 1 3 4 rfl ?_
  refine PW.seq fun K3 hK3 => ?_
  refine PW.block (PW.ops (OL.dp rfl (OL.dp rfl (OL.det trivial (.ldA rfl (hb_len _) (part_patch (p := p) (E := 66) (tot := 102) zM1)) (OL.dp rfl (OL.det trivial (.ld rfl (part_first (p := p) (E := 66) (tot := 102) zM1)) (OL.dp rfl ?_)))))))
  refine OL.det trivial (.add64 rfl rfl (by omega) (by omega)) ?_
  refine OL.det trivial (.build (fill_vtx rfl rfl)) ?_
  apply OL.app1 (k := 0)
  ·rfl
  ·rfl
  ·exact (List.size_toArray).trans (vtxL_len _)
  ·rfl
  ·rfl
  ·rfl
  ·exact hso
  ·exact vtxL_one _
  ·omega
  ·unfold maxLen; omega
  intro v21 seg21 hsl21
  refine OL.dp rfl (OL.nil ?_)
  refine hK3 _ _ ?_
  refine PW.k3 1 3 4 rfl (PW.ops (OL.dp rfl ?_))
  refine OL.det trivial (.add64 rfl rfl (by omega) (by omega)) ?_
  refine OL.dp rfl (OL.nil ?_)
  repeat rw [inBlk_n]
  try rw [thenK_n]
  refine LoopEnd.mk (T'' := [(1, _), (3, _), (4, _)]) (wi rfl) ?_
  have hts := own_take p.pl k (show k < p.lines.length by omega)
  exact ⟨p.lines.length - (k + 1), by omega, k + 1, _, seg21, ⟨by omega, rfl, by rw [hts, List.length_append, hkt]; rfl, by rw [hts]; exact vtxs_snoc' hsl21⟩, rfl, rfl⟩
 try simp only [cvS] at c9
 refine PW.exit ?_
 refine hK1 _ _ ?_
 refine PW.k1 3 rfl (PW.seqOps (OL.dp rfl (OL.dp rfl (OL.nil (PW.k1 2 rfl (PW.ret ?_))))))
 change (Exit.ret = Exit.normal ∨ Exit.ret = Exit.ret) /\ ∃ v, resV _ _ = some v /\ _
 have hke : k = (own p.pl).length := by omega
 rw [hke, List.take_length] at hso
 exact ⟨.inr rfl, _, rfl, _, Sub.cons (Sub.drop (Sub.refl _)), sgo, rfl, hso⟩
theorem allV_take {l : List PartM} {k : Nat} (hk : k < l.length) : allV (pls (l.take (k + 1))) = allV (pls (l.take k)) ++ own l[k].pl := by
 unfold pls
 rw [ltake_snoc hk, List.map_append, allV_app]
 simp [allV]
theorem allV_len {l : List PartM} (h : ∀ p ∈ l, p.lines.length <= 100) : ∀ k, k <= l.length -> (allV (pls (l.take k))).length <= 100 * k
 | 0, _ => by simp [pls, allV]
 | k + 1, hk => by
  rw [allV_take (by omega), List.length_append, own_len]
  have h1 := allV_len h k (by omega)
  have h2 := h _ (List.getElem_mem (show k < l.length by omega))
  have : l[k].pl.lines.length = l[k].lines.length := rfl
  omega
structure PartsRd (w0 : World) (S : SS) (A : Option Addr) (l : List PartM) : Prop where
 rd : Rd w0 S A (partS l)
 part : ∀ p ∈ l, PartRd w0 S p
 len : l.length <= 1000
theorem PartsRd.mono {w0 : World} {S S' : SS} {A : Option Addr} {l : List PartM} (h : PartsRd w0 S A l) (hs : Over S S') : PartsRd w0 S' A l := ⟨h.rd.mono hs, fun p hp => (h.part p hp).mono hs, h.len⟩
theorem PartsRd.cons {w0 : World} {S : SS} {s : Seg} {A : Option Addr} {l : List PartM} (h : PartsRd w0 S A l) : PartsRd w0 (s :: S) A l := h.mono (Over.refl S).cons
theorem rAll_fc {w0 : World} {S : SS} {A : Option Addr} {c : Nat} {l : List PartM} (h : PartsRd w0 S A l) : FC Tryz.prog w0 58 [.slice A l.length c] S (fun v S' => ∃ seg, S' = seg :: S /\ SlV 27 33 v (allV (pls l)).length (vtxs (allV (pls l))) seg) := by
 have hpl := allV_len fun p hp => (h.part p hp).small.1
 have hll := h.len
 have hrd := h.rd
 refine FC.ofD Tryz.known58 (by simp) ?_
 unfold Tryz.pc58
 simp only [argT]
 refine PW.seqOps (OL.dp rfl (OL.nil (PW.k1 0 rfl (PW.seqOps (OL.dp rfl (OL.nil (PW.k2 0 3 rfl ?_)))))))
 refine PW.seq fun K1 hK1 => ?_
 refine PW.seqOps (OL.subS (S' := [] :: S) (Sub.nilL (Sub.refl _)) (OL.dp rfl (OL.nil (PW.k3 0 3 4 rfl (PW.block (PW.k3 0 3 4 rfl ?_))))))
 refine PW.loopK (I := fun mm T S' => ∃ (k : Nat) (vo : Value) (sgo : Seg), (k <= l.length /\ mm = l.length - k /\ SlV 27 33 vo (allV (pls (l.take k))).length (vtxs (allV (pls (l.take k)))) sgo) /\ T = ([(0, .slice A l.length c), (3, vo), (4, .int .i64 k)] : TT) /\ S' = sgo :: S) (m := l.length) ⟨0, _, [], ⟨by omega, by omega, SlV.nil 27 33⟩, rfl, rfl⟩ ?_
 rintro mm _ _ ⟨k, vo, sgo, ⟨hk, hmm, hso⟩, rfl, rfl⟩
 refine PW.seq fun K2 hK2 => ?_
 refine PW.seqOps (OL.dp rfl (OL.dp rfl (OL.dp rfl (OL.dp rfl (OL.nil (PW.k4 0 3 4 8 rfl ?_))))))
 refine PW.cond rfl (fun c8 => ?_) (fun c8 => ?_)
 ·try simp only [cvS] at c8
  have hkl : k < l.length := by omega
  obtain ⟨a0, rfl⟩ := partS_some hrd (by omega)
  have hpk := hpl k (by omega)
  have hpk2 := (h.part _ (List.getElem_mem hkl)).small.1
  refine PW.skip ?_
  refine hK2 _ _ ?_
  refine PW.k3 0 3 4 rfl ?_
  refine PW.seq fun K3 hK3 => ?_
  refine PW.block (PW.ops (OL.dp rfl (OL.dp rfl (OL.dp rfl (OL.det trivial (.ixN rfl rfl rfl hkl) (OL.det trivial (.ldA rfl (partC_len _) (partS_at hrd.cons hkl)) (OL.call trivial rfl (rOwn_fc (h.part _ (List.getElem_mem hkl)).rng) ?_)))))))
  rintro _ _ ⟨seg16, rfl, hsl16⟩
  obtain ⟨A16, c16, rfl, hn16, hc16, hr16⟩ := slv_rdL (w0 := w0) hsl16
  refine OL.cons trivial (appVs (k := 1) rfl rfl hso rfl rfl rfl (hr16 _) hn16 (by rw [own_len]; show _ + l[k].lines.length <= _; omega)) ?_
  rintro v17 _ ⟨seg17, rfl, hsl17⟩
  refine OL.dp rfl (OL.nil ?_)
  refine hK3 _ _ ?_
  refine PW.k3 0 3 4 rfl (PW.ops (OL.dp rfl ?_))
  refine OL.det trivial (.add64 rfl rfl (by omega) (by omega)) ?_
  refine OL.dp rfl (OL.nil ?_)
  repeat rw [inBlk_n]
  try rw [thenK_n]
  refine LoopEnd.mkS (Sub.drop (Sub.refl _)) (T'' := [(0, _), (3, _), (4, _)]) (wi rfl) ?_
  exact ⟨l.length - (k + 1), by omega, k + 1, v17, seg17, ⟨by omega, rfl, by rw [allV_take hkl]; exact hsl17⟩, rfl, rfl⟩
 try simp only [cvS] at c8
 refine PW.exit ?_
 refine hK1 _ _ ?_
 refine PW.k1 3 rfl (PW.seqOps (OL.dp rfl (OL.dp rfl (OL.nil (PW.k1 2 rfl (PW.ret ?_))))))
 change (Exit.ret = Exit.normal ∨ Exit.ret = Exit.ret) /\ ∃ v, resV _ _ = some v /\ _
 have hke : k = l.length := by omega
 rw [hke, List.take_length] at hso
 exact ⟨.inr rfl, _, rfl, _, Sub.refl _, sgo, rfl, hso⟩
theorem rHas_fc {w0 : World} {S : SS} {A : Option Addr} {c : Nat} {l : List Vtx} {v : Vtx} (hx : Rd w0 S A (vtxs l)) (hb : l.length <= 1000000000) : FC Tryz.prog w0 60 [.slice A l.length c, vtxV v] S (fun u S' => u = .bool (decide (v ∈ l)) /\ S' = S) := by
 refine FC.ofD Tryz.known60 (by simp) ?_
 unfold Tryz.pc60
 simp only [argT]
 refine PW.seqOps (OL.cons trivial (OW.bx rfl) ?_)
 rintro _ _ ⟨r3, rfl, rfl⟩
 rw [vtx_box, vtxL_len]
 refine OL.dp rfl (OL.nil (PW.k2 0 3 rfl ?_))
 refine PW.seq fun K1 hK1 => ?_
 refine PW.seqOps (OL.dp rfl (OL.nil (PW.k3 0 3 5 rfl (PW.block (PW.k3 0 3 5 rfl ?_)))))
 refine PW.loopK (I := fun mm T S' => ∃ (k : Nat), (k <= l.length /\ mm = l.length - k /\ v ∉ l.take k) /\ T = ([(0, .slice A l.length c), (3, .pointer (some ⟨r3, 0, none⟩)), (5, .int .i64 k)] : TT) /\ S' = vseg r3 v :: S) (m := l.length) ⟨0, ⟨by omega, by omega, by simp⟩, rfl, rfl⟩ ?_
 rintro mm _ _ ⟨k, ⟨hk, hmm, hall⟩, rfl, rfl⟩
 refine PW.seq fun K2 hK2 => ?_
 refine PW.seqOps (OL.dp rfl (OL.dp rfl (OL.dp rfl (OL.dp rfl (OL.nil (PW.k4 0 3 5 9 rfl ?_))))))
 refine PW.cond rfl (fun c9 => ?_) (fun c9 => ?_)
 ·try simp only [cvS] at c9
  have hkl : k < l.length := by omega
  obtain ⟨a0, rfl⟩ := vtxs_some hx (by omega)
  refine PW.skip ?_
  refine hK2 _ _ ?_
  refine PW.k3 0 3 5 rfl ?_
  refine PW.seq fun K3 hK3 => ?_
  refine PW.block ?_
  refine PW.seq fun K4 hK4 => ?_
  refine PW.quietK Tryz.mixed (QK.dp rfl (QK.dp rfl (QK.det trivial (.ixN rfl rfl rfl hkl) (QK.det trivial (.ldA rfl (vtxL_len _) (vtx_at hx.cons hkl)) (QK.det trivial (.ldA rfl (vtxL_len _) (all_at zM0)) (QK.nil ?_))))))
  change OL _ _ _ [_] _ _ _
  refine OL.det trivial (.eqD (neg := false) rfl rfl (eqL_vtx _ _)) (OL.nil ?_)
  refine hK4 _ _ ?_
  refine PW.k4 0 3 5 17 rfl ?_
  refine PW.cond rfl (fun c17 => ?_) (fun c17 => ?_)
  ·try simp only [cvS] at c17
   refine PW.seqOps (OL.dp rfl (OL.nil (PW.k1 4 rfl (PW.ret ?_))))
   change (Exit.ret = Exit.normal ∨ Exit.ret = Exit.ret) /\ ∃ v, resV _ _ = some v /\ _
   exact ⟨.inr rfl, _, rfl, _, Sub.drop (Sub.refl _), congrArg Value.bool (decide_eq_true (by rw [<- c17]; exact List.getElem_mem _)).symm, rfl⟩
  try simp only [cvS] at c17
  refine PW.skip ?_
  refine hK3 _ _ ?_
  refine PW.k3 0 3 5 rfl (PW.ops (OL.dp rfl ?_))
  refine OL.det trivial (.add64 rfl rfl (by omega) (by omega)) ?_
  refine OL.dp rfl (OL.nil ?_)
  repeat rw [inBlk_n]
  try rw [thenK_n]
  refine LoopEnd.mk (T'' := [(0, _), (3, _), (5, _)]) (wi rfl) ?_
  refine ⟨l.length - (k + 1), by omega, k + 1, ⟨by omega, rfl, fun hm => ?_⟩, rfl, rfl⟩
  rw [vtake_snoc hkl] at hm
  rcases List.mem_append.1 hm with h | h
  ·exact hall h
  rw [List.mem_singleton] at h
  exact c17 h.symm
 try simp only [cvS] at c9
 refine PW.exit ?_
 refine hK1 _ _ ?_
 refine PW.keep (T' := []) trivial (PW.seqOps (OL.dp rfl (OL.nil (PW.k1 4 rfl (PW.ret ?_)))))
 change (Exit.ret = Exit.normal ∨ Exit.ret = Exit.ret) /\ ∃ v, resV _ _ = some v /\ _
 exact ⟨.inr rfl, _, rfl, _, Sub.drop (Sub.refl _), congrArg Value.bool (decide_eq_false (by have : k = l.length := (by omega); rw [this, List.take_length] at hall; exact hall)).symm, rfl⟩
theorem rEnd_fc {w0 : World} {S : SS} : FC Tryz.prog w0 61 [] S (fun v S' => v = vtxV endV /\ S' = S) := by
 refine FC.ofC Tryz.known61 (by simp) ?_
 unfold Tryz.pc61
 simp only [argT]
 refine PW.seqOps (OL.cons trivial OW.al ?_)
 rintro _ _ ⟨r0, rfl, rfl⟩
 refine OL.nil (PW.k1 0 rfl (PW.seqOps (OL.det trivial (.build rfl) ?_)))
 refine OL.cons trivial (OW.st (k := 0) rfl rfl rfl rfl (by first | decide | (simp; done) | (simp; omega)) (by first | rfl | simp)) ?_
 rintro _ _ rfl
 refine OL.nil (PW.k1 0 rfl (PW.ret ?_))
 exact ⟨.inr rfl, _, _, rfl, vtx_read (r := r0) (v := endV) (E := 27) (tot := 33) (List.Mem.head _), _, Sub.drop (Sub.refl _), rfl, rfl⟩
theorem rRoot_fc {w0 : World} {S : SS} : FC Tryz.prog w0 62 [] S (fun v S' => v = vtxV rootV /\ S' = S) := by
 refine FC.ofC Tryz.known62 (by simp) ?_
 unfold Tryz.pc62
 simp only [argT]
 refine PW.seqOps (OL.cons trivial OW.al ?_)
 rintro _ _ ⟨r0, rfl, rfl⟩
 refine OL.nil (PW.k1 0 rfl (PW.seqOps (OL.det trivial (.build rfl) ?_)))
 refine OL.cons trivial (OW.st (k := 0) rfl rfl rfl rfl (by first | decide | (simp; done) | (simp; omega)) (by first | rfl | simp)) ?_
 rintro _ _ rfl
 refine OL.nil (PW.k1 0 rfl (PW.ret ?_))
 exact ⟨.inr rfl, _, _, rfl, vtx_read (r := r0) (v := rootV) (E := 27) (tot := 33) (List.Mem.head _), _, Sub.drop (Sub.refl _), rfl, rfl⟩
def pairs (E : List (Vtx × Vtx)) : List Vtx := E.flatMap fun e => [e.1, e.2]
theorem pairs_app (a b : List (Vtx × Vtx)) : pairs (a ++ b) = pairs a ++ pairs b := by unfold pairs; rw [List.flatMap_append]
theorem pairs_len (E : List (Vtx × Vtx)) : (pairs E).length = 2 * E.length := by
 unfold pairs
 induction E with
 | nil => rfl
 | cons e E ih => rw [List.flatMap_cons, List.length_append, ih]; simp only [List.length_cons, List.length_nil]; omega
theorem pairs_get : ∀ {E : List (Vtx × Vtx)} {k : Nat} (hk : k < E.length), (pairs E)[2 * k]? = some E[k].1 /\ (pairs E)[2 * k + 1]? = some E[k].2
 | e :: E, 0, _ => ⟨rfl, rfl⟩
 | e :: E, k + 1, hk => by
  have := pairs_get (E := E) (k := k) (by simpa using hk)
  exact ⟨by rw [show 2 * (k + 1) = 2 * k + 2 by omega]; exact this.1, by rw [show 2 * (k + 1) + 1 = 2 * k + 1 + 2 by omega]; exact this.2⟩
section
variable {w0 : World} {S : SS} {a : Addr} {l : List PartM} {k : Nat}
theorem partS_up (h : Rd w0 S (some a) (partS l)) (hk : k < l.length) : ∀ (j : Nat) (v : Value), (vtxL l[k].up)[j]? = some v -> Cell w0 S (((a.add (k * 102)).add 34).add j) v := by
 intro j v hj
 have hj2 := (List.getElem?_eq_some_iff.1 hj).1
 have h1 := hb_len l[k].patch
 have h2 := vtxL_len l[k].up
 rw [addr_add_add (a.add (k * 102))]
 refine partS_at h hk (34 + j) v ?_
 rw [partC_split, List.getElem?_append_right (by omega), h1, List.getElem?_append_right (by simp only [List.length_cons, List.length_nil]; omega), List.getElem?_append_right (by simp only [List.length_cons, List.length_nil]; omega), List.getElem?_append_left (by simp only [List.length_cons, List.length_nil]; omega)]
 rw [<- hj]
 congr 1
 simp only [List.length_cons, List.length_nil]
 omega
theorem partS_down (h : Rd w0 S (some a) (partS l)) (hk : k < l.length) : ∀ (j : Nat) (v : Value), (vtxL l[k].down)[j]? = some v -> Cell w0 S (((a.add (k * 102)).add 67).add j) v := by
 intro j v hj
 have hj2 := (List.getElem?_eq_some_iff.1 hj).1
 have h1 := hb_len l[k].patch
 have h2 := vtxL_len l[k].up
 have h3 := vtxL_len l[k].down
 rw [addr_add_add (a.add (k * 102))]
 refine partS_at h hk (67 + j) v ?_
 rw [partC_split, List.getElem?_append_right (by omega), h1, List.getElem?_append_right (by simp only [List.length_cons, List.length_nil]; omega), List.getElem?_append_right (by simp only [List.length_cons, List.length_nil]; omega), List.getElem?_append_right (by simp only [List.length_cons, List.length_nil]; omega), h2, List.getElem?_append_left (by simp only [List.length_cons, List.length_nil]; omega)]
 rw [<- hj]
 congr 1
 simp only [List.length_cons, List.length_nil]
 omega
end
theorem way_own {p : PartP} {i : Nat} (hi : i < (own p).length) (h : i + 1 < (way p).length) : (way p)[i + 1] = (own p)[i] := by
 show (own p ++ [p.down])[i]'_ = _
 exact List.getElem_append_left hi
theorem way_down {p : PartP} (h : (own p).length + 1 < (way p).length) : (way p)[(own p).length + 1] = p.down := by
 show (own p ++ [p.down])[(own p).length]'_ = _
 rw [List.getElem_append_right (Nat.le_refl _)]
 simp
theorem allE_take {l : List PartM} {k : Nat} (hk : k < l.length) : allE (pls (l.take (k + 1))) = allE (pls (l.take k)) ++ edges l[k].pl := by
 unfold pls allE
 rw [ltake_snoc hk, List.map_append, List.flatMap_append]
 simp
theorem pairs_snoc {l : List Vtx} {i : Nat} (h : i + 1 < l.length) : pairs ((edgeL l).take (i + 1)) = pairs ((edgeL l).take i) ++ [l[i], l[i + 1]] := by
 rw [edgeL_take h, pairs_app]
 rfl
theorem edges_own (p : PartP) (h : 0 < (own p).length) : edges p = (edgeL (way p)).take ((own p).length + 1) := by
 unfold edges
 rw [if_neg (by rw [own_len] at h; omega), List.take_of_length_le (by rw [edgeL_len, way_len, own_len]; omega)]
theorem edges_none (p : PartP) (h : (own p).length = 0) : edges p = [] := by
 unfold edges
 rw [if_pos (by rw [own_len] at h; exact h)]
theorem rEdges_fc {w0 : World} {S : SS} {A : Option Addr} {c : Nat} {l : List PartM} (h : PartsRd w0 S A l) : FC Tryz.prog w0 95 [.slice A l.length c] S (fun v S' => ∃ seg, S' = seg :: S /\ SlV 27 33 v (pairs (allE (pls l))).length (vtxs (pairs (allE (pls l)))) seg) := by
 have hll := h.len
 have hrd := h.rd
 refine FC.ofD Tryz.known95 (by simp) ?_
 unfold Tryz.pc95
 simp only [argT]
 refine PW.seqOps (OL.dp rfl (OL.nil (PW.k1 0 rfl (PW.seqOps (OL.dp rfl (OL.nil (PW.k2 0 3 rfl ?_)))))))
 refine PW.seq fun K1 hK1 => ?_
 refine PW.seqOps (OL.subS (S' := [] :: S) (Sub.nilL (Sub.refl _)) (OL.dp rfl (OL.nil (PW.k3 0 3 4 rfl (PW.block (PW.k3 0 3 4 rfl ?_))))))
 refine PW.loopK (I := fun mm T S' => ∃ (k : Nat) (vo : Value) (sgo : Seg), (k <= l.length /\ mm = l.length - k /\ SlV 27 33 vo (pairs (allE (pls (l.take k)))).length (vtxs (pairs (allE (pls (l.take k))))) sgo /\ (pairs (allE (pls (l.take k)))).length <= 202 * k) /\ T = ([(0, .slice A l.length c), (3, vo), (4, .int .i64 k)] : TT) /\ S' = sgo :: S) (m := l.length) ⟨0, _, [], ⟨by omega, by omega, SlV.nil 27 33, Nat.le_refl 0⟩, rfl, rfl⟩ ?_
 rintro mm _ _ ⟨k, vo, sgo, ⟨hk, hmm, hso, hbo⟩, rfl, rfl⟩
 refine PW.seq fun K2 hK2 => ?_
 refine PW.seqOps (OL.dp rfl (OL.dp rfl (OL.dp rfl (OL.dp rfl (OL.nil (PW.k4 0 3 4 10 rfl ?_))))))
 refine PW.cond rfl (fun c10 => ?_) (fun c10 => ?_)
 ·try simp only [cvS] at c10
  have hkl : k < l.length := by omega
  obtain ⟨a0, rfl⟩ := partS_some hrd (by omega)
  have hpk := hbo
  have hpk2 := (h.part _ (List.getElem_mem hkl)).small.1
  have hol : (own l[k].pl).length = l[k].lines.length := own_len l[k].pl
  have hwl : (way l[k].pl).length = l[k].lines.length + 2 := way_len l[k].pl
  refine PW.skip ?_
  refine hK2 _ _ ?_
  refine PW.k3 0 3 4 rfl ?_
  refine PW.seq fun K3 hK3 => ?_
  refine PW.block (PW.seqOps (OL.dp rfl (OL.dp rfl (OL.det trivial (.ixN rfl rfl rfl hkl) (OL.det trivial (.ldA rfl (partC_len _) (partS_at hrd.cons hkl)) (OL.call trivial rfl (rOwn_fc (h.part _ (List.getElem_mem hkl)).rng) ?_))))))
  rintro _ _ ⟨seg17, rfl, hsl17⟩
  obtain ⟨Aw, cw, rfl, hnw, hcw, hrw⟩ := slv_rdL (w0 := w0) hsl17
  obtain ⟨pre, hpre⟩ : ∃ z, z = pairs (allE (pls (l.take k))) := ⟨_, rfl⟩
  rw [<- hpre] at hso hpk
  refine OL.dp rfl (OL.nil (PW.k4 0 3 4 5 rfl ?_))
  refine PW.seq fun K4 hK4 => ?_
  refine PW.seqOps (OL.dp rfl (OL.nil (PW.k5 0 3 4 5 6 rfl (PW.block (PW.k5 0 3 4 5 6 rfl ?_)))))
  refine PW.loopK (I := fun mi T S' => ∃ (i : Nat) (vi : Value) (sgi : Seg), (i <= (own l[k].pl).length /\ mi = (own l[k].pl).length - i /\ SlV 27 33 vi (pre ++ pairs ((edgeL (way l[k].pl)).take i)).length (vtxs (pre ++ pairs ((edgeL (way l[k].pl)).take i))) sgi) /\ T = ([(0, .slice (some a0) l.length c), (3, vi), (4, .int .i64 k), (5, .slice Aw (own l[k].pl).length cw), (6, .int .i64 i)] : TT) /\ S' = seg17 :: sgi :: S) (m := (own l[k].pl).length) ⟨0, _, _, ⟨by omega, by omega, by simpa [pairs] using hso⟩, rfl, rfl⟩ ?_
  rintro mi _ _ ⟨i, vi, sgi, ⟨hi, hmi, hsi⟩, rfl, rfl⟩
  refine PW.seq fun K5 hK5 => ?_
  refine PW.seqOps (OL.dp rfl (OL.dp rfl (OL.dp rfl (OL.dp rfl (OL.nil (PW.k6 0 3 4 5 6 21 rfl ?_))))))
  refine PW.cond rfl (fun c21 => ?_) (fun c21 => ?_)
  ·try simp only [cvS] at c21
   have hil : i < (own l[k].pl).length := by omega
   obtain ⟨w1, rfl⟩ := vtxs_some (hrw []) (by omega)
   have hrw2 := hrw (sgi :: S)
   have hps := pairs_snoc (l := way l[k].pl) (i := i) (by omega)
   rw [way_own hil (by omega)] at hps
   have hpt : (pairs ((edgeL (way l[k].pl)).take i)).length <= 2 * i := by rw [pairs_len, List.length_take]; omega
   refine PW.skip ?_
   refine hK5 _ _ ?_
   refine PW.k5 0 3 4 5 6 rfl ?_
   refine PW.seq fun K6 hK6 => ?_
   refine PW.block (PW.seqOps (OL.dp rfl (OL.dp rfl (OL.nil (PW.k6 0 3 4 5 6 25 rfl ?_)))))
   refine PW.cond rfl (fun c25 => ?_) (fun c25 => ?_)
   ·try simp only [cvS] at c25
    have hi0 : i = 0 := by omega
    refine PW.quietK Tryz.mixed (QK.dp rfl (QK.dp rfl (QK.dp rfl (QK.det trivial (.ixN rfl rfl rfl hkl) (QK.dp rfl (QK.det trivial (.ldA rfl (vtxL_len _) (partS_up hrd.cons.cons hkl)) (QK.dp rfl ?_)))))))
    refine QK.det trivial (.ixN (j := 0) rfl rfl rfl (by omega)) ?_
    refine QK.det trivial (.ldA rfl (vtxL_len _) (vtx_at (k := 0) hrw2 (by omega))) ?_
    refine QK.nil ?_
    change OL _ _ _ [_, _, _] _ _ _
    refine OL.cons trivial (OW.bsl (cs := vtxs [l[k].up, (own l[k].pl)[0]'(by omega)]) (fill_two rfl rfl rfl)) ?_
    rintro _ _ ⟨r35, rfl, rfl⟩
    refine OL.cons trivial (appVs (k := 2) (xs := pre ++ pairs ((edgeL (way l[k].pl)).take i)) (l := [l[k].up, (own l[k].pl)[0]'(by omega)]) rfl rfl hsi rfl rfl rfl (Rd.own (E := 27) zM0) (fun h => by cases h) (by rw [List.length_append]; show _ + _ + 2 <= _; omega)) ?_
    rintro v36 _ ⟨sg36, rfl, hs36⟩
    refine OL.dp rfl (OL.nil ?_)
    refine hK6 _ _ ?_
    refine PW.k5 0 3 4 5 6 rfl (PW.ops (OL.dp rfl ?_))
    refine OL.det trivial (.add64 rfl rfl (by omega) (by omega)) ?_
    refine OL.dp rfl (OL.nil ?_)
    repeat rw [inBlk_n]
    try rw [thenK_n]
    refine LoopEnd.mkS (Sub.drop (Sub.refl _)) (T'' := [(0, _), (3, _), (4, _), (5, _), (6, _)]) (wi rfl) ?_
    have he : pre ++ pairs ((edgeL (way l[k].pl)).take (i + 1)) = pre ++ pairs ((edgeL (way l[k].pl)).take i) ++ [l[k].up, (own l[k].pl)[0]'(by omega)] := by
     subst hi0
     rw [hps, List.append_assoc]
     rfl
    exact ⟨(own l[k].pl).length - (i + 1), by omega, i + 1, _, sg36, ⟨by omega, rfl, by rw [he]; exact hs36⟩, rfl, rfl⟩
   try simp only [cvS] at c25
   refine PW.quietK Tryz.mixed (QK.dp rfl (QK.dp rfl (QK.dp rfl ?_)))
   refine QK.det trivial (.sub64 rfl rfl (by omega) (by omega)) ?_
   refine QK.det trivial (.ixN (j := i - 1) rfl rfl (by omega) (by omega)) ?_
   refine QK.det trivial (.ldA rfl (vtxL_len _) (vtx_at (k := i - 1) hrw2 (by omega))) ?_
   refine QK.dp rfl (QK.dp rfl (QK.det trivial (.ixN (j := i) rfl rfl rfl hil) (QK.det trivial (.ldA rfl (vtxL_len _) (vtx_at (k := i) hrw2 hil)) (QK.nil ?_))))
   change OL _ _ _ [_, _, _] _ _ _
   refine OL.cons trivial (OW.bsl (cs := vtxs [(own l[k].pl)[i - 1]'(by omega), (own l[k].pl)[i]]) (fill_two rfl rfl rfl)) ?_
   rintro _ _ ⟨r47, rfl, rfl⟩
   refine OL.cons trivial (appVs (k := 2) (xs := pre ++ pairs ((edgeL (way l[k].pl)).take i)) (l := [(own l[k].pl)[i - 1]'(by omega), (own l[k].pl)[i]]) rfl rfl hsi rfl rfl rfl (Rd.own (E := 27) zM0) (fun h => by cases h) (by rw [List.length_append]; show _ + _ + 2 <= _; omega)) ?_
   rintro v48 _ ⟨sg48, rfl, hs48⟩
   refine OL.dp rfl (OL.nil ?_)
   refine hK6 _ _ ?_
   refine PW.k5 0 3 4 5 6 rfl (PW.ops (OL.dp rfl ?_))
   refine OL.det trivial (.add64 rfl rfl (by omega) (by omega)) ?_
   refine OL.dp rfl (OL.nil ?_)
   repeat rw [inBlk_n]
   try rw [thenK_n]
   refine LoopEnd.mkS (Sub.drop (Sub.refl _)) (T'' := [(0, _), (3, _), (4, _), (5, _), (6, _)]) (wi rfl) ?_
   have he : pre ++ pairs ((edgeL (way l[k].pl)).take (i + 1)) = pre ++ pairs ((edgeL (way l[k].pl)).take i) ++ [(own l[k].pl)[i - 1]'(by omega), (own l[k].pl)[i]] := by
    rw [hps, List.append_assoc]
    congr 2
    have := way_own (p := l[k].pl) (i := i - 1) (by omega) (by omega)
    rw [<- this]
    have e : ∀ (n : Nat) (h : n < (way l[k].pl).length), n = i -> (way l[k].pl)[n] = (way l[k].pl)[i]'(by omega) := fun n h e => by subst e; rfl
    rw [e (i - 1 + 1) (by omega) (by omega)]
   exact ⟨(own l[k].pl).length - (i + 1), by omega, i + 1, _, sg48, ⟨by omega, rfl, by rw [he]; exact hs48⟩, rfl, rfl⟩
  try simp only [cvS] at c21
  refine PW.exit ?_
  refine hK4 _ _ ?_
  refine PW.k4 0 3 4 5 rfl (PW.seqOps (OL.dp rfl (OL.dp rfl (OL.dp rfl (OL.nil (PW.k5 0 3 4 5 51 rfl ?_))))))
  refine PW.cond rfl (fun c51 => ?_) (fun c51 => ?_)
  ·try simp only [cvS] at c51
   have hie : i = (own l[k].pl).length := by omega
   obtain ⟨w1, rfl⟩ := vtxs_some (hrw []) (by omega)
   have hrw2 := hrw (sgi :: S)
   have hps := pairs_snoc (l := way l[k].pl) (i := i) (by omega)
   have hpt : (pairs ((edgeL (way l[k].pl)).take i)).length <= 2 * i := by rw [pairs_len, List.length_take]; omega
   refine PW.quietK Tryz.mixed (QK.dp rfl (QK.dp rfl (QK.dp rfl (QK.dp rfl ?_))))
   refine QK.det trivial (.sub64 rfl rfl (by omega) (by omega)) ?_
   refine QK.det trivial (.ixN (j := (own l[k].pl).length - 1) rfl rfl (by omega) (by omega)) ?_
   refine QK.det trivial (.ldA rfl (vtxL_len _) (vtx_at (k := (own l[k].pl).length - 1) hrw2 (by omega))) ?_
   refine QK.dp rfl (QK.dp rfl (QK.det trivial (.ixN rfl rfl rfl hkl) (QK.dp rfl (QK.det trivial (.ldA rfl (vtxL_len _) (partS_down hrd.cons.cons hkl)) (QK.nil ?_)))))
   change OL _ _ _ [_, _, _] _ _ _
   refine OL.cons trivial (OW.bsl (cs := vtxs [(own l[k].pl)[(own l[k].pl).length - 1]'(by omega), l[k].down]) (fill_two rfl rfl rfl)) ?_
   rintro _ _ ⟨r64, rfl, rfl⟩
   refine OL.cons trivial (appVs (k := 2) (xs := pre ++ pairs ((edgeL (way l[k].pl)).take i)) (l := [(own l[k].pl)[(own l[k].pl).length - 1]'(by omega), l[k].down]) rfl rfl hsi rfl rfl rfl (Rd.own (E := 27) zM0) (fun h => by cases h) (by rw [List.length_append]; show _ + _ + 2 <= _; omega)) ?_
   rintro v65 _ ⟨sg65, rfl, hs65⟩
   refine OL.dp rfl (OL.nil ?_)
   refine hK3 _ _ ?_
   refine PW.k3 0 3 4 rfl (PW.ops (OL.dp rfl ?_))
   refine OL.det trivial (.add64 rfl rfl (by omega) (by omega)) ?_
   refine OL.dp rfl (OL.nil ?_)
   repeat rw [inBlk_n]
   try rw [thenK_n]
   refine LoopEnd.mkS (Sub.drop (Sub.drop (Sub.refl _))) (T'' := [(0, _), (3, _), (4, _)]) (wi rfl) ?_
   have he : pairs (allE (pls (l.take (k + 1)))) = pre ++ pairs ((edgeL (way l[k].pl)).take i) ++ [(own l[k].pl)[(own l[k].pl).length - 1]'(by omega), l[k].down] := by
    have hE : (edgeL (way l[k].pl)).take ((own l[k].pl).length + 1) = (edgeL (way l[k].pl)).take (i + 1) := by rw [hie]
    rw [allE_take hkl, pairs_app, <- hpre, edges_own _ (by omega), hE, hps, List.append_assoc]
    congr 2
    have e1 : (way l[k].pl)[i]'(by omega) = (own l[k].pl)[(own l[k].pl).length - 1]'(by omega) := by
     have := way_own (p := l[k].pl) (i := (own l[k].pl).length - 1) (by omega) (by omega)
     rw [<- this]
     congr 1
     omega
    have e2 : (way l[k].pl)[i + 1]'(by omega) = l[k].down := by
     subst hie
     exact way_down (p := l[k].pl) (by omega)
    rw [e1, e2]
   exact ⟨l.length - (k + 1), by omega, k + 1, _, sg65, ⟨by omega, rfl, by rw [he]; exact hs65, by rw [he, List.length_append, List.length_append]; simp only [List.length_cons, List.length_nil]; omega⟩, rfl, rfl⟩
  try simp only [cvS] at c51
  refine PW.skip ?_
  refine hK3 _ _ ?_
  refine PW.k3 0 3 4 rfl (PW.ops (OL.dp rfl ?_))
  refine OL.det trivial (.add64 rfl rfl (by omega) (by omega)) ?_
  refine OL.dp rfl (OL.nil ?_)
  repeat rw [inBlk_n]
  try rw [thenK_n]
  refine LoopEnd.mkS (Sub.drop (Sub.refl _)) (T'' := [(0, _), (3, _), (4, _)]) (wi rfl) ?_
  have hz0 : (own l[k].pl).length = 0 := by omega
  have he : pairs (allE (pls (l.take (k + 1)))) = pre ++ pairs ((edgeL (way l[k].pl)).take i) := by
   rw [allE_take hkl, pairs_app, <- hpre, edges_none _ hz0, show i = 0 by omega]
   rfl
  exact ⟨l.length - (k + 1), by omega, k + 1, vi, sgi, ⟨by omega, rfl, by rw [he]; exact hsi, by rw [he, List.length_append, pairs_len, List.length_take]; omega⟩, rfl, rfl⟩
 try simp only [cvS] at c10
 refine PW.exit ?_
 refine hK1 _ _ ?_
 refine PW.k1 3 rfl (PW.seqOps (OL.dp rfl (OL.dp rfl (OL.nil (PW.k1 2 rfl (PW.ret ?_))))))
 change (Exit.ret = Exit.normal ∨ Exit.ret = Exit.ret) /\ ∃ v, resV _ _ = some v /\ _
 have hke : k = l.length := by omega
 rw [hke, List.take_length] at hso
 exact ⟨.inr rfl, _, rfl, _, Sub.refl _, sgo, rfl, hso⟩
structure BR (E : List (Vtx × Vtx)) (a : Vtx) (q : List Vtx) (i j : Nat) : Prop where
 ain : a ∈ q
 snd : ∀ v ∈ q, v = a ∨ Rch E a v
 cnt : unS (E.map (·.2)) q + q.length <= E.length + 1
 done : ∀ (x : Vtx) (k : Nat), k < i -> q[k]? = some x -> ∀ w, (x, w) ∈ E -> w ∈ q
 part : ∀ x : Vtx, q[i]? = some x -> ∀ e ∈ E.take j, e.1 = x -> e.2 ∈ q
theorem BR.start (E : List (Vtx × Vtx)) (a : Vtx) : BR E a [a] 0 0 :=
 ⟨by simp, fun v hv => .inl (List.mem_singleton.1 hv), by have := unS_le (E.map (·.2)) [a]; rw [List.length_map] at this; simp only [List.length_cons, List.length_nil]; omega, fun _ _ h => absurd h (Nat.not_lt_zero _), fun _ _ e he => by simp at he⟩
theorem BR.next {E : List (Vtx × Vtx)} {a : Vtx} {q : List Vtx} {i j : Nat} (h : BR E a q i j) (hj : E.length <= j) : BR E a q (i + 1) 0 :=
 ⟨h.ain, h.snd, h.cnt, fun x k hk hx w hw => by
  by_cases e : k < i
  ·exact h.done x k e hx w hw
  have : k = i := by omega
  subst this
  exact h.part x hx (x, w) (by rw [List.take_of_length_le hj]; exact hw) rfl, fun _ _ e he => by simp at he⟩
theorem BR.skip {E : List (Vtx × Vtx)} {a : Vtx} {q : List Vtx} {i j : Nat} (h : BR E a q i j) (hj : j < E.length) (hs : ∀ x, q[i]? = some x -> E[j].1 = x -> E[j].2 ∈ q) : BR E a q i (j + 1) :=
 ⟨h.ain, h.snd, h.cnt, h.done, fun x hx e he hex => by
  rw [List.take_add_one, List.getElem?_eq_getElem hj] at he
  rcases List.mem_append.1 he with h1 | h1
  ·exact h.part x hx e h1 hex
  have : e = E[j] := by simpa using h1
  subst this
  exact hs x hx hex⟩
theorem BR.push {E : List (Vtx × Vtx)} {a : Vtx} {q : List Vtx} {i j : Nat} (h : BR E a q i j) (hj : j < E.length) (hi : i < q.length) (hw : E[j].2 ∉ q) (hq : E[j].1 = q[i]) : BR E a (q ++ [E[j].2]) i (j + 1) :=
 ⟨List.mem_append_left _ h.ain, fun v hv => by
  rcases List.mem_append.1 hv with h1 | h1
  ·exact h.snd v h1
  ·rw [List.mem_singleton.1 h1]
   have he : (q[i], E[j].2) ∈ E := by rw [<- hq]; exact List.getElem_mem hj
   rcases h.snd _ (List.getElem_mem hi) with e | e
   ·exact .inr (.one (by rw [<- e]; exact he))
   exact .inr (e.trans (.one he)), by
  have := unS_lt (T := E.map (·.2)) (s := q) (s' := q ++ [E[j].2]) (w := E[j].2) (List.mem_map.2 ⟨_, List.getElem_mem hj, rfl⟩) hw (by simp) (fun x hx => List.mem_append_left _ hx)
  have := h.cnt
  rw [List.length_append]
  simp only [List.length_cons, List.length_nil]
  omega, fun x k hk hx w hw => by
  rw [List.getElem?_append_left (by omega)] at hx
  exact List.mem_append_left _ (h.done x k hk hx w hw), fun x hx e he hex => by
  rw [List.getElem?_append_left hi] at hx
  rw [List.take_add_one, List.getElem?_eq_getElem hj] at he
  rcases List.mem_append.1 he with h1 | h1
  ·exact List.mem_append_left _ (h.part x hx e h1 hex)
  have : e = E[j] := by simpa using h1
  subst this
  simp⟩
theorem BR.fin2 {E : List (Vtx × Vtx)} {a b : Vtx} {q : List Vtx} {i j : Nat} (h : BR E a q i j) (hab : a ≠ b) (hb : b ∈ q) : Rch E a b := (h.snd b hb).resolve_left fun e => hab e.symm
theorem BR.fin {E : List (Vtx × Vtx)} {a b : Vtx} {q : List Vtx} {i j : Nat} (h : BR E a q i j) (hi : q.length <= i) (hr : Rch E a b) : b ∈ q := by
 have key : ∀ {x y}, Rch E x y -> x ∈ q -> y ∈ q := by
  have st : ∀ x y, (x, y) ∈ E -> x ∈ q -> y ∈ q := fun x y he hx => by
   obtain ⟨k, hk, rfl⟩ := List.getElem_of_mem hx
   exact h.done _ k (by omega) (List.getElem?_eq_getElem hk) y he
  intro x y hxy
  induction hxy with
  | one h1 => exact fun hx => st _ _ h1 hx
  | cons h1 _ ih => exact fun hx => ih (st _ _ h1 hx)
 exact key hr h.ain
theorem rallE_len {l : List PartM} (h : ∀ p ∈ l, p.lines.length <= 100) : (allE (pls l)).length <= 101 * l.length := by
 induction l with
 | nil => exact Nat.zero_le _
 | cons p l ih =>
  have h1 := ih fun q hq => h q (List.mem_cons_of_mem _ hq)
  have h2 := h p (by simp)
  have e : allE (pls (p :: l)) = edges p.pl ++ allE (pls l) := rfl
  have h3 : (edges p.pl).length <= 101 := by
   unfold edges
   split
   ·exact Nat.zero_le _
   rw [edgeL_len, way_len]
   show p.lines.length + 2 - 1 <= _
   omega
  rw [e, List.length_append, List.length_cons]
  omega
theorem rHasT_fc {w0 : World} {S : SS} {A : Option Addr} {c : Nat} {l : List Vtx} {v : Vtx} (hx : Rd w0 S A (vtxs l)) (hb : l.length <= 1000000000) (hv : v ∈ l) : FC Tryz.prog w0 60 [.slice A l.length c, vtxV v] S (fun u S' => u = .bool true /\ S' = S) := by
 have := rHas_fc (c := c) (v := v) hx hb
 rw [decide_eq_true hv] at this
 exact this
theorem rHasF_fc {w0 : World} {S : SS} {A : Option Addr} {c : Nat} {l : List Vtx} {v : Vtx} (hx : Rd w0 S A (vtxs l)) (hb : l.length <= 1000000000) (hv : v ∉ l) : FC Tryz.prog w0 60 [.slice A l.length c, vtxV v] S (fun u S' => u = .bool false /\ S' = S) := by
 have := rHas_fc (c := c) (v := v) hx hb
 rw [decide_eq_false hv] at this
 exact this
theorem rBefA_fc {w0 : World} {S : SS} {A : Option Addr} {c : Nat} {l : List PartM} {a b : Vtx} (h : PartsRd w0 S A l) (ha : a ∈ allV (pls l)) (hb : b ∈ allV (pls l)) (hab : a ≠ b) (hae : a ≠ endV) (hbr : b ≠ rootV) (har : a ≠ rootV) (hbe : b ≠ endV) {r : Bool} (hrch : r = true ↔ Rch (allE (pls l)) a b) :
  FC Tryz.prog w0 63 [.slice A l.length c, vtxV a, vtxV b] S (fun v S' => v = .bool r /\ S' = S) := by
 have hll := h.len
 have hel := rallE_len (l := l) (fun p hp => (h.part p hp).small.1)
 have hal : (allV (pls l)).length <= 1000000 := by
  have := allV_len (l := l) (fun p hp => (h.part p hp).small.1) l.length (Nat.le_refl _)
  rw [List.take_length] at this
  omega
 refine FC.ofD Tryz.known63 (by simp) ?_
 unfold Tryz.pc63
 simp only [argT]
 refine PW.seqOps (OL.cons trivial (OW.bx rfl) ?_)
 rintro _ _ ⟨r4, rfl, rfl⟩
 rw [vtx_box, vtxL_len]
 refine OL.cons trivial (OW.bx rfl) ?_
 rintro _ _ ⟨r5, rfl, rfl⟩
 rw [vtx_box, vtxL_len]
 refine OL.dp rfl (OL.nil (PW.k3 0 4 5 rfl (PW.seqOps (OL.dp rfl (OL.call trivial rfl (rAll_fc h.cons.cons) ?_)))))
 rintro _ _ ⟨seg13, rfl, hsl13⟩
 obtain ⟨A13, c13, rfl, hn13, hc13, hr13⟩ := slv_rdL (w0 := w0) hsl13
 refine OL.dp rfl (OL.nil (PW.k4 0 4 5 7 rfl ?_))
 refine PW.seq fun K1 hK1 => ?_
 refine PW.seq fun K2 hK2 => ?_
 refine PW.quietK Tryz.mixed (QK.dp rfl (QK.det trivial (.ldA rfl (vtxL_len _) (all_at zM2)) ?_))
 refine QK.call trivial rfl (rHasT_fc (hr13 _) (by omega) ha) ?_
 refine QK.dp rfl (QK.dp rfl (QK.off rfl rfl (QK.off rfl rfl (QK.off rfl rfl (QK.dp rfl (QK.dp rfl (QK.off rfl rfl (QK.off rfl rfl (QK.off rfl rfl (QK.dp rfl (QK.dp rfl ?_)))))))))))
 refine QK.det rfl (.pure rfl) (QK.det rfl (.ldA rfl (vtxL_len _) (all_at zM1)) ?_)
 refine QK.call rfl rfl (rHasT_fc (hr13 _) (by omega) hb) ?_
 refine QK.det rfl (.pure rfl) (QK.det rfl (.pure rfl) (QK.off rfl rfl (QK.off rfl rfl (QK.off rfl rfl (QK.det rfl (.pure rfl) (QK.det rfl (.pure rfl) (QK.off rfl rfl (QK.off rfl rfl (QK.off rfl rfl (QK.det rfl (.pure rfl) (QK.dp rfl ?_)))))))))))
 refine QK.dp rfl (QK.det rfl (.ldA rfl (vtxL_len _) (all_at zM2)) (QK.det rfl (.ldA rfl (vtxL_len _) (all_at zM1)) ?_))
 refine QK.det rfl (.to (v' := .bool false) (Yields.eqD (neg := false) rfl rfl (eqL_vtx _ _)) (congrArg Value.bool (by simpa using hab))) ?_
 refine QK.dp rfl (QK.dp rfl (QK.det rfl (.ldA rfl (vtxL_len _) (all_at zM2)) (QK.call rfl rfl (rEnd_fc) ?_)))
 refine QK.det rfl (.to (v' := .bool false) (Yields.eqD (neg := false) rfl rfl (eqL_vtx _ _)) (congrArg Value.bool (by simpa using hae))) ?_
 refine QK.dp rfl (QK.dp rfl (QK.det rfl (.ldA rfl (vtxL_len _) (all_at zM1)) (QK.call rfl rfl (rRoot_fc) (QK.nil ?_))))
 change OL _ _ _ [_, _] _ _ _
 refine OL.det rfl (.to (v' := .bool false) (Yields.eqD (neg := false) rfl rfl (eqL_vtx _ _)) (congrArg Value.bool (by simpa using hbr))) ?_
 refine OL.dp rfl (OL.nil ?_)
 refine hK2 _ _ ?_
 refine PW.k4 0 4 5 58 rfl (PW.ite (b := false) rfl ?_)
 rw [if_neg Bool.false_ne_true]
 refine PW.skip ?_
 refine hK1 _ _ ?_
 refine PW.k3 0 4 5 rfl ?_
 refine PW.seq fun K3 hK3 => ?_
 refine PW.seq fun K4 hK4 => ?_
 refine PW.quietK Tryz.mixed (QK.det trivial (.ldA rfl (vtxL_len _) (all_at zM2)) (QK.call trivial rfl (rRoot_fc) ?_))
 refine QK.det trivial (.to (v' := .bool false) (Yields.eqD (neg := false) rfl rfl (eqL_vtx _ _)) (congrArg Value.bool (by simpa using har))) ?_
 refine QK.dp rfl (QK.det rfl (.ldA rfl (vtxL_len _) (all_at zM1)) (QK.call rfl rfl (rEnd_fc) (QK.nil ?_)))
 change OL _ _ _ [_, _] _ _ _
 refine OL.det rfl (.to (v' := .bool false) (Yields.eqD (neg := false) rfl rfl (eqL_vtx _ _)) (congrArg Value.bool (by simpa using hbe))) ?_
 refine OL.dp rfl (OL.nil ?_)
 refine hK4 _ _ ?_
 refine PW.k4 0 4 5 66 rfl (PW.ite (b := false) rfl ?_)
 rw [if_neg Bool.false_ne_true]
 refine PW.skip ?_
 refine hK3 _ _ ?_
 refine PW.k3 0 4 5 rfl (PW.seqOps (OL.dp rfl (OL.call trivial rfl (rEdges_fc h.cons.cons.cons) ?_)))
 rintro _ _ ⟨seg68, rfl, hsl68⟩
 obtain ⟨A68, c68, rfl, hn68, hc68, hr68⟩ := slv_rdL (w0 := w0) hsl68
 obtain ⟨E, hE⟩ : ∃ z, z = allE (pls l) := ⟨_, rfl⟩
 rw [<- hE] at hel hrch hr68 ⊢
 have hpl : (pairs E).length = 2 * E.length := pairs_len E
 refine OL.dp rfl (OL.nil (PW.k3 4 5 8 rfl (PW.seqOps (OL.det trivial (.ldA rfl (vtxL_len _) (all_at zM3)) (OL.cons trivial (OW.bsl (fill_one (v := a) rfl rfl)) ?_)))))
 rintro _ _ ⟨r70, rfl, rfl⟩
 rw [vtxL_len]
 have hs70 : SlV 27 33 (.slice (some ⟨r70, 0, none⟩) 1 1) [a].length (vtxs [a]) [(r70, .cells (vtxL a) 27 33)] := by
  have := SlV.mk' (E := 27) (sz := 33) (m := 1) (cap := 1) (r := r70) (xs := vtxL a) (by rw [vtxL_len]) (Nat.le_refl _) (by decide)
  simpa [vtxs] using this
 refine OL.dp rfl (OL.nil (PW.k3 5 8 9 rfl ?_))
 refine PW.seq fun K5 hK5 => ?_
 refine PW.seqOps (OL.dp rfl (OL.nil (PW.k4 5 8 9 10 rfl (PW.block (PW.k4 5 8 9 10 rfl ?_)))))
 refine PW.loopK (I := fun mm T S' => ∃ (i : Nat) (q : List Vtx) (Aq : Option Addr) (cq : Nat) (sgq : Seg), (mm = E.length + 1 - i /\ BR E a q i 0 /\ SlV 27 33 (.slice Aq q.length cq) q.length (vtxs q) sgq) /\ T = ([(5, .pointer (some ⟨r5, 0, none⟩)), (8, .slice A68 (pairs E).length c68), (9, .slice Aq q.length cq), (10, .int .i64 i)] : TT) /\ S' = sgq :: seg68 :: seg13 :: vseg r5 b :: vseg r4 a :: S) (m := E.length + 1) ⟨0, [a], _, _, _, ⟨by omega, BR.start E a, hs70⟩, rfl, rfl⟩ ?_
 rintro mm _ _ ⟨i, q, Aq, cq, sgq, ⟨hmm, hB, hsq⟩, rfl, rfl⟩
 refine PW.seq fun K6 hK6 => ?_
 refine PW.seqOps (OL.dp rfl (OL.dp rfl (OL.dp rfl (OL.dp rfl (OL.nil (PW.k5 5 8 9 10 74 rfl ?_))))))
 refine PW.cond rfl (fun c74 => ?_) (fun c74 => ?_)
 ·try simp only [cvS] at c74
  have hil : i < q.length := by omega
  have hcn := hB.cnt
  refine PW.skip ?_
  refine hK6 _ _ ?_
  refine PW.k4 5 8 9 10 rfl ?_
  refine PW.seq fun K7 hK7 => ?_
  refine PW.block (PW.seqOps (OL.dp rfl (OL.nil (PW.k5 5 8 9 10 11 rfl (PW.block (PW.k5 5 8 9 10 11 rfl ?_))))))
  refine PW.loopK (I := fun mi T S' => ∃ (j : Nat) (q2 : List Vtx) (Aq2 : Option Addr) (cq2 : Nat) (sgq2 : Seg), (j <= E.length /\ mi = E.length - j /\ i < q2.length /\ BR E a q2 i j /\ SlV 27 33 (.slice Aq2 q2.length cq2) q2.length (vtxs q2) sgq2) /\ T = ([(5, .pointer (some ⟨r5, 0, none⟩)), (8, .slice A68 (pairs E).length c68), (9, .slice Aq2 q2.length cq2), (10, .int .i64 i), (11, .int .i64 ((2 * j : Nat) : Int))] : TT) /\ S' = sgq2 :: seg68 :: seg13 :: vseg r5 b :: vseg r4 a :: S) (m := E.length) ⟨0, q, _, _, sgq, ⟨by omega, by omega, hil, hB, hsq⟩, rfl, rfl⟩ ?_
  rintro mi _ _ ⟨j, q2, Aq2, cq2, sgq2, ⟨hj, hmi, hiq2, hB2, hsq2⟩, rfl, rfl⟩
  refine PW.seq fun K8 hK8 => ?_
  refine PW.seqOps (OL.dp rfl ?_)
  refine OL.det trivial (.add64 rfl rfl (by omega) (by omega)) ?_
  refine OL.dp rfl (OL.dp rfl (OL.dp rfl (OL.nil (PW.k6 5 8 9 10 11 81 rfl ?_))))
  refine PW.cond rfl (fun c81 => ?_) (fun c81 => ?_)
  ·try simp only [cvS] at c81
   have hjl : j < E.length := by omega
   have hj2 : 2 * j < (pairs E).length := by omega
   have hj3 : 2 * j + 1 < (pairs E).length := by omega
   obtain ⟨a8, rfl⟩ := vtxs_some (hr68 []) (by omega)
   have hil2 : i < q2.length := hiq2
   have hcn2 := hB2.cnt
   obtain ⟨Aq3, cq3, eq3, hnq, hcq, hrq⟩ := slv_rdL (w0 := w0) hsq2
   cases eq3
   obtain ⟨aq, rfl⟩ := vtxs_some (hrq []) (by omega)
   have hqi : q2[i]? = some q2[i] := List.getElem?_eq_getElem hil2
   have hqe : (pairs E)[2 * j]'(by omega) = E[j].1 := (List.getElem?_eq_some_iff.1 (pairs_get hjl).1).2
   have hqe2 : (pairs E)[2 * j + 1]'(by omega) = E[j].2 := (List.getElem?_eq_some_iff.1 (pairs_get hjl).2).2
   refine PW.skip ?_
   refine hK8 _ _ ?_
   refine PW.k5 5 8 9 10 11 rfl ?_
   refine PW.seq fun K9 hK9 => ?_
   refine PW.block ?_
   refine PW.seq fun K10 hK10 => ?_
   refine PW.quietK Tryz.mixed (QK.dp rfl (QK.dp rfl ?_))
   refine QK.det trivial (.ixN (j := 2 * j) rfl rfl rfl (by omega)) ?_
   refine QK.det trivial (.ldA rfl (vtxL_len _) (vtx_at (l := pairs E) (k := 2 * j) (hr68 _).cons hj2)) (QK.dp rfl (QK.dp rfl (QK.det trivial (.ixN rfl rfl rfl hil2) (QK.det trivial (.ldA rfl (vtxL_len _) (vtx_at (hrq _) hil2)) (QK.det trivial (.eqD (neg := false) rfl rfl (eqL_vtx _ _)) ?_)))))
   refine QK.bool trivial (Yields.pure rfl) (fun g93 => ?_) (fun g93 => ?_)
   ·try simp only [cvS] at g93
    refine QK.det rfl (.pure rfl) (QK.det rfl (.pure rfl) (QK.det rfl (.pure rfl) ?_))
    refine QK.det rfl (.add64 rfl rfl (by omega) (by omega)) ?_
    refine QK.det rfl (.ixN (j := 2 * j + 1) rfl rfl (by omega) (by omega)) ?_
    refine QK.det rfl (.ldA rfl (vtxL_len _) (vtx_at (l := pairs E) (k := 2 * j + 1) (hr68 _).cons hj3)) (QK.nil ?_)
    change OL _ _ _ [_, _, _] _ _ _
    refine OL.call rfl rfl (rHas_fc (hrq _) (by omega)) ?_
    rintro _ Sx ⟨rfl, hSx⟩
    rw [hSx]
    clear hSx
    refine OL.det rfl (.pure rfl) (OL.dp rfl (OL.nil ?_))
    refine hK10 _ _ ?_
    refine PW.k6 5 8 9 10 11 102 rfl ?_
    refine PW.cond rfl (fun c102 => ?_) (fun c102 => ?_)
    ·try simp only [cvS] at c102
     refine PW.ops (OL.dp rfl (OL.dp rfl (OL.dp rfl ?_)))
     refine OL.det trivial (.add64 rfl rfl (by omega) (by omega)) ?_
     refine OL.det trivial (.ixN (j := 2 * j + 1) rfl rfl (by omega) (by omega)) ?_
     refine OL.det trivial (.ldA rfl (vtxL_len _) (vtx_at (l := pairs E) (k := 2 * j + 1) (hr68 _).cons hj3)) ?_
     apply OL.app1 (k := 0)
     ·rfl
     ·rfl
     ·exact (List.size_toArray).trans (vtxL_len _)
     ·rfl
     ·rfl
     ·rfl
     ·exact hsq2
     ·exact vtxL_one _
     ·omega
     ·unfold maxLen; omega
     intro v110 seg110 hs110
     have hs110 := vtxs_snoc' hs110
     rw [hqe2] at hs110
     obtain ⟨A110, c110, rfl, _, _, _⟩ := slv_rdL (w0 := w0) hs110
     refine OL.dp rfl (OL.nil ?_)
     refine hK9 _ _ ?_
     refine PW.k5 5 8 9 10 11 rfl (PW.ops (OL.dp rfl ?_))
     refine OL.det trivial (.add64 rfl rfl (by omega) (by omega)) ?_
     refine OL.dp rfl (OL.nil ?_)
     repeat rw [inBlk_n]
     try rw [thenK_n]
     refine LoopEnd.mk (T'' := [(5, _), (8, _), (9, _), (10, _), (11, _)]) (wi rfl) ?_
     exact ⟨E.length - (j + 1), by omega, j + 1, _, _, _, seg110, ⟨by omega, by omega, by rw [List.length_append]; omega, hB2.push hjl hiq2 (by rw [<- hqe2]; exact c102) (by rw [<- hqe]; exact g93), hs110⟩, rfl, rfl⟩
    try simp only [cvS] at c102
    refine PW.skip ?_
    refine hK9 _ _ ?_
    refine PW.k5 5 8 9 10 11 rfl (PW.ops (OL.dp rfl ?_))
    refine OL.det trivial (.add64 rfl rfl (by omega) (by omega)) ?_
    refine OL.dp rfl (OL.nil ?_)
    repeat rw [inBlk_n]
    try rw [thenK_n]
    refine LoopEnd.mk (T'' := [(5, _), (8, _), (9, _), (10, _), (11, _)]) (wi rfl) ?_
    exact ⟨E.length - (j + 1), by omega, j + 1, _, _, _, sgq2, ⟨by omega, by omega, hiq2, hB2.skip hjl (fun _ _ _ => by rw [<- hqe2]; exact c102), hsq2⟩, rfl, rfl⟩
   try simp only [cvS] at g93
   refine QK.off rfl rfl (QK.off rfl rfl (QK.off rfl rfl (QK.off rfl rfl (QK.off rfl rfl (QK.off rfl rfl (QK.nil ?_))))))
   change OL _ _ _ [_, _, _] _ _ _
   refine OL.off rfl rfl (OL.off rfl rfl (OL.dp rfl (OL.nil ?_)))
   refine hK10 _ _ ?_
   refine PW.k6 5 8 9 10 11 102 rfl (PW.ite (b := false) rfl ?_)
   rw [if_neg Bool.false_ne_true]
   refine PW.skip ?_
   refine hK9 _ _ ?_
   refine PW.k5 5 8 9 10 11 rfl (PW.ops (OL.dp rfl ?_))
   refine OL.det trivial (.add64 rfl rfl (by omega) (by omega)) ?_
   refine OL.dp rfl (OL.nil ?_)
   repeat rw [inBlk_n]
   try rw [thenK_n]
   refine LoopEnd.mk (T'' := [(5, _), (8, _), (9, _), (10, _), (11, _)]) (wi rfl) ?_
   exact ⟨E.length - (j + 1), by omega, j + 1, _, _, _, sgq2, ⟨by omega, by omega, hiq2, hB2.skip hjl (fun x hx hex => absurd (by rw [hqe, hex]; rw [hqi] at hx; exact (Option.some.inj hx).symm) g93), hsq2⟩, rfl, rfl⟩
  try simp only [cvS] at c81
  refine PW.exit ?_
  refine hK7 _ _ ?_
  refine PW.k4 5 8 9 10 rfl (PW.ops (OL.dp rfl ?_))
  refine OL.det trivial (.add64 rfl rfl (by omega) (by omega)) ?_
  refine OL.dp rfl (OL.nil ?_)
  repeat rw [inBlk_n]
  try rw [thenK_n]
  refine LoopEnd.mk (T'' := [(5, _), (8, _), (9, _), (10, _)]) (wi rfl) ?_
  have hcn2 := hB2.cnt
  exact ⟨E.length + 1 - (i + 1), by omega, i + 1, q2, _, _, sgq2, ⟨by omega, hB2.next (by omega), hsq2⟩, rfl, rfl⟩
 try simp only [cvS] at c74
 refine PW.exit ?_
 refine hK5 _ _ ?_
 refine PW.k2 5 9 rfl (PW.seqOps ?_)
 have hcn := hB.cnt
 obtain ⟨Aq3, cq3, eq3, hnq, hcq, hrq⟩ := slv_rdL (w0 := w0) hsq
 cases eq3
 refine OL.dp rfl (OL.det trivial (.ldA rfl (vtxL_len _) (all_at zM3)) ?_)
 refine OL.call trivial rfl (rHas_fc (hrq _) (by omega)) ?_
 rintro _ Sx ⟨rfl, hSx⟩
 rw [hSx]
 clear hSx
 refine OL.dp rfl (OL.nil (PW.k1 6 rfl (PW.ret ?_)))
 change (Exit.ret = Exit.normal ∨ Exit.ret = Exit.ret) /\ ∃ v, resV _ _ = some v /\ _
 exact ⟨.inr rfl, _, rfl, _, Sub.drop (Sub.drop (Sub.drop (Sub.drop (Sub.drop (Sub.refl _))))), congrArg Value.bool (Bool.eq_iff_iff.2 (by rw [decide_eq_true_eq, hrch]; exact ⟨fun hm => hB.fin2 hab hm, fun hr => hB.fin (by omega) hr⟩)), rfl⟩
theorem rBefB_fc {w0 : World} {S : SS} {A : Option Addr} {c : Nat} {l : List PartM} {a b : Vtx} (h : PartsRd w0 S A l) (ha : a = rootV ∨ a ∈ allV (pls l)) (hb : b = endV ∨ b ∈ allV (pls l)) (hab : a ≠ b) (hae : a ≠ endV) (hbr : b ≠ rootV) (hre : a = rootV ∨ b = endV) :
  FC Tryz.prog w0 63 [.slice A l.length c, vtxV a, vtxV b] S (fun v S' => v = .bool true /\ S' = S) := by
 have hll := h.len
 have hel := rallE_len (l := l) (fun p hp => (h.part p hp).small.1)
 have hal : (allV (pls l)).length <= 1000000 := by
  have := allV_len (l := l) (fun p hp => (h.part p hp).small.1) l.length (Nat.le_refl _)
  rw [List.take_length] at this
  omega
 refine FC.ofD Tryz.known63 (by simp) ?_
 unfold Tryz.pc63
 simp only [argT]
 refine PW.seqOps (OL.cons trivial (OW.bx rfl) ?_)
 rintro _ _ ⟨r4, rfl, rfl⟩
 rw [vtx_box, vtxL_len]
 refine OL.cons trivial (OW.bx rfl) ?_
 rintro _ _ ⟨r5, rfl, rfl⟩
 rw [vtx_box, vtxL_len]
 refine OL.dp rfl (OL.nil (PW.k3 0 4 5 rfl (PW.seqOps (OL.dp rfl (OL.call trivial rfl (rAll_fc h.cons.cons) ?_)))))
 rintro _ _ ⟨seg13, rfl, hsl13⟩
 obtain ⟨A13, c13, rfl, hn13, hc13, hr13⟩ := slv_rdL (w0 := w0) hsl13
 refine OL.dp rfl (OL.nil (PW.k4 0 4 5 7 rfl ?_))
 refine PW.seq fun K1 hK1 => ?_
 refine PW.seq fun K2 hK2 => ?_
 refine PW.quietK Tryz.mixed (QK.dp rfl (QK.det trivial (.ldA rfl (vtxL_len _) (all_at zM2)) ?_))
 refine QK.call trivial rfl (rHas_fc (hr13 _) (by omega)) ?_
 refine QK.dp rfl ?_
 refine QK.bool trivial (Yields.pure rfl) (fun g18 => ?_) (fun g18 => ?_)
 ·try simp only [cvS] at g18
  refine QK.det rfl (.ldA rfl (vtxL_len _) (all_at zM2)) (QK.call rfl rfl (rRoot_fc) ?_)
  refine QK.det rfl (.to (v' := .bool false) (Yields.eqD (neg := true) rfl rfl (eqL_vtx _ _)) (congrArg Value.bool (by simpa using ha.resolve_right g18))) ?_
  refine QK.dp rfl (QK.dp rfl (QK.off rfl rfl (QK.off rfl rfl (QK.off rfl rfl (QK.dp rfl (QK.dp rfl (QK.det rfl (.pure rfl) (QK.det rfl (.ldA rfl (vtxL_len _) (all_at zM1)) ?_))))))))
  refine QK.call rfl rfl (rHas_fc (hr13 _) (by omega)) ?_
  refine QK.det rfl (.pure rfl) ?_
  refine QK.bool rfl (Yields.pure rfl) (fun g33 => ?_) (fun g33 => ?_)
  ·try simp only [cvS] at g33
   refine QK.det rfl (.ldA rfl (vtxL_len _) (all_at zM1)) (QK.call rfl rfl (rRoot_fc) ?_)
   refine QK.det rfl (.to (v' := .bool true) (Yields.eqD (neg := true) rfl rfl (eqL_vtx _ _)) (congrArg Value.bool (by simpa using hbr))) ?_
   refine QK.det rfl (.pure rfl) (QK.det rfl (.pure rfl) (QK.det rfl (.ldA rfl (vtxL_len _) (all_at zM1)) (QK.call rfl rfl (rEnd_fc) ?_)))
   refine QK.det rfl (.to (v' := .bool false) (Yields.eqD (neg := true) rfl rfl (eqL_vtx _ _)) (congrArg Value.bool (by simpa using hb.resolve_right g33))) ?_
   refine QK.det rfl (.pure rfl) (QK.dp rfl (QK.dp rfl (QK.det rfl (.ldA rfl (vtxL_len _) (all_at zM2)) (QK.det rfl (.ldA rfl (vtxL_len _) (all_at zM1)) ?_))))
   refine QK.det rfl (.to (v' := .bool false) (Yields.eqD (neg := false) rfl rfl (eqL_vtx _ _)) (congrArg Value.bool (by simpa using hab))) ?_
   refine QK.dp rfl (QK.dp rfl (QK.det rfl (.ldA rfl (vtxL_len _) (all_at zM2)) (QK.call rfl rfl (rEnd_fc) ?_)))
   refine QK.det rfl (.to (v' := .bool false) (Yields.eqD (neg := false) rfl rfl (eqL_vtx _ _)) (congrArg Value.bool (by simpa using hae))) ?_
   refine QK.dp rfl (QK.dp rfl (QK.det rfl (.ldA rfl (vtxL_len _) (all_at zM1)) (QK.call rfl rfl (rRoot_fc) (QK.nil ?_))))
   change OL _ _ _ [_, _] _ _ _
   refine OL.det rfl (.to (v' := .bool false) (Yields.eqD (neg := false) rfl rfl (eqL_vtx _ _)) (congrArg Value.bool (by simpa using hbr))) ?_
   refine OL.dp rfl (OL.nil ?_)
   refine hK2 _ _ ?_
   refine PW.k4 0 4 5 58 rfl (PW.ite (b := false) rfl ?_)
   rw [if_neg Bool.false_ne_true]
   refine PW.skip ?_
   refine hK1 _ _ ?_
   refine PW.k3 0 4 5 rfl ?_
   refine PW.seq fun K3 hK3 => ?_
   refine PW.seq fun K4 hK4 => ?_
   refine PW.quietK Tryz.mixed (QK.det trivial (.ldA rfl (vtxL_len _) (all_at zM2)) (QK.call trivial rfl (rRoot_fc) (QK.det trivial (.eqD (neg := false) rfl rfl (eqL_vtx _ _)) ?_)))
   refine QK.bool trivial (Yields.pure rfl) (fun g62 => ?_) (fun g62 => ?_)
   ·try simp only [cvS] at g62
    refine QK.off rfl rfl (QK.off rfl rfl (QK.nil ?_))
    change OL _ _ _ [_, _] _ _ _
    refine OL.off rfl rfl (OL.dp rfl (OL.nil ?_))
    refine hK4 _ _ ?_
    refine PW.k4 0 4 5 66 rfl (PW.ite (b := true) rfl ?_)
    rw [if_pos rfl]
    refine PW.seqOps (OL.dp rfl (OL.nil (PW.k1 6 rfl (PW.ret ?_))))
    change (Exit.ret = Exit.normal ∨ Exit.ret = Exit.ret) /\ ∃ v, resV _ _ = some v /\ _
    exact ⟨.inr rfl, _, rfl, _, Sub.drop (Sub.drop (Sub.drop (Sub.refl _))), rfl, rfl⟩
   try simp only [cvS] at g62
   refine QK.det rfl (.ldA rfl (vtxL_len _) (all_at zM1)) (QK.call rfl rfl (rEnd_fc) (QK.nil ?_))
   change OL _ _ _ [_, _] _ _ _
   refine OL.det rfl (.to (v' := .bool true) (Yields.eqD (neg := false) rfl rfl (eqL_vtx _ _)) (congrArg Value.bool (by simpa using hre.resolve_left g62))) ?_
   refine OL.dp rfl (OL.nil ?_)
   refine hK4 _ _ ?_
   refine PW.k4 0 4 5 66 rfl (PW.ite (b := true) rfl ?_)
   rw [if_pos rfl]
   refine PW.seqOps (OL.dp rfl (OL.nil (PW.k1 6 rfl (PW.ret ?_))))
   change (Exit.ret = Exit.normal ∨ Exit.ret = Exit.ret) /\ ∃ v, resV _ _ = some v /\ _
   exact ⟨.inr rfl, _, rfl, _, Sub.drop (Sub.drop (Sub.drop (Sub.refl _))), rfl, rfl⟩
  try simp only [cvS] at g33
  refine QK.off rfl rfl (QK.off rfl rfl (QK.off rfl rfl (QK.det rfl (.pure rfl) (QK.det rfl (.pure rfl) (QK.off rfl rfl (QK.off rfl rfl (QK.off rfl rfl (QK.det rfl (.pure rfl) (QK.dp rfl (QK.dp rfl (QK.det rfl (.ldA rfl (vtxL_len _) (all_at zM2)) ?_)))))))))))
  refine QK.det rfl (.ldA rfl (vtxL_len _) (all_at zM1)) ?_
  refine QK.det rfl (.to (v' := .bool false) (Yields.eqD (neg := false) rfl rfl (eqL_vtx _ _)) (congrArg Value.bool (by simpa using hab))) ?_
  refine QK.dp rfl (QK.dp rfl (QK.det rfl (.ldA rfl (vtxL_len _) (all_at zM2)) (QK.call rfl rfl (rEnd_fc) ?_)))
  refine QK.det rfl (.to (v' := .bool false) (Yields.eqD (neg := false) rfl rfl (eqL_vtx _ _)) (congrArg Value.bool (by simpa using hae))) ?_
  refine QK.dp rfl (QK.dp rfl (QK.det rfl (.ldA rfl (vtxL_len _) (all_at zM1)) (QK.call rfl rfl (rRoot_fc) (QK.nil ?_))))
  change OL _ _ _ [_, _] _ _ _
  refine OL.det rfl (.to (v' := .bool false) (Yields.eqD (neg := false) rfl rfl (eqL_vtx _ _)) (congrArg Value.bool (by simpa using hbr))) ?_
  refine OL.dp rfl (OL.nil ?_)
  refine hK2 _ _ ?_
  refine PW.k4 0 4 5 58 rfl (PW.ite (b := false) rfl ?_)
  rw [if_neg Bool.false_ne_true]
  refine PW.skip ?_
  refine hK1 _ _ ?_
  refine PW.k3 0 4 5 rfl ?_
  refine PW.seq fun K5 hK5 => ?_
  refine PW.seq fun K6 hK6 => ?_
  refine PW.quietK Tryz.mixed (QK.det trivial (.ldA rfl (vtxL_len _) (all_at zM2)) (QK.call trivial rfl (rRoot_fc) (QK.det trivial (.eqD (neg := false) rfl rfl (eqL_vtx _ _)) ?_)))
  refine QK.bool trivial (Yields.pure rfl) (fun g62 => ?_) (fun g62 => ?_)
  ·try simp only [cvS] at g62
   refine QK.off rfl rfl (QK.off rfl rfl (QK.nil ?_))
   change OL _ _ _ [_, _] _ _ _
   refine OL.off rfl rfl (OL.dp rfl (OL.nil ?_))
   refine hK6 _ _ ?_
   refine PW.k4 0 4 5 66 rfl (PW.ite (b := true) rfl ?_)
   rw [if_pos rfl]
   refine PW.seqOps (OL.dp rfl (OL.nil (PW.k1 6 rfl (PW.ret ?_))))
   change (Exit.ret = Exit.normal ∨ Exit.ret = Exit.ret) /\ ∃ v, resV _ _ = some v /\ _
   exact ⟨.inr rfl, _, rfl, _, Sub.drop (Sub.drop (Sub.drop (Sub.refl _))), rfl, rfl⟩
  try simp only [cvS] at g62
  refine QK.det rfl (.ldA rfl (vtxL_len _) (all_at zM1)) (QK.call rfl rfl (rEnd_fc) (QK.nil ?_))
  change OL _ _ _ [_, _] _ _ _
  refine OL.det rfl (.to (v' := .bool true) (Yields.eqD (neg := false) rfl rfl (eqL_vtx _ _)) (congrArg Value.bool (by simpa using hre.resolve_left g62))) ?_
  refine OL.dp rfl (OL.nil ?_)
  refine hK6 _ _ ?_
  refine PW.k4 0 4 5 66 rfl (PW.ite (b := true) rfl ?_)
  rw [if_pos rfl]
  refine PW.seqOps (OL.dp rfl (OL.nil (PW.k1 6 rfl (PW.ret ?_))))
  change (Exit.ret = Exit.normal ∨ Exit.ret = Exit.ret) /\ ∃ v, resV _ _ = some v /\ _
  exact ⟨.inr rfl, _, rfl, _, Sub.drop (Sub.drop (Sub.drop (Sub.refl _))), rfl, rfl⟩
 try simp only [cvS] at g18
 refine QK.off rfl rfl (QK.off rfl rfl (QK.off rfl rfl (QK.dp rfl (QK.dp rfl (QK.off rfl rfl (QK.off rfl rfl (QK.off rfl rfl (QK.dp rfl (QK.dp rfl (QK.det rfl (.pure rfl) (QK.det rfl (.ldA rfl (vtxL_len _) (all_at zM1)) ?_)))))))))))
 refine QK.call rfl rfl (rHas_fc (hr13 _) (by omega)) ?_
 refine QK.det rfl (.pure rfl) ?_
 refine QK.bool rfl (Yields.pure rfl) (fun g33 => ?_) (fun g33 => ?_)
 ·try simp only [cvS] at g33
  refine QK.det rfl (.ldA rfl (vtxL_len _) (all_at zM1)) (QK.call rfl rfl (rRoot_fc) ?_)
  refine QK.det rfl (.to (v' := .bool true) (Yields.eqD (neg := true) rfl rfl (eqL_vtx _ _)) (congrArg Value.bool (by simpa using hbr))) ?_
  refine QK.det rfl (.pure rfl) (QK.det rfl (.pure rfl) (QK.det rfl (.ldA rfl (vtxL_len _) (all_at zM1)) (QK.call rfl rfl (rEnd_fc) ?_)))
  refine QK.det rfl (.to (v' := .bool false) (Yields.eqD (neg := true) rfl rfl (eqL_vtx _ _)) (congrArg Value.bool (by simpa using hb.resolve_right g33))) ?_
  refine QK.det rfl (.pure rfl) (QK.dp rfl (QK.dp rfl (QK.det rfl (.ldA rfl (vtxL_len _) (all_at zM2)) (QK.det rfl (.ldA rfl (vtxL_len _) (all_at zM1)) ?_))))
  refine QK.det rfl (.to (v' := .bool false) (Yields.eqD (neg := false) rfl rfl (eqL_vtx _ _)) (congrArg Value.bool (by simpa using hab))) ?_
  refine QK.dp rfl (QK.dp rfl (QK.det rfl (.ldA rfl (vtxL_len _) (all_at zM2)) (QK.call rfl rfl (rEnd_fc) ?_)))
  refine QK.det rfl (.to (v' := .bool false) (Yields.eqD (neg := false) rfl rfl (eqL_vtx _ _)) (congrArg Value.bool (by simpa using hae))) ?_
  refine QK.dp rfl (QK.dp rfl (QK.det rfl (.ldA rfl (vtxL_len _) (all_at zM1)) (QK.call rfl rfl (rRoot_fc) (QK.nil ?_))))
  change OL _ _ _ [_, _] _ _ _
  refine OL.det rfl (.to (v' := .bool false) (Yields.eqD (neg := false) rfl rfl (eqL_vtx _ _)) (congrArg Value.bool (by simpa using hbr))) ?_
  refine OL.dp rfl (OL.nil ?_)
  refine hK2 _ _ ?_
  refine PW.k4 0 4 5 58 rfl (PW.ite (b := false) rfl ?_)
  rw [if_neg Bool.false_ne_true]
  refine PW.skip ?_
  refine hK1 _ _ ?_
  refine PW.k3 0 4 5 rfl ?_
  refine PW.seq fun K7 hK7 => ?_
  refine PW.seq fun K8 hK8 => ?_
  refine PW.quietK Tryz.mixed (QK.det trivial (.ldA rfl (vtxL_len _) (all_at zM2)) (QK.call trivial rfl (rRoot_fc) (QK.det trivial (.eqD (neg := false) rfl rfl (eqL_vtx _ _)) ?_)))
  refine QK.bool trivial (Yields.pure rfl) (fun g62 => ?_) (fun g62 => ?_)
  ·try simp only [cvS] at g62
   refine QK.off rfl rfl (QK.off rfl rfl (QK.nil ?_))
   change OL _ _ _ [_, _] _ _ _
   refine OL.off rfl rfl (OL.dp rfl (OL.nil ?_))
   refine hK8 _ _ ?_
   refine PW.k4 0 4 5 66 rfl (PW.ite (b := true) rfl ?_)
   rw [if_pos rfl]
   refine PW.seqOps (OL.dp rfl (OL.nil (PW.k1 6 rfl (PW.ret ?_))))
   change (Exit.ret = Exit.normal ∨ Exit.ret = Exit.ret) /\ ∃ v, resV _ _ = some v /\ _
   exact ⟨.inr rfl, _, rfl, _, Sub.drop (Sub.drop (Sub.drop (Sub.refl _))), rfl, rfl⟩
  try simp only [cvS] at g62
  refine QK.det rfl (.ldA rfl (vtxL_len _) (all_at zM1)) (QK.call rfl rfl (rEnd_fc) (QK.nil ?_))
  change OL _ _ _ [_, _] _ _ _
  refine OL.det rfl (.to (v' := .bool true) (Yields.eqD (neg := false) rfl rfl (eqL_vtx _ _)) (congrArg Value.bool (by simpa using hre.resolve_left g62))) ?_
  refine OL.dp rfl (OL.nil ?_)
  refine hK8 _ _ ?_
  refine PW.k4 0 4 5 66 rfl (PW.ite (b := true) rfl ?_)
  rw [if_pos rfl]
  refine PW.seqOps (OL.dp rfl (OL.nil (PW.k1 6 rfl (PW.ret ?_))))
  change (Exit.ret = Exit.normal ∨ Exit.ret = Exit.ret) /\ ∃ v, resV _ _ = some v /\ _
  exact ⟨.inr rfl, _, rfl, _, Sub.drop (Sub.drop (Sub.drop (Sub.refl _))), rfl, rfl⟩
 try simp only [cvS] at g33
 refine QK.off rfl rfl (QK.off rfl rfl (QK.off rfl rfl (QK.det rfl (.pure rfl) (QK.det rfl (.pure rfl) (QK.off rfl rfl (QK.off rfl rfl (QK.off rfl rfl (QK.det rfl (.pure rfl) (QK.dp rfl (QK.dp rfl (QK.det rfl (.ldA rfl (vtxL_len _) (all_at zM2)) ?_)))))))))))
 refine QK.det rfl (.ldA rfl (vtxL_len _) (all_at zM1)) ?_
 refine QK.det rfl (.to (v' := .bool false) (Yields.eqD (neg := false) rfl rfl (eqL_vtx _ _)) (congrArg Value.bool (by simpa using hab))) ?_
 refine QK.dp rfl (QK.dp rfl (QK.det rfl (.ldA rfl (vtxL_len _) (all_at zM2)) (QK.call rfl rfl (rEnd_fc) ?_)))
 refine QK.det rfl (.to (v' := .bool false) (Yields.eqD (neg := false) rfl rfl (eqL_vtx _ _)) (congrArg Value.bool (by simpa using hae))) ?_
 refine QK.dp rfl (QK.dp rfl (QK.det rfl (.ldA rfl (vtxL_len _) (all_at zM1)) (QK.call rfl rfl (rRoot_fc) (QK.nil ?_))))
 change OL _ _ _ [_, _] _ _ _
 refine OL.det rfl (.to (v' := .bool false) (Yields.eqD (neg := false) rfl rfl (eqL_vtx _ _)) (congrArg Value.bool (by simpa using hbr))) ?_
 refine OL.dp rfl (OL.nil ?_)
 refine hK2 _ _ ?_
 refine PW.k4 0 4 5 58 rfl (PW.ite (b := false) rfl ?_)
 rw [if_neg Bool.false_ne_true]
 refine PW.skip ?_
 refine hK1 _ _ ?_
 refine PW.k3 0 4 5 rfl ?_
 refine PW.seq fun K9 hK9 => ?_
 refine PW.seq fun K10 hK10 => ?_
 refine PW.quietK Tryz.mixed (QK.det trivial (.ldA rfl (vtxL_len _) (all_at zM2)) (QK.call trivial rfl (rRoot_fc) (QK.det trivial (.eqD (neg := false) rfl rfl (eqL_vtx _ _)) ?_)))
 refine QK.bool trivial (Yields.pure rfl) (fun g62 => ?_) (fun g62 => ?_)
 ·try simp only [cvS] at g62
  refine QK.off rfl rfl (QK.off rfl rfl (QK.nil ?_))
  change OL _ _ _ [_, _] _ _ _
  refine OL.off rfl rfl (OL.dp rfl (OL.nil ?_))
  refine hK10 _ _ ?_
  refine PW.k4 0 4 5 66 rfl (PW.ite (b := true) rfl ?_)
  rw [if_pos rfl]
  refine PW.seqOps (OL.dp rfl (OL.nil (PW.k1 6 rfl (PW.ret ?_))))
  change (Exit.ret = Exit.normal ∨ Exit.ret = Exit.ret) /\ ∃ v, resV _ _ = some v /\ _
  exact ⟨.inr rfl, _, rfl, _, Sub.drop (Sub.drop (Sub.drop (Sub.refl _))), rfl, rfl⟩
 try simp only [cvS] at g62
 refine QK.det rfl (.ldA rfl (vtxL_len _) (all_at zM1)) (QK.call rfl rfl (rEnd_fc) (QK.nil ?_))
 change OL _ _ _ [_, _] _ _ _
 refine OL.det rfl (.to (v' := .bool true) (Yields.eqD (neg := false) rfl rfl (eqL_vtx _ _)) (congrArg Value.bool (by simpa using hre.resolve_left g62))) ?_
 refine OL.dp rfl (OL.nil ?_)
 refine hK10 _ _ ?_
 refine PW.k4 0 4 5 66 rfl (PW.ite (b := true) rfl ?_)
 rw [if_pos rfl]
 refine PW.seqOps (OL.dp rfl (OL.nil (PW.k1 6 rfl (PW.ret ?_))))
 change (Exit.ret = Exit.normal ∨ Exit.ret = Exit.ret) /\ ∃ v, resV _ _ = some v /\ _
 exact ⟨.inr rfl, _, rfl, _, Sub.drop (Sub.drop (Sub.drop (Sub.refl _))), rfl, rfl⟩
end Go.Proofs.Gr

namespace Go.SL
open Go Go.RowKit
variable {P : Program} {w0 : World} {n : Nat} {T : TT} {S : SS}
theorem PW.seqS {x y : PC} {Q : Exit -> TT -> SS -> Prop} (T0 : TT) (S0 : SS) (tail : PW P w0 n y T0 S0 Q)
  (h : ∀ K : TT -> SS -> Prop, (∀ T' S', Within T0 T' -> S' = S0 -> K T' S') -> PW P w0 n x T S (thenK K Q)) : PW P w0 n (.seq x y) T S Q :=
 PW.seq fun K hK => h K fun T' S' hW hS => hK T' S' (PW.keep hW (hS ▸ tail))
end Go.SL

namespace Go.Proofs.Gr
open Go.SL Go.RowKit Go.Proofs Go.GP
set_option maxHeartbeats 1000000
theorem rBef_fc {w0 : World} {S : SS} {A : Option Addr} {c : Nat} {l : List PartM} {a b : Vtx} (h : PartsRd w0 S A l) (hr : ∀ v ∈ allV (pls l), v ≠ rootV /\ v ≠ endV) (hb : Bef (pls l) a b) :
  FC Tryz.prog w0 63 [.slice A l.length c, vtxV a, vtxV b] S (fun v S' => v = .bool true /\ S' = S) := by
 obtain ⟨h1, h2, h3, h4, h5, h6⟩ := hb
 have ha : a = rootV ∨ a ∈ allV (pls l) := h1.imp_right fun h => h.resolve_left h4
 have hb : b = endV ∨ b ∈ allV (pls l) := h2.resolve_left h5
 by_cases e1 : a = rootV
 ·exact rBefB_fc h ha hb h3 h4 h5 (.inl e1)
 by_cases e2 : b = endV
 ·exact rBefB_fc h ha hb h3 h4 h5 (.inr e2)
 exact rBefA_fc h (ha.resolve_left e1) (hb.resolve_left e2) h3 h4 h5 e1 e2 (r := true) ⟨fun _ => (h6.resolve_left e1).resolve_left e2, fun _ => rfl⟩
def KH : List CK := List.replicate 32 (.int .u8)
theorem eqL_hash (a b : HashB) : eqL KH (bytesC a.1) (bytesC b.1) = some (decide (a = b)) := by
 have h := eqL_bytes (x := a.1) (y := b.1) (by rw [a.2, b.2])
 rw [a.2] at h
 rw [show KH = List.replicate 32 (.int .u8) from rfl, h]
 congr 1
 exact decide_eq_decide.2 ⟨fun e => Subtype.ext e, fun e => congrArg _ e⟩
theorem appP2 {P : Program} {w0 : World} {n : Nat} {T : TT} {S : SS} {k m q c : Nat} {z v : Value} {s x : PV} {A : Option Addr} {xs l : List PartM} {seg : Seg} (hs' : s.val T = some v) (hk : S[k]? = some seg) (hv : SlV 66 102 v m (partS xs) seg)
  (hx : x.val T = some (.slice A q c)) (hq : l.length = q) (hrd : Rd w0 S A (partS l)) (hc : A = none -> c = 0) (hb : m + q <= 1000000) :
  OW P w0 n (.app 31 66 102 176 z s x) T S (fun v' S' => ∃ seg', S' = S.set k seg' /\ SlV 66 102 v' (m + q) (partS (xs ++ l)) seg') := by
 have h := OW.appL (P := P) (w0 := w0) (n := n) (t := 31) (z := z) (bytes := 176) hs' hk hv hx (by rw [partS_len, hq]) hrd (by decide) hc (partS_one l) (by omega) (by unfold maxLen; omega)
 rw [<- partS_app] at h
 exact h
section
variable {w0 : World} {S : SS} {a : Addr} {l : List PartM} {k : Nat}
theorem partS_patch (h : Rd w0 S (some a) (partS l)) (hk : k < l.length) : ∀ (j : Nat) (v : Value), (bytesC l[k].patch.1)[j]? = some v -> Cell w0 S (((a.add (k * 102)).add 0).add j) v := by
 intro j v hj
 have hj2 := (List.getElem?_eq_some_iff.1 hj).1
 rw [addr_add_add (a.add (k * 102))]
 refine partS_at h hk (0 + j) v ?_
 rw [Nat.zero_add, partC_split, List.getElem?_append_left hj2]
 exact hj
theorem partS_at32 (h : Rd w0 S (some a) (partS l)) (hk : k < l.length) : Cell w0 S ((a.add (k * 102)).add 32) (.int .i64 l[k].at_) := by
 refine partS_at h hk 32 _ ?_
 have h1 := hb_len l[k].patch
 rw [partC_split, List.getElem?_append_right (by omega), h1]
 rfl
end
theorem nodup_take {l : List Vtx} (h : l.Nodup) {k : Nat} (hk : k < l.length) : l[k] ∉ l.take k := by
 intro hm
 obtain ⟨i, hi, e⟩ := List.getElem_of_mem hm
 rw [List.length_take] at hi
 rw [List.getElem_take] at e
 have := (List.getElem_inj h).1 e
 omega
theorem rAdd_fc {w0 : World} {S : SS} {A : Option Addr} {c : Nat} {l : List PartM} {p : PartM} (h : PartsRd w0 S A l) (hp : PartRd w0 S p) (hcA : A = none -> c = 0) (hnew : New (pls l) p.pl) (hline : ∀ v ∈ allV (pls l), v ≠ rootV /\ v ≠ endV) :
  FC Tryz.prog w0 26 [.slice A l.length c, partV p] S (fun v S' => ∃ v1 seg, v = .tuple #[v1, .int .i64 0] /\ S' = seg :: S /\ SlV 66 102 v1 (l ++ [p]).length (partS (l ++ [p])) seg) := by
 have hll := h.len
 have hrd := h.rd
 have hal : (allV (pls l)).length <= 1000000 := by
  have := allV_len (l := l) (fun p hp => (h.part p hp).small.1) l.length (Nat.le_refl _)
  rw [List.take_length] at this
  omega
 have hpl := hp.rng.lines
 have hgn := hp.rng.gones
 have hup : p.up ≠ rootV -> p.up ∈ allV (pls l) := fun e => (hnew.up.resolve_left e).resolve_left hnew.upE
 have hdn : p.down ≠ endV -> p.down ∈ allV (pls l) := fun e => (hnew.down.resolve_left hnew.downR).resolve_left e
 have hol : (own p.pl).length = p.lines.length := own_len p.pl
 refine FC.ofD Tryz.known26 (by simp) ?_
 unfold Tryz.pc26
 simp only [argT]
 refine PW.seqOps (OL.cons trivial (OW.bx rfl) ?_)
 rintro _ _ ⟨r3, rfl, rfl⟩
 rw [part_box, partC_len]
 refine OL.dp rfl (OL.dp rfl (OL.nil (PW.k2 0 3 rfl (PW.seqOps (OL.dp rfl (OL.call trivial rfl (rAll_fc h.cons) ?_))))))
 rintro _ _ ⟨sga, rfl, hsa⟩
 obtain ⟨Aa, ca, rfl, hna, hca, hra⟩ := slv_rdL (w0 := w0) hsa
 refine OL.dp rfl (OL.nil (PW.k3 0 3 6 rfl (PW.seqOps (OL.det trivial (.ldA rfl (partC_len _) (all_at zM1)) (OL.call trivial rfl (rOwn_fc hp.rng) ?_)))))
 rintro _ _ ⟨sgo, rfl, hso⟩
 obtain ⟨Ao, co, rfl, hno, hco, hro⟩ := slv_rdL (w0 := w0) hso
 refine OL.dp rfl (OL.nil (PW.k4 0 3 6 7 rfl ?_))
 refine PW.seq fun K1 hK1 => ?_
 refine PW.seqOps (OL.dp rfl (OL.nil (PW.k5 0 3 6 7 8 rfl (PW.block (PW.k5 0 3 6 7 8 rfl ?_)))))
 refine PW.loopK (I := fun mm T S' => ∃ k : Nat, (k <= l.length /\ mm = l.length - k) /\ T = ([(0, .slice A l.length c), (3, .pointer (some ⟨r3, 0, none⟩)), (6, .slice Aa (allV (pls l)).length ca), (7, .slice Ao (own p.pl).length co), (8, .int .i64 k)] : TT) /\ S' = sgo :: sga :: [(r3, .cells (partC p) 66 102)] :: S) (m := l.length) ⟨0, ⟨by omega, by omega⟩, rfl, rfl⟩ ?_
 rintro mm _ _ ⟨k, ⟨hk, hmm⟩, rfl, rfl⟩
 refine PW.seq fun K2 hK2 => ?_
 refine PW.seqOps (OL.dp rfl (OL.dp rfl (OL.dp rfl (OL.dp rfl (OL.nil (PW.k6 0 3 6 7 8 20 rfl ?_))))))
 refine PW.cond rfl (fun c20 => ?_) (fun c20 => ?_)
 ·try simp only [cvS] at c20
  have hkl : k < l.length := by omega
  obtain ⟨a0, rfl⟩ := partS_some hrd (by omega)
  refine PW.skip ?_
  refine hK2 _ _ ?_
  refine PW.k5 0 3 6 7 8 rfl ?_
  refine PW.seq fun K3 hK3 => ?_
  refine PW.block ?_
  refine PW.seq fun K4 hK4 => ?_
  refine PW.quietK Tryz.mixed (QK.dp rfl (QK.dp rfl (QK.det trivial (.ixN rfl rfl rfl hkl) (QK.dp rfl (QK.det trivial (.ldA rfl (hb_len _) (partS_patch (hrd.cons.cons.cons) hkl)) (QK.dp rfl (QK.det trivial (.ldA rfl (hb_len _) (part_patch (p := p) (E := 66) (tot := 102) zM2)) (QK.det trivial (.eqD (neg := false) rfl rfl (eqL_hash _ _)) ?_))))))))
  refine QK.bool trivial (Yields.pure rfl) (fun g31 => ?_) (fun g31 => ?_)
  ·try simp only [cvS] at g31
   refine QK.det rfl (.pure rfl) (QK.det rfl (.pure rfl) (QK.det rfl (.ixN rfl rfl rfl hkl) (QK.det rfl (.pure rfl) (QK.det rfl (.ld rfl (partS_at32 (hrd.cons.cons.cons) hkl)) (QK.det rfl (.pure rfl) (QK.det rfl (.ld rfl (part_at (p := p) (E := 66) (tot := 102) zM2)) (QK.nil ?_)))))))
   change OL _ _ _ [_, _] _ _ _
   refine OL.det rfl (.pure rfl) (OL.dp rfl (OL.nil ?_))
   refine hK4 _ _ ?_
   refine PW.k6 0 3 6 7 8 40 rfl ?_
   refine PW.cond rfl (fun c40 => ?_) (fun c40 => ?_)
   ·try simp only [cvS] at c40
    exfalso
    exact hnew.name l[k].pl (List.mem_map.2 ⟨_, List.getElem_mem hkl, rfl⟩) (Prod.ext g31 c40)
    -- done
   try simp only [cvS] at c40
   refine PW.skip ?_
   refine hK3 _ _ ?_
   refine PW.k5 0 3 6 7 8 rfl (PW.ops (OL.dp rfl ?_))
   refine OL.det trivial (.add64 rfl rfl (by omega) (by omega)) ?_
   refine OL.dp rfl (OL.nil ?_)
   repeat rw [inBlk_n]
   try rw [thenK_n]
   refine LoopEnd.mk (T'' := [(0, _), (3, _), (6, _), (7, _), (8, _)]) (wi rfl) ?_
   exact ⟨l.length - (k + 1), by omega, k + 1, ⟨by omega, rfl⟩, rfl, rfl⟩
  try simp only [cvS] at g31
  refine QK.off rfl rfl (QK.off rfl rfl (QK.off rfl rfl (QK.off rfl rfl (QK.off rfl rfl (QK.off rfl rfl (QK.off rfl rfl (QK.nil ?_)))))))
  change OL _ _ _ [_, _] _ _ _
  refine OL.off rfl rfl (OL.dp rfl (OL.nil ?_))
  refine hK4 _ _ ?_
  refine PW.k6 0 3 6 7 8 40 rfl (PW.ite (b := false) rfl ?_)
  rw [if_neg Bool.false_ne_true]
  refine PW.skip ?_
  refine hK3 _ _ ?_
  refine PW.k5 0 3 6 7 8 rfl (PW.ops (OL.dp rfl ?_))
  refine OL.det trivial (.add64 rfl rfl (by omega) (by omega)) ?_
  refine OL.dp rfl (OL.nil ?_)
  repeat rw [inBlk_n]
  try rw [thenK_n]
  refine LoopEnd.mk (T'' := [(0, _), (3, _), (6, _), (7, _), (8, _)]) (wi rfl) ?_
  exact ⟨l.length - (k + 1), by omega, k + 1, ⟨by omega, rfl⟩, rfl, rfl⟩
 try simp only [cvS] at c20
 refine PW.exit ?_
 refine hK1 _ _ ?_
 refine PW.k4 0 3 6 7 rfl ?_
 refine PW.seq fun K5 hK5 => ?_
 refine PW.seqOps (OL.dp rfl (OL.nil (PW.k5 0 3 6 7 9 rfl (PW.block (PW.k5 0 3 6 7 9 rfl ?_)))))
 refine PW.loopK (I := fun mm T S' => ∃ k : Nat, (k <= (own p.pl).length /\ mm = (own p.pl).length - k) /\ T = ([(0, .slice A l.length c), (3, .pointer (some ⟨r3, 0, none⟩)), (6, .slice Aa (allV (pls l)).length ca), (7, .slice Ao (own p.pl).length co), (9, .int .i64 k)] : TT) /\ S' = sgo :: sga :: [(r3, .cells (partC p) 66 102)] :: S) (m := (own p.pl).length) ⟨0, ⟨by omega, by omega⟩, rfl, rfl⟩ ?_
 rintro mm _ _ ⟨k, ⟨hk, hmm⟩, rfl, rfl⟩
 refine PW.seq fun K6 hK6 => ?_
 refine PW.seqOps (OL.dp rfl (OL.dp rfl (OL.dp rfl (OL.dp rfl (OL.nil (PW.k6 0 3 6 7 9 45 rfl ?_))))))
 refine PW.cond rfl (fun c45 => ?_) (fun c45 => ?_)
 ·try simp only [cvS] at c45
  have hkl : k < (own p.pl).length := by omega
  obtain ⟨o0, rfl⟩ := vtxs_some (hro []) (by omega)
  refine PW.skip ?_
  refine hK6 _ _ ?_
  refine PW.k5 0 3 6 7 9 rfl ?_
  refine PW.seq fun K7 hK7 => ?_
  refine PW.block (PW.seqOps (OL.dp rfl (OL.dp rfl (OL.dp rfl (OL.det trivial (.ixN rfl rfl rfl hkl) (OL.det trivial (.ldA rfl (vtxL_len _) (vtx_at (hro _) hkl)) ?_))))))
  refine OL.call trivial rfl (rHasF_fc ((hra _).cons) (by omega) (hnew.own _ (List.getElem_mem hkl))) ?_
  rintro _ Sx ⟨rfl, hSx⟩
  rw [hSx]
  clear hSx
  refine OL.nil (PW.k6 0 3 6 7 9 53 rfl (PW.ite (b := false) rfl ?_))
  rw [if_neg Bool.false_ne_true]
  refine PW.skip ?_
  refine hK7 _ _ ?_
  refine PW.k5 0 3 6 7 9 rfl (PW.ops (OL.dp rfl ?_))
  refine OL.det trivial (.add64 rfl rfl (by omega) (by omega)) ?_
  refine OL.dp rfl (OL.nil ?_)
  repeat rw [inBlk_n]
  try rw [thenK_n]
  refine LoopEnd.mk (T'' := [(0, _), (3, _), (6, _), (7, _), (9, _)]) (wi rfl) ?_
  exact ⟨(own p.pl).length - (k + 1), by omega, k + 1, ⟨by omega, rfl⟩, rfl, rfl⟩
 try simp only [cvS] at c45
 refine PW.exit ?_
 refine hK5 _ _ ?_
 refine PW.k3 0 3 6 rfl ?_
 refine PW.seq fun K8 hK8 => ?_
 refine PW.seq fun K9 hK9 => ?_
 refine PW.quietK Tryz.mixed (QK.dp rfl (QK.det trivial (.ld rfl (part_first (p := p) (E := 66) (tot := 102) zM2)) ?_))
 refine QK.det trivial (.to (v' := .bool false) (Yields.pure rfl) (congrArg Value.bool (decide_eq_false (by have := hnew.first; show ¬ p.first < 0; exact Int.not_lt.2 this)))) ?_
 refine QK.dp rfl (QK.det rfl (.pure rfl) (QK.det rfl (.ldA rfl (vtxL_len _) (part_up (p := p) (E := 66) (tot := 102) zM2)) (QK.call rfl rfl (rEnd_fc) ?_)))
 refine QK.det rfl (.to (v' := .bool false) (Yields.eqD (neg := false) rfl rfl (eqL_vtx _ _)) (congrArg Value.bool (by simpa using (show p.up ≠ endV from hnew.upE)))) ?_
 refine QK.dp rfl (QK.dp rfl (QK.det rfl (.pure rfl) (QK.det rfl (.ldA rfl (vtxL_len _) (part_down (p := p) (E := 66) (tot := 102) zM2)) (QK.call rfl rfl (rRoot_fc) (QK.nil ?_)))))
 change OL _ _ _ [_, _] _ _ _
 refine OL.det rfl (.to (v' := .bool false) (Yields.eqD (neg := false) rfl rfl (eqL_vtx _ _)) (congrArg Value.bool (by simpa using (show p.down ≠ rootV from hnew.downR)))) ?_
 refine OL.dp rfl (OL.nil ?_)
 refine hK9 _ _ ?_
 refine PW.k4 0 3 6 69 rfl (PW.ite (b := false) rfl ?_)
 rw [if_neg Bool.false_ne_true]
 refine PW.skip ?_
 refine hK8 _ _ ?_
 refine PW.k3 0 3 6 rfl ?_
 refine PW.seq fun K10 hK10 => ?_
 refine PW.seqOps (OL.dp rfl (OL.nil (PW.k4 0 3 6 10 rfl (PW.block (PW.k4 0 3 6 10 rfl ?_)))))
 refine PW.loopK (I := fun mm T S' => ∃ k : Nat, (k <= p.gone.length /\ mm = p.gone.length - k) /\ T = ([(0, .slice A l.length c), (3, .pointer (some ⟨r3, 0, none⟩)), (6, .slice Aa (allV (pls l)).length ca), (10, .int .i64 k)] : TT) /\ S' = sgo :: sga :: [(r3, .cells (partC p) 66 102)] :: S) (m := p.gone.length) ⟨0, ⟨by omega, by omega⟩, rfl, rfl⟩ ?_
 rintro mm _ _ ⟨k, ⟨hk, hmm⟩, rfl, rfl⟩
 refine PW.seq fun K11 hK11 => ?_
 refine PW.seqOps (OL.dp rfl (OL.dp rfl (OL.det trivial (.ld rfl (part_gone (p := p) (E := 66) (tot := 102) zM2)) (OL.dp rfl (OL.dp rfl (OL.nil (PW.k5 0 3 6 10 75 rfl ?_)))))))
 refine PW.cond rfl (fun c75 => ?_) (fun c75 => ?_)
 ·try simp only [cvS] at c75
  have hgl : k < p.gone.length := by omega
  obtain ⟨ag, hag⟩ := vtxs_some hp.rdG (by omega)
  have hgr : Rd w0 (sgo :: sga :: [(r3, .cells (partC p) 66 102)] :: S) (some ag) (vtxs p.gone) := by rw [<- hag]; exact hp.rdG.cons.cons.cons
  have hgc : p.gone.length <= p.gc := hp.rng.gcap
  have hgR := hnew.goneR _ (List.getElem_mem hgl)
  refine PW.skip ?_
  refine hK11 _ _ ?_
  refine PW.k4 0 3 6 10 rfl ?_
  refine PW.seq fun K12 hK12 => ?_
  refine PW.block ?_
  refine PW.seq fun K13 hK13 => ?_
  refine PW.quietK Tryz.mixed (QK.dp rfl (QK.det trivial (.ld rfl (part_gone (p := p) (E := 66) (tot := 102) zM2)) (QK.dp rfl ?_)))
  rw [hag]
  refine QK.det trivial (.ixN rfl rfl rfl hgl) (QK.det trivial (.ldA rfl (vtxL_len _) (vtx_at hgr hgl)) (QK.call trivial rfl (rRoot_fc) ?_))
  refine QK.det trivial (.to (v' := .bool false) (Yields.eqD (neg := false) rfl rfl (eqL_vtx _ _)) (congrArg Value.bool (by simpa using hgR.1))) ?_
  refine QK.dp rfl (QK.det rfl (.pure rfl) (QK.det rfl (.ld rfl (part_gone (p := p) (E := 66) (tot := 102) zM2)) (QK.det rfl (.pure rfl) ?_)))
  rw [hag]
  refine QK.det rfl (.ixN rfl rfl rfl hgl) (QK.det rfl (.ldA rfl (vtxL_len _) (vtx_at hgr hgl)) (QK.call rfl rfl (rEnd_fc) ?_))
  refine QK.det rfl (.to (v' := .bool false) (Yields.eqD (neg := false) rfl rfl (eqL_vtx _ _)) (congrArg Value.bool (by simpa using hgR.2))) ?_
  refine QK.dp rfl (QK.dp rfl (QK.det rfl (.pure rfl) (QK.det rfl (.ld rfl (part_gone (p := p) (E := 66) (tot := 102) zM2)) (QK.det rfl (.pure rfl) ?_))))
  rw [hag]
  refine QK.det rfl (.to (v' := .slice (some ag) k p.gc) (Yields.slS (A := some ag) (len := p.gone.length) (cap := p.gc) (l := 0) (h := k) rfl rfl rfl (.inr ⟨rfl, rfl⟩) (.inl rfl) (by omega) (by omega)) (cutV0 _ _ _ _)) ?_
  refine QK.det rfl (.pure rfl) (QK.det rfl (.ld rfl (part_gone (p := p) (E := 66) (tot := 102) zM2)) (QK.det rfl (.pure rfl) ?_))
  rw [hag]
  refine QK.det rfl (.ixN rfl rfl rfl hgl) (QK.det rfl (.ldA rfl (vtxL_len _) (vtx_at hgr hgl)) (QK.nil ?_))
  change OL _ _ _ [_, _] _ _ _
  refine OL.call rfl rfl (by have := rHasF_fc (w0 := w0) (S := sgo :: sga :: [(r3, .cells (partC p) 66 102)] :: S) (A := some ag) (c := p.gc) (l := p.gone.take k) (v := p.gone[k]) (hgr.pre (by rw [<- List.take_append_drop k p.gone, vtxs_app, List.take_append_drop]; exact List.prefix_append _ _)) (by rw [List.length_take]; omega) (nodup_take hnew.gone0 hgl); rw [List.length_take, Nat.min_eq_left (by omega)] at this; exact this) ?_
  rintro _ Sx ⟨rfl, hSx⟩
  rw [hSx]
  clear hSx
  refine OL.dp rfl (OL.nil ?_)
  refine hK13 _ _ ?_
  refine PW.k5 0 3 6 10 105 rfl (PW.ite (b := false) rfl ?_)
  rw [if_neg Bool.false_ne_true]
  refine PW.skip ?_
  refine hK12 _ _ ?_
  refine PW.k4 0 3 6 10 rfl (PW.ops (OL.dp rfl ?_))
  refine OL.det trivial (.add64 rfl rfl (by omega) (by omega)) ?_
  refine OL.dp rfl (OL.nil ?_)
  repeat rw [inBlk_n]
  try rw [thenK_n]
  refine LoopEnd.mk (T'' := [(0, _), (3, _), (6, _), (10, _)]) (wi rfl) ?_
  exact ⟨p.gone.length - (k + 1), by omega, k + 1, ⟨by omega, rfl⟩, rfl, rfl⟩
 try simp only [cvS] at c75
 refine PW.exit ?_
 refine hK10 _ _ ?_
 refine PW.k3 0 3 6 rfl ?_
 refine PW.seqS [(0, .slice A l.length c), (3, .pointer (some ⟨r3, 0, none⟩)), (6, .slice Aa (allV (pls l)).length ca)] (sgo :: sga :: [(r3, .cells (partC p) 66 102)] :: S) ?_ fun K14 hK14 => ?_
 ·skip
  refine PW.seq fun K15 hK15 => ?_
  refine PW.seqOps (OL.dp rfl (OL.nil (PW.k4 0 3 6 11 rfl (PW.block (PW.k4 0 3 6 11 rfl ?_)))))
  refine PW.loopK (I := fun mm T S' => ∃ k : Nat, (k <= p.gone.length /\ mm = p.gone.length - k) /\ T = ([(0, .slice A l.length c), (3, .pointer (some ⟨r3, 0, none⟩)), (6, .slice Aa (allV (pls l)).length ca), (11, .int .i64 k)] : TT) /\ S' = sgo :: sga :: [(r3, .cells (partC p) 66 102)] :: S) (m := p.gone.length) ⟨0, ⟨by omega, by omega⟩, rfl, rfl⟩ ?_
  rintro mm _ _ ⟨k, ⟨hk, hmm⟩, rfl, rfl⟩
  refine PW.seq fun K16 hK16 => ?_
  refine PW.seqOps (OL.dp rfl (OL.dp rfl (OL.det trivial (.ld rfl (part_gone (p := p) (E := 66) (tot := 102) zM2)) (OL.dp rfl (OL.dp rfl (OL.nil (PW.k5 0 3 6 11 136 rfl ?_)))))))
  refine PW.cond rfl (fun c136 => ?_) (fun c136 => ?_)
  ·try simp only [cvS] at c136
   have hgl : k < p.gone.length := by omega
   obtain ⟨ag, hag⟩ := vtxs_some hp.rdG (by omega)
   have hgr : Rd w0 (sgo :: sga :: [(r3, .cells (partC p) 66 102)] :: S) (some ag) (vtxs p.gone) := by rw [<- hag]; exact hp.rdG.cons.cons.cons
   have hgc : p.gone.length <= p.gc := hp.rng.gcap
   refine PW.skip ?_
   refine hK16 _ _ ?_
   refine PW.k4 0 3 6 11 rfl ?_
   refine PW.seq fun K17 hK17 => ?_
   refine PW.block (PW.seqOps (OL.dp rfl (OL.dp rfl (OL.det trivial (.ld rfl (part_gone (p := p) (E := 66) (tot := 102) zM2)) (OL.dp rfl ?_)))))
   rw [hag]
   refine OL.det trivial (.ixN rfl rfl rfl hgl) (OL.det trivial (.ldA rfl (vtxL_len _) (vtx_at hgr hgl)) ?_)
   refine OL.call trivial rfl (rHasT_fc ((hra _).cons) (by omega) (hnew.gone _ (List.getElem_mem hgl))) ?_
   rintro _ Sx ⟨rfl, hSx⟩
   rw [hSx]
   clear hSx
   refine OL.dp rfl (OL.nil (PW.k5 0 3 6 11 146 rfl (PW.ite (b := false) rfl ?_)))
   rw [if_neg Bool.false_ne_true]
   refine PW.skip ?_
   refine hK17 _ _ ?_
   refine PW.k4 0 3 6 11 rfl (PW.ops (OL.dp rfl ?_))
   refine OL.det trivial (.add64 rfl rfl (by omega) (by omega)) ?_
   refine OL.dp rfl (OL.nil ?_)
   repeat rw [inBlk_n]
   try rw [thenK_n]
   refine LoopEnd.mk (T'' := [(0, _), (3, _), (6, _), (11, _)]) (wi rfl) ?_
   exact ⟨p.gone.length - (k + 1), by omega, k + 1, ⟨by omega, rfl⟩, rfl, rfl⟩
  try simp only [cvS] at c136
  refine PW.exit ?_
  refine hK15 _ _ ?_
  refine PW.k2 0 3 rfl ?_
  refine PW.seq fun K18 hK18 => ?_
  refine PW.seqOps (OL.dp rfl (OL.dp rfl (OL.det trivial (.ldA rfl (vtxL_len _) (part_up (p := p) (E := 66) (tot := 102) zM2)) (OL.dp rfl (OL.det trivial (.ldA rfl (vtxL_len _) (part_down (p := p) (E := 66) (tot := 102) zM2)) (OL.call trivial rfl (rBef_fc h.cons.cons.cons hline hnew.bef) ?_))))))
  rintro _ Sx ⟨rfl, hSx⟩
  rw [hSx]
  clear hSx
  refine OL.dp rfl (OL.nil (PW.k3 0 3 154 rfl (PW.ite (b := false) rfl ?_)))
  rw [if_neg Bool.false_ne_true]
  refine PW.skip ?_
  refine hK18 _ _ ?_
  refine PW.k2 0 3 rfl (PW.seqOps (OL.dp rfl (OL.nil (PW.k3 0 3 12 rfl (PW.seqOps (OL.subS (S' := [] :: sgo :: sga :: [(r3, .cells (partC p) 66 102)] :: S) (Sub.nilL (Sub.refl _)) (OL.dp rfl (OL.dp rfl ?_))))))))
  refine OL.cons trivial (appP2 (k := 0) (m := 0) (xs := []) (l := l) rfl rfl (SlV.nil 66 102) rfl rfl hrd.cons.cons.cons.cons hcA (by omega)) ?_
  rintro v158 _ ⟨sg158, rfl, hs158⟩
  rw [Nat.zero_add, List.nil_append] at hs158
  refine OL.dp rfl (OL.nil (PW.k2 3 12 rfl (PW.seqOps (OL.dp rfl (OL.det trivial (.ldA rfl (partC_len _) (all_at zM3)) ?_)))))
  apply OL.app1 (k := 0)
  ·rfl
  ·rfl
  ·exact (List.size_toArray).trans (partC_len _)
  ·rfl
  ·rfl
  ·rfl
  ·exact hs158
  ·exact partC_one _
  ·omega
  ·unfold maxLen; omega
  intro v162 sg162 hs162
  refine OL.dp rfl (OL.dp rfl (OL.nil (PW.k2 4 5 rfl (PW.ret ?_))))
  change (Exit.ret = Exit.normal ∨ Exit.ret = Exit.ret) /\ ∃ v, resV _ _ = some v /\ _
  exact ⟨.inr rfl, _, rfl, _, Sub.cons (Sub.drop (Sub.drop (Sub.drop (Sub.refl _)))), _, sg162, rfl, rfl, by rw [List.length_append, partS_app]; show SlV 66 102 v162 (l.length + 1) (partS l ++ (partC p ++ [])) sg162; rw [List.append_nil]; exact hs162⟩
 skip
 refine PW.seq fun K19 hK19 => ?_
 refine PW.quietK Tryz.mixed (QK.dp rfl (QK.det trivial (.ldA rfl (vtxL_len _) (part_up (p := p) (E := 66) (tot := 102) zM2)) (QK.call trivial rfl (rRoot_fc) (QK.det trivial (.eqD (neg := true) rfl rfl (eqL_vtx _ _)) ?_))))
 refine QK.bool trivial (Yields.pure rfl) (fun g111 => ?_) (fun g111 => ?_)
 ·try simp only [cvS] at g111
  refine QK.det rfl (.pure rfl) (QK.det rfl (.pure rfl) (QK.det rfl (.ldA rfl (vtxL_len _) (part_up (p := p) (E := 66) (tot := 102) zM2)) ?_))
  refine QK.call rfl rfl (rHasT_fc ((hra _).cons) (by omega) (hup g111)) ?_
  refine QK.det rfl (.pure rfl) (QK.dp rfl (QK.dp rfl (QK.det rfl (.pure rfl) (QK.det rfl (.ldA rfl (vtxL_len _) (part_down (p := p) (E := 66) (tot := 102) zM2)) (QK.call rfl rfl (rEnd_fc) (QK.det rfl (.eqD (neg := true) rfl rfl (eqL_vtx _ _)) ?_))))))
  refine QK.bool rfl (Yields.pure rfl) (fun g123 => ?_) (fun g123 => ?_)
  ·try simp only [cvS] at g123
   refine QK.det rfl (.pure rfl) (QK.det rfl (.pure rfl) (QK.det rfl (.ldA rfl (vtxL_len _) (part_down (p := p) (E := 66) (tot := 102) zM2)) (QK.nil ?_)))
   change OL _ _ _ [_, _, _, _] _ _ _
   refine OL.call rfl rfl (rHasT_fc ((hra _).cons) (by omega) (hdn g123)) ?_
   rintro _ Sx ⟨rfl, hSx⟩
   rw [hSx]
   clear hSx
   refine OL.det rfl (.pure rfl) (OL.det rfl (.pure rfl) (OL.dp rfl (OL.nil ?_)))
   refine hK19 _ _ ?_
   refine PW.k4 0 3 6 130 rfl (PW.ite (b := false) rfl ?_)
   rw [if_neg Bool.false_ne_true]
   refine PW.skip ?_
   exact hK14 _ _ ⟨rfl, rfl, rfl, trivial⟩ rfl
  try simp only [cvS] at g123
  refine QK.off rfl rfl (QK.off rfl rfl (QK.off rfl rfl (QK.nil ?_)))
  change OL _ _ _ [_, _, _, _] _ _ _
  refine OL.off rfl rfl (OL.off rfl rfl (OL.det rfl (.pure rfl) (OL.dp rfl (OL.nil ?_))))
  refine hK19 _ _ ?_
  refine PW.k4 0 3 6 130 rfl (PW.ite (b := false) rfl ?_)
  rw [if_neg Bool.false_ne_true]
  refine PW.skip ?_
  exact hK14 _ _ ⟨rfl, rfl, rfl, trivial⟩ rfl
 try simp only [cvS] at g111
 refine QK.off rfl rfl (QK.off rfl rfl (QK.off rfl rfl (QK.off rfl rfl (QK.off rfl rfl (QK.dp rfl (QK.dp rfl (QK.det rfl (.pure rfl) (QK.det rfl (.ldA rfl (vtxL_len _) (part_down (p := p) (E := 66) (tot := 102) zM2)) (QK.call rfl rfl (rEnd_fc) (QK.det rfl (.eqD (neg := true) rfl rfl (eqL_vtx _ _)) ?_))))))))))
 refine QK.bool rfl (Yields.pure rfl) (fun g123 => ?_) (fun g123 => ?_)
 ·try simp only [cvS] at g123
  refine QK.det rfl (.pure rfl) (QK.det rfl (.pure rfl) (QK.det rfl (.ldA rfl (vtxL_len _) (part_down (p := p) (E := 66) (tot := 102) zM2)) (QK.nil ?_)))
  change OL _ _ _ [_, _, _, _] _ _ _
  refine OL.call rfl rfl (rHasT_fc ((hra _).cons) (by omega) (hdn g123)) ?_
  rintro _ Sx ⟨rfl, hSx⟩
  rw [hSx]
  clear hSx
  refine OL.det rfl (.pure rfl) (OL.det rfl (.pure rfl) (OL.dp rfl (OL.nil ?_)))
  refine hK19 _ _ ?_
  refine PW.k4 0 3 6 130 rfl (PW.ite (b := false) rfl ?_)
  rw [if_neg Bool.false_ne_true]
  refine PW.skip ?_
  exact hK14 _ _ ⟨rfl, rfl, rfl, trivial⟩ rfl
 try simp only [cvS] at g123
 refine QK.off rfl rfl (QK.off rfl rfl (QK.off rfl rfl (QK.nil ?_)))
 change OL _ _ _ [_, _, _, _] _ _ _
 refine OL.off rfl rfl (OL.off rfl rfl (OL.det rfl (.pure rfl) (OL.dp rfl (OL.nil ?_))))
 refine hK19 _ _ ?_
 refine PW.k4 0 3 6 130 rfl (PW.ite (b := false) rfl ?_)
 rw [if_neg Bool.false_ne_true]
 refine PW.skip ?_
 exact hK14 _ _ ⟨rfl, rfl, rfl, trivial⟩ rfl
end Go.Proofs.Gr

namespace Go.Proofs.Gr
open Go.SL Go.RowKit Go.Proofs Go.GP
section
variable (bf : Vtx -> Vtx -> Bool)
def ordF (a b : Vtx) : Bool := bf a b || bf b a
def midsF (l : List LineP) (k : Nat) : List Int := ((List.range k).filter fun i => decide (0 < i) && !ordF bf l[i - 1]!.v l[i]!.v).map Int.ofNat
def blockF (l : List LineP) : ItemP := ⟨l, true, midsF bf l l.length⟩
def solidF (l : List LineP) (x : LineP) : Bool := l.all fun y => decide (x.v = y.v) || ordF bf x.v y.v
def shutF (open_ : List LineP) : List ItemP := if open_ = [] then [] else [blockF bf open_]
def stepF (l : List LineP) (st : List ItemP × List LineP) (x : LineP) : List ItemP × List LineP :=
 if solidF bf l x then (st.1 ++ shutF bf st.2 ++ [⟨[x], false, []⟩], []) else (st.1, st.2 ++ [x])
def foldF (l : List LineP) (k : Nat) : List ItemP × List LineP := (l.take k).foldl (stepF bf l) ([], [])
def itemsF (l : List LineP) : List ItemP := (foldF bf l l.length).1 ++ shutF bf (foldF bf l l.length).2
end
theorem itemsF_eq (ps : List PartP) (l : List LineP) : itemsL ps l = itemsF (befP ps) l := by
 have h1 : stepI ps l = stepF (befP ps) l := by
  funext st x
  unfold stepI stepF shut shutF blockP blockF midsK midsF solidP solidF ordP ordF
  rfl
 unfold itemsL itemsF foldI foldF
 rw [h1]
 unfold shut shutF blockP blockF midsK midsF ordP ordF
 rfl
theorem befP_eq {ps : List PartP} (hc : ((allV ps).all fun a => closedB (allE ps) a) = true) : befP ps = befC ps := by
 funext a b
 rw [Bool.eq_iff_iff, befP_iff]
 by_cases ha : a ∈ allV ps
 ·exact (befC_iff (List.all_eq_true.1 hc a ha)).symm
 by_cases hr : a = rootV
 ·unfold Bef befC
  simp only [Bool.and_eq_true, hasC_iff, Bool.or_eq_true, decide_eq_true_eq, Bool.not_eq_true', decide_eq_false_iff_not, and_assoc, ne_eq, hr, true_or]
 have h1 : ¬ Bef ps a b := by
  rintro ⟨h, _, _, h2, _⟩
  rcases h with h | h | h
  ·exact hr h
  ·exact h2 h
  exact ha h
 have h2 : befC ps a b = false := by
  unfold befC hasC
  by_cases he : a = endV
  ·simp [he]
  simp [ha, hr, he]
 simp [h1, h2]
theorem items_comp {ps : List PartP} (hc : ((allV ps).all fun a => closedB (allE ps) a) = true) : itemsP ps = itemsF (befC ps) (live (linesP ps)) := by
 unfold itemsP
 rw [itemsF_eq, befP_eq hc]
end Go.Proofs.Gr

namespace Go.Proofs.Gr
open Go.SL Go.RowKit Go.Proofs Go.GP
set_option maxHeartbeats 1000000
def mkP (b : UInt8) (up down : Vtx) (A : Option Addr) (c : Nat) (l : List ByteArray) : PartM := ⟨hb1 b, 0, 0, up, down, A, c, l, none, 0, []⟩
def zP : List Value := List.replicate 32 (.int .u8 0) ++ [.int .i64 0, .int .i64 0] ++ vtxL v0 ++ vtxL v0 ++ [.slice none 0 0, .slice none 0 0]
theorem setMid {a b c d e : List Value} {n : Nat} (h : c = a ++ (b ++ d)) (ha : a.length = n) (hb : b.length = e.length) : setAt c n e = a ++ (e ++ d) := by
 subst h
 rw [setAt_eq _ _ _ (by simp only [List.length_append]; omega), List.take_append_of_le_length (by omega), List.take_of_length_le (by omega), List.drop_append, List.drop_eq_nil_of_le (by omega), List.drop_append, List.drop_eq_nil_of_le (by omega), show n + e.length - a.length - b.length = 0 by omega]
 simp
theorem vtx_stk {w0 : World} {S : SS} {P : Program} {n r k : Nat} {T : TT} {x v : PV} {u : Vtx} {z : List Value} (hk : S[k]? = some [(r, .cells z 27 33)]) (hx : x.val T = some (.pointer (some ⟨r, 0, none⟩))) (hv : v.val T = some (vtxV u)) (hz : z.length = 33) :
  OW P w0 n (.st 33 x v) T S (fun _ S' => S' = S.set k (vseg r u)) := by
 refine (OW.st (k := k) (c := z) (u := vtxV u) hx hv hk ((List.size_toArray).trans (vtxL_len u)) (by omega) (vtxL_one u)).mono ?_
 rintro _ _ rfl
 rw [vtx_box, setAll (by rw [vtxL_len, hz])]
def va : Vtx := (hb1 1, 0)
def k1 : PartP := (mkP 1 rootV endV none 0 [str1 97, str1 98]).pl
theorem okRoot : okV rootV := by unfold okV; decide
theorem okEnd : okV endV := by unfold okV; decide
theorem GG.n100 {w0 : World} {X : SS} {m : GrM} {ps : List PartP} (h : GG w0 X m ps) {p : PartP} (hn : newC ps p = true) : addE m.gr p = 0 /\ came ps p = p :: ps := by
 have hnew := newC_new h.sq ⟨_, h.inv⟩ hn
 exact ⟨(addE_zero h.inv h.sq).2 hnew, came_new hnew⟩
theorem addF_fc {w0 : World} {S : SS} {s : Seg} {m : GrM} {ps : List PartP} {p : PartM} (h : GG w0 [] m ps) (hp : PartRd w0 (s :: S) p) (hn : newC ps p.pl = true) (hc : (allV ps).length + ps.length + p.lines.length + 1 <= 1000000) (hlim : m.lim + addL p <= 500000000000) :
  FC Tryz.prog w0 25 [m.ptr, partV p] (s :: (GS m ++ S)) (fun v S' => ∃ m', v = .int .i64 0 /\ S' = GS m' ++ (s :: S) /\ GG w0 [] m' (p.pl :: ps) /\ m'.lim <= m.lim + addL p /\ m'.r = m.r) := by
 refine (FC.subS gs_a (add2_fc (S := s :: S) h over_nil hp.rng hp.rdL hp.rdG hc hlim)).mono ?_
 rintro _ _ ⟨m1, rfl, rfl, hg1, hl1, hr1, _⟩
 obtain ⟨hz, hcm⟩ := h.n100 hn
 rw [hcm] at hg1
 exact ⟨m1, by rw [hz], rfl, hg1, hl1, hr1⟩
end Go.Proofs.Gr







namespace Go.Proofs.Gr
open Go.SL Go.RowKit Go.Proofs Go.GP
set_option maxHeartbeats 1000000
theorem fill_step {T : TT} {a b d : List Value} {n k : Nat} {x : PV} {v : Value} {r : List (Nat × Nat × PV)} (hx : x.val T = some v) (ha : a.length = n) (hb : b.length = k) (hv : v.cells.toList.length = k) :
  fillP T (a ++ (b ++ d)) ((n, k, x) :: r) = fillP T ((a ++ v.cells.toList) ++ d) r := by
 simp only [fillP, hx]
 rw [if_pos ⟨by rw [<- Array.length_toList]; exact hv, by simp only [List.length_append]; omega⟩, setMid rfl ha (hb.trans hv.symm), List.append_assoc]
theorem fill_part7 {T : TT} {p : PartM} {x1 x2 x3 x4 x5 x6 x7 : PV} (h1 : x1.val T = some (.agg (bytesC p.patch.1).toArray)) (h2 : x2.val T = some (.int .i64 p.at_)) (h3 : x3.val T = some (.int .i64 p.first)) (h4 : x4.val T = some (vtxV p.up)) (h5 : x5.val T = some (vtxV p.down))
  (h6 : x6.val T = some (.slice p.LA p.lines.length p.lc)) (h7 : x7.val T = some (.slice p.GA p.gone.length p.gc)) :
  fillP T zP [(0, 32, x1), (32, 1, x2), (33, 1, x3), (34, 33, x4), (67, 33, x5), (100, 1, x6), (101, 1, x7)] = some (partC p) := by
 have hb := hb_len p.patch
 have hu := vtxL_len p.up
 have hd := vtxL_len p.down
 have h0 := vtxL_len v0
 have e0 : zP = [] ++ (List.replicate 32 (.int .u8 0) ++ ([.int .i64 0] ++ ([.int .i64 0] ++ (vtxL v0 ++ (vtxL v0 ++ ([.slice none 0 0] ++ ([.slice none 0 0] ++ []))))))) := by unfold zP; simp only [List.append_assoc, List.nil_append, List.append_nil]; rfl
 have c1 : (Value.agg (bytesC p.patch.1).toArray).cells.toList = bytesC p.patch.1 := rfl
 have c4 : (vtxV p.up).cells.toList = vtxL p.up := rfl
 have c5 : (vtxV p.down).cells.toList = vtxL p.down := rfl
 have c2 : ∀ (k : IntKind) (z : Int), (Value.int k z).cells.toList = [.int k z] := fun _ _ => rfl
 have c6 : ∀ (A : Option Addr) (n c : Nat), (Value.slice A n c).cells.toList = [.slice A n c] := fun _ _ _ => rfl
 rw [e0, fill_step (a := []) (n := 0) (k := 32) h1 rfl List.length_replicate (by rw [c1]; exact hb), c1, fill_step (k := 1) (b := [.int .i64 0]) h2 (by simp only [List.length_append, List.length_nil]; omega) rfl rfl, c2,
  fill_step (k := 1) (b := [.int .i64 0]) h3 (by simp only [List.length_append, List.length_nil, List.length_cons]; omega) rfl rfl, c2, fill_step h4 (by simp only [List.length_append, List.length_nil, List.length_cons]; omega) h0 (by rw [c4]; exact hu), c4,
  fill_step h5 (by simp only [List.length_append, List.length_nil, List.length_cons]; omega) h0 (by rw [c5]; exact hd), c5, fill_step (k := 1) (b := [.slice none 0 0]) h6 (by simp only [List.length_append, List.length_nil, List.length_cons]; omega) rfl rfl, c6,
  fill_step (k := 1) (b := [.slice none 0 0]) h7 (by simp only [List.length_append, List.length_nil, List.length_cons]; omega) rfl rfl, c6]
 rw [partC_split]
 simp only [fillP, List.append_assoc, List.nil_append, List.append_nil]
structure PartsIn (w0 : World) (A : Option Addr) (l : List PartM) : Prop where
 rd : Rd w0 [] A (partS l)
 part : ∀ x ∈ l, PartA w0 x
 len : l.length <= 1000000000000000
theorem PartB.rdS {w0 : World} {S : SS} {p : PartM} (h : PartB w0 p) : PartRd w0 S p := ⟨h.rdL.any, h.rdG.any, h.rng, by have := h.small; omega⟩
section
variable {w0 : World} {S : SS} {a : Addr} {l : List PartM} {k : Nat}
theorem partS_first (h : Rd w0 S (some a) (partS l)) (hk : k < l.length) : Cell w0 S ((a.add (k * 102)).add 33) (.int .i64 l[k].first) := partS_at h hk _ _ (partC_at _).2.1
theorem partS_lines (h : Rd w0 S (some a) (partS l)) (hk : k < l.length) : Cell w0 S ((a.add (k * 102)).add 100) (.slice l[k].LA l[k].lines.length l[k].lc) := partS_at h hk _ _ (partC_at _).2.2.1
theorem partS_gone (h : Rd w0 S (some a) (partS l)) (hk : k < l.length) : Cell w0 S ((a.add (k * 102)).add 101) (.slice l[k].GA l[k].gone.length l[k].gc) := partS_at h hk _ _ (partC_at _).2.2.2
end
theorem gs_h {a : GrM} {s t u : Seg} {S : SS} : Sub (GS a ++ (u :: S)) (u :: (GS a ++ (t :: s :: S))) := Sub.sel [1, 2, 3, 4, 0] 7 (by decide) (u :: (GS a ++ (t :: s :: S)))
theorem gs_i {a : GrM} {s t : Seg} {S : SS} : Sub (GS a ++ (s :: S)) (GS a ++ (t :: s :: S)) := Sub.sel [0, 1, 2, 3, 5] 6 (by decide) (GS a ++ (t :: s :: S))
theorem gs_j {a : GrM} {S : SS} : Sub (GS a ++ ([] :: S)) (GS a ++ S) := ⟨by simp, by simp⟩
theorem line_pls {w0 : World} {X : SS} {m : GrM} {l : List PartM} (h : GG w0 X m (pls l).reverse) : ∀ v ∈ allV (pls l), v ≠ rootV /\ v ≠ endV := fun v hv => h.sq.line (by
 obtain ⟨p, hp, hv⟩ := mem_allV.1 hv
 exact mem_allV.2 ⟨p, List.mem_reverse.2 hp, hv⟩)
theorem new_rev {l : List PartP} {p : PartP} (h : New l.reverse p) : New l p := by
 have hv : ∀ v, v ∈ allV l.reverse ↔ v ∈ allV l := fun v => by simp only [mem_allV, List.mem_reverse]
 exact h.more (fun q hq => List.mem_reverse.1 hq) (fun q hq => h.name q (List.mem_reverse.2 hq)) (fun v hv1 hv2 => h.own v hv1 ((hv v).2 hv2))
end Go.Proofs.Gr
