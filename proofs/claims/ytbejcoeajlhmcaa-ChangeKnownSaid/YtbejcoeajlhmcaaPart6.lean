/- Walks. -/
import Derived.Test.YtbejcoeajlhmcaaPart5
set_option linter.unusedVariables false
set_option linter.unusedSimpArgs false
set_option linter.unusedSectionVars false

namespace Go.Proofs.Gr
open Go.SL Go.RowKit Go.Proofs Go.GP Go.MyPlain
def begT (l first : List ByteArray) : Bool := decide (first.length <= l.length) && decide (l.take first.length = first)
def recF (I : List ItemP) (w : List ByteArray) : Nat -> Nat -> Option Nat
 | 0, _ => none
 | f + 1, i => if I[i]!.block && begT w (oneT I[i]!) then some i else recF I w f (i + 1)
def recAt (I : List ItemP) (fr : Nat) (w : List ByteArray) : Option Nat := recF I w (I.length - fr) fr
theorem recAt_end {I : List ItemP} {fr : Nat} {w : List ByteArray} (h : I.length <= fr) : recAt I fr w = none := by
 unfold recAt
 rw [show I.length - fr = 0 by omega]; rfl
theorem recAt_here {I : List ItemP} {fr : Nat} {w : List ByteArray} (h : fr < I.length) (hc : (I[fr].block && begT w (oneT I[fr])) = true) : recAt I fr w = some fr := by
 unfold recAt
 rw [show I.length - fr = (I.length - fr - 1) + 1 by omega]
 unfold recF
 rw [getElem!_pos I fr h, hc]; rfl
theorem recAt_next {I : List ItemP} {fr : Nat} {w : List ByteArray} (h : fr < I.length) (hc : (I[fr].block && begT w (oneT I[fr])) = false) : recAt I fr w = recAt I (fr + 1) w := by
 unfold recAt
 rw [show I.length - fr = (I.length - (fr + 1)) + 1 by omega]
 conv => lhs; unfold recF
 rw [getElem!_pos I fr h, hc]; rfl
theorem recF_some {I : List ItemP} {w : List ByteArray} : ∀ {f i k : Nat}, recF I w f i = some k -> i <= k /\ k < i + f /\ I[k]!.block = true /\ begT w (oneT I[k]!) = true
 | 0, _, _, h => by cases h
 | f + 1, i, k, h => by
  unfold recF at h
  split at h
  ·rename_i hc
   obtain rfl := Option.some.inj h
   rw [Bool.and_eq_true] at hc
   exact ⟨Nat.le_refl _, by omega, hc.1, hc.2⟩
  obtain ⟨h1, h2, h3⟩ := recF_some h
  exact ⟨by omega, by omega, h3⟩
theorem recAt_some {I : List ItemP} {fr k : Nat} {w : List ByteArray} (h : recAt I fr w = some k) : fr <= k /\ k < I.length /\ I[k]!.block = true /\ begT w (oneT I[k]!) = true := by
 obtain ⟨h1, h2, h3⟩ := recF_some h
 exact ⟨h1, by omega, h3⟩
inductive Tok where
 | free (s : ByteArray)
 | blk (k : Nat)
def toksF (I : List ItemP) : Nat -> Nat -> List ByteArray -> List Tok
 | 0, _, _ => []
 | _ + 1, _, [] => []
 | f + 1, fr, s :: w => match recAt I fr (s :: w) with
  | some k => .blk k :: toksF I f (k + 1) ((s :: w).drop (oneT I[k]!).length)
  | none => .free s :: toksF I f fr w
def toks (I : List ItemP) (fr : Nat) (w : List ByteArray) : List Tok := toksF I w.length fr w
theorem oneT_pos {x : ItemP} (h : x.block = true) : 2 <= (oneT x).length := by
 unfold oneT
 rw [h]
 simp
theorem toksF_fuel {I : List ItemP} : ∀ (f g fr : Nat) (w : List ByteArray), w.length <= f -> w.length <= g -> toksF I f fr w = toksF I g fr w
 | 0, g, fr, w, h1, h2 => by
  obtain rfl := List.eq_nil_of_length_eq_zero (Nat.le_zero.1 h1)
  cases g <;> rfl
 | f + 1, 0, fr, w, h1, h2 => by
  obtain rfl := List.eq_nil_of_length_eq_zero (Nat.le_zero.1 h2)
  rfl
 | f + 1, g + 1, fr, [], _, _ => rfl
 | f + 1, g + 1, fr, s :: w, h1, h2 => by
  simp only [toksF]
  simp only [List.length_cons] at h1 h2
  cases e : recAt I fr (s :: w) with
  | none => simp only; rw [toksF_fuel f g fr w (by omega) (by omega)]
  | some k =>
   have := oneT_pos (recAt_some e).2.2.1
   simp only
   rw [toksF_fuel f g (k + 1) _ (by rw [List.length_drop, List.length_cons]; omega) (by rw [List.length_drop, List.length_cons]; omega)]
theorem toks_nil {I : List ItemP} {fr : Nat} : toks I fr [] = [] := rfl
theorem toks_free {I : List ItemP} {fr : Nat} {s : ByteArray} {w : List ByteArray} (h : recAt I fr (s :: w) = none) : toks I fr (s :: w) = .free s :: toks I fr w := by
 unfold toks
 simp only [List.length_cons, toksF, h]
theorem toks_blk {I : List ItemP} {fr k : Nat} {w : List ByteArray} (hw : 0 < w.length) (h : recAt I fr w = some k) : toks I fr w = .blk k :: toks I (k + 1) (w.drop (oneT I[k]!).length) := by
 cases w with
 | nil => cases hw
 | cons s w =>
  unfold toks
  have := oneT_pos (recAt_some h).2.2.1
  simp only [List.length_cons, toksF, h]
  rw [toksF_fuel w.length ((s :: w).drop (oneT I[k]!).length).length _ _ (by rw [List.length_drop, List.length_cons]; omega) (Nat.le_refl _)]
structure Sec where
 fr : Nat
 to : Nat
 lines : List ByteArray
def secsT (n : Nat) : List Tok -> Nat -> List ByteArray -> List Sec
 | [], fr, cur => [⟨fr, n, cur⟩]
 | .free s :: r, fr, cur => secsT n r fr (cur ++ [s])
 | .blk k :: r, fr, cur => ⟨fr, k, cur⟩ :: secsT n r (k + 1) []
def secs (I : List ItemP) (w : List ByteArray) : List Sec := secsT I.length (toks I 0 w) 0 []
def keepT (K : List Bool) : List Tok -> List Bool
 | [] => K
 | .free _ :: r => keepT K r
 | .blk k :: r => keepT (K.set k true) r
theorem keepT_len : ∀ (l : List Tok) (K : List Bool), (keepT K l).length = K.length
 | [], _ => rfl
 | .free _ :: r, K => keepT_len r K
 | .blk k :: r, K => by simp only [keepT]; rw [keepT_len r]; simp
structure Run where
 fr : Nat
 to : Nat
 lines : List ByteArray
structure RS where
 at_ : Nat
 op : Bool
 runs : List Run
 K : List Bool
def growR (st : RS) : List Run := if st.op then st.runs else st.runs ++ [⟨st.at_, st.at_, []⟩]
def modLast (f : Run -> Run) : List Run -> List Run
 | [] => []
 | [r] => [f r]
 | r :: s :: l => r :: modLast f (s :: l)
def stepU (ls : List ByteArray) (st : RS) (t : Int × Int × Int) : RS :=
 if t.1 = 0 then ⟨st.at_ + 1, false, st.runs, st.K.set st.at_ true⟩
 else if t.1 = 1 then ⟨st.at_ + 1, true, modLast (fun r => { r with to := st.at_ + 1 }) (growR st), st.K⟩
 else ⟨st.at_, true, modLast (fun r => { r with lines := r.lines ++ [ls[t.2.2.toNat]!] }) (growR st), st.K⟩
def neverB : ByteArray := ⟨#[10]⟩
def txtI (x : ItemP) : ByteArray := if x.block then neverB else x.lines[0]!.text
def txts (I : List ItemP) (fr to : Nat) : List ByteArray := ((I.take to).drop fr).map txtI
def runsR (I : List ItemP) (s : Sec) (K : List Bool) : RS := (scr (txts I s.fr s.to) s.lines).foldl (stepU s.lines) ⟨s.fr, false, [], K⟩
def allR (I : List ItemP) : List Sec -> List Bool -> List Run × List Bool
 | [], K => ([], K)
 | s :: r, K => let x := runsR I s K; let y := allR I r x.K; (x.runs ++ y.1, y.2)
theorem stepU_len (ls : List ByteArray) (st : RS) (t : Int × Int × Int) : (stepU ls st t).K.length = st.K.length := by
 unfold stepU
 split
 ·simp
 split <;> rfl
theorem foldU_len (ls : List ByteArray) : ∀ (l : List (Int × Int × Int)) (st : RS), (l.foldl (stepU ls) st).K.length = st.K.length
 | [], _ => rfl
 | t :: l, st => by rw [List.foldl_cons, foldU_len ls l, stepU_len]
structure HunkP where
 up : Vtx
 down : Vtx
 lines : List ByteArray
 gone : List Vtx
def solidK (I : List ItemP) (K : List Bool) (i : Nat) : Bool := K[i]! && !I[i]!.block
def headV (x : ItemP) : Vtx := x.lines[0]!.v
def upK (I : List ItemP) (K : List Bool) (fr : Nat) : Vtx := ((((List.range fr).filter (solidK I K)).getLast?).map fun i => headV I[i]!).getD rootV
def downK (I : List ItemP) (K : List Bool) (to : Nat) : Vtx := ((((List.range I.length).filter fun i => decide (to <= i) && solidK I K i).head?).map fun i => headV I[i]!).getD endV
def goneK (I : List ItemP) (r : Run) : List Vtx := ((I.take r.to).drop r.fr).flatMap fun x => x.lines.map LineP.v
def takes (t : Int × Int × Int) : Bool := decide (t.1 ≠ 2)
theorem scrF_ops {α : Type} [DecidableEq α] : ∀ (f i j : Nat) (xs ys : List α), xs.length + ys.length <= f -> (∀ t ∈ scrF f i j xs ys, (t.1 = 0 ∨ t.1 = 1 ∨ t.1 = 2) /\ (t.1 = 2 -> ∃ b : Nat, t.2.2 = (b : Int) /\ j <= b /\ b < j + ys.length)) /\ ((scrF f i j xs ys).filter takes).length = xs.length
 | 0, i, j, xs, ys, h => by
  have h1 : xs = [] := List.eq_nil_of_length_eq_zero (by omega)
  subst h1
  exact ⟨fun t ht => by simp [scrF] at ht, by simp [scrF]⟩
 | f + 1, i, j, [], [], h => ⟨fun t ht => by simp [scrF] at ht, by simp [scrF]⟩
 | f + 1, i, j, x :: xs, [], h => by
  simp only [List.length_cons, List.length_nil] at h
  obtain ⟨h1, h2⟩ := scrF_ops f (i + 1) j xs [] (by simp; omega)
  simp only [scrF]
  refine ⟨fun t ht => ?_, by simp [takes, h2]⟩
  rcases List.mem_cons.1 ht with rfl | ht
  ·exact ⟨.inr (.inl rfl), fun e => by cases e⟩
  exact h1 t ht
 | f + 1, i, j, [], y :: ys, h => by
  simp only [List.length_cons, List.length_nil] at h
  obtain ⟨h1, h2⟩ := scrF_ops f i (j + 1) [] ys (by simp; omega)
  simp only [scrF]
  refine ⟨fun t ht => ?_, by simpa [takes] using h2⟩
  rcases List.mem_cons.1 ht with rfl | ht
  ·exact ⟨.inr (.inr rfl), fun _ => ⟨j, rfl, by omega, by simp⟩⟩
  refine ⟨(h1 t ht).1, fun e => ?_⟩
  obtain ⟨b, e1, e2, e3⟩ := (h1 t ht).2 e
  exact ⟨b, e1, by omega, by simp only [List.length_cons]; omega⟩
 | f + 1, i, j, x :: xs, y :: ys, h => by
  simp only [List.length_cons] at h
  simp only [scrF]
  split
  ·obtain ⟨h1, h2⟩ := scrF_ops f (i + 1) (j + 1) xs ys (by omega)
   refine ⟨fun t ht => ?_, by simp [takes, h2]⟩
   rcases List.mem_cons.1 ht with rfl | ht
   ·exact ⟨.inl rfl, fun e => by cases e⟩
   refine ⟨(h1 t ht).1, fun e => ?_⟩
   obtain ⟨b, e1, e2, e3⟩ := (h1 t ht).2 e
   exact ⟨b, e1, by omega, by simp only [List.length_cons]; omega⟩
  split
  ·obtain ⟨h1, h2⟩ := scrF_ops f (i + 1) j xs (y :: ys) (by simp; omega)
   refine ⟨fun t ht => ?_, by simp [takes, h2]⟩
   rcases List.mem_cons.1 ht with rfl | ht
   ·exact ⟨.inr (.inl rfl), fun e => by cases e⟩
   exact h1 t ht
  obtain ⟨h1, h2⟩ := scrF_ops f i (j + 1) (x :: xs) ys (by simp; omega)
  refine ⟨fun t ht => ?_, by simpa [takes] using h2⟩
  rcases List.mem_cons.1 ht with rfl | ht
  ·exact ⟨.inr (.inr rfl), fun _ => ⟨j, rfl, by omega, by simp⟩⟩
  refine ⟨(h1 t ht).1, fun e => ?_⟩
  obtain ⟨b, e1, e2, e3⟩ := (h1 t ht).2 e
  exact ⟨b, e1, by omega, by simp only [List.length_cons]; omega⟩
theorem scr_op {α : Type} [DecidableEq α] {xs ys : List α} {t : Int × Int × Int} (h : t ∈ scr xs ys) : t.1 = 0 ∨ t.1 = 1 ∨ t.1 = 2 := ((scrF_ops _ 0 0 xs ys (Nat.le_refl _)).1 t h).1
theorem scr_new {α : Type} [DecidableEq α] {xs ys : List α} {t : Int × Int × Int} (h : t ∈ scr xs ys) (e : t.1 = 2) : ∃ b : Nat, t.2.2 = (b : Int) /\ b < ys.length := by
 obtain ⟨b, e1, _, e3⟩ := ((scrF_ops _ 0 0 xs ys (Nat.le_refl _)).1 t h).2 e
 exact ⟨b, e1, by omega⟩
theorem scr_takes {α : Type} [DecidableEq α] (xs ys : List α) : ((scr xs ys).filter takes).length = xs.length := (scrF_ops _ 0 0 xs ys (Nat.le_refl _)).2
theorem foldU_at (ls : List ByteArray) : ∀ (l : List (Int × Int × Int)) (st : RS), (∀ t ∈ l, t.1 = 0 ∨ t.1 = 1 ∨ t.1 = 2) -> (l.foldl (stepU ls) st).at_ = st.at_ + (l.filter takes).length
 | [], st, _ => by simp
 | t :: l, st, h => by
  rw [List.foldl_cons, foldU_at ls l _ (fun x hx => h x (List.mem_cons_of_mem _ hx))]
  have ht := h t (List.mem_cons_self ..)
  unfold stepU
  rcases ht with e | e | e
  ·rw [if_pos e, List.filter_cons, if_pos (by simp [takes, e])]; simp; omega
  ·rw [if_neg (by rw [e]; decide), if_pos e, List.filter_cons, if_pos (by simp [takes, e])]; simp; omega
  rw [if_neg (by rw [e]; decide), if_neg (by rw [e]; decide), List.filter_cons, if_neg (by simp [takes, e])]
end Go.Proofs.Gr

namespace Go.Proofs.Gr
open Go.SL Go.RowKit Go.Proofs Go.GP
set_option maxHeartbeats 1000000
theorem equal_fc {w0 : World} {S : SS} {A B : Option Addr} {c d : Nat} {a b : List ByteArray} (hx : Rd w0 S A (strs a)) (hy : Rd w0 S B (strs b)) (ha : a.length <= 1000000000000) (hb : b.length <= 1000000000000) :
  FC Try.prog w0 126 [.slice A a.length c, .slice B b.length d] S (fun u S' => u = .bool (decide (a = b)) /\ S' = S) := by
 refine FC.of Try.known126 (by simp) ?_
 unfold Try.pc126
 simp only [argT]
 refine PW.seqOps (OL.dp rfl (OL.nil (PW.k2 0 1 rfl ?_)))
 refine PW.seq fun K1 hK1 => ?_
 refine PW.seqOps (OL.dp rfl (OL.dp rfl (OL.dp rfl (OL.dp rfl (OL.dp rfl (OL.nil (PW.k3 0 1 10 rfl ?_)))))))
 refine PW.cond rfl (fun c10 => ?_) (fun c10 => ?_)
 ·try simp only [cvS] at c10
  refine PW.seqOps (OL.dp rfl (OL.nil (PW.k1 4 rfl (PW.ret ?_))))
  change (Exit.ret = Exit.normal ∨ Exit.ret = Exit.ret) /\ ∃ v, resV _ _ = some v /\ _
  refine ⟨.inr rfl, _, rfl, congrArg Value.bool (Eq.symm (decide_eq_false fun e => ?_)), rfl⟩
  subst e
  exact absurd rfl c10
 try simp only [cvS] at c10
 refine PW.skip ?_
 refine hK1 _ _ ?_
 refine PW.k2 0 1 rfl ?_
 refine PW.seq fun K2 hK2 => ?_
 refine PW.seqOps (OL.dp rfl (OL.dp rfl (OL.dp rfl (OL.nil (PW.k4 0 1 12 13 rfl (PW.block (PW.k4 0 1 12 13 rfl ?_)))))))
 refine PW.loopK (I := fun m T S' => ∃ (k : Nat), (k <= a.length /\ a.length = b.length /\ m = a.length - k /\ a.take k = b.take k) /\ T = ([(0, .slice A a.length c), (1, .slice B b.length d), (12, .int .i64 (a.length : Int)), (13, .int .i64 k)] : TT) /\ S' = S) (m := a.length) ⟨0, ⟨by omega, by omega, by omega, rfl⟩, rfl, rfl⟩ ?_
 rintro m _ _ ⟨k, ⟨hk, hab, hm, ht⟩, rfl, rfl⟩
 refine PW.seqOps (OL.dp rfl (OL.nil (PW.k5 0 1 12 13 14 rfl ?_)))
 refine PW.seq fun K3 hK3 => ?_
 refine PW.cond rfl (fun c14 => ?_) (fun c14 => ?_)
 ·try simp only [cvS] at c14
  have hkl : k < a.length := by omega
  obtain ⟨a0, rfl⟩ := strs_some hx (by omega)
  obtain ⟨b0, rfl⟩ := strs_some hy (by omega)
  have hx2 := hx
  have hy2 := hy
  refine PW.skip ?_
  refine hK3 _ _ ?_
  refine PW.k4 0 1 12 13 rfl ?_
  refine PW.seq fun K4 hK4 => ?_
  refine PW.block (PW.seqOps (OL.dp rfl (OL.dp rfl (OL.nil (PW.k5 0 1 5 12 13 rfl ?_)))))
  refine PW.seq fun K5 hK5 => ?_
  refine PW.quietK Try.mixed (QK.dp rfl (QK.dp rfl ?_))
  refine QK.det trivial (.ixN1 rfl rfl rfl (by omega)) ?_
  refine QK.det trivial (.ld rfl (str_at hx2 hkl)) (QK.dp rfl (QK.dp rfl ?_))
  refine QK.det trivial (.ixN1 rfl rfl rfl (by omega)) ?_
  refine QK.det trivial (.ld rfl (str_at hy2 (by omega))) ?_
  refine QK.nil ?_
  change OL _ _ _ [_] _ _ _
  refine OL.dp rfl (OL.nil ?_)
  refine hK5 _ _ ?_
  refine PW.k5 0 1 12 13 24 rfl ?_
  refine PW.cond rfl (fun c24 => ?_) (fun c24 => ?_)
  ·skip
   refine PW.seqOps (OL.dp rfl (OL.nil (PW.k1 4 rfl (PW.ret ?_))))
   change (Exit.ret = Exit.normal ∨ Exit.ret = Exit.ret) /\ ∃ v, resV _ _ = some v /\ _
   refine ⟨.inr rfl, _, rfl, congrArg Value.bool (Eq.symm (decide_eq_false fun e => ?_)), rfl⟩
   subst e
   simp at c24
  skip
  refine PW.skip ?_
  refine hK4 _ _ ?_
  refine PW.k4 0 1 12 13 rfl (PW.ops ?_)
  refine OL.det trivial (.add64 rfl rfl (by omega) (by omega)) ?_
  refine OL.dp rfl (OL.nil ?_)
  repeat rw [inBlk_n]
  try rw [thenK_n]
  refine LoopEnd.mk (T'' := [(0, _), (1, _), (12, _), (13, _)]) (wi rfl) ?_
  have he : a[k] = b[k]'(by omega) := by
   have h1 : a[k].toList = (b[k]'(by omega)).toList := by simpa using c24
   exact toL_inj.1 h1
  exact ⟨a.length - (k + 1), by omega, k + 1, ⟨by omega, hab, rfl, by rw [ltake_snoc hkl, ltake_snoc (show k < b.length by omega), ht, he]⟩, rfl, rfl⟩
 try simp only [cvS] at c14
 refine PW.exit ?_
 refine hK2 _ _ ?_
 refine PW.keep (T' := []) trivial (PW.seqOps (OL.dp rfl (OL.nil (PW.k1 4 rfl (PW.ret ?_)))))
 change (Exit.ret = Exit.normal ∨ Exit.ret = Exit.ret) /\ ∃ v, resV _ _ = some v /\ _
 have hke : k = a.length := by omega
 refine ⟨.inr rfl, _, rfl, congrArg Value.bool (Eq.symm (decide_eq_true ?_)), rfl⟩
 rw [hke, List.take_length, hab, List.take_length] at ht
 exact ht
theorem strs_pre {w0 : World} {S : SS} {A : Option Addr} {l : List ByteArray} {k : Nat} (h : Rd w0 S A (strs l)) : Rd w0 S A (strs (l.take k)) :=
 h.pre (by unfold strs; rw [List.map_take]; exact List.take_prefix _ _)
theorem begins_fc {w0 : World} {S : SS} {A B : Option Addr} {c d : Nat} {a b : List ByteArray} (hx : Rd w0 S A (strs a)) (hy : Rd w0 S B (strs b)) (ha : a.length <= 1000000000000) (hb : b.length <= 1000000000000) (hc : a.length <= c) :
  FC Try.prog w0 115 [.slice A a.length c, .slice B b.length d] S (fun u S' => u = .bool (begT a b) /\ S' = S) := by
 refine FC.of Try.known115 (by simp) ?_
 unfold Try.pc115
 simp only [argT]
 refine PW.seqOps (OL.dp rfl (OL.nil (PW.k2 0 1 rfl (PW.seqOps (OL.dp rfl (OL.dp rfl (OL.dp rfl (OL.dp rfl ?_))))))))
 refine OL.bool trivial (Yields.pure rfl) (fun g9 => ?_) (fun g9 => ?_)
 ·try simp only [cvS] at g9
  have hle : b.length <= a.length := by omega
  have htl : (a.take b.length).length = b.length := by rw [List.length_take]; omega
  refine OL.dp rfl (OL.det rfl (.pure rfl) (OL.det rfl (.pure rfl) (OL.det rfl (.pure rfl) ?_)))
  refine OL.det rfl (.to (v' := .slice A (a.take b.length).length c) (Yields.slS (l := 0) (h := b.length) rfl rfl rfl (.inr ⟨rfl, rfl⟩) (.inl rfl) (by omega) (by omega)) (by rw [cutV0, htl])) ?_
  refine OL.det rfl (.pure rfl) ?_
  refine OL.call rfl rfl (equal_fc (strs_pre hx) hy (by omega) hb) ?_
  rintro _ Sx ⟨rfl, hSx⟩
  rw [hSx]
  clear hSx
  refine OL.dp rfl (OL.dp rfl (OL.nil (PW.k1 4 rfl (PW.ret ?_))))
  change (Exit.ret = Exit.normal ∨ Exit.ret = Exit.ret) /\ ∃ v, resV _ _ = some v /\ _
  exact ⟨.inr rfl, _, rfl, congrArg Value.bool (by unfold begT; first | (rw [decide_eq_true hle]; rfl) | (rw [decide_eq_false (by omega)]; rfl)), rfl⟩
 try simp only [cvS] at g9
 refine OL.dp rfl (OL.off rfl rfl (OL.off rfl rfl (OL.off rfl rfl (OL.off rfl rfl (OL.off rfl rfl (OL.off rfl rfl (OL.dp rfl (OL.dp rfl (OL.nil (PW.k1 4 rfl (PW.ret ?_)))))))))))
 change (Exit.ret = Exit.normal ∨ Exit.ret = Exit.ret) /\ ∃ v, resV _ _ = some v /\ _
 exact ⟨.inr rfl, _, rfl, congrArg Value.bool (by unfold begT; first | (rw [decide_eq_true hle]; rfl) | (rw [decide_eq_false (by omega)]; rfl)), rfl⟩
structure TM where
 A : Option Addr
 c : Nat
 l : List ByteArray
instance : Inhabited TM := ⟨⟨none, 0, []⟩⟩
def toldC (t : TM) : Value := .slice t.A t.l.length t.c
def tolds (l : List TM) : List Value := l.map toldC
structure ChM where
 r : Nat
 its : List ItemM
 Ai : Option Addr
 ci : Nat
 tm : List TM
 At : Option Addr
 ct : Nat
 rk : Nat
def ChM.I (c : ChM) : List ItemP := c.its.map ItemM.pl
def ChM.cells (c : ChM) : List Value := [.slice c.Ai c.its.length c.ci, .slice c.At c.tm.length c.ct, .slice (some ⟨c.rk, 0, none⟩) c.its.length c.its.length]
abbrev cseg (c : ChM) : Seg := [(c.r, .cells c.cells 138 3)]
abbrev kseg (c : ChM) (K : List Bool) : Seg := [(c.rk, .cells (K.map Value.bool) 4 (c.its.length * 1))]
def ChM.ptr (c : ChM) : Value := .pointer (some ⟨c.r, 0, none⟩)
structure ChOK (w0 : World) (X : SS) (c : ChM) : Prop where
 items : Rd w0 X c.Ai (itemS c.its)
 rows : ∀ x ∈ c.its, ItemRd w0 X x
 told : Rd w0 X c.At (tolds c.tm)
 tl : c.tm.map (·.l) = c.I.map oneT
 trd : ∀ t ∈ c.tm, Rd w0 X t.A (strs t.l) /\ t.l.length <= t.c /\ t.l.length <= 1000000
 n : c.its.length <= 1000
 icap : c.its.length <= c.ci
 solid : ∀ x ∈ c.its, x.block = false -> 0 < x.lines.length
theorem ChOK.mono {w0 : World} {X Y : SS} {c : ChM} (h : ChOK w0 X c) (ho : Over X Y) : ChOK w0 Y c :=
 ⟨h.items.mono ho, fun x hx => (h.rows x hx).mono ho, h.told.mono ho, h.tl, fun t ht => ⟨(h.trd t ht).1.mono ho, (h.trd t ht).2⟩, h.n, h.icap, h.solid⟩
theorem ChM.I_len (c : ChM) : c.I.length = c.its.length := List.length_map _
theorem ChM.I_get (c : ChM) {k : Nat} (hk : k < c.its.length) : c.I[k]'(by rw [c.I_len]; exact hk) = c.its[k].pl := List.getElem_map _
theorem ChOK.tlen {w0 : World} {X : SS} {c : ChM} (h : ChOK w0 X c) : c.tm.length = c.its.length := by
 have := congrArg List.length h.tl
 simpa [ChM.I_len] using this
theorem ChOK.tget {w0 : World} {X : SS} {c : ChM} (h : ChOK w0 X c) {k : Nat} (hk : k < c.its.length) : (c.tm[k]'(by rw [h.tlen]; exact hk)).l = oneT (c.I[k]'(by rw [c.I_len]; exact hk)) := by
 have h1 : (c.tm.map (·.l))[k]'(by simp [h.tlen, hk]) = (c.I.map oneT)[k]'(by simp [c.I_len, hk]) := by simp only [h.tl]
 simpa using h1
theorem told_at {w0 : World} {S : SS} {a : Addr} {l : List TM} {k : Nat} (h : Rd w0 S (some a) (tolds l)) (hk : k < l.length) : Cell w0 S (a.add k) (toldC l[k]) := h.at (by simp [tolds, hk])
theorem tolds_some {w0 : World} {S : SS} {A : Option Addr} {l : List TM} (h : Rd w0 S A (tolds l)) (hk : 0 < l.length) : ∃ a, A = some a :=
 h.some (fun e => by have := congrArg List.length e; simp [tolds] at this; subst this; simp at hk)
def optI : Option Nat -> Int
 | some k => k
 | none => -1
theorem block_fc2 {w0 : World} {S : SS} {c : ChM} {W : Option Addr} {cw fr : Nat} {w : List ByteArray} (h : ChOK w0 S c) (hS : Over [cseg c] S) (hw : Rd w0 S W (strs w)) (hwc : w.length <= cw) (hwl : w.length <= 1000000000000) (hfr : fr <= c.its.length) :
  FC Try.prog w0 100 [c.ptr, .int .i64 (fr : Int), .slice W w.length cw] S (fun v S' => v = .int .i64 (optI (recAt c.I fr w)) /\ S' = S) := by
 have hn := h.n
 have hIl := c.I_len
 have htn := h.tlen
 refine FC.of Try.known100 (by simp) ?_
 unfold Try.pc100
 simp only [argT]
 refine PW.seqOps (OL.dp rfl (OL.nil (PW.k3 0 1 2 rfl ?_)))
 refine PW.seq fun K1 hK1 => ?_
 refine PW.seqOps (OL.dp rfl (OL.dp rfl (OL.nil (PW.k3 0 2 7 rfl (PW.block (PW.k3 0 2 7 rfl ?_))))))
 refine PW.loopK (I := fun mm T S' => ∃ (k : Nat), (k <= c.its.length /\ mm = c.its.length - k /\ recAt c.I fr w = recAt c.I k w) /\ T = ([(0, c.ptr), (2, .slice W w.length cw), (7, .int .i64 k)] : TT) /\ S' = S) (m := c.its.length - fr) ⟨fr, ⟨hfr, rfl, rfl⟩, rfl, rfl⟩ ?_
 rintro mm _ _ ⟨k, ⟨hk, hmm, hrec⟩, rfl, rfl⟩
 refine PW.seq fun K2 hK2 => ?_
 refine PW.seqOps (OL.dp rfl (OL.dp rfl (OL.det trivial (Yields.nilc rfl) (OL.dp rfl ?_))))
 refine OL.det trivial (.ld rfl (own_at (j := 0) (c := c.cells) (E := 138) (tot := 3) (hS _ (by simp)) rfl)) ?_
 refine OL.dp rfl (OL.dp rfl (OL.nil (PW.k4 0 2 7 15 rfl ?_)))
 refine PW.cond rfl (fun c15 => ?_) (fun c15 => ?_)
 ·try simp only [cvS] at c15
  have hkl : k < c.its.length := by omega
  obtain ⟨a0, ha0⟩ := itemS_some h.items (by omega)
  have hr2 := h.items
  rw [ha0] at hr2
  obtain ⟨b0, hb0⟩ := tolds_some h.told (by omega)
  have ht2 := h.told
  rw [hb0] at ht2
  have htg := h.tget hkl
  have hig := c.I_get hkl
  refine PW.skip ?_
  refine hK2 _ _ ?_
  refine PW.k3 0 2 7 rfl ?_
  refine PW.seq fun K3 hK3 => ?_
  refine PW.block (PW.seqOps (OL.dp rfl (OL.det trivial (Yields.nilc rfl) (OL.dp rfl ?_))))
  refine OL.det trivial (.ld rfl (own_at (j := 0) (c := c.cells) (E := 138) (tot := 3) (hS _ (by simp)) rfl)) ?_
  refine OL.dp rfl ?_
  rw [ha0]
  refine OL.det trivial (.ixN rfl rfl rfl hkl) (OL.dp rfl (OL.det trivial (.ld rfl (item_at hr2 hkl _ _ rfl)) ?_))
  refine OL.bool trivial (Yields.pure rfl) (fun g26 => ?_) (fun g26 => ?_)
  ·try simp only [cvS] at g26
   refine OL.det rfl (.pure rfl) (OL.det rfl (.pure rfl) (OL.det rfl (Yields.nilc rfl) (OL.det rfl (.pure rfl) ?_)))
   refine OL.det rfl (.ld rfl (own_at (j := 1) (c := c.cells) (E := 138) (tot := 3) (hS _ (by simp)) rfl)) ?_
   refine OL.det rfl (.pure rfl) ?_
   rw [hb0]
   refine OL.det rfl (.ixN1 rfl rfl rfl (by omega)) ?_
   refine OL.det rfl (.ld rfl (told_at ht2 (by omega))) ?_
   refine OL.call rfl rfl (begins_fc hw (h.trd _ (List.getElem_mem (by omega))).1 hwl (by have := (h.trd _ (List.getElem_mem (show k < c.tm.length by omega))).2.2; omega) hwc) ?_
   rintro _ Sx ⟨rfl, hSx⟩
   rw [hSx]
   clear hSx
   refine OL.dp rfl (OL.nil (PW.k4 0 2 7 36 rfl ?_))
   refine PW.cond rfl (fun c36 => ?_) (fun c36 => ?_)
   ·skip
    refine PW.seqOps (OL.dp rfl (OL.dp rfl (OL.nil (PW.k1 6 rfl (PW.ret ?_)))))
    change (Exit.ret = Exit.normal ∨ Exit.ret = Exit.ret) /\ ∃ v, resV _ _ = some v /\ _
    have hhe := recAt_here (I := c.I) (fr := k) (w := w) (by omega) (by rw [<- htg, c36, Bool.and_true, hig]; exact g26)
    exact ⟨.inr rfl, _, rfl, by rw [hrec, hhe]; rfl, rfl⟩
   skip
   refine PW.skip ?_
   refine hK3 _ _ ?_
   refine PW.k3 0 2 7 rfl (PW.ops (OL.dp rfl ?_))
   refine OL.det trivial (.add64 rfl rfl (by omega) (by omega)) ?_
   refine OL.dp rfl (OL.nil ?_)
   repeat rw [inBlk_n]
   try rw [thenK_n]
   refine LoopEnd.mk (T'' := [(0, _), (2, _), (7, _)]) (wi rfl) ?_
   have hnx := recAt_next (I := c.I) (fr := k) (w := w) (by omega) (by rw [<- htg, c36, Bool.and_false])
   exact ⟨c.its.length - (k + 1), by omega, k + 1, ⟨by omega, rfl, by rw [hrec, hnx]⟩, rfl, rfl⟩
  try simp only [cvS] at g26
  refine OL.off rfl rfl (OL.off rfl rfl (OL.off rfl rfl (OL.off rfl rfl (OL.off rfl rfl (OL.off rfl rfl (OL.off rfl rfl (OL.off rfl rfl (OL.off rfl rfl (OL.dp rfl (OL.nil (PW.k4 0 2 7 36 rfl ?_)))))))))))
  refine PW.ite (b := false) rfl ?_
  rw [if_neg Bool.false_ne_true]
  refine PW.skip ?_
  refine hK3 _ _ ?_
  refine PW.k3 0 2 7 rfl (PW.ops (OL.dp rfl ?_))
  refine OL.det trivial (.add64 rfl rfl (by omega) (by omega)) ?_
  refine OL.dp rfl (OL.nil ?_)
  repeat rw [inBlk_n]
  try rw [thenK_n]
  refine LoopEnd.mk (T'' := [(0, _), (2, _), (7, _)]) (wi rfl) ?_
  have hnx := recAt_next (I := c.I) (fr := k) (w := w) (by omega) (by rw [hig]; show (c.its[k].block && _) = false; rw [g26, Bool.false_and])
  exact ⟨c.its.length - (k + 1), by omega, k + 1, ⟨by omega, rfl, by rw [hrec, hnx]⟩, rfl, rfl⟩
 try simp only [cvS] at c15
 refine PW.exit ?_
 refine hK1 _ _ ?_
 refine PW.keep (T' := []) trivial (PW.seqOps (OL.dp rfl (OL.nil (PW.k1 6 rfl (PW.ret ?_)))))
 change (Exit.ret = Exit.normal ∨ Exit.ret = Exit.ret) /\ ∃ v, resV _ _ = some v /\ _
 have hen := recAt_end (I := c.I) (fr := k) (w := w) (by omega)
 exact ⟨.inr rfl, _, rfl, by rw [hrec, hen]; rfl, rfl⟩
theorem itemS_drop (l : List ItemM) (i : Nat) : itemS (l.drop i) = (itemS l).drop (i * 3) := by
 by_cases h : i <= l.length
 ·have e := itemS_app (l.take i) (l.drop i)
  rw [List.take_append_drop] at e
  have hl : (itemS (l.take i)).length = i * 3 := by rw [itemS_len, List.length_take, Nat.min_eq_left h]
  rw [e, <- hl, List.drop_left]
 rw [List.drop_eq_nil_of_le (by omega), List.drop_eq_nil_of_le (by rw [itemS_len]; omega)]; rfl
theorem itemS_take (l : List ItemM) (i : Nat) : itemS (l.take i) <+: itemS l := by
 conv => rhs; rw [<- List.take_append_drop i l, itemS_app]
 exact List.prefix_append _ _
theorem cutI {A : Option Addr} {cap i j : Nat} {l : List ItemM} (hij : i <= j) (hj : j <= l.length) (hl : l.length <= cap) :
  ∃ A' c', cutV A cap 3 i j = .slice A' ((l.take j).drop i).length c' /\ ∀ (w0 : World) (S : SS), Rd w0 S A (itemS l) -> Rd w0 S A' (itemS ((l.take j).drop i)) := by
 have hlen : ((l.take j).drop i).length = j - i := by rw [List.length_drop, List.length_take]; omega
 unfold cutV
 rw [<- hlen]
 refine ⟨_, _, rfl, fun w0 S h => ?_⟩
 split
 ·have : ((l.take j).drop i) = [] := List.eq_nil_of_length_eq_zero (by omega)
  rw [this]
  exact Rd.nil
 intro q v hq
 rw [itemS_drop, List.getElem?_drop] at hq
 have h2 := h.pre (itemS_take l j)
 obtain ⟨a, rfl, hc⟩ := h2 _ _ hq
 exact ⟨a.add (i * 3), rfl, by rw [addr_add_add]; exact hc⟩
def secV (s : Sec) (A : Option Addr) (c : Nat) : Value := .agg #[.int .i64 (s.fr : Int), .int .i64 (s.to : Int), .slice A s.lines.length c]
def secC (s : Sec) (A : Option Addr) (c : Nat) : List Value := [.int .i64 (s.fr : Int), .int .i64 (s.to : Int), .slice A s.lines.length c]
abbrev sseg (r : Nat) (s : Sec) (A : Option Addr) (c : Nat) : Seg := [(r, .cells (secC s A c) 144 3)]
def txtM (x : ItemM) : ByteArray := txtI x.pl
theorem txts_M (c : ChM) (fr to : Nat) : txts c.I fr to = ((c.its.take to).drop fr).map txtM := by
 unfold txts ChM.I
 rw [<- List.map_take, <- List.map_drop, List.map_map]
 rfl
theorem txtM_len {L : List ItemM} {k : Nat} (hk : k < L.length) : ((L.take (k + 1)).map txtM) = (L.take k).map txtM ++ [txtM L[k]] := by
 rw [ltake_snoc hk, List.map_append]; rfl
theorem ctexts_fc {w0 : World} {S : SS} {c : ChM} {s : Sec} {A : Option Addr} {cc : Nat} (h : ChOK w0 S c) (hS : Over [cseg c] S) (hf : s.fr <= s.to) (ht : s.to <= c.its.length) :
  FC Try.prog w0 105 [c.ptr, secV s A cc] S (fun v S' => ∃ seg, S' = seg :: S /\ SlV 9 1 v (txts c.I s.fr s.to).length (strs (txts c.I s.fr s.to)) seg) := by
 have hn := h.n
 rw [txts_M]
 obtain ⟨A', c', hcut, hrd0⟩ := cutI (A := c.Ai) hf ht h.icap
 obtain ⟨L, hL⟩ : ∃ z, z = (c.its.take s.to).drop s.fr := ⟨_, rfl⟩
 have hLl : L.length <= 1000 := by rw [hL, List.length_drop, List.length_take]; omega
 have hLm : ∀ x ∈ L, x ∈ c.its := fun x hx => by rw [hL] at hx; exact List.mem_of_mem_take (List.mem_of_mem_drop hx)
 rw [<- hL] at hcut hrd0 ⊢
 refine FC.ofD Try.known105 (by simp) ?_
 unfold Try.pc105
 simp only [argT]
 refine PW.nilseg (PW.seqOps (OL.cons trivial (OW.bx rfl) ?_))
 rintro _ _ ⟨r3, rfl, rfl⟩
 change OL _ _ _ _ _ (sseg r3 s A cc :: ([] :: S)) _
 refine OL.dp rfl (OL.nil (PW.k3 0 3 4 rfl ?_))
 refine PW.seq fun K1 hK1 => ?_
 refine PW.seq fun K2 hK2 => ?_
 refine PW.quietK Try.mixed (QK.dp rfl (QK.det trivial (Yields.nilc rfl) (QK.dp rfl ?_)))
 refine QK.det trivial (.ld rfl (own_at (j := 0) (c := c.cells) (E := 138) (tot := 3) (hS.cons.cons _ (by simp)) rfl)) ?_
 refine QK.dp rfl (QK.det trivial (.ld rfl (own_at (j := 0) (c := secC s A cc) (E := 144) (tot := 3) zM0 rfl)) (QK.dp rfl (QK.det trivial (.ld rfl (own_at (j := 1) (c := secC s A cc) (E := 144) (tot := 3) zM0 rfl)) ?_)))
 refine QK.det trivial (.to (v' := .slice A' L.length c') (Yields.slS (l := s.fr) (h := s.to) rfl rfl rfl (.inl rfl) (.inl rfl) hf (by have := h.icap; omega)) hcut) ?_
 refine QK.dp rfl (QK.dp rfl (QK.nil ?_))
 change OL _ _ _ [] _ _ _
 refine OL.nil ?_
 refine hK2 _ _ ?_
 refine PW.k4 4 15 16 17 rfl (PW.block (PW.k4 4 15 16 17 rfl ?_))
 refine PW.loopK (I := fun mm T S' => ∃ (k : Nat) (v : Value) (sg : Seg), (k <= L.length /\ mm = L.length - k /\ SlV 9 1 v ((L.take k).map txtM).length (strs ((L.take k).map txtM)) sg) /\ T = ([(4, v), (15, .slice A' L.length c'), (16, .int .i64 (L.length : Int)), (17, .int .i64 k)] : TT) /\ S' = sseg r3 s A cc :: (sg :: S)) (m := L.length) ⟨0, _, [], ⟨by omega, by omega, SlV.nil 9 1⟩, rfl, rfl⟩ ?_
 rintro mm _ _ ⟨k, v, sg, ⟨hk, hmm, hsg⟩, rfl, rfl⟩
 refine PW.seqOps (OL.dp rfl (OL.nil (PW.k5 4 15 16 17 18 rfl ?_)))
 refine PW.seq fun K3 hK3 => ?_
 refine PW.cond rfl (fun c18 => ?_) (fun c18 => ?_)
 ·try simp only [cvS] at c18
  have hkl : k < L.length := by omega
  obtain ⟨a0, rfl⟩ := itemS_some (hrd0 w0 S h.items) (by omega)
  have hr2 : Rd w0 (sseg r3 s A cc :: (sg :: S)) (some a0) (itemS L) := (hrd0 w0 S h.items).cons.cons
  have hvl : ((L.take k).map txtM).length <= 1000 := by rw [List.length_map, List.length_take]; omega
  have htl := txtM_len hkl
  refine PW.skip ?_
  refine hK3 _ _ ?_
  refine PW.k4 4 15 16 17 rfl ?_
  refine PW.seq fun K4 hK4 => ?_
  refine PW.block (PW.seqOps (OL.det trivial (.ixN rfl rfl rfl hkl) (OL.det trivial (.ldA rfl (itemC_len _) (item_at hr2 hkl)) (OL.cons trivial OW.al ?_))))
  rintro _ _ ⟨r6, rfl, rfl⟩
  refine OL.cons trivial (item_st rfl rfl rfl) ?_
  rintro _ _ rfl
  change OL _ _ _ _ _ ([(r6, .cells (itemC L[k]) 73 3)] :: sseg r3 s A cc :: (sg :: S)) _
  refine OL.nil (PW.k5 4 6 15 16 17 rfl (PW.seqOps (OL.dp rfl (OL.det trivial (.ld rfl (own_at (j := 1) (c := itemC L[k]) (E := 73) (tot := 3) zM0 rfl)) (OL.nil (PW.k6 4 6 15 16 17 22 rfl ?_))))))
  refine PW.cond rfl (fun c22 => ?_) (fun c22 => ?_)
  ·skip
   refine PW.ops (OL.dp rfl ?_)
   apply OL.app1 (k := 2)
   ·rfl
   ·rfl
   ·rfl
   ·rfl
   ·rfl
   ·rfl
   ·exact hsg
   ·rfl
   ·omega
   ·unfold maxLen; omega
   intro v25 sgn hsn
   refine OL.dp rfl (OL.nil ?_)
   refine hK4 _ _ ?_
   refine PW.k4 4 15 16 17 rfl (PW.ops ?_)
   refine OL.det trivial (.add64 rfl rfl (by omega) (by omega)) ?_
   refine OL.dp rfl (OL.nil ?_)
   repeat rw [inBlk_n]
   try rw [thenK_n]
   refine LoopEnd.mkS (Sub.drop (Sub.refl _)) (T'' := [(4, _), (15, _), (16, _), (17, _)]) (wi rfl) ?_
   have hte : txtM L[k] = neverB := by unfold txtM txtI; rw [show L[k].pl.block = L[k].block from rfl, c22]; rfl
   exact ⟨L.length - (k + 1), by omega, k + 1, _, sgn, ⟨by omega, rfl, by rw [htl, hte]; exact strs_snoc (z := neverB) hsn⟩, rfl, rfl⟩
  skip
  have hpos := h.solid _ (hLm _ (List.getElem_mem hkl)) c22
  have hrl := (h.rows _ (hLm _ (List.getElem_mem hkl))).rdL
  obtain ⟨b0, hb0⟩ := lines_some hrl hpos
  have hrl2 : Rd w0 ([(r6, .cells (itemC L[k]) 73 3)] :: sseg r3 s A cc :: (sg :: S)) (some b0) (lines L[k].lines) := by rw [<- hb0]; exact hrl.cons.cons.cons
  refine PW.ops (OL.dp rfl (OL.dp rfl (OL.det trivial (.ld rfl (own_at (j := 0) (c := itemC L[k]) (E := 73) (tot := 3) zM0 rfl)) ?_)))
  rw [hb0]
  refine OL.det trivial (.ixN (j := 0) rfl rfl rfl hpos) (OL.dp rfl (OL.det trivial (.ld rfl (line_text (k := 0) hrl2 hpos)) ?_))
  apply OL.app1 (k := 2)
  ·rfl
  ·rfl
  ·rfl
  ·rfl
  ·rfl
  ·rfl
  ·exact hsg
  ·rfl
  ·omega
  ·unfold maxLen; omega
  intro v33 sgn hsn
  refine OL.dp rfl (OL.nil ?_)
  refine hK4 _ _ ?_
  refine PW.k4 4 15 16 17 rfl (PW.ops ?_)
  refine OL.det trivial (.add64 rfl rfl (by omega) (by omega)) ?_
  refine OL.dp rfl (OL.nil ?_)
  repeat rw [inBlk_n]
  try rw [thenK_n]
  refine LoopEnd.mkS (Sub.drop (Sub.refl _)) (T'' := [(4, _), (15, _), (16, _), (17, _)]) (wi rfl) ?_
  have hte : txtM L[k] = L[k].lines[0].text := by unfold txtM txtI; rw [show L[k].pl.block = L[k].block from rfl, c22]; show L[k].lines[0]!.text = _; rw [getElem!_pos _ 0 hpos]
  exact ⟨L.length - (k + 1), by omega, k + 1, _, sgn, ⟨by omega, rfl, by rw [htl, hte]; exact strs_snoc hsn⟩, rfl, rfl⟩
 try simp only [cvS] at c18
 refine PW.exit ?_
 refine hK1 _ _ ?_
 refine PW.k1 4 rfl (PW.seqOps (OL.dp rfl (OL.dp rfl (OL.nil (PW.k1 4 rfl (PW.ret ?_))))))
 change (Exit.ret = Exit.normal ∨ Exit.ret = Exit.ret) /\ ∃ v, resV _ _ = some v /\ _
 have hke : k = L.length := by omega
 rw [hke, List.take_length] at hsg
 exact ⟨.inr rfl, _, rfl, _, Sub.drop (Sub.refl _), sg, rfl, hsg⟩
theorem kept_at {w0 : World} {S : SS} {c : ChM} {K : List Bool} {i : Nat} (hm : kseg c K ∈ S) (hi : i < K.length) : Cell w0 S ((⟨c.rk, 0, none⟩ : Addr).add i) (.bool K[i]) :=
 (Rd.own (E := 4) (tot := c.its.length * 1) (List.mem_flatten.2 ⟨_, hm, List.mem_singleton.2 rfl⟩)).at (by simp [hi])
theorem csolid_fc {w0 : World} {S : SS} {c : ChM} {K : List Bool} {i : Nat} (h : ChOK w0 S c) (hC : cseg c ∈ S) (hK : kseg c K ∈ S) (hk : K.length = c.its.length) (hi : i < c.its.length) :
  FC Try.prog w0 107 [c.ptr, .int .i64 (i : Int)] S (fun v S' => v = .bool (solidK c.I K i) /\ S' = S) := by
 have hn := h.n
 have hki : i < K.length := by omega
 obtain ⟨a0, ha0⟩ := itemS_some h.items (by omega)
 have hr2 := h.items
 rw [ha0] at hr2
 have hsk : solidK c.I K i = (K[i] && !c.its[i].block) := by unfold solidK; rw [getElem!_pos K i hki, getElem!_pos c.I i (by rw [c.I_len]; exact hi), c.I_get hi]; rfl
 refine FC.of Try.known107 (by simp) ?_
 unfold Try.pc107
 simp only [argT]
 refine PW.seqOps (OL.dp rfl (OL.nil (PW.k2 0 1 rfl (PW.seqOps (OL.dp rfl (OL.det trivial (Yields.nilc rfl) (OL.dp rfl (OL.det trivial (.ld rfl (own_at (j := 2) (c := c.cells) (E := 138) (tot := 3) (List.mem_flatten.2 ⟨_, hC, List.mem_singleton.2 rfl⟩) rfl)) (OL.dp rfl (OL.det trivial (.ixN1 rfl rfl rfl hi) (OL.det trivial (.ld rfl (kept_at hK hki)) ?_)))))))))))
 refine OL.bool trivial (Yields.pure rfl) (fun g12 => ?_) (fun g12 => ?_)
 ·try simp only [cvS] at g12
  have hkt : K[i] = true := g12
  refine OL.det rfl (.pure rfl) (OL.det rfl (Yields.nilc rfl) (OL.det rfl (.pure rfl) (OL.det rfl (.ld rfl (own_at (j := 0) (c := c.cells) (E := 138) (tot := 3) (List.mem_flatten.2 ⟨_, hC, List.mem_singleton.2 rfl⟩) rfl)) (OL.det rfl (.pure rfl) ?_))))
  rw [ha0]
  refine OL.det rfl (.ixN rfl rfl rfl hi) (OL.det rfl (.pure rfl) (OL.det rfl (.ld rfl (item_at hr2 hi _ _ rfl)) (OL.det rfl (.pure rfl) (OL.dp rfl (OL.dp rfl (OL.nil (PW.k1 4 rfl (PW.ret ?_))))))))
  change (Exit.ret = Exit.normal ∨ Exit.ret = Exit.ret) /\ ∃ v, resV _ _ = some v /\ _
  exact ⟨.inr rfl, _, rfl, congrArg Value.bool (by rw [hsk, hkt]; first | rfl | simp), rfl⟩
 try simp only [cvS] at g12
 have hkt : K[i] = false := g12
 refine OL.off rfl rfl (OL.off rfl rfl (OL.off rfl rfl (OL.off rfl rfl (OL.off rfl rfl (OL.off rfl rfl (OL.off rfl rfl (OL.off rfl rfl (OL.off rfl rfl (OL.dp rfl (OL.dp rfl (OL.nil ?_)))))))))))
 refine PW.k1 4 rfl (PW.ret ?_)
 change (Exit.ret = Exit.normal ∨ Exit.ret = Exit.ret) /\ ∃ v, resV _ _ = some v /\ _
 exact ⟨.inr rfl, _, rfl, congrArg Value.bool (by rw [hsk, hkt]; first | rfl | simp), rfl⟩
structure RunM where
 fr : Nat
 to : Nat
 A : Option Addr
 c : Nat
 lines : List ByteArray
instance : Inhabited RunM := ⟨⟨0, 0, none, 0, []⟩⟩
def RunM.pl (x : RunM) : Run := ⟨x.fr, x.to, x.lines⟩
def runC (x : RunM) : List Value := [.int .i64 (x.fr : Int), .int .i64 (x.to : Int), .slice x.A x.lines.length x.c]
def runV (x : RunM) : Value := .agg (runC x).toArray
def runsS (l : List RunM) : List Value := l.flatMap runC
theorem runsS_len (l : List RunM) : (runsS l).length = l.length * 3 := by unfold runsS; rw [List.length_flatMap]; simp [runC, List.map_const']
theorem runsS_app (a b : List RunM) : runsS (a ++ b) = runsS a ++ runsS b := by unfold runsS; rw [List.flatMap_append]
theorem runsS_one (l : List RunM) : (runsS l).all (·.oneCell') = true := by
 unfold runsS
 rw [List.all_flatMap]
 exact List.all_eq_true.2 fun x _ => rfl
def rrow (ro co : Nat) (l : List RunM) : Seg := [(ro, .cells (runsS l) 147 (co * 3))]
abbrev bcell (r : Nat) (b : Bool) : Seg := [(r, .cells [.bool b] 4 1)]
abbrev icell (r : Nat) (i : Nat) : Seg := [(r, .cells [.int .i64 (i : Int)] 3 1)]
abbrev ocell (r : Nat) (v : Value) : Seg := [(r, .cells [v] 142 1)]
def growM (op : Bool) (at_ : Nat) (l : List RunM) : List RunM := if op then l else l ++ [⟨at_, at_, none, 0, []⟩]
theorem slv_runs {v : Value} {l : List RunM} {seg : Seg} (h : SlV 147 3 v l.length (runsS l) seg) (h0 : 0 < l.length) : ∃ ro co, v = .slice (some ⟨ro, 0, none⟩) l.length co /\ seg = rrow ro co l /\ l.length <= co /\ co <= maxLen := by
 obtain ⟨_, ⟨_, h1, _⟩ | ⟨r, cap, h1, h2, h3, h4⟩⟩ := h
 ·omega
 exact ⟨r, cap, h1, h2, h3, h4⟩
theorem grow_fc {w0 : World} {S : SS} {ro_ rv ra at_ : Nat} {op : Bool} {v : Value} {sg : Seg} {l : List RunM} (hv : SlV 147 3 v l.length (runsS l) sg) (hop : op = true -> 0 < l.length) (hl : l.length <= 100000) :
  FC Try.prog w0 106 [.pointer (some ⟨ro_, 0, none⟩), .pointer (some ⟨rv, 0, none⟩), .pointer (some ⟨ra, 0, none⟩)] (bcell ro_ op :: ocell rv v :: icell ra at_ :: sg :: S) (fun u S' => ∃ qo co, u = .pointer (some ⟨qo, ((growM op at_ l).length - 1) * 3, none⟩) /\ S' = bcell ro_ true :: ocell rv (.slice (some ⟨qo, 0, none⟩) (growM op at_ l).length co) :: icell ra at_ :: rrow qo co (growM op at_ l) :: S /\ (growM op at_ l).length <= co /\ co <= maxLen) := by
 refine FC.of Try.known106 (by simp) ?_
 unfold Try.pc106
 simp only [argT]
 refine PW.seqOps (OL.dp rfl (OL.nil (PW.k3 0 1 2 rfl ?_)))
 refine PW.seq fun K1 hK1 => ?_
 refine PW.seqOps (OL.det trivial (.ld rfl (own_at (j := 0) (c := [.bool op]) (E := 4) (tot := 1) zM0 rfl)) (OL.dp rfl (OL.nil (PW.k4 0 1 2 5 rfl ?_))))
 refine PW.cond rfl (fun c5 => ?_) (fun c5 => ?_)
 ·try simp only [cvS] at c5
  subst c5
  obtain ⟨L, hL⟩ : ∃ z, z = l ++ [(⟨at_, at_, none, 0, []⟩ : RunM)] := ⟨_, rfl⟩
  have hLl : L.length = l.length + 1 := by rw [hL]; simp
  refine PW.seqOps (OL.det trivial (.ld rfl (own_at (j := 0) (c := [v]) (E := 142) (tot := 1) zM1 rfl)) (OL.det trivial (.ld rfl (own_at (j := 0) (c := [.int .i64 (at_ : Int)]) (E := 3) (tot := 1) zM2 rfl)) (OL.det trivial (.ld rfl (own_at (j := 0) (c := [.int .i64 (at_ : Int)]) (E := 3) (tot := 1) zM2 rfl)) (OL.det trivial (.build (cs := runC ⟨at_, at_, none, 0, []⟩) rfl) ?_))))
  apply OL.app1 (k := 3)
  ·rfl
  ·rfl
  ·rfl
  ·rfl
  ·rfl
  ·rfl
  ·exact hv
  ·rfl
  ·omega
  ·unfold maxLen; omega
  intro v11 sg2 hv2
  have hv3 : SlV 147 3 v11 (l ++ [(⟨at_, at_, none, 0, []⟩ : RunM)]).length (runsS (l ++ [(⟨at_, at_, none, 0, []⟩ : RunM)])) sg2 := by rw [runsS_app, List.length_append]; exact hv2
  obtain ⟨qo, co, rfl, rfl, hco, hcm⟩ := slv_runs hv3 (by simp)
  refine OL.cons trivial (OW.st (k := 1) rfl rfl rfl rfl (Nat.le_refl 1) rfl) ?_
  rintro _ _ rfl
  refine OL.nil (PW.k2 0 1 rfl (PW.ops (OL.cons trivial (OW.st (k := 0) rfl rfl rfl rfl (Nat.le_refl 1) rfl) ?_)))
  rintro _ _ rfl
  refine OL.nil ?_
  refine hK1 _ _ ?_
  refine PW.k1 1 rfl (PW.seqOps ?_)
  change OL _ _ _ _ _ (bcell ro_ true :: ocell rv (.slice (some ⟨qo, 0, none⟩) _ co) :: icell ra at_ :: rrow qo co _ :: S) _
  rw [<- hL] at hco ⊢
  refine OL.det trivial (.ld rfl (own_at (j := 0) (c := [.slice (some ⟨qo, 0, none⟩) (L).length co]) (E := 142) (tot := 1) zM1 rfl)) (OL.det trivial (.ld rfl (own_at (j := 0) (c := [.slice (some ⟨qo, 0, none⟩) (L).length co]) (E := 142) (tot := 1) zM1 rfl)) (OL.dp rfl ?_))
  refine OL.det trivial (.to (v' := .int .i64 (((L).length - 1 : Nat) : Int)) (Yields.sub64 rfl rfl (by omega) (by omega)) (congrArg (Value.int .i64) (by omega))) ?_
  refine OL.det trivial (Yields.ixO rfl rfl rfl (by omega)) ?_
  refine OL.dp rfl (OL.nil (PW.k1 3 rfl (PW.ret ?_)))
  change (Exit.ret = Exit.normal ∨ Exit.ret = Exit.ret) /\ ∃ v, resV _ _ = some v /\ _
  exact ⟨.inr rfl, _, rfl, qo, co, by rw [hL]; rfl, by rw [hL]; rfl, by first | exact hco | (rw [hL] at hco; exact hco), hcm⟩
 try simp only [cvS] at c5
 subst c5
 have h0 := hop rfl
 obtain ⟨qo, co, rfl, rfl, hco, hcm⟩ := slv_runs hv h0
 obtain ⟨L, hL⟩ : ∃ z, z = l := ⟨_, rfl⟩
 have hLl : 0 < L.length /\ L.length = l.length := by rw [hL]; exact ⟨h0, rfl⟩
 refine PW.skip ?_
 refine hK1 _ _ ?_
 refine PW.k1 1 rfl (PW.seqOps ?_)
 change OL _ _ _ _ _ (bcell ro_ true :: ocell rv (.slice (some ⟨qo, 0, none⟩) _ co) :: icell ra at_ :: rrow qo co _ :: S) _
 rw [<- hL] at hco ⊢
 refine OL.det trivial (.ld rfl (own_at (j := 0) (c := [.slice (some ⟨qo, 0, none⟩) (L).length co]) (E := 142) (tot := 1) zM1 rfl)) (OL.det trivial (.ld rfl (own_at (j := 0) (c := [.slice (some ⟨qo, 0, none⟩) (L).length co]) (E := 142) (tot := 1) zM1 rfl)) (OL.dp rfl ?_))
 refine OL.det trivial (.to (v' := .int .i64 (((L).length - 1 : Nat) : Int)) (Yields.sub64 rfl rfl (by omega) (by omega)) (congrArg (Value.int .i64) (by omega))) ?_
 refine OL.det trivial (Yields.ixO rfl rfl rfl (by omega)) ?_
 refine OL.dp rfl (OL.nil (PW.k1 3 rfl (PW.ret ?_)))
 change (Exit.ret = Exit.normal ∨ Exit.ret = Exit.ret) /\ ∃ v, resV _ _ = some v /\ _
 exact ⟨.inr rfl, _, rfl, qo, co, by rw [hL]; rfl, by rw [hL]; rfl, by first | exact hco | (rw [hL] at hco; exact hco), hcm⟩
open Go.MyPlain
theorem runs_split (l : List RunM) (h : 0 < l.length) : ∃ l0 x, l = l0 ++ [x] := ⟨l.dropLast, l.getLast (fun e => by subst e; simp at h), (List.dropLast_concat_getLast _).symm⟩
theorem set_to (l0 : List RunM) (x : RunM) (t : Nat) : setAt (runsS (l0 ++ [x])) (((l0 ++ [x]).length - 1) * 3 + 1) [.int .i64 (t : Int)] = runsS (l0 ++ [{ x with to := t }]) := by
 have hl := runsS_len l0
 rw [runsS_app, runsS_app, setAt_eq _ _ _ (by rw [List.length_append, List.length_append, runsS_len, runsS_len]; simp), List.length_append, List.length_singleton, Nat.add_sub_cancel]
 rw [List.take_append, List.drop_append, hl]
 have h1 : l0.length * 3 + 1 - l0.length * 3 = 1 := by omega
 have h2 : l0.length * 3 + 1 + 1 - l0.length * 3 = 2 := by omega
 simp only [List.length_singleton, h1, h2]
 rw [List.take_of_length_le (by omega), List.drop_eq_nil_of_le (by omega)]
 simp [runsS, runC]
theorem set_lines (l0 : List RunM) (x : RunM) (A : Option Addr) (c : Nat) (L : List ByteArray) : setAt (runsS (l0 ++ [x])) (((l0 ++ [x]).length - 1) * 3 + 2) [.slice A L.length c] = runsS (l0 ++ [{ x with A := A, c := c, lines := L }]) := by
 have hl := runsS_len l0
 rw [runsS_app, runsS_app, setAt_eq _ _ _ (by rw [List.length_append, List.length_append, runsS_len, runsS_len]; simp), List.length_append, List.length_singleton, Nat.add_sub_cancel]
 rw [List.take_append, List.drop_append, hl]
 have h1 : l0.length * 3 + 2 - l0.length * 3 = 2 := by omega
 have h2 : l0.length * 3 + 2 + 1 - l0.length * 3 = 3 := by omega
 simp only [List.length_singleton, h1, h2]
 rw [List.take_of_length_le (by omega), List.drop_eq_nil_of_le (by omega)]
 simp [runsS, runC]
theorem modLast_snoc (f : Run -> Run) : ∀ (l : List Run) (x : Run), modLast f (l ++ [x]) = l ++ [f x]
 | [], x => rfl
 | [a], x => rfl
 | a :: b :: l, x => by
  have := modLast_snoc f (b :: l) x
  simp only [List.cons_append] at this ⊢
  simp only [modLast]
  rw [this]
structure RunOk (w0 : World) (j : Seg) (x : RunM) : Prop where
 rd : Rd w0 (j :: []) x.A (strs x.lines)
 cap : x.lines.length <= x.c
 nil : x.A = none -> x.c = 0
theorem RunOk.more {w0 : World} {j j' : Seg} {x : RunM} (h : RunOk w0 j x) (hs : ∀ p ∈ j, p ∈ j') : RunOk w0 j' x := ⟨h.rd.mono fun p hp => by simp at hp ⊢; exact hs p hp, h.cap, h.nil⟩
structure RunsIn (w0 : World) (l : List RunM) (sl junk : Seg) : Prop where
 done : ∀ x ∈ l.dropLast, RunOk w0 junk x
 last : ∀ x, l.getLast? = some x -> SlV 9 1 (.slice x.A x.lines.length x.c) x.lines.length (strs x.lines) sl
theorem RunsIn.nil {w0 : World} {j : Seg} : RunsIn w0 [] [] j := ⟨by simp, by simp⟩
theorem run_ok {w0 : World} {x : RunM} {sl : Seg} (h : SlV 9 1 (.slice x.A x.lines.length x.c) x.lines.length (strs x.lines) sl) : RunOk w0 sl x := by
 obtain ⟨A, cap, e, hn, hc, hr⟩ := slv_rdL (w0 := w0) h
 simp only [Value.slice.injEq] at e
 obtain ⟨rfl, _, rfl⟩ := e
 exact ⟨hr [], hc, hn⟩
theorem RunsIn.all {w0 : World} {l : List RunM} {sl junk : Seg} (h : RunsIn w0 l sl junk) : ∀ x ∈ l, RunOk w0 (sl ++ junk) x := by
 intro x hx
 by_cases h0 : 0 < l.length
 ·obtain ⟨l0, y, rfl⟩ := runs_split l h0
  rcases List.mem_append.1 hx with hx | hx
  ·exact (h.done x (by simpa using hx)).more fun p hp => List.mem_append_right _ hp
  rw [List.mem_singleton] at hx
  subst hx
  exact (run_ok (h.last x (by simp))).more fun p hp => List.mem_append_left _ hp
 have : l = [] := List.eq_nil_of_length_eq_zero (by omega)
 subst this; cases hx
theorem RunsIn.grown {w0 : World} {l : List RunM} {sl junk : Seg} {x : RunM} (h : RunsIn w0 l sl junk) (hx : SlV 9 1 (.slice x.A x.lines.length x.c) x.lines.length (strs x.lines) []) : RunsIn w0 (l ++ [x]) [] (sl ++ junk) :=
 ⟨fun y hy => by simp at hy; exact h.all y hy, fun y hy => by simp at hy; subst hy; exact hx⟩
end Go.Proofs.Gr



namespace Go.Proofs.Gr
open Go.SL Go.RowKit Go.Proofs Go.GP
set_option maxHeartbeats 1000000
open Go.MyPlain
theorem fold_snoc {ls : List ByteArray} {l : List (Int × Int × Int)} {k : Nat} (hk : k < l.length) (st : RS) : (l.take (k + 1)).foldl (stepU ls) st = stepU ls ((l.take k).foldl (stepU ls) st) l[k] := by
 rw [ltake_snoc hk, List.foldl_append]; rfl
theorem at_room {I : List ItemP} {s : Sec} {k : Nat} {K : List Bool} {L : List (Int × Int × Int)} (hL : L = scr (txts I s.fr s.to) s.lines) (hf : s.fr <= s.to) (ht : s.to <= I.length) (hk : k < L.length) (htk : takes L[k] = true) :
  ((L.take k).foldl (stepU s.lines) ⟨s.fr, false, [], K⟩).at_ < s.to := by
 have h1 := scr_takes (txts I s.fr s.to) s.lines
 have h2 : (txts I s.fr s.to).length = s.to - s.fr := by unfold txts; rw [List.length_map, List.length_drop, List.length_take]; omega
 have hop : ∀ t ∈ L, t.1 = 0 ∨ t.1 = 1 ∨ t.1 = 2 := fun t h => scr_op (hL ▸ h)
 rw [<- hL] at h1
 rw [foldU_at _ _ _ (fun t h => hop t (List.mem_of_mem_take h))]
 have h3 : (L.take (k + 1)).filter takes = (L.take k).filter takes ++ [L[k]] := by
  rw [ltake_snoc hk, List.filter_append, List.filter_cons, if_pos htk]; rfl
 have h4 : ((L.take (k + 1)).filter takes).length <= (L.filter takes).length := by
  have := List.take_append_drop (k + 1) L
  conv => rhs; rw [<- this]
  rw [List.filter_append, List.length_append]
  omega
 rw [h3, List.length_append] at h4
 simp at h4
 simp only
 omega
theorem kseg_set (c : ChM) (K : List Bool) (i : Nat) (hi : i < K.length) : setAt (K.map Value.bool) i [.bool true] = (K.set i true).map Value.bool := by
 rw [setAt_eq _ _ _ (by simp; omega), List.map_set]
 rw [List.set_eq_take_append_cons_drop, if_pos (by simpa using hi)]
 simp
end Go.Proofs.Gr

namespace Go.Proofs.Gr
open Go.SL Go.RowKit Go.Proofs Go.GP
set_option maxHeartbeats 1000000
open Go.MyPlain
theorem RunsIn.grow {w0 : World} {l : List RunM} {sl junk : Seg} {op : Bool} {at_ : Nat} (h : RunsIn w0 l sl junk) : ∃ sl' junk', RunsIn w0 (growM op at_ l) sl' junk' /\ ∀ S, Sub (sl' :: junk' :: S) (sl :: junk :: S) := by
 cases op
 ·exact ⟨[], sl ++ junk, h.grown (SlV.nil 9 1), fun S => Sub.nilL Sub.join⟩
 exact ⟨sl, junk, h, fun S => Sub.refl _⟩
theorem grow_pl {l : List RunM} {st : RS} (h : l.map RunM.pl = st.runs) : (growM st.op st.at_ l).map RunM.pl = growR st := by
 unfold growM growR
 split
 ·exact h
 rw [List.map_append, h]; rfl
theorem grow_pos {l : List RunM} {op : Bool} {at_ : Nat} (h : op = true -> 0 < l.length) : 0 < (growM op at_ l).length := by
 unfold growM; split
 ·exact h (by assumption)
 simp
theorem grow_le {l : List RunM} {op : Bool} {at_ : Nat} : (growM op at_ l).length <= l.length + 1 := by
 unfold growM; split <;> simp
theorem RunsIn.last' {w0 : World} {l0 : List RunM} {x y : RunM} {sl sl' junk : Seg} (h : RunsIn w0 (l0 ++ [x]) sl junk) (hy : SlV 9 1 (.slice y.A y.lines.length y.c) y.lines.length (strs y.lines) sl') : RunsIn w0 (l0 ++ [y]) sl' junk :=
 ⟨fun z hz => h.done z (by simpa using hz), fun z hz => by simp at hz; subst hz; exact hy⟩
theorem runs_slv {qo co : Nat} {l : List RunM} (h : l.length <= co) (h2 : co <= maxLen) : SlV 147 3 (.slice (some ⟨qo, 0, none⟩) l.length co) l.length (runsS l) (rrow qo co l) := SlV.mk' (runsS_len l) h h2
theorem run_lines_at {w0 : World} {S : SS} {qo co : Nat} {l0 : List RunM} {x : RunM} (h : (qo, .cells (runsS (l0 ++ [x])) 147 (co * 3)) ∈ S.flatten) : Cell w0 S ((⟨qo, ((l0 ++ [x]).length - 1) * 3, none⟩ : Addr).add 2) (.slice x.A x.lines.length x.c) := by
 have := (Rd.own h).at (w0 := w0) (j := ((l0 ++ [x]).length - 1) * 3 + 2) (v := .slice x.A x.lines.length x.c) (by rw [List.length_append, List.length_singleton, Nat.add_sub_cancel, runsS_app, List.getElem?_append_right (by rw [runsS_len]; omega), runsS_len]; simp [runsS, runC])
 simpa [Addr.add] using this
theorem step_st {w0 : World} {S : SS} {P : Program} {n r : Nat} {T : TT} {x v : PV} {t : Int × Int × Int} {z : List Value} (hx : x.val T = some (.pointer (some ⟨r, 0, none⟩))) (hv : v.val T = some (.agg (My.stC t).toArray)) (hz : z.length = 3) :
  OW P w0 n (.st 3 x v) T ([(r, .cells z 176 3)] :: S) (fun _ S' => S' = [(r, .cells (My.stC t) 176 3)] :: S) := by
 refine (OW.st (k := 0) (c := z) (u := .agg (My.stC t).toArray) hx hv rfl (show (Value.agg (My.stC t).toArray).cells.size = 3 from rfl) (by omega) rfl).mono ?_
 rintro _ _ rfl
 rw [show (Value.agg (My.stC t).toArray).cells.toList = My.stC t from rfl, setAll (by rw [hz]; rfl)]
 rfl
theorem runs_fc {w0 : World} {S : SS} {c : ChM} {K : List Bool} {s : Sec} {A : Option Addr} {cc : Nat} (h : ChOK w0 S c) (hC : Over [cseg c] S) (hk : K.length = c.its.length) (hf : s.fr <= s.to) (ht : s.to <= c.its.length) (hls : Rd w0 S A (strs s.lines)) (hll : s.lines.length <= 1000) :
  FC Try.prog w0 82 [c.ptr, secV s A cc] (kseg c K :: S) (fun u S' => ∃ v rs sg junk, u = .tuple #[v, .int .i64 0] /\ S' = sg :: junk :: kseg c (runsR c.I s K).K :: S /\ SlV 147 3 v rs.length (runsS rs) sg /\ (∀ x ∈ rs, RunOk w0 junk x) /\ rs.map RunM.pl = (runsR c.I s K).runs /\ rs.length <= 2000) := by
 have hn := h.n
 have htl : (txts c.I s.fr s.to).length <= 1000 := by unfold txts; rw [List.length_map, List.length_drop, List.length_take, c.I_len]; omega
 refine FC.ofCT Try.known82 (by simp) ?_
 unfold Try.pc82
 simp only [argT]
 refine PW.seqOps (OL.cons trivial (OW.bx rfl) ?_)
 rintro _ _ ⟨r3, rfl, rfl⟩
 change OL _ _ _ _ _ (sseg r3 s A cc :: kseg c K :: S) _
 refine OL.cons trivial OW.al ?_
 rintro _ _ ⟨r4, rfl, rfl⟩
 refine OL.dp rfl (OL.nil (PW.k3 0 3 4 rfl ?_))
 refine PW.seq fun K1 hK1 => ?_
 refine PW.quietG (Ss := Over (ocell r4 (.slice none 0 0) :: sseg r3 s A cc :: kseg c K :: S)) (fr := false) [(0, 0), (1, 0), (3, 0), (4, 0), (2, 2), (5, 2), (6, 0), (7, 0), (8, 0), (9, 0)] Try.mixed (by decide +kernel) (Over.refl _) (fun h => by cases h) ?_
 refine GL.dp rfl ?_
 refine GL.det trivial (fun Sx hSx => Yields.ldA rfl rfl (all_at (c := secC s A cc) (E := 144) (tot := 3) (hSx _ zM1))) ?_
 refine GL.dp rfl ?_
 refine GL.det trivial (fun Sx hSx => Yields.ld rfl (own_at (j := 2) (c := secC s A cc) (E := 144) (tot := 3) (hSx _ zM1) rfl)) ?_
 refine GL.lo trivial (OW.mono (OW.call rfl (ctexts_fc (h.mono (Over.refl _).cons.cons.cons) (fun q hq => (hC.cons.cons.cons) q hq) hf ht)) ?_)
 rintro v17 _ ⟨sgt, rfl, hst⟩
 obtain ⟨At, ct, rfl, hnt, hct, hrt⟩ := slv_rdL (w0 := w0) hst
 refine ⟨(Over.refl _).cons, ?_⟩
 refine GL.lo trivial (OW.mono (OW.call rfl (My.diff_fc (xs := txts c.I s.fr s.to) (ys := s.lines) (hrt _) (hls.mono (Over.refl _).cons.cons.cons.cons) (by omega) (by omega))) ?_)
 rintro v20 _ ⟨u, sgd, rfl, rfl, hsd⟩
 obtain ⟨L, hL⟩ : ∃ z, z = scr (txts c.I s.fr s.to) s.lines := ⟨_, rfl⟩
 rw [<- hL] at hsd
 have hLl : L.length <= 2000 := by have := scr_length (txts c.I s.fr s.to) s.lines; rw [<- hL] at this; omega
 obtain ⟨Au, cu, rfl, hnu, hcu, hru⟩ := slv_rdL (w0 := w0) hsd
 refine ⟨(Over.refl _).cons.cons, ?_⟩
 refine GL.dp rfl ?_
 refine GL.dp rfl ?_
 refine GL.dp rfl ?_
 refine GL.dp rfl ?_
 change OL _ _ _ [_] _ _ _
 refine OL.dp rfl (OL.nil ?_)
 refine hK1 _ _ ?_
 refine PW.k5 0 3 4 5 6 rfl ?_
 refine PW.seq fun K2 hK2 => ?_
 refine PW.seqOps (OL.dp rfl (OL.det trivial (.to (v' := .bool false) (Yields.pure rfl) rfl) (OL.nil (PW.k6 0 3 4 5 6 24 rfl (PW.ite (b := false) rfl ?_)))))
 rw [if_neg Bool.false_ne_true]
 refine PW.skip ?_
 refine hK2 _ _ ?_
 refine PW.k4 0 3 4 6 rfl (PW.seqOps (OL.dp rfl (OL.det trivial (.ld rfl (own_at (j := 0) (c := secC s A cc) (E := 144) (tot := 3) zM3 rfl)) (OL.cons trivial OW.al ?_))))
 rintro _ _ ⟨r7, rfl, rfl⟩
 refine OL.cons trivial (OW.st (k := 0) rfl rfl rfl rfl (Nat.le_refl 1) rfl) ?_
 rintro _ _ rfl
 refine OL.nil (PW.k5 0 3 4 6 7 rfl (PW.seqOps (OL.cons trivial OW.al ?_)))
 rintro _ _ ⟨r8, rfl, rfl⟩
 refine OL.cons trivial (OW.st (k := 0) rfl rfl rfl rfl (Nat.le_refl 1) rfl) ?_
 rintro _ _ rfl
 refine OL.nil (PW.k6 0 3 4 6 7 8 rfl (PW.seqOps ?_))
 refine OL.subS (S' := bcell r8 false :: ocell r4 (.slice none 0 0) :: icell r7 s.fr :: [] :: [] :: [] :: kseg c K :: sseg r3 s A cc :: sgd :: S) ((Sub.cons (Sub.cons (Sub.cons (Sub.nilL (Sub.nilL (Sub.nilL (Sub.refl _))))))).trans (Sub.sel [0, 4, 1, 6, 5, 2] 7 (by decide) (bcell r8 false :: icell r7 s.fr :: sgd :: sgt :: ocell r4 (.slice none 0 0) :: sseg r3 s A cc :: kseg c K :: S))) ?_
 refine OL.det trivial (Yields.mkF rfl) (OL.dp rfl (OL.nil (PW.k7 0 3 4 6 7 8 9 rfl ?_)))
 refine PW.seq fun K3 hK3 => ?_
 refine PW.seqOps (OL.dp rfl (OL.dp rfl (OL.dp rfl (OL.nil (PW.k9 0 3 4 7 8 9 29 30 31 rfl (PW.block (PW.k9 0 3 4 7 8 9 29 30 31 rfl ?_)))))))
 refine PW.loopK (I := fun m T S' => ∃ (k : Nat) (st : RS) (l : List RunM) (v : Value) (sg sl junk : Seg), (k <= L.length /\ m = L.length - k /\ st = (L.take k).foldl (stepU s.lines) ⟨s.fr, false, [], K⟩ /\ l.map RunM.pl = st.runs /\ SlV 147 3 v l.length (runsS l) sg /\ RunsIn w0 l sl junk /\ (st.op = true -> 0 < l.length) /\ l.length <= k /\ st.K.length = c.its.length /\ ∀ x ∈ l, x.lines.length <= k) /\ T = ([(0, c.ptr), (3, .pointer (some ⟨r3, 0, none⟩)), (4, .pointer (some ⟨r4, 0, none⟩)), (7, .pointer (some ⟨r7, 0, none⟩)), (8, .pointer (some ⟨r8, 0, none⟩)), (9, .func (.func 106) #[] #[.pointer (some ⟨r8, 0, none⟩), .pointer (some ⟨r4, 0, none⟩), .pointer (some ⟨r7, 0, none⟩)]), (29, .slice Au L.length cu), (30, .int .i64 (L.length : Int)), (31, .int .i64 k)] : TT) /\ S' = bcell r8 st.op :: ocell r4 v :: icell r7 st.at_ :: sg :: sl :: junk :: kseg c st.K :: sseg r3 s A cc :: sgd :: S) (m := L.length) ⟨0, _, [], _, [], [], [], ⟨by omega, by omega, rfl, rfl, SlV.nil 147 3, RunsIn.nil, (fun h => by cases h), by simp, hk, (by simp)⟩, rfl, rfl⟩ ?_
 rintro m _ _ ⟨k, st, l, v, sg, sl, junk, ⟨hkL, hm, hst, hlp, hv, hin, hop, hlk, hKl, hxl⟩, rfl, rfl⟩
 refine PW.seqOps (OL.dp rfl (OL.nil (PW.k10 0 3 4 7 8 9 29 30 31 32 rfl ?_)))
 refine PW.seq fun K4 hK4 => ?_
 refine PW.cond rfl (fun c32 => ?_) (fun c32 => ?_)
 ·try simp only [cvS] at c32
  have hkl : k < L.length := by omega
  obtain ⟨a0, rfl⟩ := (hru []).some (My.stsC_ne (by omega))
  refine PW.skip ?_
  refine hK4 _ _ ?_
  refine PW.k9 0 3 4 7 8 9 29 30 31 rfl ?_
  refine PW.seq fun K5 hK5 => ?_
  refine PW.block (PW.seqOps ?_)
  refine OL.det trivial (.ixN rfl rfl rfl (by omega)) ?_
  refine OL.det trivial (.ldA rfl rfl (fun j v hj => My.st_at (k := k) (l := L) ((hru S).mono (Over.refl _).cons.cons.cons.cons.cons.cons.cons.cons) hkl j (show j < (My.stC L[k]).length from (List.getElem?_eq_some_iff.1 hj).1) hj)) ?_
  refine OL.cons trivial OW.al ?_
  rintro _ _ ⟨r11, rfl, rfl⟩
  refine OL.cons trivial (step_st rfl rfl rfl) ?_
  rintro _ _ rfl
  refine OL.nil (PW.k10 0 3 4 7 8 9 11 29 30 31 rfl (PW.seqOps (OL.dp rfl (OL.det trivial (.ld rfl (own_at (j := 0) (c := My.stC L[k]) (E := 176) (tot := 3) zM0 rfl)) (OL.nil (PW.k11 0 3 4 7 8 9 11 29 30 31 36 rfl (PW.block (PW.seqOps (OL.dp rfl (OL.dp rfl (OL.nil ?_)))))))))))
  refine PW.k12 0 3 4 7 8 9 11 29 30 31 36 37 rfl ?_
  refine PW.cond rfl (fun c37 => ?_) (fun c37 => ?_)
  ·try simp only [cvS] at c37
   have hai : st.at_ + 1 <= st.K.length := by
    have := at_room (I := c.I) (K := K) hL hf (by rw [c.I_len]; exact ht) hkl (by unfold takes; simp [c37])
    rw [<- hst] at this; omega
   refine PW.seq fun K6 hK6 => ?_
   refine PW.quietK Try.mixed (QK.dp rfl (QK.det trivial (Yields.nilc rfl) (QK.dp rfl (QK.det trivial (.ld rfl (own_at (j := 2) (c := c.cells) (E := 138) (tot := 3) (hC.cons.cons.cons.cons.cons.cons.cons.cons.cons.cons _ (List.mem_flatten.2 ⟨_, List.mem_singleton.2 rfl, List.mem_singleton.2 rfl⟩)) rfl)) (QK.det trivial (.ld rfl (own_at (j := 0) (c := [.int .i64 (st.at_ : Int)]) (E := 3) (tot := 1) zM3 rfl)) (QK.nil ?_))))))
   change OL _ _ _ [_, _] _ _ _
   refine OL.det trivial (.to (v' := .pointer (some ⟨c.rk, st.at_, none⟩)) (Yields.ixN1 rfl rfl rfl (by omega)) (by simp [Addr.add, eq_comm])) ?_
   refine OL.cons trivial (OW.st (k := 7) rfl rfl rfl rfl (by rw [List.length_map]; exact hai) rfl) ?_
   rintro _ _ rfl
   refine OL.nil ?_
   refine hK6 _ _ ?_
   refine PW.k9 0 3 4 7 8 9 29 30 31 rfl (PW.seqOps (OL.det trivial (.ld rfl (own_at (j := 0) (c := [.int .i64 (st.at_ : Int)]) (E := 3) (tot := 1) zM3 rfl)) ?_))
   refine OL.det trivial (.add64 rfl rfl (by omega) (by omega)) ?_
   refine OL.cons trivial (OW.st (k := 3) rfl rfl rfl rfl (Nat.le_refl 1) rfl) ?_
   rintro _ _ rfl
   refine OL.nil (PW.k9 0 3 4 7 8 9 29 30 31 rfl (PW.ops (OL.cons trivial (OW.st (k := 1) rfl rfl rfl rfl (Nat.le_refl 1) rfl) ?_)))
   rintro _ _ rfl
   refine OL.nil ?_
   refine hK5 _ _ ?_
   refine PW.k9 0 3 4 7 8 9 29 30 31 rfl (PW.ops ?_)
   refine OL.det trivial (.add64 rfl rfl (by omega) (by omega)) ?_
   refine OL.dp rfl (OL.nil ?_)
   repeat rw [inBlk_n]
   try rw [thenK_n]
   refine LoopEnd.mkS (Sub.drop (Sub.refl _)) (T'' := [(0, _), (3, _), (4, _), (7, _), (8, _), (9, _), (29, _), (30, _), (31, _)]) (wi rfl) ?_
   have hfs := fold_snoc (ls := s.lines) hkl ⟨s.fr, false, [], K⟩
   rw [<- hst] at hfs
   have hs0 : stepU s.lines st L[k] = ⟨st.at_ + 1, false, st.runs, st.K.set st.at_ true⟩ := by unfold stepU; rw [if_pos c37]
   refine ⟨L.length - (k + 1), by omega, k + 1, stepU s.lines st L[k], l, v, sg, sl, junk, ⟨by omega, rfl, hfs.symm, by rw [hs0]; exact hlp, hv, hin, by rw [hs0]; exact (fun h => by cases h), by omega, by rw [hs0]; simpa using hKl, fun x hx => by have := hxl x hx; omega⟩, rfl, ?_⟩
   rw [hs0]
   refine List.cons_eq_cons.2 ⟨rfl, List.cons_eq_cons.2 ⟨rfl, List.cons_eq_cons.2 ⟨rfl, List.cons_eq_cons.2 ⟨rfl, List.cons_eq_cons.2 ⟨rfl, List.cons_eq_cons.2 ⟨rfl, List.cons_eq_cons.2 ⟨?_, rfl⟩⟩⟩⟩⟩⟩⟩
   exact (congrArg (fun z => [(c.rk, AO.cells z 4 (c.its.length * 1))]) (kseg_set c st.K st.at_ (by omega)))
  try simp only [cvS] at c37
  refine PW.seqOps (OL.dp rfl (OL.dp rfl (OL.nil (PW.k12 0 3 4 7 8 9 11 29 30 31 36 47 rfl ?_))))
  refine PW.cond rfl (fun c47 => ?_) (fun c47 => ?_)
  ·try simp only [cvS] at c47
   have hai : st.at_ + 1 <= st.K.length := by
    have := at_room (I := c.I) (K := K) hL hf (by rw [c.I_len]; exact ht) hkl (by unfold takes; simp [c47])
    rw [<- hst] at this; omega
   refine PW.seqOps ?_
   refine OL.subS (S' := bcell r8 st.op :: ocell r4 v :: icell r7 st.at_ :: sg :: [(r11, .cells (My.stC L[k]) 176 3)] :: sl :: junk :: kseg c st.K :: sseg r3 s A cc :: sgd :: S) (Sub.sel [1, 2, 3, 4, 0, 5, 6, 7, 8, 9] 10 (by decide) ([(r11, .cells (My.stC L[k]) 176 3)] :: bcell r8 st.op :: ocell r4 v :: icell r7 st.at_ :: sg :: sl :: junk :: kseg c st.K :: sseg r3 s A cc :: sgd :: S)) ?_
   refine OL.dp rfl ?_
   refine OL.cons trivial (OW.callv (fi := []) rfl (by kernel_rfl) rfl (grow_fc hv hop (by omega))) ?_
   rintro _ _ ⟨qo, co, rfl, rfl, hco, hcm⟩
   obtain ⟨sl2, junk2, hin2, hsub⟩ := hin.grow (op := st.op) (at_ := st.at_)
   have hgl := grow_le (op := st.op) (at_ := st.at_) (l := l)
   obtain ⟨l0, x, hG⟩ := runs_split (growM st.op st.at_ l) (grow_pos hop)
   have hGp := grow_pl (st := st) hlp
   have hGx : ∀ y ∈ growM st.op st.at_ l, y.lines.length <= k := by
    intro y hy
    unfold growM at hy
    split at hy
    ·exact hxl y hy
    rcases List.mem_append.1 hy with h | h
    ·exact hxl y h
    rw [List.mem_singleton.1 h]; simp
   rw [hG] at hGx
   have hxk := hGx x (by simp)
   rw [hG] at hGp hin2 hco hgl ⊢
   refine OL.subS (S' := bcell r8 true :: ocell r4 (.slice (some ⟨qo, 0, none⟩) (l0 ++ [x]).length co) :: icell r7 st.at_ :: rrow qo co (l0 ++ [x]) :: [(r11, .cells (My.stC L[k]) 176 3)] :: sl2 :: junk2 :: kseg c st.K :: sseg r3 s A cc :: sgd :: S) (Sub.cons (Sub.cons (Sub.cons (Sub.cons (Sub.cons (hsub _)))))) (OL.dp rfl (OL.nil (PW.k10 0 3 4 7 8 9 12 29 30 31 rfl (PW.seqOps (OL.det trivial (.ld rfl (own_at (j := 0) (c := [.int .i64 (st.at_ : Int)]) (E := 3) (tot := 1) zM2 rfl)) ?_)))))
   refine OL.det trivial (.add64 rfl rfl (by omega) (by omega)) ?_
   refine OL.cons trivial (OW.st (k := 2) rfl rfl rfl rfl (Nat.le_refl 1) rfl) ?_
   rintro _ _ rfl
   refine OL.nil (PW.k10 0 3 4 7 8 9 12 29 30 31 rfl (PW.ops (OL.dp rfl (OL.det trivial (.ld rfl (own_at (j := 0) (c := [.int .i64 ((st.at_ + 1 : Nat) : Int)]) (E := 3) (tot := 1) zM2 rfl)) (OL.det trivial (Yields.nilc rfl) (OL.dp rfl ?_))))))
   refine OL.cons trivial (OW.st (k := 3) rfl rfl rfl rfl (by rw [runsS_len]; simp; omega) rfl) ?_
   rintro _ _ rfl
   refine OL.nil ?_
   refine hK5 _ _ ?_
   refine PW.k9 0 3 4 7 8 9 29 30 31 rfl (PW.ops ?_)
   refine OL.det trivial (.add64 rfl rfl (by omega) (by omega)) ?_
   refine OL.dp rfl (OL.nil ?_)
   repeat rw [inBlk_n]
   try rw [thenK_n]
   refine LoopEnd.mkS (Sub.sel [0, 1, 2, 3, 5, 6, 7, 8, 9] 10 (by decide) _) (T'' := [(0, _), (3, _), (4, _), (7, _), (8, _), (9, _), (29, _), (30, _), (31, _)]) (wi rfl) ?_
   have hfs := fold_snoc (ls := s.lines) hkl ⟨s.fr, false, [], K⟩
   rw [<- hst] at hfs
   have hs0 : stepU s.lines st L[k] = ⟨st.at_ + 1, true, modLast (fun r => { r with to := st.at_ + 1 }) (growR st), st.K⟩ := by unfold stepU; rw [if_neg c37, if_pos c47]
   have hnl : (l0 ++ [({ x with to := st.at_ + 1 } : RunM)]).length = (l0 ++ [x]).length := by simp
   refine ⟨L.length - (k + 1), by omega, k + 1, stepU s.lines st L[k], l0 ++ [({ x with to := st.at_ + 1 } : RunM)], .slice (some ⟨qo, 0, none⟩) (l0 ++ [({ x with to := st.at_ + 1 } : RunM)]).length co, rrow qo co (l0 ++ [({ x with to := st.at_ + 1 } : RunM)]), sl2, junk2, ⟨by omega, rfl, hfs.symm, by rw [hs0, <- hGp]; simp only [List.map_append, List.map_cons, List.map_nil]; rw [modLast_snoc]; rfl, runs_slv (by rw [hnl]; exact hco) hcm, hin2.last' (hin2.last x (by simp)), fun _ => by simp, by rw [hnl]; omega, by rw [hs0]; exact hKl, ?_⟩, rfl, ?_⟩
   ·intro y hy
    rcases List.mem_append.1 hy with h | h
    ·have := hGx y (List.mem_append_left _ h); omega
    rw [List.mem_singleton.1 h]; show x.lines.length <= k + 1; omega
   rw [hs0, hnl]
   refine List.cons_eq_cons.2 ⟨rfl, List.cons_eq_cons.2 ⟨rfl, List.cons_eq_cons.2 ⟨rfl, List.cons_eq_cons.2 ⟨?_, rfl⟩⟩⟩⟩
   exact congrArg (fun z => [(qo, AO.cells z 147 (co * 3))]) (set_to l0 x (st.at_ + 1))
  try simp only [cvS] at c47
  refine PW.seqOps (OL.dp rfl (OL.dp rfl (OL.nil (PW.k11 0 3 4 7 8 9 11 29 30 31 57 rfl ?_))))
  refine PW.cond rfl (fun c57 => ?_) (fun c57 => ?_)
  ·try simp only [cvS] at c57
   obtain ⟨b, hb, hbl⟩ := scr_new (xs := txts c.I s.fr s.to) (ys := s.lines) (t := L[k]) (by rw [<- hL]; exact List.getElem_mem hkl) c57
   obtain ⟨aL, haL⟩ := hls.some (by unfold strs; intro e; have := congrArg List.length e; simp at this; rw [this] at hbl; simp at hbl)
   refine PW.seqOps ?_
   refine OL.subS (S' := bcell r8 st.op :: ocell r4 v :: icell r7 st.at_ :: sg :: [(r11, .cells (My.stC L[k]) 176 3)] :: sl :: junk :: kseg c st.K :: sseg r3 s A cc :: sgd :: S) (Sub.sel [1, 2, 3, 4, 0, 5, 6, 7, 8, 9] 10 (by decide) ([(r11, .cells (My.stC L[k]) 176 3)] :: bcell r8 st.op :: ocell r4 v :: icell r7 st.at_ :: sg :: sl :: junk :: kseg c st.K :: sseg r3 s A cc :: sgd :: S)) ?_
   refine OL.dp rfl ?_
   refine OL.cons trivial (OW.callv (fi := []) rfl (by kernel_rfl) rfl (grow_fc hv hop (by omega))) ?_
   rintro _ _ ⟨qo, co, rfl, rfl, hco, hcm⟩
   obtain ⟨sl2, junk2, hin2, hsub⟩ := hin.grow (op := st.op) (at_ := st.at_)
   have hgl := grow_le (op := st.op) (at_ := st.at_) (l := l)
   obtain ⟨l0, x, hG⟩ := runs_split (growM st.op st.at_ l) (grow_pos hop)
   have hGp := grow_pl (st := st) hlp
   have hGx : ∀ y ∈ growM st.op st.at_ l, y.lines.length <= k := by
    intro y hy
    unfold growM at hy
    split at hy
    ·exact hxl y hy
    rcases List.mem_append.1 hy with h | h
    ·exact hxl y h
    rw [List.mem_singleton.1 h]; simp
   rw [hG] at hGx
   have hxk := hGx x (by simp)
   rw [hG] at hGp hin2 hco hgl ⊢
   refine OL.subS (S' := bcell r8 true :: ocell r4 (.slice (some ⟨qo, 0, none⟩) (l0 ++ [x]).length co) :: icell r7 st.at_ :: rrow qo co (l0 ++ [x]) :: [(r11, .cells (My.stC L[k]) 176 3)] :: sl2 :: junk2 :: kseg c st.K :: sseg r3 s A cc :: sgd :: S) (Sub.cons (Sub.cons (Sub.cons (Sub.cons (Sub.cons (hsub _)))))) (OL.dp rfl (OL.nil (PW.k11 0 3 4 7 8 9 11 13 29 30 31 rfl ?_)))
   refine PW.quietG (Ss := Over (bcell r8 true :: ocell r4 (.slice (some ⟨qo, 0, none⟩) (l0 ++ [x]).length co) :: icell r7 st.at_ :: rrow qo co (l0 ++ [x]) :: [(r11, .cells (My.stC L[k]) 176 3)] :: sl2 :: junk2 :: kseg c st.K :: sseg r3 s A cc :: sgd :: S)) (fr := false) [(0, 0), (1, 0), (2, 0), (3, 0), (4, 0), (5, 0), (6, 0), (7, 0), (8, 0), (9, 0), (10, 0), (11, 2)] Try.mixed (by decide +kernel) (Over.refl _) (fun h => by cases h) ?_
   refine GL.dp rfl ?_
   refine GL.dp rfl ?_
   refine GL.det trivial (fun Sx hSx => Yields.nilc rfl) ?_
   refine GL.dp rfl ?_
   refine GL.det trivial (fun Sx hSx => Yields.ld rfl (run_lines_at (co := co) (hSx _ zM3))) ?_
   refine GL.dp rfl ?_
   refine GL.det trivial (fun Sx hSx => Yields.ld rfl (own_at (j := 2) (c := secC s A cc) (E := 144) (tot := 3) (hSx _ zM8) rfl)) ?_
   refine GL.dp rfl ?_
   refine GL.det trivial (fun Sx hSx => Yields.ld rfl (own_at (j := 2) (c := My.stC L[k]) (E := 176) (tot := 3) (hSx _ zM4) rfl)) ?_
   refine GL.det trivial (fun Sx hSx => Yields.ixN1 (congrArg (fun z => some (Value.slice z s.lines.length cc)) haL) (congrArg (fun z => some (Value.int .i64 z)) hb) rfl hbl) ?_
   refine GL.det trivial (fun Sx hSx => Yields.ld rfl (((show Rd w0 S (some aL) (strs s.lines) from by rw [<- haL]; exact hls).mono fun q hq => hSx q ((Over.refl S).cons.cons.cons.cons.cons.cons.cons.cons.cons.cons q hq)).at (j := b) (v := .string s.lines[b]) (by unfold strs; rw [List.getElem?_map, List.getElem?_eq_getElem hbl]; rfl))) ?_
   refine GL.lo trivial (OW.mono (K := fun u S' => ∃ r, u = .slice (some ⟨r, 0, none⟩) 1 1 /\ S' = [(r, .cells [.string s.lines[b]] 9 1)] :: bcell r8 true :: ocell r4 (.slice (some ⟨qo, 0, none⟩) (l0 ++ [x]).length co) :: icell r7 st.at_ :: rrow qo co (l0 ++ [x]) :: [(r11, .cells (My.stC L[k]) 176 3)] :: sl2 :: junk2 :: kseg c st.K :: sseg r3 s A cc :: sgd :: S) (OW.bsl rfl) fun v S2 hk => ⟨(fun u S' ⟨r, _, h⟩ => by rw [h]; exact (Over.refl _).cons) v S2 hk, ?_⟩)
   revert v S2
   rintro _ _ ⟨r72, rfl, rfl⟩
   change OL _ _ _ [_, _, _, _] _ _ _
   refine OL.cons trivial (OW.app (k := 6) rfl rfl (hin2.last x (by simp)) rfl (news := [.string s.lines[b]]) rfl (fun j u hj => (Rd.own (xs := [.string s.lines[b]]) (E := 9) (tot := 1) zM0).at hj) rfl (by omega) (by unfold maxLen; omega)) ?_
   rintro v73 _ ⟨seg73, rfl, hsl73⟩
   have h73 : SlV 9 1 v73 (x.lines ++ [s.lines[b]]).length (strs (x.lines ++ [s.lines[b]])) seg73 := by simpa [strs] using hsl73
   obtain ⟨A3, c3, rfl, -, -, -⟩ := slv_rdL (w0 := w0) h73
   refine OL.det trivial (Yields.nilc rfl) (OL.dp rfl ?_)
   refine OL.cons trivial (OW.st (k := 4) rfl rfl rfl rfl (by rw [runsS_len]; simp; omega) rfl) ?_
   rintro _ _ rfl
   refine OL.nil ?_
   refine hK5 _ _ ?_
   refine PW.k9 0 3 4 7 8 9 29 30 31 rfl (PW.ops ?_)
   refine OL.det trivial (.add64 rfl rfl (by omega) (by omega)) ?_
   refine OL.dp rfl (OL.nil ?_)
   repeat rw [inBlk_n]
   try rw [thenK_n]
   refine LoopEnd.mkS (Sub.sel [1, 2, 3, 4, 6, 7, 8, 9, 10] 11 (by decide) _) (T'' := [(0, _), (3, _), (4, _), (7, _), (8, _), (9, _), (29, _), (30, _), (31, _)]) (wi rfl) ?_
   have hfs := fold_snoc (ls := s.lines) hkl ⟨s.fr, false, [], K⟩
   rw [<- hst] at hfs
   have hbe : s.lines[L[k].2.2.toNat]! = s.lines[b] := by rw [hb]; exact getElem!_pos s.lines b hbl
   have hs0 : stepU s.lines st L[k] = ⟨st.at_, true, modLast (fun r => { r with lines := r.lines ++ [s.lines[b]] }) (growR st), st.K⟩ := by unfold stepU; rw [if_neg c37, if_neg c47, hbe]
   have hnl : (l0 ++ [({ x with A := A3, c := c3, lines := x.lines ++ [s.lines[b]] } : RunM)]).length = (l0 ++ [x]).length := by simp
   refine ⟨L.length - (k + 1), by omega, k + 1, stepU s.lines st L[k], l0 ++ [({ x with A := A3, c := c3, lines := x.lines ++ [s.lines[b]] } : RunM)], .slice (some ⟨qo, 0, none⟩) (l0 ++ [({ x with A := A3, c := c3, lines := x.lines ++ [s.lines[b]] } : RunM)]).length co, rrow qo co (l0 ++ [({ x with A := A3, c := c3, lines := x.lines ++ [s.lines[b]] } : RunM)]), seg73, junk2, ⟨by omega, rfl, hfs.symm, by rw [hs0, <- hGp]; simp only [List.map_append, List.map_cons, List.map_nil]; rw [modLast_snoc]; rfl, runs_slv (by rw [hnl]; exact hco) hcm, hin2.last' h73, fun _ => by simp, by rw [hnl]; omega, by rw [hs0]; exact hKl, ?_⟩, rfl, ?_⟩
   ·intro y hy
    rcases List.mem_append.1 hy with h | h
    ·have := hGx y (List.mem_append_left _ h); omega
    rw [List.mem_singleton.1 h]; show (x.lines ++ [s.lines[b]]).length <= k + 1; rw [List.length_append, List.length_singleton]; omega
   rw [hs0, hnl]
   refine List.cons_eq_cons.2 ⟨rfl, List.cons_eq_cons.2 ⟨rfl, List.cons_eq_cons.2 ⟨rfl, List.cons_eq_cons.2 ⟨?_, rfl⟩⟩⟩⟩
   exact congrArg (fun z => [(qo, AO.cells z 147 (co * 3))]) (set_lines l0 x A3 c3 (x.lines ++ [s.lines[b]]))
  try simp only [cvS] at c57
  exfalso
  have := scr_op (xs := txts c.I s.fr s.to) (ys := s.lines) (t := L[k]) (by rw [<- hL]; exact List.getElem_mem hkl)
  omega -- done
 try simp only [cvS] at c32
 refine PW.exit ?_
 refine hK3 _ _ ?_
 refine PW.k1 4 rfl (PW.seqOps ?_)
 obtain ⟨Av, cv, rfl⟩ : ∃ A c, v = .slice A l.length c := by
  obtain ⟨_, ⟨h1, h2, _⟩ | ⟨r, cap, h1, _⟩⟩ := hv
  ·exact ⟨none, 0, by rw [h1, h2]⟩
  exact ⟨_, _, h1⟩
 refine OL.det trivial (.ld rfl (own_at (j := 0) (c := [.slice Av l.length cv]) (E := 142) (tot := 1) zM1 rfl)) (OL.cons trivial (OW.st (k := 1) rfl rfl rfl rfl (Nat.le_refl 1) rfl) ?_)
 rintro _ _ rfl
 refine OL.dp rfl (OL.nil (PW.k2 4 5 rfl (PW.ret ?_)))
 change (Exit.ret = Exit.normal ∨ Exit.ret = Exit.ret) /\ ∃ a v x, Go.SL.look _ _ = some (.pointer (some a)) /\ ReadsAs _ _ _ _ _ /\ Go.SL.look _ _ = some x /\ _
 have hkk : k = L.length := by omega
 have hrr : runsR c.I s K = st := by unfold runsR; rw [<- hL, hst, hkk, List.take_length]
 exact ⟨.inr rfl, _, _, _, rfl, own_at (j := 0) (c := [.slice Av l.length cv]) (E := 142) (tot := 1) zM1 rfl, rfl, _, (Sub.cons Sub.join).trans (Sub.sel [3, 4, 5, 6] 9 (by decide) (bcell r8 st.op :: ocell r4 (.slice Av l.length cv) :: icell r7 st.at_ :: sg :: sl :: junk :: kseg c st.K :: sseg r3 s A cc :: sgd :: S)), _, l, sg, _, rfl, by rw [hrr]; rfl, hv, hin.all, by rw [hrr]; exact hlp, by omega⟩
end Go.Proofs.Gr

namespace Go.Proofs.Gr
open Go.SL Go.RowKit Go.Proofs Go.GP
set_option maxHeartbeats 1000000
open Go.MyPlain
def secP (x : RunM) : Sec := ⟨x.fr, x.to, x.lines⟩
theorem secsT_free {n fr : Nat} {I : List ItemP} {s : ByteArray} {w cur : List ByteArray} (h : recAt I fr (s :: w) = none) : secsT n (toks I fr (s :: w)) fr cur = secsT n (toks I fr w) fr (cur ++ [s]) := by
 rw [toks_free h]; rfl
theorem secsT_blk {n fr k : Nat} {I : List ItemP} {w cur : List ByteArray} (hw : 0 < w.length) (h : recAt I fr w = some k) : secsT n (toks I fr w) fr cur = ⟨fr, k, cur⟩ :: secsT n (toks I (k + 1) (w.drop (oneT I[k]!).length)) (k + 1) [] := by
 rw [toks_blk hw h]; rfl
theorem keepT_free {fr : Nat} {K : List Bool} {I : List ItemP} {s : ByteArray} {w : List ByteArray} (h : recAt I fr (s :: w) = none) : keepT K (toks I fr (s :: w)) = keepT K (toks I fr w) := by
 rw [toks_free h]; rfl
theorem keepT_blk {fr k : Nat} {K : List Bool} {I : List ItemP} {w : List ByteArray} (hw : 0 < w.length) (h : recAt I fr w = some k) : keepT K (toks I fr w) = keepT (K.set k true) (toks I (k + 1) (w.drop (oneT I[k]!).length)) := by
 rw [toks_blk hw h]; rfl
theorem strs_drop (l : List ByteArray) (i : Nat) : strs (l.drop i) = (strs l).drop i := by unfold strs; rw [List.map_drop]
theorem cutW {A : Option Addr} {cap i : Nat} {l : List ByteArray} (hi : i <= l.length) (hl : l.length <= cap) :
  ∃ A' c', cutV A cap 1 i l.length = .slice A' (l.drop i).length c' /\ (l.drop i).length <= c' /\ ∀ (w0 : World) (S : SS), Rd w0 S A (strs l) -> Rd w0 S A' (strs (l.drop i)) := by
 have hlen : (l.drop i).length = l.length - i := List.length_drop
 unfold cutV
 rw [<- hlen]
 refine ⟨_, _, rfl, by omega, fun w0 S h => ?_⟩
 split
 ·have : l.drop i = [] := List.eq_nil_of_length_eq_zero (by omega)
  rw [this]
  exact Rd.nil
 intro q v hq
 rw [strs_drop, List.getElem?_drop] at hq
 obtain ⟨a, rfl, hc⟩ := h _ _ hq
 exact ⟨a.add (i * 1), rfl, by rw [addr_add_add, Nat.mul_one]; exact hc⟩
theorem sec_st {w0 : World} {S : SS} {P : Program} {n r : Nat} {T : TT} {x v : PV} {s : Sec} {A : Option Addr} {c : Nat} {z : List Value} (hx : x.val T = some (.pointer (some ⟨r, 0, none⟩))) (hv : v.val T = some (secV s A c)) (hz : z.length = 3) :
  OW P w0 n (.st 3 x v) T ([(r, .cells z 144 3)] :: S) (fun _ S' => S' = sseg r s A c :: S) := by
 refine (OW.st (k := 0) (c := z) (u := secV s A c) hx hv rfl (show (secV s A c).cells.size = 3 from rfl) (by omega) rfl).mono ?_
 rintro _ _ rfl
 rw [show (secV s A c).cells.toList = secC s A c from rfl, setAll (by rw [hz]; rfl)]
 rfl
theorem optI_neg {o : Option Nat} (h : optI o < 0) : o = none := by
 cases o with
 | none => rfl
 | some k => exact absurd h (show ¬ ((k : Int) < 0) by omega)
theorem optI_pos {o : Option Nat} (h : ¬ optI o < 0) : ∃ k, o = some k := by
 cases o with
 | none => exact absurd (show (-1 : Int) < 0 by decide) h
 | some k => exact ⟨k, rfl⟩
theorem cons_of_pos {α : Type} : ∀ {l : List α} (h : 0 < l.length), l = l[0] :: l.drop 1
 | [], h => by cases h
 | _ :: _, _ => rfl
theorem sections_fc {w0 : World} {S : SS} {c : ChM} {K : List Bool} {W : Option Addr} {cw : Nat} {w : List ByteArray} (h : ChOK w0 S c) (hC : Over [cseg c] S) (hk : K.length = c.its.length) (hw : Rd w0 S W (strs w)) (hwc : w.length <= cw) (hwl : w.length <= 100000) :
  FC Try.prog w0 80 [c.ptr, .slice W w.length cw] (kseg c K :: S) (fun v S' => ∃ l sg junk, S' = sg :: junk :: kseg c (keepT K (toks c.I 0 w)) :: S /\ SlV 144 3 v l.length (runsS l) sg /\ (∀ x ∈ l, RunOk w0 junk x) /\ l.map secP = secs c.I w /\ l.length <= 100001) := by
 have hn := h.n
 have hIl := c.I_len
 have htn := h.tlen
 refine FC.ofD Try.known80 (by simp) ?_
 unfold Try.pc80
 simp only [argT]
 refine PW.seqOps (OL.dp rfl (OL.nil (PW.k3 0 1 4 rfl (PW.seqOps (OL.subS (S' := [] :: [] :: [] :: kseg c K :: S) (Sub.nilL (Sub.nilL (Sub.nilL (Sub.refl _)))) (OL.det trivial (.build (cs := secC ⟨0, 0, []⟩ none 0) rfl) (OL.cons trivial OW.al ?_)))))))
 rintro _ _ ⟨r5, rfl, rfl⟩
 refine OL.cons trivial (sec_st (s := ⟨0, 0, []⟩) (A := none) (c := 0) rfl rfl rfl) ?_
 rintro _ _ rfl
 refine OL.nil (PW.k4 0 1 4 5 rfl ?_)
 refine PW.seq fun K1 hK1 => ?_
 refine PW.block (PW.k4 0 1 4 5 rfl ?_)
 refine PW.loopK (I := fun m T S' => ∃ (w1 : List ByteArray) (W1 : Option Addr) (cw1 fr : Nat) (cur : List ByteArray) (A : Option Addr) (cc : Nat) (l : List RunM) (v : Value) (sl sg junk : Seg) (K1 : List Bool), (m = w1.length /\ Rd w0 S W1 (strs w1) /\ w1.length <= cw1 /\ fr <= c.its.length /\ SlV 9 1 (.slice A cur.length cc) cur.length (strs cur) sl /\ SlV 144 3 v l.length (runsS l) sg /\ (∀ x ∈ l, RunOk w0 junk x) /\ secs c.I w = l.map secP ++ secsT c.I.length (toks c.I fr w1) fr cur /\ keepT K (toks c.I 0 w) = keepT K1 (toks c.I fr w1) /\ K1.length = c.its.length /\ l.length + w1.length <= 100000 /\ cur.length + w1.length <= 100000) /\ T = ([(0, c.ptr), (1, .slice W1 w1.length cw1), (4, v), (5, .pointer (some ⟨r5, 0, none⟩))] : TT) /\ S' = sseg r5 ⟨fr, 0, cur⟩ A cc :: sl :: sg :: junk :: kseg c K1 :: S) (m := w.length) ⟨w, W, cw, 0, [], none, 0, [], _, [], [], [], K, ⟨rfl, hw, hwc, by omega, SlV.nil 9 1, SlV.nil 144 3, (by simp), rfl, rfl, hk, by simp; omega, by simp; omega⟩, rfl, rfl⟩ ?_
 rintro m _ _ ⟨w1, W1, cw1, fr, cur, A, cc, l, v, sl, sg, junk, K1, ⟨hm, hw1, hwc1, hfr, hsl, hsg, hrows, hsec, hkp, hKn, hll, hcl⟩, rfl, rfl⟩
 refine PW.seq fun K2 hK2 => ?_
 refine PW.seqOps (OL.dp rfl (OL.dp rfl (OL.dp rfl (OL.nil (PW.k5 0 1 4 5 10 rfl ?_)))))
 refine PW.cond rfl (fun c10 => ?_) (fun c10 => ?_)
 ·try simp only [cvS] at c10
  have hpos : 0 < w1.length := by omega
  obtain ⟨aW, rfl⟩ := strs_some hw1 hpos
  refine PW.skip ?_
  refine hK2 _ _ ?_
  refine PW.k4 0 1 4 5 rfl (PW.block (PW.seqOps (OL.dp rfl (OL.dp rfl (OL.det trivial (.ld rfl (own_at (j := 0) (c := secC ⟨fr, 0, cur⟩ A cc) (E := 144) (tot := 3) zM0 rfl)) (OL.dp rfl ?_))))))
  refine OL.call trivial rfl (block_fc2 (h.mono (Over.refl _).cons.cons.cons.cons.cons) (fun q hq => (hC.cons.cons.cons.cons.cons) q hq) (hw1.mono (Over.refl _).cons.cons.cons.cons.cons) hwc1 (by omega) hfr) ?_
  rintro _ Sx ⟨rfl, hSx⟩
  rw [hSx]
  clear hSx
  refine OL.dp rfl (OL.nil (PW.k5 0 1 4 5 6 rfl ?_))
  refine PW.seq fun K3 hK3 => ?_
  refine PW.seqOps (OL.dp rfl (OL.dp rfl (OL.nil (PW.k6 0 1 4 5 6 17 rfl ?_))))
  refine PW.cond rfl (fun c17 => ?_) (fun c17 => ?_)
  ·try simp only [cvS] at c17
   have hrec := optI_neg c17
   refine PW.seq fun K4 hK4 => ?_
   refine PW.quietG (Ss := Over (sseg r5 ⟨fr, 0, cur⟩ A cc :: sl :: sg :: junk :: kseg c K1 :: S)) (fr := false) [(0, 0), (1, 0), (2, 0), (3, 0), (4, 0), (5, 2)] Try.mixed (by decide +kernel) (Over.refl _) (fun h => by cases h) ?_
   refine GL.dp rfl ?_
   refine GL.det trivial (fun Sx hSx => Yields.ld rfl (own_at (j := 2) (c := secC ⟨fr, 0, cur⟩ A cc) (E := 144) (tot := 3) (hSx _ zM0) rfl)) ?_
   refine GL.dp rfl ?_
   refine GL.det trivial (fun Sx hSx => Yields.ixN1 (j := 0) rfl rfl rfl hpos) ?_
   refine GL.det trivial (fun Sx hSx => Yields.ld rfl (str_at (hw1.mono fun q hq => hSx q ((Over.refl S).cons.cons.cons.cons.cons q hq)) hpos)) ?_
   refine GL.lo trivial (OW.mono (K := fun u S' => ∃ r, u = .slice (some ⟨r, 0, none⟩) 1 1 /\ S' = [(r, .cells [.string w1[0]] 9 1)] :: sseg r5 ⟨fr, 0, cur⟩ A cc :: sl :: sg :: junk :: kseg c K1 :: S) (OW.bsl rfl) fun v S2 hk => ⟨(fun u S' ⟨r, _, h⟩ => by rw [h]; exact (Over.refl _).cons) v S2 hk, ?_⟩)
   revert v S2
   rintro _ _ ⟨r23, rfl, rfl⟩
   change OL _ _ _ [_, _, _] _ _ _
   refine OL.cons trivial (OW.app (k := 2) rfl rfl hsl rfl (news := [.string w1[0]]) rfl (fun j u hj => (Rd.own (xs := [.string w1[0]]) (E := 9) (tot := 1) zM0).at hj) rfl (by omega) (by unfold maxLen; omega)) ?_
   rintro v24 _ ⟨seg24, rfl, hsl24⟩
   have h24 : SlV 9 1 v24 (cur ++ [w1[0]]).length (strs (cur ++ [w1[0]])) seg24 := by simpa [strs] using hsl24
   obtain ⟨A3, c3, rfl, -, -, -⟩ := slv_rdL (w0 := w0) h24
   refine OL.dp rfl (OL.cons trivial (OW.st (k := 1) rfl rfl rfl rfl (Nat.le_refl 3) rfl) ?_)
   rintro _ _ rfl
   refine OL.nil ?_
   refine hK4 _ _ ?_
   refine PW.k4 0 1 4 5 rfl (PW.seqOps (OL.dp rfl ?_))
   obtain ⟨W2, cw2, hcut, hc2, hr2⟩ := cutW (A := some aW) (i := 1) (l := w1) hpos hwc1
   refine OL.det trivial (.to (v' := .slice W2 (w1.drop 1).length cw2) (Yields.slS (l := 1) (h := w1.length) rfl rfl rfl (.inl rfl) (.inr ⟨rfl, rfl⟩) hpos hwc1) hcut) (OL.dp rfl (OL.nil (PW.k4 0 1 4 5 rfl (PW.exit ?_))))
   repeat rw [inBlk_n]
   try rw [thenK_n]
   refine LoopEnd.mkS (Sub.drop (Sub.refl _)) (T'' := [(0, _), (1, _), (4, _), (5, _)]) (wi rfl) ?_
   have hc0 := cons_of_pos hpos
   have e1 := secsT_free (n := c.I.length) (cur := cur) (by rw [<- hc0]; exact hrec)
   have e2 := keepT_free (K := K1) (by rw [<- hc0]; exact hrec)
   rw [<- hc0] at e1 e2
   have hdl : (w1.drop 1).length = w1.length - 1 := List.length_drop
   exact ⟨(w1.drop 1).length, by omega, w1.drop 1, W2, cw2, fr, cur ++ [w1[0]], A3, c3, l, v, seg24, sg, junk, K1, ⟨rfl, hr2 w0 S hw1, hc2, hfr, h24, hsg, hrows, by rw [hsec, e1], by rw [hkp, e2], hKn, by omega, by rw [List.length_append, List.length_singleton]; omega⟩, rfl, rfl⟩
  try simp only [cvS] at c17
  obtain ⟨kb, hrec⟩ := optI_pos c17
  rw [hrec]
  obtain ⟨hk1, hk2, hk3, hk4⟩ := recAt_some hrec
  have hkn : kb < c.its.length := by omega
  have hkt : kb < c.tm.length := by omega
  have htg : (c.tm[kb]'hkt).l = oneT c.I[kb]! := by rw [h.tget hkn, getElem!_pos c.I kb hk2]
  have hle : (c.tm[kb]'hkt).l.length <= w1.length := by
   rw [htg]; unfold begT at hk4; simp only [Bool.and_eq_true, decide_eq_true_eq] at hk4; exact hk4.1
  obtain ⟨b0, hb0⟩ := tolds_some h.told (show 0 < c.tm.length by omega)
  have ht2 := h.told
  rw [hb0] at ht2
  refine PW.skip ?_
  refine hK3 _ _ ?_
  refine PW.k5 0 1 4 5 6 rfl (PW.seqOps (OL.dp rfl (OL.dp rfl (OL.cons trivial (OW.st (k := 0) rfl rfl rfl rfl (Nat.le_succ 2) rfl) ?_))))
  rintro _ _ rfl
  refine OL.nil (PW.k5 0 1 4 5 6 rfl (PW.seqOps ?_))
  change OL _ _ _ _ _ (sseg r5 ⟨fr, kb, cur⟩ A cc :: sl :: sg :: junk :: kseg c K1 :: S) _
  refine OL.dp rfl (OL.det trivial (.ldA rfl rfl (all_at (c := secC ⟨fr, kb, cur⟩ A cc) (E := 144) (tot := 3) zM0)) ?_)
  apply OL.app1 (k := 2)
  ·rfl
  ·rfl
  ·rfl
  ·rfl
  ·rfl
  ·rfl
  ·exact hsg
  ·rfl
  ·omega
  ·unfold maxLen; omega
  intro v33 sg2 hsg20
  have hsg2 : SlV 144 3 v33 (l ++ [(⟨fr, kb, A, cc, cur⟩ : RunM)]).length (runsS (l ++ [(⟨fr, kb, A, cc, cur⟩ : RunM)])) sg2 := by rw [runsS_app, List.length_append]; exact hsg20
  refine OL.dp rfl (OL.nil (PW.k5 0 1 4 5 6 rfl (PW.seqOps (OL.dp rfl (OL.det trivial (Yields.nilc rfl) (OL.dp rfl (OL.det trivial (.ld rfl (own_at (j := 2) (c := c.cells) (E := 138) (tot := 3) (hC.cons.cons.cons.cons.cons _ (List.mem_flatten.2 ⟨_, List.mem_singleton.2 rfl, List.mem_singleton.2 rfl⟩)) rfl)) (OL.dp rfl ?_))))))))
  refine OL.det trivial (.to (v' := .pointer (some ⟨c.rk, kb, none⟩)) (Yields.ixN1 rfl rfl rfl hkn) (by simp [Addr.add, eq_comm])) ?_
  refine OL.cons trivial (OW.st (k := 4) rfl rfl rfl rfl (by rw [List.length_map]; omega) rfl) ?_
  rintro _ _ rfl
  refine OL.nil (PW.k5 0 1 4 5 6 rfl (PW.seqOps (OL.dp rfl (OL.dp rfl (OL.det trivial (Yields.nilc rfl) (OL.dp rfl (OL.det trivial (.ld rfl (own_at (j := 1) (c := c.cells) (E := 138) (tot := 3) (hC.cons.cons.cons.cons.cons _ (List.mem_flatten.2 ⟨_, List.mem_singleton.2 rfl, List.mem_singleton.2 rfl⟩)) rfl)) (OL.dp rfl ?_))))))))
  rw [hb0]
  refine OL.det trivial (.ixN1 rfl rfl rfl hkt) (OL.det trivial (.ld rfl (told_at (ht2.cons.cons.cons.cons.cons) hkt)) (OL.dp rfl ?_))
  obtain ⟨W2, cw2, hcut, hc2, hr2⟩ := cutW (A := some aW) (i := (c.tm[kb]'hkt).l.length) (l := w1) (by omega) hwc1
  refine OL.det trivial (.to (v' := .slice W2 (w1.drop (c.tm[kb]'hkt).l.length).length cw2) (Yields.slS (l := (c.tm[kb]'hkt).l.length) (h := w1.length) rfl rfl rfl (.inl rfl) (.inr ⟨rfl, rfl⟩) (by omega) hwc1) hcut) ?_
  refine OL.dp rfl (OL.nil (PW.k5 0 1 4 5 6 rfl (PW.ops (OL.dp rfl ?_))))
  refine OL.det trivial (.to (v' := .int .i64 ((kb + 1 : Nat) : Int)) (Yields.add64 rfl rfl (show -9223372036854775808 <= (kb : Int) + 1 by omega) (show (kb : Int) + 1 <= 9223372036854775807 by omega)) (congrArg (Value.int .i64) (show (kb : Int) + 1 = _ by omega))) ?_
  refine OL.det trivial (.build (cs := secC ⟨kb + 1, 0, []⟩ none 0) rfl) (OL.cons trivial (sec_st (s := ⟨kb + 1, 0, []⟩) (A := none) (c := 0) rfl rfl rfl) ?_)
  rintro _ _ rfl
  refine OL.nil ?_
  repeat rw [inBlk_n]
  try rw [thenK_n]
  refine LoopEnd.mkS ((Sub.cons (Sub.nilL (Sub.cons Sub.join))).trans (Sub.sel [0, 2, 1, 3, 4] 5 (by decide) _)) (T'' := [(0, _), (1, _), (4, _), (5, _)]) (wi rfl) ?_
  have e1 := secsT_blk (n := c.I.length) (cur := cur) hpos hrec
  have e2 := keepT_blk (K := K1) hpos hrec
  rw [<- htg] at e1 e2
  have hob := oneT_pos hk3
  rw [<- htg] at hob
  have hdl : (w1.drop (c.tm[kb]'hkt).l.length).length = w1.length - (c.tm[kb]'hkt).l.length := List.length_drop
  have hks := kseg_set c K1 kb (by omega)
  refine ⟨(w1.drop (c.tm[kb]'hkt).l.length).length, by omega, w1.drop (c.tm[kb]'hkt).l.length, W2, cw2, kb + 1, [], none, 0, (l ++ [(⟨fr, kb, A, cc, cur⟩ : RunM)]), _, [], sg2, sl ++ junk, K1.set kb true, ⟨rfl, hr2 w0 S hw1, hc2, by omega, SlV.nil 9 1, hsg2, ?_, by rw [hsec, e1, List.map_append, List.append_assoc]; rfl, by rw [hkp, e2], by rw [List.length_set]; exact hKn, by rw [List.length_append, List.length_singleton]; omega, (by rw [hdl]; show 0 + _ <= _; omega)⟩, rfl, ?_⟩
  ·intro x hx
   rcases List.mem_append.1 hx with h1 | h1
   ·exact (hrows x h1).more fun p hp => List.mem_append_right _ hp
   rw [List.mem_singleton.1 h1]
   exact (run_ok (x := ⟨fr, kb, A, cc, cur⟩) hsl).more fun p hp => List.mem_append_left _ hp
  refine List.cons_eq_cons.2 ⟨rfl, List.cons_eq_cons.2 ⟨rfl, List.cons_eq_cons.2 ⟨rfl, List.cons_eq_cons.2 ⟨rfl, List.cons_eq_cons.2 ⟨?_, rfl⟩⟩⟩⟩⟩
  exact congrArg (fun z => [(c.rk, AO.cells z 4 (c.its.length * 1))]) hks
 try simp only [cvS] at c10
 refine PW.exit ?_
 refine hK1 _ _ ?_
 refine PW.k3 0 4 5 rfl (PW.seqOps (OL.dp rfl (OL.det trivial (Yields.nilc rfl) (OL.dp rfl (OL.det trivial (.ld rfl (own_at (j := 0) (c := c.cells) (E := 138) (tot := 3) (hC.cons.cons.cons.cons.cons _ (List.mem_flatten.2 ⟨_, List.mem_singleton.2 rfl, List.mem_singleton.2 rfl⟩)) rfl)) (OL.dp rfl (OL.dp rfl (OL.cons trivial (OW.st (k := 0) rfl rfl rfl rfl (Nat.le_succ 2) rfl) ?_))))))))
 rintro _ _ rfl
 refine OL.nil (PW.k2 4 5 rfl (PW.seqOps ?_))
 change OL _ _ _ _ _ (sseg r5 ⟨fr, c.its.length, cur⟩ A cc :: sl :: sg :: junk :: kseg c K1 :: S) _
 refine OL.dp rfl (OL.det trivial (.ldA rfl rfl (all_at (c := secC ⟨fr, c.its.length, cur⟩ A cc) (E := 144) (tot := 3) zM0)) ?_)
 apply OL.app1 (k := 2)
 ·rfl
 ·rfl
 ·rfl
 ·rfl
 ·rfl
 ·rfl
 ·exact hsg
 ·rfl
 ·omega
 ·unfold maxLen; omega
 intro v62 sg2 hsg20
 refine OL.dp rfl (OL.nil (PW.k1 4 rfl (PW.ret ?_)))
 change (Exit.ret = Exit.normal ∨ Exit.ret = Exit.ret) /\ ∃ v, resV _ _ = some v /\ _
 have hw0 : w1 = [] := List.eq_nil_of_length_eq_zero (by omega)
 subst hw0
 rw [toks_nil] at hsec hkp
 have hsg2 : SlV 144 3 v62 (l ++ [(⟨fr, c.its.length, A, cc, cur⟩ : RunM)]).length (runsS (l ++ [(⟨fr, c.its.length, A, cc, cur⟩ : RunM)])) sg2 := by rw [runsS_app, List.length_append]; exact hsg20
 refine ⟨.inr rfl, _, rfl, _, (Sub.cons (Sub.join (b := junk))).trans (Sub.sel [2, 1, 3, 4] 5 (by decide) (sseg r5 ⟨fr, c.its.length, cur⟩ A cc :: sl :: sg2 :: junk :: kseg c K1 :: S)), l ++ [(⟨fr, c.its.length, A, cc, cur⟩ : RunM)], sg2, sl ++ junk, by rw [hkp]; rfl, hsg2, ?_, by rw [hsec, List.map_append, c.I_len]; rfl, by rw [List.length_append, List.length_singleton]; omega⟩
 intro x hx
 rcases List.mem_append.1 hx with h1 | h1
 ·exact (hrows x h1).more fun p hp => List.mem_append_right _ hp
 rw [List.mem_singleton.1 h1]
 exact (run_ok (x := ⟨fr, c.its.length, A, cc, cur⟩) hsl).more fun p hp => List.mem_append_left _ hp
end Go.Proofs.Gr

namespace Go.Proofs.Gr
open Go.SL Go.RowKit Go.Proofs Go.GP
set_option maxHeartbeats 1000000
theorem runsS_get {l : List RunM} {k j : Nat} (hk : k < l.length) (hj : j < 3) : (runsS l)[k * 3 + j]? = (runC l[k])[j]? := by
 have e : runsS l = runsS (l.take k) ++ (runC l[k] ++ runsS (l.drop (k + 1))) := by
  conv => lhs; rw [<- List.take_append_drop k l, runsS_app, List.drop_eq_getElem_cons hk]
  rfl
 rw [e, List.getElem?_append_right (by rw [runsS_len, List.length_take]; omega), runsS_len, List.length_take, List.getElem?_append_left (by show _ < 3; omega)]
 congr 1
 omega
theorem run_at {w0 : World} {S : SS} {a : Addr} {l : List RunM} (h : Rd w0 S (some a) (runsS l)) {k : Nat} (hk : k < l.length) : ∀ (j : Nat) (v : Value), (runC l[k])[j]? = some v -> Cell w0 S ((a.add (k * 3)).add j) v := by
 intro j v hj
 have hj2 : j < 3 := (List.getElem?_eq_some_iff.1 hj).1
 rw [addr_add_add]
 exact h.at (by rw [runsS_get hk hj2]; exact hj)
theorem runsS_some {w0 : World} {S : SS} {A : Option Addr} {l : List RunM} (h : Rd w0 S A (runsS l)) (hk : 0 < l.length) : ∃ a, A = some a :=
 h.some (fun e => by have := runsS_len l; rw [e] at this; simp at this; omega)
def manyS (l : List Sec) : Nat := (l.map fun s => s.lines.length).sum
def badS (l : List Sec) : Bool := l.any fun s => s.lines.any fun x => !Ln.isP x
def checkP (l : List Sec) : Int := if 256 < manyS l then 3 else if badS l then 4 else 0
theorem manyS_snoc (l : List Sec) (x : Sec) : manyS (l ++ [x]) = manyS l + x.lines.length := by
 unfold manyS; rw [List.map_append, List.sum_append]; simp
theorem badS_snoc (l : List Sec) (x : Sec) : badS (l ++ [x]) = (badS l || x.lines.any fun y => !Ln.isP y) := by
 unfold badS; rw [List.any_append]; simp
theorem manyS_le {l : List Sec} {b : Nat} (h : ∀ s ∈ l, s.lines.length <= b) : manyS l <= b * l.length := by
 induction l with
 | nil => simp [manyS]
 | cons s l ih =>
  have h1 := h s (by simp)
  have h2 := ih (fun x hx => h x (List.mem_cons_of_mem _ hx))
  unfold manyS at h2 ⊢
  rw [List.map_cons, List.sum_cons, List.length_cons, Nat.mul_succ]
  omega
theorem check1_fc {w0 : World} {S : SS} {s : ByteArray} (hs : s.size <= 1000000000000000) : FC Try.prog w0 102 [.string s] S (fun v S' => v = .bool (!Ln.isP s) /\ S' = S) := by
 refine FC.of Try.known102 (by simp) ?_
 unfold Try.pc102
 simp only [argT]
 refine PW.seqOps (OL.dp rfl (OL.nil (PW.k1 0 rfl (PW.seqOps (OL.dp rfl (OL.call trivial rfl (Ln.is_fc hs) ?_))))))
 rintro _ Sx ⟨rfl, hSx⟩
 rw [hSx]
 clear hSx
 refine OL.dp rfl (OL.dp rfl (OL.nil (PW.k1 2 rfl (PW.ret ?_))))
 change (Exit.ret = Exit.normal ∨ Exit.ret = Exit.ret) /\ ∃ v, resV _ _ = some v /\ _
 exact ⟨.inr rfl, _, rfl, rfl, rfl⟩
theorem check_fc {w0 : World} {S : SS} {A : Option Addr} {cap : Nat} {l : List RunM} (h : Rd w0 S A (runsS l)) (hr : ∀ x ∈ l, Rd w0 S x.A (strs x.lines)) (hz : ∀ x ∈ l, ∀ s ∈ x.lines, s.size <= 1000000000000000) (hll : ∀ x ∈ l, x.lines.length <= 1000000) (hl : l.length <= 1000000) :
  FC Try.prog w0 81 [.slice A l.length cap] S (fun v S' => v = .int .i64 (checkP (l.map secP)) /\ S' = S) := by
 have hmn : ∀ k, k <= l.length -> manyS ((l.take k).map secP) <= 1000000 * k := fun k hk => by
  have := manyS_le (l := (l.take k).map secP) (b := 1000000) (fun s hs => by obtain ⟨x, hx, rfl⟩ := List.mem_map.1 hs; exact hll x (List.mem_of_mem_take hx))
  rw [List.length_map, List.length_take, Nat.min_eq_left hk] at this
  exact this
 have hmk : ∀ k (hk : k < l.length), manyS ((l.take (k + 1)).map secP) = manyS ((l.take k).map secP) + l[k].lines.length := fun k hk => by
  rw [ltake_snoc hk, List.map_append]; exact manyS_snoc _ _
 have hbk : ∀ k (hk : k < l.length), badS ((l.take (k + 1)).map secP) = (badS ((l.take k).map secP) || l[k].lines.any fun y => !Ln.isP y) := fun k hk => by
  rw [ltake_snoc hk, List.map_append]; exact badS_snoc _ _
 refine FC.ofD Try.known81 (by simp) ?_
 unfold Try.pc81
 simp only [argT]
 refine PW.seqOps (OL.dp rfl (OL.nil (PW.k1 0 rfl (PW.seqOps (OL.dp rfl (OL.dp rfl (OL.nil (PW.k3 0 3 4 rfl ?_))))))))
 refine PW.seq fun K1 hK1 => ?_
 refine PW.seqOps (OL.dp rfl (OL.dp rfl (OL.dp rfl (OL.nil (PW.k5 3 4 7 8 9 rfl (PW.block (PW.k5 3 4 7 8 9 rfl ?_)))))))
 refine PW.loopK (I := fun mm T S' => ∃ (k : Nat), (k <= l.length /\ mm = l.length - k) /\ T = ([(3, .int .i64 (manyS ((l.take k).map secP) : Int)), (4, .int .i64 (if badS ((l.take k).map secP) then 4 else 0)), (7, .slice A l.length cap), (8, .int .i64 (l.length : Int)), (9, .int .i64 k)] : TT) /\ S' = S) (m := l.length) ⟨0, ⟨by omega, by omega⟩, rfl, rfl⟩ ?_
 rintro mm _ _ ⟨k, ⟨hk, hmm⟩, rfl, rfl⟩
 refine PW.seqOps (OL.dp rfl (OL.nil (PW.k6 3 4 7 8 9 10 rfl ?_)))
 refine PW.seq fun K2 hK2 => ?_
 refine PW.cond rfl (fun c10 => ?_) (fun c10 => ?_)
 ·try simp only [cvS] at c10
  have hkl : k < l.length := by omega
  obtain ⟨a0, rfl⟩ := runsS_some h (by omega)
  have h2 := h
  refine PW.skip ?_
  refine hK2 _ _ ?_
  refine PW.k5 3 4 7 8 9 rfl ?_
  refine PW.seq fun K3 hK3 => ?_
  refine PW.block (PW.seqOps (OL.det trivial (.ixN rfl rfl rfl hkl) (OL.det trivial (.ldA rfl rfl (run_at h2 hkl)) (OL.cons trivial OW.al ?_))))
  rintro _ _ ⟨r6, rfl, rfl⟩
  refine OL.cons trivial (sec_st (s := secP l[k]) (A := l[k].A) (c := l[k].c) rfl rfl rfl) ?_
  rintro _ _ rfl
  refine OL.nil (PW.k6 3 4 6 7 8 9 rfl (PW.seqOps (OL.dp rfl (OL.dp rfl (OL.det trivial (.ld rfl (own_at (j := 2) (c := secC (secP l[k]) l[k].A l[k].c) (E := 144) (tot := 3) zM0 rfl)) (OL.dp rfl ?_))))))
  have hm1 := hmn k hk
  have hm2 := hll _ (List.getElem_mem hkl)
  have hm3 := hmk k hkl
  refine OL.det trivial (.to (v' := .int .i64 (manyS ((l.take (k + 1)).map secP) : Int)) (Yields.add64 rfl rfl (show -9223372036854775808 <= (manyS ((l.take k).map secP) : Int) + (l[k].lines.length : Int) by omega) (show (manyS ((l.take k).map secP) : Int) + (l[k].lines.length : Int) <= 9223372036854775807 by omega)) (congrArg (Value.int .i64) (show (manyS ((l.take k).map secP) : Int) + (l[k].lines.length : Int) = _ by omega))) ?_
  refine OL.dp rfl (OL.nil (PW.k6 3 4 6 7 8 9 rfl (PW.seqOps (OL.dp rfl (OL.det trivial (.ld rfl (own_at (j := 2) (c := secC (secP l[k]) l[k].A l[k].c) (E := 144) (tot := 3) zM0 rfl)) ?_)))))
  refine OL.call trivial rfl (Ln.contains_fc (g := 102) (q := fun x => !Ln.isP x) ((hr _ (List.getElem_mem hkl)).cons) (show l[k].lines.length <= 1000000000 by have := hll _ (List.getElem_mem hkl); omega) (by kernel_rfl) (fun s hs => check1_fc (hz _ (List.getElem_mem hkl) s hs))) ?_
  rintro _ Sx ⟨rfl, hSx⟩
  rw [hSx]
  clear hSx
  refine OL.nil (PW.k6 3 4 7 8 9 20 rfl ?_)
  refine PW.cond rfl (fun c20 => ?_) (fun c20 => ?_)
  ·skip
   refine PW.ops (OL.dp rfl (OL.nil ?_))
   refine hK3 _ _ ?_
   refine PW.k5 3 4 7 8 9 rfl (PW.ops ?_)
   refine OL.det trivial (.add64 rfl rfl (by omega) (by omega)) ?_
   refine OL.dp rfl (OL.nil ?_)
   repeat rw [inBlk_n]
   try rw [thenK_n]
   refine LoopEnd.mkS (Sub.drop (Sub.refl _)) (T'' := [(3, _), (4, _), (7, _), (8, _), (9, _)]) (wi rfl) ?_
   have hb2 : badS ((l.take (k + 1)).map secP) = true := by rw [hbk k hkl, show (l[k].lines.any fun y => !Ln.isP y) = true from c20, Bool.or_true]
   exact ⟨l.length - (k + 1), by omega, k + 1, ⟨by omega, rfl⟩, by rw [hb2]; rfl, rfl⟩
  skip
  refine PW.skip ?_
  refine hK3 _ _ ?_
  refine PW.k5 3 4 7 8 9 rfl (PW.ops ?_)
  refine OL.det trivial (.add64 rfl rfl (by omega) (by omega)) ?_
  refine OL.dp rfl (OL.nil ?_)
  repeat rw [inBlk_n]
  try rw [thenK_n]
  refine LoopEnd.mkS (Sub.drop (Sub.refl _)) (T'' := [(3, _), (4, _), (7, _), (8, _), (9, _)]) (wi rfl) ?_
  have hb2 : badS ((l.take (k + 1)).map secP) = badS ((l.take k).map secP) := by rw [hbk k hkl, show (l[k].lines.any fun y => !Ln.isP y) = false from c20, Bool.or_false]
  exact ⟨l.length - (k + 1), by omega, k + 1, ⟨by omega, rfl⟩, by rw [hb2]; rfl, rfl⟩
 try simp only [cvS] at c10
 refine PW.exit ?_
 refine hK1 _ _ ?_
 refine PW.k2 3 4 rfl ?_
 refine PW.seq fun K4 hK4 => ?_
 refine PW.seqOps (OL.dp rfl (OL.dp rfl (OL.nil (PW.k2 4 23 rfl ?_))))
 refine PW.cond rfl (fun c23 => ?_) (fun c23 => ?_)
 ·try simp only [cvS] at c23
  refine PW.seqOps (OL.dp rfl (OL.nil (PW.k1 2 rfl (PW.ret ?_))))
  change (Exit.ret = Exit.normal ∨ Exit.ret = Exit.ret) /\ ∃ v, resV _ _ = some v /\ _
  have hke : k = l.length := by omega
  rw [hke, List.take_length] at c23
  exact ⟨.inr rfl, _, rfl, _, Sub.refl _, congrArg (Value.int .i64) (by unfold checkP; rw [if_pos (by omega)]), rfl⟩
 try simp only [cvS] at c23
 refine PW.skip ?_
 refine hK4 _ _ ?_
 refine PW.k1 4 rfl (PW.seqOps (OL.dp rfl (OL.dp rfl (OL.nil (PW.k1 2 rfl (PW.ret ?_))))))
 change (Exit.ret = Exit.normal ∨ Exit.ret = Exit.ret) /\ ∃ v, resV _ _ = some v /\ _
 have hke : k = l.length := by omega
 rw [hke, List.take_length] at c23
 exact ⟨.inr rfl, _, rfl, _, Sub.refl _, congrArg (Value.int .i64) (by unfold checkP; rw [if_neg (show ¬ 256 < manyS (l.map secP) by omega), hke, List.take_length]), rfl⟩
def chgC (f u d : Vtx) (G L : Value) : List Value := [.int .i64 5] ++ (vtxL f ++ ([.string ⟨#[]⟩, .int .i64 0, .int .u64 0] ++ (vtxL u ++ (vtxL d ++ [G, L]))))
def chgV (f u d : Vtx) (G L : Value) : Value := .agg (chgC f u d G L).toArray
def zChg : List Value := [.int .i64 0] ++ (z33 ++ ([.string ⟨#[]⟩, .int .i64 0, .int .u64 0] ++ (z33 ++ (z33 ++ [.slice none 0 0, .slice none 0 0]))))
theorem z33_len : z33.length = 33 := by simp [z33]
theorem chgC_len (f u d : Vtx) (G L : Value) : (chgC f u d G L).length = 105 := by unfold chgC; simp only [List.length_append, vtxL_len]; rfl
theorem zChg_len : zChg.length = 105 := by unfold zChg; simp only [List.length_append, z33_len]; rfl
theorem chg_up (f u d v : Vtx) (G L : Value) : setAt (chgC f u d G L) 37 (vtxL v) = chgC f v d G L := by
 have := setMid (a := [.int .i64 5] ++ (vtxL f ++ [Value.string ⟨#[]⟩, Value.int .i64 0, Value.int .u64 0])) (b := vtxL u) (c := chgC f u d G L) (d := vtxL d ++ [G, L]) (e := vtxL v) (n := 37) (by unfold chgC; simp only [List.append_assoc]) (by simp only [List.length_append, vtxL_len]; rfl) (by rw [vtxL_len, vtxL_len])
 rw [this]; unfold chgC; simp only [List.append_assoc]
theorem chg_down (f u d v : Vtx) (G L : Value) : setAt (chgC f u d G L) 70 (vtxL v) = chgC f u v G L := by
 have := setMid (a := [.int .i64 5] ++ (vtxL f ++ ([.string ⟨#[]⟩, .int .i64 0, .int .u64 0] ++ vtxL u))) (b := vtxL d) (c := chgC f u d G L) (d := [G, L]) (e := vtxL v) (n := 70) (by unfold chgC; simp only [List.append_assoc]) (by simp only [List.length_append, vtxL_len]; rfl) (by rw [vtxL_len, vtxL_len])
 rw [this]; unfold chgC; simp only [List.append_assoc]
theorem chg_gone (f u d : Vtx) (G L G' : Value) : setAt (chgC f u d G L) 103 [G'] = chgC f u d G' L := by
 have := setMid (a := [.int .i64 5] ++ (vtxL f ++ ([.string ⟨#[]⟩, .int .i64 0, .int .u64 0] ++ (vtxL u ++ vtxL d)))) (b := [G]) (c := chgC f u d G L) (d := [L]) (e := [G']) (n := 103) (by unfold chgC; simp only [List.append_assoc]; rfl) (by simp only [List.length_append, vtxL_len]; rfl) rfl
 rw [this]; unfold chgC; simp only [List.append_assoc]; rfl
theorem chgC_gone (f u d : Vtx) (G L : Value) : (chgC f u d G L)[103]? = some G /\ (chgC f u d G L)[104]? = some L := by
 have e : chgC f u d G L = ([.int .i64 5] ++ (vtxL f ++ ([.string ⟨#[]⟩, .int .i64 0, .int .u64 0] ++ (vtxL u ++ vtxL d)))) ++ [G, L] := by unfold chgC; simp only [List.append_assoc]
 have hl : ([Value.int .i64 5] ++ (vtxL f ++ ([Value.string ⟨#[]⟩, Value.int .i64 0, Value.int .u64 0] ++ (vtxL u ++ vtxL d)))).length = 103 := by simp only [List.length_append, vtxL_len]; rfl
 rw [e]
 constructor
 ·rw [List.getElem?_append_right (by omega), hl]; rfl
 rw [List.getElem?_append_right (by omega), hl]; rfl
theorem chgC_one (f u d : Vtx) (A B : Option Addr) (n m c e : Nat) : (chgC f u d (.slice A n c) (.slice B m e)).all (·.oneCell') = true := by
 unfold chgC
 simp only [List.all_append, vtxL_one]; rfl
theorem chg_box (f u d : Vtx) (G L : Value) : (chgV f u d G L).cells.toList = chgC f u d G L := rfl
theorem chg_read {w0 : World} {S : SS} {r E tot : Nat} {f u d : Vtx} {G L : Value} (hm : (r, AO.cells (chgC f u d G L) E tot) ∈ S.flatten) : ReadsAs w0 S (some 105) ⟨r, 0, none⟩ (chgV f u d G L) := ⟨chgC f u d G L, rfl, chgC_len .., all_at hm⟩
theorem fill_chg {T : TT} {f u d : Vtx} {A : Option Addr} {n c : Nat} {x y z w e : PV} (h0 : x.val T = some (.int .i64 5)) (h1 : y.val T = some (vtxV f)) (h2 : z.val T = some (vtxV u)) (h3 : w.val T = some (vtxV d)) (h4 : e.val T = some (.slice A n c)) :
  fillP T zChg [(0, 1, x), (1, 33, y), (37, 33, z), (70, 33, w), (104, 1, e)] = some (chgC f u d (.slice none 0 0) (.slice A n c)) := by
 have hf := vtxL_len f
 have hu := vtxL_len u
 have hd := vtxL_len d
 have hz := z33_len
 obtain ⟨I0, hI0⟩ : ∃ N : List Value, N = [.int .i64 0] := ⟨_, rfl⟩
 obtain ⟨I5, hI5⟩ : ∃ N : List Value, N = [.int .i64 5] := ⟨_, rfl⟩
 obtain ⟨M, hM⟩ : ∃ N : List Value, N = [.string ⟨#[]⟩, .int .i64 0, .int .u64 0] := ⟨_, rfl⟩
 obtain ⟨N1, hN1⟩ : ∃ N : List Value, N = [.slice none 0 0] := ⟨_, rfl⟩
 obtain ⟨L1, hL1⟩ : ∃ N : List Value, N = [.slice A n c] := ⟨_, rfl⟩
 have hI0l : I0.length = 1 := by rw [hI0]; rfl
 have hI5l : I5.length = 1 := by rw [hI5]; rfl
 have hMl : M.length = 3 := by rw [hM]; rfl
 have hN1l : N1.length = 1 := by rw [hN1]; rfl
 have hL1l : L1.length = 1 := by rw [hL1]; rfl
 have e0 : zChg = I0 ++ (z33 ++ (M ++ (z33 ++ (z33 ++ (N1 ++ N1))))) := by rw [hI0, hM, hN1]; rfl
 have s1 : setAt zChg 0 I5 = I5 ++ (z33 ++ (M ++ (z33 ++ (z33 ++ (N1 ++ N1))))) := by
  have := setMid (a := []) (c := zChg) (n := 0) (e := I5) (by rw [List.nil_append]; exact e0) rfl (by omega)
  simpa only [List.nil_append] using this
 have s2 : setAt (I5 ++ (z33 ++ (M ++ (z33 ++ (z33 ++ (N1 ++ N1)))))) 1 (vtxL f) = I5 ++ (vtxL f ++ (M ++ (z33 ++ (z33 ++ (N1 ++ N1))))) := setMid (e := vtxL f) rfl (by omega) (by omega)
 have s3 : setAt (I5 ++ (vtxL f ++ (M ++ (z33 ++ (z33 ++ (N1 ++ N1)))))) 37 (vtxL u) = I5 ++ (vtxL f ++ (M ++ (vtxL u ++ (z33 ++ (N1 ++ N1))))) := by
  have := setMid (a := I5 ++ (vtxL f ++ M)) (b := z33) (c := I5 ++ (vtxL f ++ (M ++ (z33 ++ (z33 ++ (N1 ++ N1)))))) (d := z33 ++ (N1 ++ N1)) (e := vtxL u) (n := 37) (by simp only [List.append_assoc]) (by simp only [List.length_append]; omega) (by omega)
  simpa only [List.append_assoc] using this
 have s4 : setAt (I5 ++ (vtxL f ++ (M ++ (vtxL u ++ (z33 ++ (N1 ++ N1)))))) 70 (vtxL d) = I5 ++ (vtxL f ++ (M ++ (vtxL u ++ (vtxL d ++ (N1 ++ N1))))) := by
  have := setMid (a := I5 ++ (vtxL f ++ (M ++ vtxL u))) (b := z33) (c := I5 ++ (vtxL f ++ (M ++ (vtxL u ++ (z33 ++ (N1 ++ N1)))))) (d := N1 ++ N1) (e := vtxL d) (n := 70) (by simp only [List.append_assoc]) (by simp only [List.length_append]; omega) (by omega)
  simpa only [List.append_assoc] using this
 have s5 : setAt (I5 ++ (vtxL f ++ (M ++ (vtxL u ++ (vtxL d ++ (N1 ++ N1)))))) 104 L1 = I5 ++ (vtxL f ++ (M ++ (vtxL u ++ (vtxL d ++ (N1 ++ L1))))) := by
  have := setMid (a := I5 ++ (vtxL f ++ (M ++ (vtxL u ++ (vtxL d ++ N1))))) (b := N1) (c := I5 ++ (vtxL f ++ (M ++ (vtxL u ++ (vtxL d ++ (N1 ++ N1)))))) (d := []) (e := L1) (n := 104) (by simp only [List.append_assoc, List.append_nil]) (by simp only [List.length_append]; omega) (by omega)
  simpa only [List.append_assoc, List.append_nil] using this
 have hzl := zChg_len
 have l1 : (I5 ++ (z33 ++ (M ++ (z33 ++ (z33 ++ (N1 ++ N1)))))).length = 105 := by simp only [List.length_append]; omega
 have l2 : (I5 ++ (vtxL f ++ (M ++ (z33 ++ (z33 ++ (N1 ++ N1)))))).length = 105 := by simp only [List.length_append]; omega
 have l3 : (I5 ++ (vtxL f ++ (M ++ (vtxL u ++ (z33 ++ (N1 ++ N1)))))).length = 105 := by simp only [List.length_append]; omega
 have l4 : (I5 ++ (vtxL f ++ (M ++ (vtxL u ++ (vtxL d ++ (N1 ++ N1)))))).length = 105 := by simp only [List.length_append]; omega
 simp only [fillP, h0, h1, h2, h3, h4]
 rw [if_pos ⟨rfl, by omega⟩]
 rw [show (Value.int .i64 5).cells.toList = I5 from hI5.symm, s1, if_pos ⟨(List.size_toArray).trans hf, by omega⟩]
 rw [show (vtxV f).cells.toList = vtxL f from rfl, s2, if_pos ⟨(List.size_toArray).trans hu, by omega⟩]
 rw [show (vtxV u).cells.toList = vtxL u from rfl, s3, if_pos ⟨(List.size_toArray).trans hd, by omega⟩]
 rw [show (vtxV d).cells.toList = vtxL d from rfl, s4, if_pos ⟨rfl, by omega⟩]
 rw [show (Value.slice A n c).cells.toList = L1 from hL1.symm, s5, hI5, hM, hN1, hL1]
 rfl
section
variable {w0 : World} {S : SS} {P : Program} {n r : Nat} {T : TT} {x y : PV} {f u d : Vtx} {G L : Value}
theorem chg_stU {v : Vtx} (hx : x.val T = some (.pointer (some ⟨r, 37, none⟩))) (hv : y.val T = some (vtxV v)) :
  OW P w0 n (.st 33 x y) T ([(r, .cells (chgC f u d G L) 89 105)] :: S) (fun _ S' => S' = [(r, .cells (chgC f v d G L) 89 105)] :: S) := by
 refine (OW.st (k := 0) (c := chgC f u d G L) (u := vtxV v) hx hv rfl ((List.size_toArray).trans (vtxL_len v)) (by rw [chgC_len]; decide) (vtxL_one v)).mono ?_
 rintro _ _ rfl
 rw [vtx_box, chg_up]; rfl
theorem chg_stD {v : Vtx} (hx : x.val T = some (.pointer (some ⟨r, 70, none⟩))) (hv : y.val T = some (vtxV v)) :
  OW P w0 n (.st 33 x y) T ([(r, .cells (chgC f u d G L) 89 105)] :: S) (fun _ S' => S' = [(r, .cells (chgC f u v G L) 89 105)] :: S) := by
 refine (OW.st (k := 0) (c := chgC f u d G L) (u := vtxV v) hx hv rfl ((List.size_toArray).trans (vtxL_len v)) (by rw [chgC_len]; decide) (vtxL_one v)).mono ?_
 rintro _ _ rfl
 rw [vtx_box, chg_down]; rfl
theorem chg_stG {A : Option Addr} {a c k : Nat} (hk : S[k]? = some [(r, .cells (chgC f u d G L) 89 105)]) (hx : x.val T = some (.pointer (some ⟨r, 103, none⟩))) (hv : y.val T = some (.slice A a c)) :
  OW P w0 n (.st 1 x y) T S (fun _ S' => S' = S.set k [(r, .cells (chgC f u d (.slice A a c) L) 89 105)]) := by
 refine (OW.st (k := k) (c := chgC f u d G L) (u := .slice A a c) hx hv hk rfl (by rw [chgC_len]; exact (by decide : 103 + 1 <= 105)) rfl).mono ?_
 rintro _ _ rfl
 rw [show (Value.slice A a c).cells.toList = [.slice A a c] from rfl, chg_gone]
theorem chg_stk {k : Nat} {z : List Value} {A B : Option Addr} {a b c e : Nat} (hk : S[k]? = some [(r, .cells z 89 105)]) (hx : x.val T = some (.pointer (some ⟨r, 0, none⟩))) (hv : y.val T = some (chgV f u d (.slice A a c) (.slice B b e))) (hz : z.length = 105) :
  OW P w0 n (.st 105 x y) T S (fun _ S' => S' = S.set k [(r, .cells (chgC f u d (.slice A a c) (.slice B b e)) 89 105)]) := by
 refine (OW.st (k := k) (c := z) (u := chgV f u d (.slice A a c) (.slice B b e)) hx hv hk ((List.size_toArray).trans (chgC_len ..)) (by omega) (chgC_one ..)).mono ?_
 rintro _ _ rfl
 rw [chg_box, setAll (by rw [chgC_len, hz])]
end
def upF (I : List ItemP) (K : List Bool) (fr k : Nat) : Vtx := ((((List.range k).filter fun i => decide (i < fr) && solidK I K i).getLast?).map fun i => headV I[i]!).getD rootV
theorem upF_yes {I : List ItemP} {K : List Bool} {fr k : Nat} (h1 : k < fr) (h2 : solidK I K k = true) : upF I K fr (k + 1) = headV I[k]! := by
 unfold upF
 rw [List.range_succ, List.filter_append, List.filter_cons, if_pos (by rw [decide_eq_true h1, h2]; rfl), List.filter_nil, List.getLast?_append]
 rfl
theorem upF_no {I : List ItemP} {K : List Bool} {fr k : Nat} (h : ¬ (k < fr /\ solidK I K k = true)) : upF I K fr (k + 1) = upF I K fr k := by
 unfold upF
 rw [List.range_succ, List.filter_append, List.filter_cons, if_neg (by simpa using h), List.filter_nil, List.append_nil]
theorem upF_end {I : List ItemP} {K : List Bool} {fr k : Nat} (h : fr <= k) : upF I K fr k = upK I K fr := by
 unfold upF upK
 have e : (List.range k).filter (fun i => decide (i < fr) && solidK I K i) = (List.range fr).filter (solidK I K) := by
  obtain ⟨m, rfl⟩ : ∃ m, k = fr + m := ⟨k - fr, by omega⟩
  rw [List.range_add, List.filter_append]
  have e1 : (List.range fr).filter (fun i => decide (i < fr) && solidK I K i) = (List.range fr).filter (solidK I K) := by
   refine List.filter_congr fun i hi => ?_
   rw [decide_eq_true (List.mem_range.1 hi), Bool.true_and]
  have e2 : ((List.range m).map (fr + ·)).filter (fun i => decide (i < fr) && solidK I K i) = [] := by
   rw [List.filter_eq_nil_iff]
   intro i hi
   obtain ⟨j, _, rfl⟩ := List.mem_map.1 hi
   rw [decide_eq_false (by omega), Bool.false_and]; simp
  rw [e1, e2, List.append_nil]
 rw [e]
theorem downK_at {I : List ItemP} {K : List Bool} {to k : Nat} (hk : k < I.length) (h1 : to <= k) (h2 : solidK I K k = true) (h3 : ∀ i, i < k -> ¬ (to <= i /\ solidK I K i = true)) : downK I K to = headV I[k]! := by
 unfold downK
 have e : (List.range I.length).find? (fun i => decide (to <= i) && solidK I K i) = some k := by
  rw [List.find?_range_eq_some]
  refine ⟨by rw [decide_eq_true h1, h2]; rfl, List.mem_range.2 hk, fun j hj => ?_⟩
  have := h3 j hj
  by_cases h : to <= j
  ·have h4 : solidK I K j = false := by cases e : solidK I K j with
    | false => rfl
    | true => exact absurd ⟨h, e⟩ this
   rw [h4, Bool.and_false]; rfl
  rw [decide_eq_false h, Bool.false_and]; rfl
 rw [List.head?_filter, e]
 rfl
theorem downK_end {I : List ItemP} {K : List Bool} {to : Nat} (h3 : ∀ i, i < I.length -> ¬ (to <= i /\ solidK I K i = true)) : downK I K to = endV := by
 unfold downK
 have e : (List.range I.length).filter (fun i => decide (to <= i) && solidK I K i) = [] := by
  rw [List.filter_eq_nil_iff]
  intro i hi h
  rw [Bool.and_eq_true, decide_eq_true_eq] at h
  exact h3 i (List.mem_range.1 hi) h
 rw [e]
 rfl
def goneM (L : List ItemM) : List Vtx := L.flatMap fun x => x.lines.map LineP.v
theorem goneM_snoc {L : List ItemM} {k : Nat} (hk : k < L.length) : goneM (L.take (k + 1)) = goneM (L.take k) ++ L[k].lines.map LineP.v := by
 rw [ltake_snoc hk]; unfold goneM; rw [List.flatMap_append]; simp
theorem goneK_M (c : ChM) (r : Run) : goneK c.I r = goneM ((c.its.take r.to).drop r.fr) := by
 unfold goneK ChM.I goneM
 rw [<- List.map_take, <- List.map_drop, List.flatMap_map]
 rfl
theorem goneM_len {L : List ItemM} {N : Nat} (h : ∀ x ∈ L, x.lines.length <= N) : (goneM L).length <= N * L.length := by
 induction L with
 | nil => simp [goneM]
 | cons x L ih =>
  have h1 := h x (by simp)
  have h2 := ih (fun y hy => h y (List.mem_cons_of_mem _ hy))
  unfold goneM at h2 ⊢
  rw [List.flatMap_cons, List.length_append, List.length_map, List.length_cons, Nat.mul_succ]
  omega
theorem vtxs_snoc27 {v : Value} {l : List Vtx} {x : Vtx} {seg : Seg} (h : SlV 32 33 v (l.length + 1) (vtxs l ++ vtxL x) seg) : SlV 32 33 v (l ++ [x]).length (vtxs (l ++ [x])) seg := by
 rw [List.length_append, vtxs_app, vtxs_one1]; exact h
theorem hunk_fc {w0 : World} {S : SS} {c : ChM} {K : List Bool} {file : Vtx} {x : RunM} (h : ChOK w0 S c) (hC : cseg c ∈ S) (hK : kseg c K ∈ S) (hk : K.length = c.its.length) (hf : x.fr <= x.to) (ht : x.to <= c.its.length) :
  FC Try.prog w0 83 [c.ptr, vtxV file, runV x] S (fun u S' => ∃ G n cg sg, u = chgV file (upK c.I K x.fr) (downK c.I K x.to) (.slice G n cg) (.slice x.A x.lines.length x.c) /\ S' = sg :: S /\ n = (goneK c.I x.pl).length /\ SlV 32 33 (.slice G n cg) (goneK c.I x.pl).length (vtxs (sortL (goneK c.I x.pl))) sg) := by
 have hn := h.n
 have hIl := c.I_len
 obtain ⟨A', c', hcut, hrd0⟩ := cutI (A := c.Ai) hf ht h.icap
 have hgk := goneK_M c x.pl
 rw [show ((c.its.take x.pl.to).drop x.pl.fr) = ((c.its.take x.to).drop x.fr) from rfl] at hgk
 rw [hgk]
 obtain ⟨L, hL⟩ : ∃ z, z = (c.its.take x.to).drop x.fr := ⟨_, rfl⟩
 have hLl : L.length <= 1000 := by rw [hL, List.length_drop, List.length_take]; omega
 have hLm : ∀ y ∈ L, y ∈ c.its := fun y hy => by rw [hL] at hy; exact List.mem_of_mem_take (List.mem_of_mem_drop hy)
 rw [<- hL] at hcut hrd0 ⊢
 have hgl := goneM_len (L := L) (N := 60000) (fun y hy => (h.rows _ (hLm y hy)).nL)
 refine FC.ofC Try.known83 (by simp) ?_
 unfold Try.pc83
 simp only [argT]
 refine PW.seqOps (OL.cons trivial (OW.bx rfl) ?_)
 rintro _ _ ⟨r4, rfl, rfl⟩
 rw [vtx_box, vtxL_len]
 refine OL.cons trivial (OW.bx rfl) ?_
 rintro _ _ ⟨r5, rfl, rfl⟩
 refine OL.cons trivial OW.al ?_
 rintro _ _ ⟨r6, rfl, rfl⟩
 change OL _ _ _ _ _ ([(r6, .cells zChg 89 105)] :: [(r5, .cells (runC x) 147 3)] :: [(r4, .cells (vtxL file) 32 33)] :: S) _
 refine OL.nil (PW.k4 0 4 5 6 rfl (PW.seqOps (OL.det trivial (.ldA rfl (vtxL_len _) (all_at zM2)) (OL.det trivial (.build (cs := vtxL rootV) rfl) (OL.det trivial (.build (cs := vtxL endV) rfl) (OL.dp rfl (OL.det trivial (.ld rfl (own_at (j := 2) (c := runC x) (E := 147) (tot := 3) zM1 rfl)) (OL.det trivial (.build (cs := chgC file rootV endV (.slice none 0 0) (.slice x.A x.lines.length x.c)) (fill_chg rfl rfl rfl rfl rfl)) (OL.cons trivial OW.al ?_)))))))))
 rintro _ _ ⟨r7, rfl, rfl⟩
 refine OL.cons trivial (chg_stk (k := 0) rfl rfl rfl zChg_len) ?_
 rintro _ _ rfl
 change OL _ _ _ _ _ ([(r7, .cells (chgC file rootV endV (.slice none 0 0) (.slice x.A x.lines.length x.c)) 89 105)] :: [(r6, .cells zChg 89 105)] :: [(r5, .cells (runC x) 147 3)] :: [(r4, .cells (vtxL file) 32 33)] :: S) _
 refine OL.nil (PW.k4 0 5 6 7 rfl ?_)
 refine PW.seqS [(0, c.ptr), (5, .pointer (some ⟨r5, 0, none⟩)), (6, .pointer (some ⟨r6, 0, none⟩)), (7, .pointer (some ⟨r7, 0, none⟩))] ([(r7, .cells (chgC file (upK c.I K x.fr) (downK c.I K x.to) (.slice none 0 0) (.slice x.A x.lines.length x.c)) 89 105)] :: [] :: [(r6, .cells zChg 89 105)] :: [(r5, .cells (runC x) 147 3)] :: [(r4, .cells (vtxL file) 32 33)] :: S) ?_ fun K1 hK1 => ?_
 ·skip
  refine PW.seq fun K2 hK2 => ?_
  refine PW.seq fun K3 hK3 => ?_
  refine PW.quietK Try.mixed ?_
  obtain ⟨U, hU⟩ : ∃ z, z = upK c.I K x.fr := ⟨_, rfl⟩
  obtain ⟨D, hD⟩ : ∃ z, z = downK c.I K x.to := ⟨_, rfl⟩
  rw [<- hU, <- hD]
  refine QK.dp rfl (QK.det trivial (Yields.nilc rfl) (QK.dp rfl (QK.det trivial (.ld rfl (own_at (j := 0) (c := c.cells) (E := 138) (tot := 3) (List.mem_flatten.2 ⟨_, .tail _ (.tail _ (.tail _ (.tail _ (.tail _ (hC))))), List.mem_singleton.2 rfl⟩) rfl)) (QK.dp rfl (QK.det trivial (.ld rfl (own_at (j := 0) (c := runC x) (E := 147) (tot := 3) zM3 rfl)) (QK.dp rfl (QK.det trivial (.ld rfl (own_at (j := 1) (c := runC x) (E := 147) (tot := 3) zM3 rfl)) ?_)))))))
  refine QK.det trivial (.to (v' := .slice A' L.length c') (Yields.slS (l := x.fr) (h := x.to) rfl rfl rfl (.inl rfl) (.inl rfl) hf (by have := h.icap; omega)) hcut) ?_
  refine QK.dp rfl (QK.dp rfl (QK.nil ?_))
  change OL _ _ _ [] _ _ _
  refine OL.nil ?_
  refine hK3 _ _ ?_
  refine PW.k5 6 7 78 79 80 rfl (PW.block (PW.k5 6 7 78 79 80 rfl ?_))
  refine PW.loopK (I := fun mm T S' => ∃ (k : Nat) (v : Value) (sg : Seg), (k <= L.length /\ mm = L.length - k /\ SlV 32 33 v (goneM (L.take k)).length (vtxs (goneM (L.take k))) sg) /\ T = ([(6, .pointer (some ⟨r6, 0, none⟩)), (7, .pointer (some ⟨r7, 0, none⟩)), (78, .slice A' L.length c'), (79, .int .i64 (L.length : Int)), (80, .int .i64 (k : Int))] : TT) /\ S' = [(r7, .cells (chgC file U D v (.slice x.A x.lines.length x.c)) 89 105)] :: sg :: [(r6, .cells zChg 89 105)] :: [(r5, .cells (runC x) 147 3)] :: [(r4, .cells (vtxL file) 32 33)] :: S) (m := L.length) ⟨0, _, [], ⟨by omega, by omega, SlV.nil 32 33⟩, rfl, rfl⟩ ?_
  rintro mm _ _ ⟨k, v, sg, ⟨hkL, hmm, hsg⟩, rfl, rfl⟩
  refine PW.seqOps (OL.dp rfl (OL.nil (PW.k6 6 7 78 79 80 81 rfl ?_)))
  refine PW.seq fun K4 hK4 => ?_
  refine PW.cond rfl (fun c81 => ?_) (fun c81 => ?_)
  ·try simp only [cvS] at c81
   have hkl : k < L.length := by omega
   obtain ⟨a0, rfl⟩ := itemS_some (hrd0 w0 S h.items) (by omega)
   have hr2 : Rd w0 ([(r7, .cells (chgC file U D v (.slice x.A x.lines.length x.c)) 89 105)] :: sg :: [(r6, .cells zChg 89 105)] :: [(r5, .cells (runC x) 147 3)] :: [(r4, .cells (vtxL file) 32 33)] :: S) (some a0) (itemS L) := (hrd0 w0 S h.items).cons.cons.cons.cons.cons
   refine PW.skip ?_
   refine hK4 _ _ ?_
   refine PW.k5 6 7 78 79 80 rfl ?_
   refine PW.seq fun K5 hK5 => ?_
   refine PW.block (PW.seqOps (OL.det trivial (.ixN rfl rfl rfl hkl) (OL.det trivial (.ldA rfl (itemC_len _) (item_at hr2 hkl)) (OL.cons trivial OW.al ?_))))
   rintro _ _ ⟨r10, rfl, rfl⟩
   refine OL.cons trivial (item_st rfl rfl rfl) ?_
   rintro _ _ rfl
   change OL _ _ _ _ _ ([(r10, .cells (itemC L[k]) 73 3)] :: [(r7, .cells (chgC file U D v (.slice x.A x.lines.length x.c)) 89 105)] :: sg :: [(r6, .cells zChg 89 105)] :: [(r5, .cells (runC x) 147 3)] :: [(r4, .cells (vtxL file) 32 33)] :: S) _
   refine OL.nil (PW.k6 6 7 10 78 79 80 rfl (PW.seqOps (OL.dp rfl (OL.det trivial (.ld rfl (own_at (j := 0) (c := itemC L[k]) (E := 73) (tot := 3) zM0 rfl)) (OL.dp rfl (OL.dp rfl (OL.nil (PW.k8 6 7 78 79 80 85 86 87 rfl (PW.block (PW.k8 6 7 78 79 80 85 86 87 rfl ?_))))))))))
   refine PW.loopK (I := fun mj T S' => ∃ (j : Nat) (v : Value) (sg : Seg), (j <= L[k].lines.length /\ mj = L[k].lines.length - j /\ SlV 32 33 v (goneM (L.take k) ++ (L[k].lines.take j).map LineP.v).length (vtxs (goneM (L.take k) ++ (L[k].lines.take j).map LineP.v)) sg) /\ T = ([(6, .pointer (some ⟨r6, 0, none⟩)), (7, .pointer (some ⟨r7, 0, none⟩)), (78, .slice (some a0) L.length c'), (79, .int .i64 (L.length : Int)), (80, .int .i64 (k : Int)), (85, .slice L[k].LA L[k].lines.length L[k].lc), (86, .int .i64 (L[k].lines.length : Int)), (87, .int .i64 (j : Int))] : TT) /\ S' = [(r10, .cells (itemC L[k]) 73 3)] :: [(r7, .cells (chgC file U D v (.slice x.A x.lines.length x.c)) 89 105)] :: sg :: [(r6, .cells zChg 89 105)] :: [(r5, .cells (runC x) 147 3)] :: [(r4, .cells (vtxL file) 32 33)] :: S) (m := L[k].lines.length) ⟨0, v, sg, ⟨by omega, by omega, by rw [List.take_zero, List.map_nil, List.append_nil]; exact hsg⟩, rfl, rfl⟩ ?_
   rintro mj _ _ ⟨j, v, sg, ⟨hjL, hmj, hsg⟩, rfl, rfl⟩
   refine PW.seqOps (OL.dp rfl (OL.nil (PW.k9 6 7 78 79 80 85 86 87 88 rfl ?_)))
   refine PW.seq fun K6 hK6 => ?_
   refine PW.cond rfl (fun c88 => ?_) (fun c88 => ?_)
   ·try simp only [cvS] at c88
    have hjl : j < L[k].lines.length := by omega
    have hjB : L[k].lines.length <= 60000 := (h.rows _ (hLm _ (List.getElem_mem hkl))).nL
    have hGt := goneM_len (L := L.take k) (N := 60000) (fun y hy => (h.rows _ (hLm y (List.mem_of_mem_take hy))).nL)
    rw [List.length_take] at hGt
    have hGl : (goneM (L.take k) ++ (L[k].lines.take j).map LineP.v).length <= 60000 * 1001 := by
     rw [List.length_append, List.length_map, List.length_take]; omega
    have hrl := (h.rows _ (hLm _ (List.getElem_mem hkl))).rdL
    obtain ⟨b0, hb0⟩ := lines_some hrl (by omega)
    rw [hb0] at hrl
    have hrl2 : Rd w0 ([(r10, .cells (itemC L[k]) 73 3)] :: [(r7, .cells (chgC file U D v (.slice x.A x.lines.length x.c)) 89 105)] :: sg :: [(r6, .cells zChg 89 105)] :: [(r5, .cells (runC x) 147 3)] :: [(r4, .cells (vtxL file) 32 33)] :: S) (some b0) (lines L[k].lines) := hrl.cons.cons.cons.cons.cons.cons
    refine PW.skip ?_
    refine hK6 _ _ ?_
    refine PW.k8 6 7 78 79 80 85 86 87 rfl ?_
    refine PW.seq fun K7 hK7 => ?_
    refine PW.block (PW.seqOps ?_)
    rw [hb0]
    refine OL.det trivial (.ixN rfl rfl rfl hjl) (OL.det trivial (.ldA rfl (lineC_len _) (line_at hrl2 hjl)) (OL.cons trivial OW.al ?_))
    rintro _ _ ⟨r12, rfl, rfl⟩
    refine OL.cons trivial (line_st (u := L[k].lines[j]) rfl rfl rfl) ?_
    rintro _ _ rfl
    change OL _ _ _ _ _ (lseg r12 L[k].lines[j] :: [(r10, .cells (itemC L[k]) 73 3)] :: [(r7, .cells (chgC file U D v (.slice x.A x.lines.length x.c)) 89 105)] :: sg :: [(r6, .cells zChg 89 105)] :: [(r5, .cells (runC x) 147 3)] :: [(r4, .cells (vtxL file) 32 33)] :: S) _
    refine OL.nil (PW.k9 6 7 12 78 79 80 85 86 87 rfl (PW.ops (OL.dp rfl (OL.det trivial (.ld rfl (own_at (j := 103) (c := chgC file U D v (.slice x.A x.lines.length x.c)) (E := 89) (tot := 105) zM2 (chgC_gone ..).1)) (OL.dp rfl (OL.det trivial (.ldA rfl (vtxL_len _) (lcell_vtx (x := L[k].lines[j]) (E := 43) (tot := 35) zM0)) ?_))))))
    apply OL.app1 (k := 3)
    ·rfl
    ·rfl
    ·exact (List.size_toArray).trans (vtxL_len _)
    ·rfl
    ·rfl
    ·rfl
    ·exact hsg
    ·exact vtxL_one _
    ·omega
    ·unfold maxLen; omega
    intro v96 sg2 hsg2
    obtain ⟨A9, c9, rfl, -, -, -⟩ := slv_rdL (w0 := w0) hsg2
    refine OL.dp rfl (OL.cons trivial (chg_stG (k := 2) rfl rfl rfl) ?_)
    rintro _ _ rfl
    change OL _ _ _ _ _ (lseg r12 L[k].lines[j] :: [(r10, .cells (itemC L[k]) 73 3)] :: [(r7, .cells (chgC file U D (.slice A9 ((goneM (L.take k) ++ (L[k].lines.take j).map LineP.v).length + 1) c9) (.slice x.A x.lines.length x.c)) 89 105)] :: sg2 :: [(r6, .cells zChg 89 105)] :: [(r5, .cells (runC x) 147 3)] :: [(r4, .cells (vtxL file) 32 33)] :: S) _
    refine OL.nil ?_
    refine hK7 _ _ ?_
    refine PW.k8 6 7 78 79 80 85 86 87 rfl (PW.ops ?_)
    refine OL.det trivial (.add64 rfl rfl (by omega) (by omega)) ?_
    refine OL.dp rfl (OL.nil ?_)
    repeat rw [inBlk_n]
    try rw [thenK_n]
    refine LoopEnd.mkS (Sub.drop (Sub.refl _)) (T'' := [(6, _), (7, _), (78, _), (79, _), (80, _), (85, _), (86, _), (87, _)]) (wi rfl) ?_
    have hsg3 := vtxs_snoc27 hsg2
    have e3 : (goneM (L.take k) ++ (L[k].lines.take j).map LineP.v) ++ [L[k].lines[j].v] = goneM (L.take k) ++ (L[k].lines.take (j + 1)).map LineP.v := by rw [ltake_snoc hjl, List.map_append, List.append_assoc]; rfl
    rw [e3] at hsg3
    exact ⟨L[k].lines.length - (j + 1), by omega, j + 1, _, sg2, ⟨by omega, rfl, hsg3⟩, (by rw [hb0]; rfl), rfl⟩
   try simp only [cvS] at c88
   refine PW.exit ?_
   refine hK5 _ _ ?_
   refine PW.k5 6 7 78 79 80 rfl (PW.ops ?_)
   refine OL.det trivial (.add64 rfl rfl (by omega) (by omega)) ?_
   refine OL.dp rfl (OL.nil ?_)
   repeat rw [inBlk_n]
   try rw [thenK_n]
   refine LoopEnd.mkS (Sub.drop (Sub.refl _)) (T'' := [(6, _), (7, _), (78, _), (79, _), (80, _)]) (wi rfl) ?_
   have hje : j = L[k].lines.length := by omega
   rw [hje, List.take_length, <- goneM_snoc hkl] at hsg
   exact ⟨L.length - (k + 1), by omega, k + 1, _, sg, ⟨by omega, rfl, hsg⟩, rfl, rfl⟩
  try simp only [cvS] at c81
  refine PW.exit ?_
  refine hK2 _ _ ?_
  refine PW.k2 6 7 rfl (PW.seqOps ?_)
  have hke : k = L.length := by omega
  rw [hke, List.take_length] at hsg
  obtain ⟨Ag, cg, rfl, -, -, -⟩ := slv_rdL (w0 := w0) hsg
  refine OL.dp rfl (OL.det trivial (.ld rfl (own_at (j := 103) (c := chgC file U D (.slice Ag (goneM L).length cg) (.slice x.A x.lines.length x.c)) (E := 89) (tot := 105) zM0 (chgC_gone ..).1)) ?_)
  refine OL.call trivial rfl (sort_fc (k := 1) rfl hsg (by omega)) ?_
  rintro _ _ ⟨rfl, sgs, hsgs, rfl⟩
  refine OL.nil (PW.k2 6 7 rfl (PW.seqOps (OL.det trivial (.ldA rfl (chgC_len ..) (all_at (c := chgC file U D (.slice Ag (goneM L).length cg) (.slice x.A x.lines.length x.c)) (E := 89) (tot := 105) zM0)) (OL.cons trivial (chg_stk (k := 2) (z := zChg) (u := U) (d := D) rfl rfl rfl zChg_len) ?_))))
  rintro _ _ rfl
  refine OL.nil (PW.k1 6 rfl (PW.ret ?_))
  exact ⟨.inr rfl, _, _, rfl, chg_read (E := 89) (tot := 105) zM2, _, Sub.drop (Sub.cons (Sub.drop (Sub.drop (Sub.drop (Sub.refl _))))), Ag, (goneM L).length, cg, sgs, by rw [hU, hD], rfl, rfl, hsgs⟩
 skip
 refine PW.seqOps (OL.dp rfl (OL.det trivial (Yields.nilc rfl) (OL.dp rfl (OL.det trivial (.ld rfl (own_at (j := 0) (c := c.cells) (E := 138) (tot := 3) (List.mem_flatten.2 ⟨_, .tail _ (.tail _ (.tail _ (.tail _ (hC)))), List.mem_singleton.2 rfl⟩) rfl)) (OL.dp rfl (OL.dp rfl (OL.nil (PW.k6 0 5 6 7 23 24 rfl (PW.block (PW.k6 0 5 6 7 23 24 rfl ?_))))))))))
 refine PW.loopK (I := fun mm T S' => ∃ (k : Nat), (k <= c.its.length /\ mm = c.its.length - k /\ ∀ i, i < k -> ¬ (x.to <= i /\ solidK c.I K i = true)) /\ T = ([(0, c.ptr), (5, .pointer (some ⟨r5, 0, none⟩)), (6, .pointer (some ⟨r6, 0, none⟩)), (7, .pointer (some ⟨r7, 0, none⟩)), (23, .int .i64 (c.its.length : Int)), (24, .int .i64 (k : Int))] : TT) /\ S' = [(r7, .cells (chgC file (upF c.I K x.fr k) endV (.slice none 0 0) (.slice x.A x.lines.length x.c)) 89 105)] :: [(r6, .cells zChg 89 105)] :: [(r5, .cells (runC x) 147 3)] :: [(r4, .cells (vtxL file) 32 33)] :: S) (m := c.its.length) ⟨0, ⟨by omega, by omega, fun i hi => by omega⟩, rfl, rfl⟩ ?_
 rintro mm _ _ ⟨k, ⟨hkL, hmm, hno⟩, rfl, rfl⟩
 refine PW.seqOps (OL.dp rfl (OL.nil (PW.k7 0 5 6 7 23 24 25 rfl ?_)))
 refine PW.seq fun K8 hK8 => ?_
 refine PW.cond rfl (fun c25 => ?_) (fun c25 => ?_)
 ·try simp only [cvS] at c25
  have hkl : k < c.its.length := by omega
  obtain ⟨a0, ha0⟩ := itemS_some h.items (by omega)
  have hr2 := h.items
  rw [ha0] at hr2
  have hig := c.I_get hkl
  have hi! : c.I[k]! = c.its[k].pl := by rw [getElem!_pos c.I k (by rw [c.I_len]; exact hkl), hig]
  refine PW.skip ?_
  refine hK8 _ _ ?_
  refine PW.k6 0 5 6 7 23 24 rfl ?_
  refine PW.seq fun K9 hK9 => ?_
  refine PW.block (PW.seqOps (OL.dp rfl (OL.dp rfl (OL.nil (PW.k7 0 5 6 7 8 23 24 rfl ?_)))))
  refine PW.seqS [(0, c.ptr), (5, .pointer (some ⟨r5, 0, none⟩)), (6, .pointer (some ⟨r6, 0, none⟩)), (7, .pointer (some ⟨r7, 0, none⟩)), (8, .int .i64 (k : Int)), (23, .int .i64 (c.its.length : Int)), (24, .int .i64 (k : Int))] ([(r7, .cells (chgC file (upF c.I K x.fr (k + 1)) endV (.slice none 0 0) (.slice x.A x.lines.length x.c)) 89 105)] :: [(r6, .cells zChg 89 105)] :: [(r5, .cells (runC x) 147 3)] :: [(r4, .cells (vtxL file) 32 33)] :: S) ?_ fun K10 hK10 => ?_
  ·skip
   refine PW.seqOps (OL.dp rfl (OL.dp rfl (OL.det trivial (.ld rfl (own_at (j := 1) (c := runC x) (E := 147) (tot := 3) zM2 rfl)) (OL.dp rfl ?_))))
   refine OL.bool trivial (Yields.pure rfl) (fun g52 => ?_) (fun g52 => ?_)
   ·try simp only [cvS] at g52
    refine OL.det rfl (.pure rfl) (OL.det rfl (.pure rfl) (OL.call rfl rfl (csolid_fc (h.mono (Over.refl _).cons.cons.cons.cons) (.tail _ (.tail _ (.tail _ (.tail _ (hC))))) (.tail _ (.tail _ (.tail _ (.tail _ (hK))))) hk hkl) ?_))
    rintro _ Sx ⟨rfl, hSx⟩
    rw [hSx]
    clear hSx
    refine OL.dp rfl (OL.nil (PW.k8 0 5 6 7 8 23 24 56 rfl ?_))
    refine PW.cond rfl (fun c56 => ?_) (fun c56 => ?_)
    ·skip
     have hnb : c.its[k].block = false := by
      have := c56
      unfold solidK at this
      rw [hi!, Bool.and_eq_true] at this
      simpa [ItemM.pl] using this.2
     have hpos := h.solid _ (List.getElem_mem hkl) hnb
     have hrl := (h.rows _ (List.getElem_mem hkl)).rdL
     obtain ⟨b0, hb0⟩ := lines_some hrl hpos
     rw [hb0] at hrl
     have hhd : headV c.I[k]! = c.its[k].lines[0].v := by rw [hi!]; unfold headV; show c.its[k].lines[0]!.v = _; rw [getElem!_pos _ 0 hpos]
     refine PW.seqOps (OL.dp rfl (OL.det trivial (Yields.nilc rfl) (OL.dp rfl (OL.det trivial (.ld rfl (own_at (j := 0) (c := c.cells) (E := 138) (tot := 3) (List.mem_flatten.2 ⟨_, .tail _ (.tail _ (.tail _ (.tail _ (hC)))), List.mem_singleton.2 rfl⟩) rfl)) (OL.dp rfl ?_)))))
     rw [ha0]
     refine OL.det trivial (.ixN rfl rfl rfl hkl) (OL.dp rfl (OL.det trivial (.ld rfl (item_at (hr2.cons.cons.cons.cons) hkl _ _ rfl)) ?_))
     rw [hb0]
     refine OL.det trivial (.ixN (j := 0) rfl rfl rfl hpos) (OL.dp rfl (OL.det trivial (.ldA rfl (vtxL_len _) (line_vtx (k := 0) (hrl.cons.cons.cons.cons) hpos)) (OL.dp rfl (OL.cons trivial (chg_stD rfl rfl) ?_))))
     rintro _ _ rfl
     rw [<- hhd, <- downK_at (by omega) (show x.to <= k by omega) c56 hno, upF_end (by omega)]
     refine OL.subS (S' := [(r7, .cells (chgC file (upK c.I K x.fr) (downK c.I K x.to) (.slice none 0 0) (.slice x.A x.lines.length x.c)) 89 105)] :: [] :: [(r6, .cells zChg 89 105)] :: [(r5, .cells (runC x) 147 3)] :: [(r4, .cells (vtxL file) 32 33)] :: S) (Sub.cons (Sub.nilL (Sub.refl _))) (OL.nil (PW.k4 0 5 6 7 rfl (PW.exit ?_)))
     exact hK1 _ _ ⟨rfl, rfl, rfl, rfl, trivial⟩ rfl
    skip
    refine PW.skip ?_
    refine hK9 _ _ ?_
    refine PW.k6 0 5 6 7 23 24 rfl (PW.ops ?_)
    refine OL.det trivial (.add64 rfl rfl (by omega) (by omega)) ?_
    refine OL.dp rfl (OL.nil ?_)
    repeat rw [inBlk_n]
    try rw [thenK_n]
    refine LoopEnd.mk (T'' := [(0, _), (5, _), (6, _), (7, _), (23, _), (24, _)]) (wi rfl) ?_
    have hsf : solidK c.I K k = false := c56
    exact ⟨c.its.length - (k + 1), by omega, k + 1, ⟨by omega, rfl, fun i hi hh => by
     rcases Nat.lt_or_ge i k with h1 | h1
     ·exact hno i h1 hh
     obtain rfl : i = k := by omega
     rw [hsf] at hh; cases hh.2⟩, rfl, rfl⟩
   try simp only [cvS] at g52
   refine OL.off rfl rfl (OL.off rfl rfl (OL.off rfl rfl (OL.dp rfl (OL.nil (PW.k8 0 5 6 7 8 23 24 56 rfl (PW.ite (b := false) rfl ?_))))))
   rw [if_neg Bool.false_ne_true]
   refine PW.skip ?_
   refine hK9 _ _ ?_
   refine PW.k6 0 5 6 7 23 24 rfl (PW.ops ?_)
   refine OL.det trivial (.add64 rfl rfl (by omega) (by omega)) ?_
   refine OL.dp rfl (OL.nil ?_)
   repeat rw [inBlk_n]
   try rw [thenK_n]
   refine LoopEnd.mk (T'' := [(0, _), (5, _), (6, _), (7, _), (23, _), (24, _)]) (wi rfl) ?_
   exact ⟨c.its.length - (k + 1), by omega, k + 1, ⟨by omega, rfl, fun i hi hh => by
    rcases Nat.lt_or_ge i k with h1 | h1
    ·exact hno i h1 hh
    omega⟩, rfl, rfl⟩
  skip
  refine PW.seqOps (OL.dp rfl (OL.dp rfl (OL.det trivial (.ld rfl (own_at (j := 0) (c := runC x) (E := 147) (tot := 3) zM2 rfl)) (OL.dp rfl ?_))))
  refine OL.bool trivial (Yields.pure rfl) (fun g31 => ?_) (fun g31 => ?_)
  ·try simp only [cvS] at g31
   refine OL.det rfl (.pure rfl) (OL.det rfl (.pure rfl) (OL.call rfl rfl (csolid_fc (h.mono (Over.refl _).cons.cons.cons.cons) (.tail _ (.tail _ (.tail _ (.tail _ (hC))))) (.tail _ (.tail _ (.tail _ (.tail _ (hK))))) hk hkl) ?_))
   rintro _ Sx ⟨rfl, hSx⟩
   rw [hSx]
   clear hSx
   refine OL.dp rfl (OL.nil (PW.k8 0 5 6 7 8 23 24 35 rfl ?_))
   refine PW.cond rfl (fun c35 => ?_) (fun c35 => ?_)
   ·skip
    have hnb : c.its[k].block = false := by
     have := c35
     unfold solidK at this
     rw [hi!, Bool.and_eq_true] at this
     simpa [ItemM.pl] using this.2
    have hpos := h.solid _ (List.getElem_mem hkl) hnb
    have hrl := (h.rows _ (List.getElem_mem hkl)).rdL
    obtain ⟨b0, hb0⟩ := lines_some hrl hpos
    rw [hb0] at hrl
    have hhd : headV c.I[k]! = c.its[k].lines[0].v := by rw [hi!]; unfold headV; show c.its[k].lines[0]!.v = _; rw [getElem!_pos _ 0 hpos]
    refine PW.ops (OL.dp rfl (OL.det trivial (Yields.nilc rfl) (OL.dp rfl (OL.det trivial (.ld rfl (own_at (j := 0) (c := c.cells) (E := 138) (tot := 3) (List.mem_flatten.2 ⟨_, .tail _ (.tail _ (.tail _ (.tail _ (hC)))), List.mem_singleton.2 rfl⟩) rfl)) (OL.dp rfl ?_)))))
    rw [ha0]
    refine OL.det trivial (.ixN rfl rfl rfl hkl) (OL.dp rfl (OL.det trivial (.ld rfl (item_at (hr2.cons.cons.cons.cons) hkl _ _ rfl)) ?_))
    rw [hb0]
    refine OL.det trivial (.ixN (j := 0) rfl rfl rfl hpos) (OL.dp rfl (OL.det trivial (.ldA rfl (vtxL_len _) (line_vtx (k := 0) (hrl.cons.cons.cons.cons) hpos)) (OL.dp rfl (OL.cons trivial (chg_stU rfl rfl) ?_))))
    rintro _ _ rfl
    rw [<- hhd, <- upF_yes (show k < x.fr by omega) c35]
    refine OL.nil ?_
    exact hK10 _ _ ⟨rfl, rfl, rfl, rfl, rfl, rfl, rfl, trivial⟩ rfl
   skip
   rw [<- upF_no (I := c.I) (K := K) (fr := x.fr) (k := k) (fun hh => by rw [hh.2] at c35; cases c35)]
   refine PW.skip ?_
   exact hK10 _ _ ⟨rfl, rfl, rfl, rfl, rfl, rfl, rfl, trivial⟩ rfl
  try simp only [cvS] at g31
  rw [<- upF_no (I := c.I) (K := K) (fr := x.fr) (k := k) (fun hh => absurd hh.1 (by omega))]
  refine OL.off rfl rfl (OL.off rfl rfl (OL.off rfl rfl (OL.dp rfl (OL.nil (PW.k8 0 5 6 7 8 23 24 35 rfl (PW.ite (b := false) rfl ?_))))))
  rw [if_neg Bool.false_ne_true]
  refine PW.skip ?_
  exact hK10 _ _ ⟨rfl, rfl, rfl, rfl, rfl, rfl, rfl, trivial⟩ rfl
 try simp only [cvS] at c25
 rw [upF_end (show x.fr <= k by omega), <- downK_end (I := c.I) (K := K) (to := x.to) (fun i hi => hno i (by omega))]
 refine PW.subS (S' := [(r7, .cells (chgC file (upK c.I K x.fr) (downK c.I K x.to) (.slice none 0 0) (.slice x.A x.lines.length x.c)) 89 105)] :: [] :: [(r6, .cells zChg 89 105)] :: [(r5, .cells (runC x) 147 3)] :: [(r4, .cells (vtxL file) 32 33)] :: S) (Sub.cons (Sub.nilL (Sub.refl _))) (PW.exit ?_)
 exact hK1 _ _ ⟨rfl, rfl, rfl, rfl, trivial⟩ rfl
end Go.Proofs.Gr

namespace Go.Proofs.Gr
open Go.SL Go.RowKit Go.Proofs Go.GP Go.MyPlain
theorem secsF_ok {I : List ItemP} : ∀ (f fr : Nat) (w cur : List ByteArray), fr <= I.length -> ∀ s ∈ secsT I.length (toksF I f fr w) fr cur, (s.fr <= s.to /\ s.to <= I.length) /\ s.lines.length <= cur.length + w.length /\ ∀ x ∈ s.lines, x ∈ cur ∨ x ∈ w
 | 0, fr, w, cur, h, s, hs => by
  simp only [toksF, secsT, List.mem_singleton] at hs
  subst hs
  exact ⟨⟨h, Nat.le_refl _⟩, Nat.le_add_right _ _, fun x hx => .inl hx⟩
 | f + 1, fr, [], cur, h, s, hs => by
  simp only [toksF, secsT, List.mem_singleton] at hs
  subst hs
  exact ⟨⟨h, Nat.le_refl _⟩, Nat.le_add_right _ _, fun x hx => .inl hx⟩
 | f + 1, fr, t :: w, cur, h, s, hs => by
  simp only [toksF] at hs
  cases e : recAt I fr (t :: w) with
  | none =>
   rw [e] at hs
   simp only [secsT] at hs
   obtain ⟨h1, h2, h3⟩ := secsF_ok f fr w (cur ++ [t]) h s hs
   refine ⟨h1, by rw [List.length_append, List.length_singleton] at h2; rw [List.length_cons]; omega, fun x hx => ?_⟩
   rcases h3 x hx with h4 | h4
   ·rcases List.mem_append.1 h4 with h5 | h5
    ·exact .inl h5
    rw [List.mem_singleton.1 h5]; exact .inr List.mem_cons_self
   exact .inr (List.mem_cons_of_mem _ h4)
  | some k =>
   rw [e] at hs
   simp only [secsT] at hs
   obtain ⟨k1, k2, k3, k4⟩ := recAt_some e
   rcases List.mem_cons.1 hs with rfl | hs
   ·exact ⟨⟨k1, Nat.le_of_lt k2⟩, Nat.le_add_right _ _, fun x hx => .inl hx⟩
   obtain ⟨h1, h2, h3⟩ := secsF_ok f (k + 1) _ [] k2 s hs
   refine ⟨h1, by rw [List.length_drop] at h2; simp only [List.length_nil, List.length_cons] at h2 ⊢; omega, fun x hx => ?_⟩
   rcases h3 x hx with h4 | h4
   ·cases h4
   exact .inr (List.mem_of_mem_drop h4)
theorem secs_ok {I : List ItemP} {w : List ByteArray} {s : Sec} (hs : s ∈ secs I w) : (s.fr <= s.to /\ s.to <= I.length) /\ s.lines.length <= w.length /\ ∀ x ∈ s.lines, x ∈ w := by
 obtain ⟨h1, h2, h3⟩ := secsF_ok w.length 0 w [] (Nat.zero_le _) s hs
 refine ⟨h1, by simpa using h2, fun x hx => (h3 x hx).resolve_left (by simp)⟩
theorem sec_many : ∀ {l : List Sec} {s : Sec}, s ∈ l -> s.lines.length <= manyS l
 | t :: l, s, h => by
  have e : manyS (t :: l) = t.lines.length + manyS l := by unfold manyS; rw [List.map_cons, List.sum_cons]
  rcases List.mem_cons.1 h with rfl | h
  ·omega
  have := sec_many h; omega
theorem allR_app (I : List ItemP) : ∀ (a b : List Sec) (K : List Bool), allR I (a ++ b) K = ((allR I a K).1 ++ (allR I b (allR I a K).2).1, (allR I b (allR I a K).2).2)
 | [], b, K => rfl
 | s :: a, b, K => by
  simp only [List.cons_append, allR]
  rw [allR_app I a b]
  simp only [List.append_assoc]
theorem allR_snoc (I : List ItemP) (a : List Sec) (s : Sec) (K : List Bool) : allR I (a ++ [s]) K = ((allR I a K).1 ++ (runsR I s (allR I a K).2).runs, (runsR I s (allR I a K).2).K) := by
 rw [allR_app]
 simp only [allR, List.append_nil]
theorem runsR_len {I : List ItemP} {s : Sec} {K : List Bool} : (runsR I s K).K.length = K.length := foldU_len _ _ _
theorem allR_len {I : List ItemP} : ∀ (a : List Sec) (K : List Bool), (allR I a K).2.length = K.length
 | [], _ => rfl
 | s :: a, K => by simp only [allR]; rw [allR_len a, runsR_len]
def RunIn (lo hi : Nat) (r : Run) : Prop := lo <= r.fr /\ r.fr <= r.to /\ r.to <= hi
theorem modLast_all {p : Run -> Prop} {f : Run -> Run} (hf : ∀ r, p r -> p (f r)) : ∀ {l : List Run}, (∀ r ∈ l, p r) -> ∀ r ∈ modLast f l, p r
 | [], h, r, hr => by cases hr
 | [x], h, r, hr => by simp only [modLast, List.mem_singleton] at hr; subst hr; exact hf x (h x (by simp))
 | x :: y :: l, h, r, hr => by
  simp only [modLast] at hr
  rcases List.mem_cons.1 hr with rfl | hr
  ·exact h r (by simp)
  exact modLast_all hf (l := y :: l) (fun r hr => h r (List.mem_cons_of_mem _ hr)) r hr
theorem growR_all {p : Run -> Prop} {st : RS} (h : ∀ r ∈ st.runs, p r) (h1 : p ⟨st.at_, st.at_, []⟩) : ∀ r ∈ growR st, p r := by
 intro r hr
 unfold growR at hr
 split at hr
 ·exact h r hr
 rcases List.mem_append.1 hr with h2 | h2
 ·exact h r h2
 rw [List.mem_singleton.1 h2]; exact h1
theorem stepU_in {ls : List ByteArray} {st : RS} {t : Int × Int × Int} {lo : Nat} (hlo : lo <= st.at_) (h : ∀ r ∈ st.runs, RunIn lo st.at_ r) : st.at_ <= (stepU ls st t).at_ /\ ∀ r ∈ (stepU ls st t).runs, RunIn lo (stepU ls st t).at_ r := by
 unfold stepU
 split
 ·exact ⟨Nat.le_succ _, fun r hr => let ⟨a, b, c⟩ := h r hr; ⟨a, b, Nat.le_succ_of_le c⟩⟩
 split
 ·refine ⟨Nat.le_succ _, modLast_all (fun r hr => ⟨hr.1, ?_, Nat.le_refl _⟩) (growR_all (fun r hr => let ⟨a, b, c⟩ := h r hr; ⟨a, b, Nat.le_succ_of_le c⟩) ⟨hlo, Nat.le_refl _, Nat.le_succ _⟩)⟩
  exact Nat.le_trans hr.2.1 hr.2.2
 exact ⟨Nat.le_refl _, modLast_all (f := fun r => { r with lines := r.lines ++ [ls[t.2.2.toNat]!] }) (fun r hr => hr) (growR_all h ⟨hlo, Nat.le_refl _, Nat.le_refl _⟩)⟩
theorem foldU_in {ls : List ByteArray} {lo : Nat} : ∀ (l : List (Int × Int × Int)) (st : RS), lo <= st.at_ -> (∀ r ∈ st.runs, RunIn lo st.at_ r) -> ∀ r ∈ (l.foldl (stepU ls) st).runs, RunIn lo (l.foldl (stepU ls) st).at_ r
 | [], st, _, h => h
 | t :: l, st, hlo, h => by
  rw [List.foldl_cons]
  obtain ⟨h1, h2⟩ := stepU_in (ls := ls) (t := t) hlo h
  exact foldU_in l _ (Nat.le_trans hlo h1) h2
theorem txts_len {I : List ItemP} {fr to : Nat} (hf : fr <= to) (ht : to <= I.length) : (txts I fr to).length = to - fr := by
 unfold txts; rw [List.length_map, List.length_drop, List.length_take]; omega
theorem runsR_at {I : List ItemP} {s : Sec} {K : List Bool} (hf : s.fr <= s.to) (ht : s.to <= I.length) : (runsR I s K).at_ = s.to := by
 unfold runsR
 rw [foldU_at _ _ _ (fun t h => scr_op h), scr_takes, txts_len hf ht]
 show s.fr + (s.to - s.fr) = s.to
 omega
theorem runsR_in {I : List ItemP} {s : Sec} {K : List Bool} (hf : s.fr <= s.to) (ht : s.to <= I.length) : ∀ r ∈ (runsR I s K).runs, RunIn s.fr s.to r := by
 have := foldU_in (ls := s.lines) (lo := s.fr) (scr (txts I s.fr s.to) s.lines) ⟨s.fr, false, [], K⟩ (Nat.le_refl _) (fun r hr => by cases hr)
 intro r hr
 have h2 := this r hr
 rwa [show ((scr (txts I s.fr s.to) s.lines).foldl (stepU s.lines) ⟨s.fr, false, [], K⟩).at_ = s.to from runsR_at hf ht] at h2
theorem allR_in {I : List ItemP} : ∀ (a : List Sec) (K : List Bool), (∀ s ∈ a, s.fr <= s.to /\ s.to <= I.length) -> ∀ r ∈ (allR I a K).1, r.fr <= r.to /\ r.to <= I.length
 | [], _, _, r, hr => by cases hr
 | s :: a, K, h, r, hr => by
  simp only [allR] at hr
  have hs := h s (by simp)
  rcases List.mem_append.1 hr with h1 | h1
  ·obtain ⟨_, h2, h3⟩ := runsR_in hs.1 hs.2 r h1
   exact ⟨h2, Nat.le_trans h3 hs.2⟩
  exact allR_in a _ (fun s hs => h s (List.mem_cons_of_mem _ hs)) r h1
def errH (I : List ItemP) (w : List ByteArray) : Int := checkP (secs I w)
def keptH (I : List ItemP) (w : List ByteArray) : List Bool := (allR I (secs I w) (keepT (List.replicate I.length false) (toks I 0 w))).2
def runsH (I : List ItemP) (w : List ByteArray) : List Run := (allR I (secs I w) (keepT (List.replicate I.length false) (toks I 0 w))).1
def hunkP (I : List ItemP) (K : List Bool) (r : Run) : HunkP := ⟨upK I K r.fr, downK I K r.to, r.lines, sortL (goneK I r)⟩
def hunksP (I : List ItemP) (w : List ByteArray) : List HunkP := if errH I w = 0 then (runsH I w).map (hunkP I (keptH I w)) else []
theorem sortL_len (l : List Vtx) : (sortL l).length = l.length := List.length_mergeSort _
theorem checkP_zero {l : List Sec} (h : checkP l = 0) : manyS l <= 256 /\ badS l = false := by
 unfold checkP at h
 by_cases h1 : 256 < manyS l
 ·rw [if_pos h1] at h; cases h
 rw [if_neg h1] at h
 refine ⟨by omega, ?_⟩
 cases e : badS l with
 | false => rfl
 | true => rw [e] at h; cases h
end Go.Proofs.Gr

namespace Go.Proofs.Gr
open Go.SL Go.RowKit Go.Proofs Go.GP
set_option maxHeartbeats 1000000
open Go.MyPlain
theorem OW.appW {w0 : World} {P : Program} {n : Nat} {T : TT} {S : SS} {t E sz bytes m q c k : Nat} {z v : Value} {s x : PV} {A : Option Addr} {xs news : List Value} {seg : Seg} (hs' : s.val T = some v) (hk : S[k]? = some seg) (hv : SlV E sz v m xs seg)
  (hx : x.val T = some (.slice A q c)) (hl : news.length = q * sz) (hsz : 0 < sz) (hrd : Rd w0 S A news) (hc : A = none -> c = 0) (h1 : news.all (·.oneCell') = true) (hb : (m + q) * bytes <= 140737488355328) (h63 : m + q <= maxLen) :
  OW P w0 n (.app t E sz bytes z s x) T S (fun v' S' => ∃ seg', S' = S.set k seg' /\ SlV E sz v' (m + q) (xs ++ news) seg') := by
 cases A with
 | none =>
  obtain rfl := hc rfl
  have : news = [] := by
   cases news with
   | nil => rfl
   | cons b l => obtain ⟨_, e, _⟩ := hrd 0 _ rfl; cases e
  subst this
  obtain rfl : q = 0 := by
   rcases Nat.eq_zero_or_pos q with h | h
   ·exact h
   have := Nat.mul_pos h hsz; simp at hl; omega
  have := OW.of_yields (OW.app_none (P := P) (w0 := w0) (n := n) (t := t) (bytes := bytes) (z := z) hs' hk hv hx)
  refine this.mono ?_
  rintro v' S' ⟨rfl, rfl⟩
  refine ⟨seg, ?_, by simpa using hv⟩
  obtain ⟨A, R, rfl, rfl⟩ := split_at hk
  exact (set_at rfl).symm
 | some a => exact OW.app hs' hk hv hx hl (fun j u hj => hrd.at hj) h1 hb h63
theorem run_st {w0 : World} {S : SS} {P : Program} {n r : Nat} {T : TT} {x v : PV} {u : RunM} {z : List Value} (hx : x.val T = some (.pointer (some ⟨r, 0, none⟩))) (hv : v.val T = some (runV u)) (hz : z.length = 3) :
  OW P w0 n (.st 3 x v) T ([(r, .cells z 147 3)] :: S) (fun _ S' => S' = [(r, .cells (runC u) 147 3)] :: S) := by
 refine (OW.st (k := 0) (c := z) (u := runV u) hx hv rfl (show (runV u).cells.size = 3 from rfl) (by omega) rfl).mono ?_
 rintro _ _ rfl
 rw [show (runV u).cells.toList = runC u from rfl, setAll (by rw [hz]; rfl)]
 rfl
theorem textI_one (x : ItemM) : textI (pli [x]) = oneT x.pl := by simp [textI, pli]
structure ChgM where
 file : Vtx
 up : Vtx
 down : Vtx
 G : Option Addr
 gc : Nat
 gone : List Vtx
 A : Option Addr
 c : Nat
 lines : List ByteArray
instance : Inhabited ChgM := ⟨⟨v0, v0, v0, none, 0, [], none, 0, []⟩⟩
def ChgM.pl (x : ChgM) : HunkP := ⟨x.up, x.down, x.lines, x.gone⟩
def chgR (x : ChgM) : List Value := chgC x.file x.up x.down (.slice x.G x.gone.length x.gc) (.slice x.A x.lines.length x.c)
def chgS (l : List ChgM) : List Value := l.flatMap chgR
theorem chgR_len (x : ChgM) : (chgR x).length = 105 := chgC_len ..
theorem chgS_app (a b : List ChgM) : chgS (a ++ b) = chgS a ++ chgS b := by unfold chgS; rw [List.flatMap_append]
structure ChgOk (w0 : World) (j : Seg) (x : ChgM) : Prop where
 rdG : Rd w0 (j :: []) x.G (vtxs x.gone)
 rdL : Rd w0 (j :: []) x.A (strs x.lines)
 capG : x.gone.length <= x.gc
 nilG : x.G = none -> x.gc = 0
 capL : x.lines.length <= x.c
 nilL : x.A = none -> x.c = 0
def ItemsFC (w0 : World) (gp : Value) (I : List ItemP) (S : SS) : Prop := ∀ s : Seg, FC Try.prog w0 33 [gp] (s :: S) (fun v S' => ∃ its seg junk, S' = seg :: junk :: s :: S /\ its.map ItemM.pl = I /\ SlV 73 3 v its.length (itemS its) seg /\ ∀ x ∈ its, ItemOk w0 junk x)
theorem FC.subP {w0 : World} {P : Program} {k : FuncId} {args : List Value} {S : SS} {post : Value -> SS -> Prop} (h : FC P w0 k args S (fun v S' => ∃ S'', Sub S'' S' /\ post v S'')) : FC P w0 k args S post := by
 intro w hw
 refine (h w hw).mono ?_
 rintro e w' ⟨v, S', e1, hr, S'', hs, hp⟩
 exact ⟨v, S'', e1, hr.subS hs, hp⟩
theorem gs_k {a : GrM} {s t u : Seg} {S : SS} : Sub (t :: u :: s :: (GS a ++ S)) (t :: u :: (GS a ++ (s :: S))) := Sub.sel [0, 1, 6, 2, 3, 4, 5] 7 (by decide) (t :: u :: (GS a ++ (s :: S)))
theorem itemsFC_gg {w0 : World} {S X : SS} {m : GrM} {ps : List PartP} (h : GG w0 X m ps) (hX : Over X S) (hn : (allV ps).length <= 60000) : ItemsFC w0 m.ptr (itemsP ps) (GS m ++ S) := by
 intro s
 refine FC.subP (FC.subS gs_a ((items_fc (S := s :: S) h hX.cons hn).mono ?_))
 rintro v _ ⟨its, seg, junk, rfl, h1, h2, h3, _⟩
 exact ⟨_, gs_k, its, seg, junk, rfl, h1, h2, h3⟩
theorem itemsFC_nil {w0 : World} {S : SS} : ItemsFC w0 (.pointer none) [] S := by
 intro s
 refine FC.subP (itemsNil_fc.mono ?_)
 rintro v _ ⟨rfl, rfl⟩
 exact ⟨_, Sub.nilL (Sub.nilL (Sub.refl _)), [], [], [], rfl, rfl, SlV.nil 73 3, by simp⟩
theorem hunks_fc {w0 : World} {S : SS} {gp : Value} {I : List ItemP} {file : Vtx} {W : Option Addr} {cw : Nat} {w : List ByteArray} (HI : ItemsFC w0 gp I S) (hn : I.length <= 1000) (hsol : ∀ x ∈ I, x.block = false -> 0 < x.lines.length) (hw : Rd w0 S W (strs w)) (hwc : w.length <= cw) (hwl : w.length <= 100000) (hz : ∀ s ∈ w, s.size <= 1000000000000000) :
  FC Try.prog w0 44 [vtxV file, gp, .slice W w.length cw] S (fun u S' => ∃ v hs sg junk, u = .tuple #[v, .int .i64 (errH I w)] /\ S' = sg :: junk :: S /\ SlV 89 105 v hs.length (chgS hs) sg /\ (∀ x ∈ hs, ChgOk w0 junk x /\ x.file = file) /\ hs.map ChgM.pl = hunksP I w) := by
 refine FC.ofD Try.known44 (by simp) ?_
 unfold Try.pc44
 simp only [argT]
 refine PW.seqOps (OL.cons trivial (OW.bx rfl) ?_)
 rintro _ _ ⟨r3, rfl, rfl⟩
 rw [vtx_box, vtxL_len]
 refine OL.dp rfl (OL.dp rfl (OL.nil (PW.k4 1 2 3 6 rfl (PW.seqOps (OL.dp rfl (OL.call trivial rfl (HI _) ?_))))))
 rintro v21 _ ⟨its, sgI, jI, rfl, rfl, hsI, hokI⟩
 rw [List.length_map] at hn
 obtain ⟨Ai, ci, rfl, hnI, hcI, hrI⟩ := slv_rdL (w0 := w0) hsI
 refine OL.det trivial (.build (cs := [.slice Ai its.length ci, (.slice none 0 0), (.slice none 0 0)]) rfl) (OL.cons trivial (OW.bx rfl) ?_)
 rintro _ _ ⟨r23, rfl, rfl⟩
 change OL _ _ _ _ _ ([(r23, .cells [.slice Ai its.length ci, (.slice none 0 0), (.slice none 0 0)] 138 3)] :: sgI :: jI :: [(r3, .cells (vtxL file) 32 33)] :: S) _
 refine OL.dp rfl (OL.nil (PW.k4 2 3 6 8 rfl (PW.seqOps (OL.dp rfl (OL.dp rfl (OL.det trivial (Yields.nilc rfl) (OL.dp rfl (OL.det trivial (.ld rfl (own_at (j := 0) (c := [.slice Ai its.length ci, (.slice none 0 0), (.slice none 0 0)]) (E := 138) (tot := 3) zM0 rfl)) (OL.dp rfl ?_)))))))))
 refine OL.cons trivial (OW.mkS_full (m := its.length) rfl rfl (by omega) (by unfold maxLen; omega)) ?_
 rintro _ _ ⟨r30, rfl, rfl⟩
 rw [made1 _ rfl]
 refine OL.det trivial (Yields.nilc rfl) (OL.dp rfl (OL.cons trivial (OW.st (k := 1) rfl rfl rfl rfl (Nat.le_refl 3) rfl) ?_))
 rintro _ _ rfl
 refine OL.nil (PW.k4 2 3 6 8 rfl ?_)
 refine PW.seq fun K1 hK1 => ?_
 refine PW.seqOps ?_
 refine OL.subS (S' := [(r23, .cells [.slice Ai its.length ci, (.slice none 0 0), (.slice (some ⟨r30, 0, none⟩) its.length its.length)] 138 3)] :: [] :: [] :: [(r30, .cells (List.replicate its.length (.bool false)) 4 (its.length * 1))] :: sgI :: jI :: [(r3, .cells (vtxL file) 32 33)] :: S) ((Sub.cons (Sub.nilL (Sub.nilL (Sub.refl _)))).trans (Sub.sel [1, 0, 2, 3, 4] 5 (by decide) ([(r30, .cells (List.replicate its.length (.bool false)) 4 (its.length * 1))] :: [(r23, .cells [.slice Ai its.length ci, (.slice none 0 0), (.slice (some ⟨r30, 0, none⟩) its.length its.length)] 138 3)] :: sgI :: jI :: [(r3, .cells (vtxL file) 32 33)] :: S))) ?_
 refine OL.dp rfl (OL.det trivial (Yields.nilc rfl) (OL.dp rfl (OL.det trivial (.ld rfl (own_at (j := 0) (c := [.slice Ai its.length ci, (.slice none 0 0), (.slice (some ⟨r30, 0, none⟩) its.length its.length)]) (E := 138) (tot := 3) zM0 rfl)) (OL.dp rfl (OL.dp rfl (OL.nil (PW.k7 2 3 6 8 36 37 38 rfl (PW.block (PW.k7 2 3 6 8 36 37 38 rfl ?_)))))))))
 refine PW.loopK (I := fun mm T S' => ∃ (k : Nat) (tm : List TM) (v : Value) (tg tj : Seg), (k <= its.length /\ mm = its.length - k /\ tm.length = k /\ tm.map (·.l) = (its.take k).map (fun x => oneT x.pl) /\ SlV 33 1 v tm.length (tolds tm) tg /\ ∀ t ∈ tm, Rd w0 (tj :: []) t.A (strs t.l) /\ t.l.length <= t.c /\ t.l.length <= 1000000) /\ T = ([(2, .slice W w.length cw), (3, .pointer (some ⟨r3, 0, none⟩)), (6, .slice none 0 0), (8, .pointer (some ⟨r23, 0, none⟩)), (36, .slice Ai its.length ci), (37, .int .i64 (its.length : Int)), (38, .int .i64 (k : Int))] : TT) /\ S' = [(r23, .cells [.slice Ai its.length ci, v, (.slice (some ⟨r30, 0, none⟩) its.length its.length)] 138 3)] :: tg :: tj :: [(r30, .cells (List.replicate its.length (.bool false)) 4 (its.length * 1))] :: sgI :: jI :: [(r3, .cells (vtxL file) 32 33)] :: S) (m := its.length) ⟨0, [], _, [], [], ⟨by omega, by omega, rfl, rfl, SlV.nil 33 1, by simp⟩, rfl, rfl⟩ ?_
 rintro mm _ _ ⟨k, tm, v, tg, tj, ⟨hkL, hmm, htl, htm, htg, htr⟩, rfl, rfl⟩
 refine PW.seqOps (OL.dp rfl (OL.nil (PW.k8 2 3 6 8 36 37 38 39 rfl ?_)))
 refine PW.seq fun K2 hK2 => ?_
 refine PW.cond rfl (fun c39 => ?_) (fun c39 => ?_)
 ·try simp only [cvS] at c39
  have hkl : k < its.length := by omega
  obtain ⟨a0, rfl⟩ := itemS_some (hrI []) (by omega)
  have hol := oneT_len its[k].pl
  refine PW.skip ?_
  refine hK2 _ _ ?_
  refine PW.k7 2 3 6 8 36 37 38 rfl ?_
  refine PW.seq fun K3 hK3 => ?_
  refine PW.block (PW.seqOps (OL.det trivial (.ixN rfl rfl rfl hkl) ?_))
  refine OL.det trivial (.ldA rfl (itemC_len _) (item_at (rd_mem (hrI []) (by simp)) hkl)) ?_
  refine OL.cons trivial OW.al ?_
  rintro _ _ ⟨r10, rfl, rfl⟩
  refine OL.cons trivial (item_st rfl rfl rfl) ?_
  rintro _ _ rfl
  refine OL.nil (PW.k8 2 3 6 8 10 36 37 38 rfl ?_)
  refine PW.quietG (Ss := Over ([(r10, .cells (itemC its[k]) 73 3)] :: [(r23, .cells [.slice (some a0) its.length ci, v, (.slice (some ⟨r30, 0, none⟩) its.length its.length)] 138 3)] :: tg :: tj :: [(r30, .cells (List.replicate its.length (.bool false)) 4 (its.length * 1))] :: sgI :: jI :: [(r3, .cells (vtxL file) 32 33)] :: S)) (fr := false) [(0, 0), (1, 0), (2, 0), (3, 0), (4, 0), (5, 0), (6, 2), (7, 2), (8, 2)] Try.mixed (by decide +kernel) (Over.refl _) (fun h => by cases h) ?_
  refine GL.dp rfl ?_
  refine GL.dp rfl ?_
  refine GL.det trivial (fun Sx hSx => Yields.nilc rfl) ?_
  refine GL.dp rfl ?_
  refine GL.det trivial (fun Sx hSx => Yields.ld rfl (own_at (j := 1) (c := [.slice (some a0) its.length ci, v, (.slice (some ⟨r30, 0, none⟩) its.length its.length)]) (E := 138) (tot := 3) (hSx _ zM1) rfl)) ?_
  refine GL.det trivial (fun Sx hSx => Yields.ldA rfl (itemC_len _) (all_at (c := itemC its[k]) (E := 73) (tot := 3) (hSx _ zM0))) ?_
  refine GL.lo trivial (OW.mono (OW.bsl (cs := itemC its[k]) rfl) ?_)
  rintro _ _ ⟨r48, rfl, rfl⟩
  rw [itemC_len]
  refine ⟨(Over.refl _).cons, ?_⟩
  refine GL.lo trivial (OW.mono (OW.call rfl (textI_fc (l := [its[k]]) (by rw [show itemS [its[k]] = itemC its[k] from List.append_nil _]; exact Rd.own (E := 73) (tot := 3) zM0) (fun y hy => by rw [List.mem_singleton.1 hy]; exact (hokI _ (List.getElem_mem hkl)).rd (by simp)) (by simp))) ?_)
  rintro v49 _ ⟨sgT, rfl, hsT, hlT⟩
  rw [textI_one] at hsT hlT
  obtain ⟨AT, cT, rfl, hnT, hcT, hrT⟩ := slv_rdL (w0 := w0) hsT
  refine ⟨(Over.refl _).cons.cons, ?_⟩
  refine GL.lo trivial (OW.mono (OW.bsl (cs := [.slice AT (oneT its[k].pl).length cT]) rfl) ?_)
  rintro _ _ ⟨r50, rfl, rfl⟩
  refine ⟨(Over.refl _).cons.cons.cons, ?_⟩
  change OL _ _ _ [_, _, _, _] _ _ _
  refine OL.cons trivial (OW.app (k := 5) rfl rfl htg rfl (news := [.slice AT (oneT its[k].pl).length cT]) rfl (fun j u hj => (Rd.own (xs := [.slice AT (oneT its[k].pl).length cT]) (E := 33) (tot := 1) zM0).at hj) rfl (by omega) (by unfold maxLen; omega)) ?_
  rintro v51 _ ⟨seg51, rfl, hsl51⟩
  have h51 : SlV 33 1 v51 (tm ++ [(⟨AT, cT, oneT its[k].pl⟩ : TM)]).length (tolds (tm ++ [(⟨AT, cT, oneT its[k].pl⟩ : TM)])) seg51 := by simpa [tolds, toldC] using hsl51
  obtain ⟨A9, c9, rfl, -, -, -⟩ := slv_rdL (w0 := w0) h51
  refine OL.det trivial (Yields.nilc rfl) (OL.dp rfl (OL.cons trivial (OW.st (k := 4) rfl rfl rfl rfl (Nat.le_succ 2) rfl) ?_))
  rintro _ _ rfl
  refine OL.nil ?_
  refine hK3 _ _ ?_
  refine PW.k7 2 3 6 8 36 37 38 rfl (PW.ops ?_)
  refine OL.det trivial (.add64 rfl rfl (by omega) (by omega)) ?_
  refine OL.dp rfl (OL.nil ?_)
  repeat rw [inBlk_n]
  try rw [thenK_n]
  refine LoopEnd.mkS ((Sub.cons (Sub.cons Sub.join)).trans (Sub.sel [4, 5, 1, 6] 7 (by decide) _)) (T'' := [(2, _), (3, _), (6, _), (8, _), (36, _), (37, _), (38, _)]) (wi rfl) ?_
  refine ⟨its.length - (k + 1), by omega, k + 1, (tm ++ [(⟨AT, cT, oneT its[k].pl⟩ : TM)]), .slice A9 (tm ++ [(⟨AT, cT, oneT its[k].pl⟩ : TM)]).length c9, seg51, sgT ++ tj, ⟨by omega, rfl, by rw [List.length_append, List.length_singleton, htl], by rw [List.map_append, htm, ltake_snoc hkl, List.map_append]; rfl, h51, ?_⟩, rfl, ?_⟩
  ·intro t ht
   rcases List.mem_append.1 ht with h1 | h1
   ·exact ⟨(htr t h1).1.mono fun p hp => by simp at hp ⊢; exact .inr hp, (htr t h1).2⟩
   rw [List.mem_singleton.1 h1]
   exact ⟨(hrT []).mono fun p hp => by simp at hp ⊢; exact .inl hp, hcT, by have := oneT_len its[k].pl; have h2 := (hokI _ (List.getElem_mem hkl)).nL; show (oneT its[k].pl).length <= _; rw [show its[k].pl.lines = its[k].lines from rfl] at this; omega⟩
  rfl
 try simp only [cvS] at c39
 refine PW.exit ?_
 refine hK1 _ _ ?_
 refine PW.k4 2 3 6 8 rfl (PW.seqOps ?_)
 have hke : k = its.length := by omega
 have htl2 : tm.length = its.length := by omega
 obtain ⟨At, ct, rfl, hnt, hct, hrt⟩ := slv_rdL (w0 := w0) htg
 obtain ⟨c, e1, e2, e3, e4, e5, e6, e7, e8⟩ : ∃ c : ChM, c.r = r23 /\ c.its = its /\ c.Ai = Ai /\ c.ci = ci /\ c.tm = tm /\ c.At = At /\ c.ct = ct /\ c.rk = r30 := ⟨⟨r23, its, Ai, ci, tm, At, ct, r30⟩, rfl, rfl, rfl, rfl, rfl, rfl, rfl, rfl⟩
 subst e1 e2 e3 e4 e5 e6 e7 e8
 rw [hke, List.take_length] at htm
 have hOK : ChOK w0 (cseg c :: tg :: tj :: sgI :: jI :: [(r3, .cells (vtxL file) 32 33)] :: S) c := ⟨rd_mem (hrI []) (by simp), fun x hx => (hokI x hx).rd (by simp), rd_mem (hrt []) (by simp [cseg]), by rw [htm]; unfold ChM.I; rw [List.map_map]; rfl, fun t ht => ⟨rd_mem (htr t ht).1 (by simp), (htr t ht).2⟩, hn, hcI, fun x hx hb => hsol x.pl (List.mem_map_of_mem hx) hb⟩
 have hCo : Over [cseg c] (cseg c :: tg :: tj :: sgI :: jI :: [(r3, .cells (vtxL file) 32 33)] :: S) := Over.hd _ _
 rw [show List.replicate c.its.length (Value.bool false) = (List.replicate c.its.length false).map Value.bool from (List.map_replicate ..).symm]
 rw [show (Value.slice c.At c.tm.length c.ct) = _ from rfl]
 refine OL.subS (S' := kseg c (List.replicate c.its.length false) :: cseg c :: tg :: tj :: sgI :: jI :: [(r3, .cells (vtxL file) 32 33)] :: S) (Sub.sel [3, 0, 1, 2, 4, 5, 6] 7 (by decide) (cseg c :: tg :: tj :: kseg c (List.replicate c.its.length false) :: sgI :: jI :: [(r3, .cells (vtxL file) 32 33)] :: S)) ?_
 refine OL.dp rfl (OL.dp rfl (OL.call trivial rfl (sections_fc (K := List.replicate c.its.length false) hOK hCo (List.length_replicate ..) (hw.mono (Over.refl _).cons.cons.cons.cons.cons.cons) hwc hwl) ?_))
 rintro v57 _ ⟨l, sgS, jS, rfl, hsS, hrS, hls, hll⟩
 obtain ⟨AS, cS, rfl, hnS, hcS, hrdS⟩ := slv_rdL (w0 := w0) hsS
 have hsx : ∀ x ∈ l, secP x ∈ secs c.I w := fun x hx => hls ▸ List.mem_map_of_mem hx
 refine OL.dp rfl (OL.nil (PW.k4 3 6 8 11 rfl ?_))
 refine PW.seq fun K4 hK4 => ?_
 refine PW.seqOps (OL.dp rfl ?_)
 refine OL.call trivial rfl (check_fc (l := l) (hrdS _) (fun x hx => rd_mem (hrS x hx).rd (by simp)) (fun x hx s hs => hz s ((secs_ok (hsx x hx)).2.2 s hs)) (fun x hx => Nat.le_trans (secs_ok (hsx x hx)).2.1 (by omega)) (by omega)) ?_
 rintro _ Sx ⟨rfl, hSx⟩
 rw [hSx]
 clear hSx
 rw [hls]
 refine OL.dp rfl (OL.nil (PW.k5 3 6 8 11 12 rfl (PW.seqOps (OL.dp rfl (OL.dp rfl (OL.nil (PW.k6 3 6 8 11 12 61 rfl ?_)))))))
 refine PW.cond rfl (fun c61 => ?_) (fun c61 => ?_)
 ·try simp only [cvS] at c61
  refine PW.seqOps (OL.dp rfl (OL.dp rfl (OL.dp rfl (OL.nil (PW.k2 6 7 rfl (PW.ret ?_))))))
  change (Exit.ret = Exit.normal ∨ Exit.ret = Exit.ret) /\ ∃ v, resV _ _ = some v /\ _
  exact ⟨.inr rfl, _, rfl, _, Sub.nilL (Sub.nilL (Sub.drop (Sub.drop (Sub.drop (Sub.drop (Sub.drop (Sub.drop (Sub.drop (Sub.drop (Sub.drop (Sub.refl _))))))))))), _, [], [], [], rfl, rfl, SlV.nil 89 105, by simp, by show _ = hunksP c.I w; unfold hunksP; rw [if_neg (show ¬ errH c.I w = 0 from c61)]; rfl⟩
 try simp only [cvS] at c61
 have hE : errH c.I w = 0 := c61
 obtain ⟨hmany, hbad⟩ := checkP_zero hE
 obtain ⟨K1, hK1⟩ : ∃ z, z = keepT (List.replicate c.its.length false) (toks c.I 0 w) := ⟨_, rfl⟩
 have hK1l : K1.length = c.its.length := by rw [hK1, keepT_len, List.length_replicate]
 rw [<- hK1]
 refine PW.skip ?_
 refine hK4 _ _ ?_
 refine PW.k4 3 6 8 11 rfl (PW.seqOps (OL.dp rfl (OL.nil (PW.k5 3 6 8 11 13 rfl ?_))))
 refine PW.seq fun K5 hK5 => ?_
 refine PW.seqOps ?_
 refine OL.subS (S' := [] :: [] :: kseg c K1 :: sgS :: jS :: cseg c :: tg :: tj :: sgI :: jI :: [(r3, .cells (vtxL file) 32 33)] :: S) ((Sub.nilL (Sub.nilL (Sub.refl _))).trans (Sub.sel [2, 0, 1] 3 (by decide) (sgS :: jS :: kseg c K1 :: cseg c :: tg :: tj :: sgI :: jI :: [(r3, .cells (vtxL file) 32 33)] :: S))) ?_
 refine OL.dp rfl (OL.dp rfl (OL.dp rfl (OL.nil (PW.k7 3 6 8 13 63 64 65 rfl (PW.block (PW.k7 3 6 8 13 63 64 65 rfl ?_))))))
 refine PW.loopK (I := fun mm T S' => ∃ (k : Nat) (va : Value) (rs : List RunM) (ag aj : Seg) (Kk : List Bool), (k <= l.length /\ mm = l.length - k /\ SlV 147 3 va rs.length (runsS rs) ag /\ (∀ x ∈ rs, RunOk w0 aj x) /\ rs.map RunM.pl = (allR c.I ((l.take k).map secP) K1).1 /\ Kk = (allR c.I ((l.take k).map secP) K1).2 /\ rs.length <= 2000 * k) /\ T = ([(3, .pointer (some ⟨r3, 0, none⟩)), (6, .slice none 0 0), (8, c.ptr), (13, va), (63, .slice AS l.length cS), (64, .int .i64 (l.length : Int)), (65, .int .i64 (k : Int))] : TT) /\ S' = ag :: aj :: kseg c Kk :: sgS :: jS :: cseg c :: tg :: tj :: sgI :: jI :: [(r3, .cells (vtxL file) 32 33)] :: S) (m := l.length) ⟨0, _, [], [], [], K1, ⟨by omega, by omega, SlV.nil 147 3, by simp, rfl, rfl, Nat.zero_le _⟩, rfl, rfl⟩ ?_
 rintro mm _ _ ⟨k, va, rs, ag, aj, Kk, ⟨hkL, hmm, hag, hro, hpm, hKk, hrb⟩, rfl, rfl⟩
 refine PW.seqOps (OL.dp rfl (OL.nil (PW.k8 3 6 8 13 63 64 65 66 rfl ?_)))
 refine PW.seq fun K6 hK6 => ?_
 refine PW.cond rfl (fun c66 => ?_) (fun c66 => ?_)
 ·try simp only [cvS] at c66
  have hkl : k < l.length := by omega
  obtain ⟨a1, rfl⟩ := runsS_some (hrdS []) (by omega)
  have hso := secs_ok (hsx _ (List.getElem_mem hkl))
  have hsm : (secP l[k]).lines.length <= 1000 := by have := sec_many (hsx _ (List.getElem_mem hkl)); omega
  refine PW.skip ?_
  refine hK6 _ _ ?_
  refine PW.k7 3 6 8 13 63 64 65 rfl ?_
  refine PW.seq fun K7 hK7 => ?_
  refine PW.block (PW.seqOps (OL.det trivial (.ixN rfl rfl rfl hkl) ?_))
  refine OL.det trivial (.ldA rfl rfl (run_at (rd_mem (hrdS []) (by simp)) hkl)) ?_
  refine OL.cons trivial OW.al ?_
  rintro _ _ ⟨r15, rfl, rfl⟩
  refine OL.cons trivial (sec_st (s := secP l[k]) (A := l[k].A) (c := l[k].c) rfl rfl rfl) ?_
  rintro _ _ rfl
  refine OL.nil (PW.k8 3 6 8 13 15 63 64 65 rfl (PW.seqOps ?_))
  refine OL.subS (S' := kseg c Kk :: sseg r15 (secP l[k]) l[k].A l[k].c :: ag :: aj :: sgS :: jS :: cseg c :: tg :: tj :: sgI :: jI :: [(r3, .cells (vtxL file) 32 33)] :: S) (Sub.sel [3, 0, 1, 2, 4, 5] 6 (by decide) (sseg r15 (secP l[k]) l[k].A l[k].c :: ag :: aj :: kseg c Kk :: sgS :: jS :: cseg c :: tg :: tj :: sgI :: jI :: [(r3, .cells (vtxL file) 32 33)] :: S)) ?_
  refine OL.dp rfl (OL.det trivial (.ldA rfl rfl (all_at (c := secC (secP l[k]) l[k].A l[k].c) (E := 144) (tot := 3) zM1)) ?_)
  refine OL.call trivial rfl (runs_fc (s := secP l[k]) (K := Kk) (hOK.mono (Over.refl _).cons.cons.cons.cons.cons) (fun q hq => hCo.cons.cons.cons.cons.cons q hq) (by rw [hKk, allR_len]; exact hK1l) hso.1.1 (by rw [<- c.I_len]; exact hso.1.2) (rd_mem (hrS _ (List.getElem_mem hkl)).rd (by simp)) hsm) ?_
  rintro v72 _ ⟨vr, rs2, sr, jr, rfl, rfl, hsr, hrr, hpr, hrl⟩
  obtain ⟨Ar, cr, rfl, hnr, hcr, hrdr⟩ := slv_rdL (w0 := w0) hsr
  refine OL.dp rfl (OL.dp rfl (OL.dp rfl (OL.dp rfl (OL.dp rfl (OL.nil (PW.k9 3 6 8 13 16 17 63 64 65 rfl ?_))))))
  refine PW.seq fun K8 hK8 => ?_
  refine PW.seqOps (OL.dp rfl (OL.det trivial (.to (v' := .bool false) (Yields.pure rfl) rfl) (OL.nil (PW.k10 3 6 8 13 16 17 63 64 65 76 rfl (PW.ite (b := false) rfl ?_)))))
  rw [if_neg Bool.false_ne_true]
  refine PW.skip ?_
  refine hK8 _ _ ?_
  refine PW.k8 3 6 8 13 16 63 64 65 rfl (PW.ops (OL.dp rfl (OL.dp rfl ?_)))
  refine OL.cons trivial (OW.appW (k := 4) rfl rfl hag rfl (runsS_len rs2) (by decide) (rd_mem (hrdr []) (by simp)) hnr (runsS_one rs2) (by omega) (by unfold maxLen; omega)) ?_
  rintro v80 _ ⟨ag2, rfl, hag2⟩
  refine OL.dp rfl (OL.nil ?_)
  refine hK7 _ _ ?_
  refine PW.k7 3 6 8 13 63 64 65 rfl (PW.ops ?_)
  refine OL.det trivial (.add64 rfl rfl (by omega) (by omega)) ?_
  refine OL.dp rfl (OL.nil ?_)
  repeat rw [inBlk_n]
  try rw [thenK_n]
  refine LoopEnd.mkS ((Sub.cons Sub.join).trans (Sub.sel [4, 1, 5, 2, 6, 7] 8 (by decide) _)) (T'' := [(3, _), (6, _), (8, _), (13, _), (63, _), (64, _), (65, _)]) (wi rfl) ?_
  have hsn := allR_snoc c.I ((l.take k).map secP) (secP l[k]) K1
  have hmp : (l.take (k + 1)).map secP = (l.take k).map secP ++ [secP l[k]] := by rw [ltake_snoc hkl, List.map_append]; rfl
  rw [<- hmp, <- hKk] at hsn
  refine ⟨l.length - (k + 1), by omega, k + 1, v80, rs ++ rs2, ag2, jr ++ aj, (runsR c.I (secP l[k]) Kk).K, ⟨by omega, rfl, by rw [runsS_app, List.length_append]; exact hag2, ?_, by rw [List.map_append, hpm, hpr, hsn], by rw [hsn], by rw [List.length_append]; omega⟩, rfl, rfl⟩
  intro x hx
  rcases List.mem_append.1 hx with h1 | h1
  ·exact (hro x h1).more fun p hp => List.mem_append_right _ hp
  exact (hrr x h1).more fun p hp => List.mem_append_left _ hp
 try simp only [cvS] at c66
 refine PW.exit ?_
 refine hK5 _ _ ?_
 refine PW.k4 3 6 8 13 rfl ?_
 refine PW.seq fun K9 hK9 => ?_
 refine PW.seqOps ?_
 have hke : k = l.length := by omega
 rw [hke, List.take_length, hls] at hpm hKk
 have hKK : Kk = keptH c.I w := by rw [hKk, hK1]; unfold keptH; rw [c.I_len]
 have hrsH : rs.map RunM.pl = runsH c.I w := by rw [hpm, hK1]; unfold runsH; rw [c.I_len]
 have hKl : Kk.length = c.its.length := by rw [hKk, allR_len]; exact hK1l
 have hrin : ∀ r ∈ runsH c.I w, r.fr <= r.to /\ r.to <= c.I.length := allR_in _ _ (fun s hs => (secs_ok hs).1)
 obtain ⟨Aa, ca, rfl, hna, hca, hrda⟩ := slv_rdL (w0 := w0) hag
 refine OL.subS (S' := [] :: [] :: ag :: aj :: kseg c Kk :: sgS :: jS :: cseg c :: tg :: tj :: sgI :: jI :: [(r3, .cells (vtxL file) 32 33)] :: S) (Sub.nilL (Sub.nilL (Sub.refl _))) (OL.dp rfl (OL.dp rfl (OL.dp rfl (OL.nil (PW.k6 3 6 8 82 83 84 rfl (PW.block (PW.k6 3 6 8 82 83 84 rfl ?_)))))))
 refine PW.loopK (I := fun mm T S' => ∃ (k : Nat) (vo : Value) (hs : List ChgM) (og oj : Seg), (k <= rs.length /\ mm = rs.length - k /\ SlV 89 105 vo hs.length (chgS hs) og /\ (∀ x ∈ hs, Rd w0 (oj :: []) x.G (vtxs x.gone) /\ x.gone.length <= x.gc /\ ((x.G = none -> x.gc = 0) /\ RunOk w0 aj ⟨0, 0, x.A, x.c, x.lines⟩) /\ x.file = file) /\ hs.map ChgM.pl = ((rs.take k).map RunM.pl).map (hunkP c.I Kk) /\ hs.length = k) /\ T = ([(3, .pointer (some ⟨r3, 0, none⟩)), (6, vo), (8, c.ptr), (82, .slice Aa rs.length ca), (83, .int .i64 (rs.length : Int)), (84, .int .i64 (k : Int))] : TT) /\ S' = og :: oj :: ag :: aj :: kseg c Kk :: sgS :: jS :: cseg c :: tg :: tj :: sgI :: jI :: [(r3, .cells (vtxL file) 32 33)] :: S) (m := rs.length) ⟨0, _, [], [], [], ⟨by omega, by omega, SlV.nil 89 105, by simp, rfl, rfl⟩, rfl, rfl⟩ ?_
 rintro mm _ _ ⟨k, vo, hs, og, oj, ⟨hkL, hmm, hog, hho, hpm2, hhl⟩, rfl, rfl⟩
 refine PW.seqOps (OL.dp rfl (OL.nil (PW.k7 3 6 8 82 83 84 85 rfl ?_)))
 refine PW.seq fun K10 hK10 => ?_
 refine PW.cond rfl (fun c85 => ?_) (fun c85 => ?_)
 ·try simp only [cvS] at c85
  have hkl : k < rs.length := by omega
  obtain ⟨a2, rfl⟩ := runsS_some (hrda []) (by omega)
  have hrf : rs[k].fr <= rs[k].to /\ rs[k].to <= c.its.length := by
   have := hrin rs[k].pl (by rw [<- hrsH]; exact List.mem_map_of_mem (List.getElem_mem hkl))
   rw [c.I_len] at this
   exact this
  refine PW.skip ?_
  refine hK10 _ _ ?_
  refine PW.k6 3 6 8 82 83 84 rfl ?_
  refine PW.seq fun K11 hK11 => ?_
  refine PW.block (PW.seqOps (OL.det trivial (.ixN rfl rfl rfl hkl) ?_))
  refine OL.det trivial (.ldA rfl rfl (run_at (rd_mem (hrda []) (by simp)) hkl)) ?_
  refine OL.cons trivial OW.al ?_
  rintro _ _ ⟨r19, rfl, rfl⟩
  refine OL.cons trivial (run_st (u := rs[k]) rfl rfl rfl) ?_
  rintro _ _ rfl
  refine OL.nil (PW.k7 3 6 8 19 82 83 84 rfl (PW.ops (OL.dp rfl (OL.dp rfl (OL.det trivial (.ldA rfl (vtxL_len _) (all_at zM13)) (OL.det trivial (.ldA rfl rfl (all_at (c := runC rs[k]) (E := 147) (tot := 3) zM0)) ?_))))))
  refine OL.call trivial rfl (hunk_fc (x := rs[k]) (K := Kk) (hOK.mono (Over.refl _).cons.cons.cons.cons.cons.cons.cons.cons) (by simp) (by simp) hKl hrf.1 hrf.2) ?_
  rintro v92 _ ⟨G, ng, cg, sgh, rfl, rfl, rfl, hsh⟩
  apply OL.app1 (k := 2)
  ·rfl
  ·rfl
  ·exact (List.size_toArray).trans (chgC_len ..)
  ·rfl
  ·rfl
  ·rfl
  ·exact hog
  ·exact chgC_one ..
  ·omega
  ·unfold maxLen; omega
  intro v94 og2 hog2
  refine OL.dp rfl (OL.nil ?_)
  refine hK11 _ _ ?_
  refine PW.k6 3 6 8 82 83 84 rfl (PW.ops ?_)
  refine OL.det trivial (.add64 rfl rfl (by omega) (by omega)) ?_
  refine OL.dp rfl (OL.nil ?_)
  repeat rw [inBlk_n]
  try rw [thenK_n]
  refine LoopEnd.mkS ((Sub.cons Sub.join).trans (Sub.sel [2, 0, 3] 4 (by decide) _)) (T'' := [(3, _), (6, _), (8, _), (82, _), (83, _), (84, _)]) (wi rfl) ?_
  have hmp : ((rs.take (k + 1)).map RunM.pl).map (hunkP c.I Kk) = ((rs.take k).map RunM.pl).map (hunkP c.I Kk) ++ [hunkP c.I Kk rs[k].pl] := by rw [ltake_snoc hkl, List.map_append, List.map_append]; rfl
  obtain ⟨Ah, ch, eh, hnh, hch, hrh⟩ := slv_rdL (w0 := w0) hsh
  simp only [Value.slice.injEq] at eh
  obtain ⟨rfl, _, rfl⟩ := eh
  refine ⟨rs.length - (k + 1), by omega, k + 1, v94, hs ++ [(⟨file, upK c.I Kk rs[k].fr, downK c.I Kk rs[k].to, G, cg, sortL (goneK c.I rs[k].pl), rs[k].A, rs[k].c, rs[k].lines⟩ : ChgM)], og2, sgh ++ oj, ⟨by omega, rfl, ?_, ?_, by rw [List.map_append, hpm2, hmp]; rfl, by rw [List.length_append, List.length_singleton, hhl]⟩, rfl, rfl⟩
  ·rw [chgS_app, List.length_append]
   show SlV 89 105 v94 (hs.length + 1) (chgS hs ++ (chgC file _ _ (.slice G (sortL (goneK c.I rs[k].pl)).length cg) _ ++ [])) og2
   rw [sortL_len, List.append_nil]; exact hog2
  intro y hy
  rcases List.mem_append.1 hy with h1 | h1
  ·obtain ⟨a1, a2, a3, a4⟩ := hho y h1
   exact ⟨a1.mono fun p hp => by simp at hp ⊢; exact .inr hp, a2, a3, a4⟩
  rw [List.mem_singleton.1 h1]
  exact ⟨(hrh []).mono fun p hp => by simp at hp ⊢; exact .inl hp, by show (sortL (goneK c.I rs[k].pl)).length <= cg; rw [sortL_len]; exact hch, ⟨hnh, ⟨(hro rs[k] (List.getElem_mem hkl)).rd, (hro rs[k] (List.getElem_mem hkl)).cap, (hro rs[k] (List.getElem_mem hkl)).nil⟩⟩, rfl⟩
 try simp only [cvS] at c85
 refine PW.exit ?_
 refine hK9 _ _ ?_
 refine PW.k1 6 rfl (PW.seqOps (OL.dp rfl (OL.dp rfl (OL.dp rfl (OL.nil (PW.k2 6 7 rfl (PW.ret ?_)))))))
 change (Exit.ret = Exit.normal ∨ Exit.ret = Exit.ret) /\ ∃ v, resV _ _ = some v /\ _
 have hke : k = rs.length := by omega
 rw [hke, List.take_length, hrsH, hKK] at hpm2
 refine ⟨.inr rfl, _, rfl, _, (Sub.cons Sub.join).trans (Sub.sel [0, 1, 3] 13 (by decide) (og :: oj :: ag :: aj :: kseg c Kk :: sgS :: jS :: cseg c :: tg :: tj :: sgI :: jI :: [(r3, .cells (vtxL file) 32 33)] :: S)), _, hs, og, oj ++ aj, by rw [show errH (c.its.map ItemM.pl) w = 0 from hE], rfl, hog, ?_, by rw [hpm2]; show _ = hunksP c.I w; unfold hunksP; rw [if_pos hE]⟩
 intro x hx
 obtain ⟨a1, a2, ⟨a3, a4⟩, a5⟩ := hho x hx
 exact ⟨⟨a1.mono fun p hp => by simp at hp ⊢; exact .inl hp, a4.rd.mono fun p hp => by simp at hp ⊢; exact .inr hp, a2, a3, a4.cap, a4.nil⟩, a5⟩
end Go.Proofs.Gr



namespace Go.Proofs.Gr
open Go.SL Go.RowKit Go.Proofs Go.GP
set_option maxHeartbeats 1000000
open Go.MyPlain
def p17 (A : Option Addr) (c : Nat) : PartM := ⟨hb1 1, 0, 1, rootV, endV, A, c, [str1 97, str1 98, str1 99], none, 0, []⟩
def k17 : PartP := (p17 none 0).pl
def v17 (n : Int) : Vtx := (hb1 1, n)
def I17 : List ItemP := [⟨[⟨v17 1, str1 97, true⟩], false, []⟩, ⟨[⟨v17 2, str1 98, true⟩], false, []⟩, ⟨[⟨v17 3, str1 99, true⟩], false, []⟩]
theorem new17 : newC [] k17 = true := by decide +kernel
theorem closed17 : ((allV [k17]).all fun a => closedB (allE [k17]) a) = true := by decide +kernel
theorem items17 : itemsP [k17] = I17 := by
 rw [items_comp closed17]
 kernel_rfl
def w17a : List ByteArray := [str1 97, str1 120, str1 98, str1 99]
def w17b : List ByteArray := [str1 97, str1 98, str1 99]
theorem err17a : errH I17 w17a = 0 := by decide +kernel
theorem err17b : errH I17 w17b = 0 := by decide +kernel
theorem runs17a : runsH I17 w17a = [⟨1, 1, [str1 120]⟩] := by kernel_rfl
theorem runs17b : runsH I17 w17b = [] := by kernel_rfl
theorem kept17a : keptH I17 w17a = [true, true, true] := by decide +kernel
def y17a : HunkP := ⟨v17 1, v17 2, [str1 120], []⟩
theorem hunks17a : hunksP I17 w17a = [y17a] := by
 unfold hunksP
 rw [if_pos err17a, runs17a, kept17a]
 show [hunkP I17 [true, true, true] ⟨1, 1, [str1 120]⟩] = _
 unfold hunkP y17a
 have h1 : upK I17 [true, true, true] 1 = v17 1 := by decide +kernel
 have h2 : downK I17 [true, true, true] 1 = v17 2 := by decide +kernel
 have h3 : goneK I17 ⟨1, 1, [str1 120]⟩ = [] := rfl
 simp only [h1, h2, h3]
 rw [show sortL [] = [] by simp [sortL]]
theorem hunks17b : hunksP I17 w17b = [] := by
 unfold hunksP
 rw [if_pos err17b, runs17b]; rfl
theorem fill_part5 {T : TT} {h : HashB} {z : Int} {up down : Vtx} {A : Option Addr} {n c : Nat} {x1 x3 x4 x5 x6 : PV} (h1 : x1.val T = some (.agg (bytesC h.1).toArray)) (h3 : x3.val T = some (.int .i64 z)) (h4 : x4.val T = some (vtxV up)) (h5 : x5.val T = some (vtxV down)) (h6 : x6.val T = some (.slice A n c)) :
  fillP T zP [(0, 32, x1), (33, 1, x3), (34, 33, x4), (67, 33, x5), (100, 1, x6)] = some (bytesC h.1 ++ ([.int .i64 0] ++ ([.int .i64 z] ++ (vtxL up ++ (vtxL down ++ ([.slice A n c] ++ [.slice none 0 0])))))) := by
 have hb := hb_len h
 have hu := vtxL_len up
 have hd := vtxL_len down
 have h0 := vtxL_len v0
 have e0 : zP = [] ++ (List.replicate 32 (.int .u8 0) ++ ([.int .i64 0] ++ ([.int .i64 0] ++ (vtxL v0 ++ (vtxL v0 ++ ([.slice none 0 0] ++ [.slice none 0 0])))))) := by unfold zP; simp only [List.append_assoc, List.nil_append]; rfl
 have c1 : (Value.agg (bytesC h.1).toArray).cells.toList = bytesC h.1 := rfl
 have c4 : (vtxV up).cells.toList = vtxL up := rfl
 have c5 : (vtxV down).cells.toList = vtxL down := rfl
 have c2 : ∀ (k : IntKind) (z : Int), (Value.int k z).cells.toList = [.int k z] := fun _ _ => rfl
 have c6 : ∀ (A : Option Addr) (n c : Nat), (Value.slice A n c).cells.toList = [.slice A n c] := fun _ _ _ => rfl
 rw [e0, fill_step (a := []) (n := 0) (k := 32) h1 rfl List.length_replicate (by rw [c1]; exact hb), c1, List.nil_append, <- List.append_assoc (bytesC h.1) [Value.int .i64 0],
  fill_step (k := 1) (b := [.int .i64 0]) h3 (by simp only [List.length_append, List.length_nil, List.length_cons]; omega) rfl rfl, c2,
  fill_step h4 (by simp only [List.length_append, List.length_nil, List.length_cons]; omega) h0 (by rw [c4]; exact hu), c4,
  fill_step h5 (by simp only [List.length_append, List.length_nil, List.length_cons]; omega) h0 (by rw [c5]; exact hd), c5, fill_step (k := 1) (b := [.slice none 0 0]) h6 (by simp only [List.length_append, List.length_nil, List.length_cons]; omega) rfl rfl, c6]
 simp only [fillP, List.append_assoc]
theorem p17_c (A : Option Addr) (c : Nat) : partC (p17 A c) = bytesC (hb1 1).1 ++ ([.int .i64 0] ++ ([.int .i64 1] ++ (vtxL rootV ++ (vtxL endV ++ ([.slice A 3 c] ++ [.slice none 0 0]))))) := by
 rw [partC_split]; rfl
theorem p17_rd {w0 : World} {S : SS} {r n : Nat} (h : [(r, AO.cells (strs [str1 97, str1 98, str1 99]) 9 n)] ∈ S) : PartRd w0 S (p17 (some ⟨r, 0, none⟩) 3) :=
 ⟨Rd.own (E := 9) (tot := n) (List.mem_flatten.2 ⟨_, h, List.mem_singleton.2 rfl⟩), Rd.nil, ⟨(show (-9223372036854775808 : Int) <= 0 /\ (0 : Int) <= 9223372036854775807 by decide), (show (-9223372036854775808 : Int) <= 1 /\ (1 : Int) <= 4611686018427387904 by decide), (show 3 <= 1000000000 by decide), Nat.zero_le _, Nat.le_refl _, fun _ => rfl, okRoot, okEnd, fun v hv => by cases hv⟩, (show 3 <= 100 by decide), Nat.zero_le _⟩
theorem given_fc {w0 : World} {S : SS} : FC Try.prog w0 45 [] S (fun v S' => ∃ m sg, v = m.ptr /\ S' = GS m ++ (sg :: S) /\ GG w0 [] m [k17]) := by
 refine FC.of Try.known45 (by simp) ?_
 unfold Try.pc45
 simp only [argT]
 refine PW.seqOps (OL.dp rfl (OL.nil (PW.keep (T' := []) trivial (PW.seqOps (OL.call trivial rfl (new_fc (X := [])) ?_)))))
 rintro _ _ ⟨m0, rfl, rfl, hm0, hg0, hl0⟩
 have hgg : GG w0 [] m0 [] := ⟨hm0, by rw [hg0]; exact GP.Inv.nil, Sq.nil, by simp [allV], by omega⟩
 refine OL.dp rfl (OL.nil (PW.k1 1 rfl (PW.seqOps (OL.dp rfl (OL.det trivial (.bldA (cs := bytesC (hb1 1).1) rfl) (OL.det trivial (.build (cs := vtxL rootV) rfl) (OL.det trivial (.build (cs := vtxL endV) rfl) (OL.cons trivial (OW.bsl (cs := strs [str1 97, str1 98, str1 99]) rfl) ?_))))))))
 rintro _ _ ⟨r7, rfl, rfl⟩
 refine OL.det trivial (.build (cs := partC (p17 (some ⟨r7, 0, none⟩) 3)) (by rw [p17_c]; exact fill_part5 rfl rfl rfl rfl rfl)) ?_
 refine OL.call trivial rfl (addF_fc (p := p17 (some ⟨r7, 0, none⟩) 3) hgg (p17_rd (n := 3) (.head _)) (show newC [] k17 = true from new17) (show 4 <= 1000000 by decide) (by rw [hl0]; exact (show 0 + 6 <= 500000000000 by decide))) ?_
 rintro _ _ ⟨m1, rfl, rfl, hg1, hl1, hr1⟩
 refine OL.nil (PW.k1 1 rfl (PW.seqOps (OL.dp rfl (OL.dp rfl (OL.nil (PW.k1 0 rfl (PW.ret ?_)))))))
 change (Exit.ret = Exit.normal ∨ Exit.ret = Exit.ret) /\ ∃ v, resV _ _ = some v /\ _
 exact ⟨.inr rfl, _, rfl, m1, _, by rw [ptr_eq hr1], rfl, hg1⟩
theorem line17_fc {w0 : World} {S : SS} {z : Int} : FC Try.prog w0 47 [.int .i64 z] S (fun v S' => v = vtxV (v17 z) /\ S' = S) := by
 refine FC.ofC Try.known47 (by simp) ?_
 unfold Try.pc47
 simp only [argT]
 refine PW.seqOps (OL.cons trivial OW.al ?_)
 rintro _ _ ⟨r2, rfl, rfl⟩
 refine OL.nil (PW.k2 0 2 rfl (PW.seqOps (OL.det trivial (.bldA (cs := bytesC (hb1 1).1) rfl) (OL.dp rfl (OL.det trivial (.build (cs := vtxL (v17 z)) rfl) (OL.cons trivial (vtx_stk (k := 0) (u := v17 z) rfl rfl rfl rfl) ?_))))))
 rintro _ _ rfl
 refine OL.nil (PW.k1 2 rfl (PW.ret ?_))
 exact ⟨.inr rfl, _, _, rfl, vtx_read (r := r2) (v := v17 z) (E := 32) (tot := 33) zM0, _, Sub.drop (Sub.refl _), rfl, rfl⟩
theorem gs_l {a : GrM} {s t u v : Seg} {S : SS} : Sub (v :: s :: t :: S) (s :: t :: (GS a ++ (u :: v :: S))) := Sub.sel [7, 0, 1] 8 (by decide) (s :: t :: (GS a ++ (u :: v :: S)))
theorem gs_n {a : GrM} {s t u z v w x : Seg} {S : SS} : Sub (v :: w :: S) (s :: t :: (GS a ++ (u :: z :: v :: w :: x :: S))) := Sub.sel [8, 9] 11 (by decide) (s :: t :: (GS a ++ (u :: z :: v :: w :: x :: S)))
theorem chg_at {w0 : World} {S : SS} {a : Addr} {l : List ChgM} (h : Rd w0 S (some a) (chgS l)) {k : Nat} (hk : k < l.length) : ∀ (j : Nat) (v : Value), (chgR l[k])[j]? = some v -> Cell w0 S ((a.add (k * 105)).add j) v := by
 intro j v hj
 have hj2 : j < 105 := by have := (List.getElem?_eq_some_iff.1 hj).1; rwa [chgR_len] at this
 rw [addr_add_add]
 refine h.at ?_
 unfold chgS
 rw [flat_get chgR_len l (k * 105 + j) (by omega), show (k * 105 + j) / 105 = k from by omega, show (k * 105 + j) % 105 = j from by omega, getElem!_pos l k hk]
 exact hj
theorem chgS_len (l : List ChgM) : (chgS l).length = l.length * 105 := by unfold chgS; rw [List.length_flatMap]; simp [chgR_len, List.map_const']
theorem chgS_some {w0 : World} {S : SS} {A : Option Addr} {l : List ChgM} (h : Rd w0 S A (chgS l)) (hk : 0 < l.length) : ∃ a, A = some a :=
 h.some (fun e => by have := chgS_len l; rw [e] at this; simp at this; omega)
theorem chgC_up {f u d : Vtx} {G L : Value} {j : Nat} {v : Value} (h : (vtxL u)[j]? = some v) : (chgC f u d G L)[37 + j]? = some v := by
 have hj : j < 33 := by have := (List.getElem?_eq_some_iff.1 h).1; rwa [vtxL_len] at this
 have e : chgC f u d G L = ([Value.int .i64 5] ++ (vtxL f ++ [Value.string ⟨#[]⟩, Value.int .i64 0, Value.int .u64 0])) ++ (vtxL u ++ (vtxL d ++ [G, L])) := by unfold chgC; simp only [List.append_assoc]
 have hl : ([Value.int .i64 5] ++ (vtxL f ++ [Value.string ⟨#[]⟩, Value.int .i64 0, Value.int .u64 0])).length = 37 := by simp only [List.length_append, vtxL_len]; rfl
 rw [e, List.getElem?_append_right (by omega), hl, Nat.add_sub_cancel_left, List.getElem?_append_left (by rw [vtxL_len]; exact hj)]
 exact h
theorem chgC_down {f u d : Vtx} {G L : Value} {j : Nat} {v : Value} (h : (vtxL d)[j]? = some v) : (chgC f u d G L)[70 + j]? = some v := by
 have hj : j < 33 := by have := (List.getElem?_eq_some_iff.1 h).1; rwa [vtxL_len] at this
 have e : chgC f u d G L = ([Value.int .i64 5] ++ (vtxL f ++ ([Value.string ⟨#[]⟩, Value.int .i64 0, Value.int .u64 0] ++ vtxL u))) ++ (vtxL d ++ [G, L]) := by unfold chgC; simp only [List.append_assoc]
 have hl : ([Value.int .i64 5] ++ (vtxL f ++ ([Value.string ⟨#[]⟩, Value.int .i64 0, Value.int .u64 0] ++ vtxL u))).length = 70 := by simp only [List.length_append, vtxL_len]; rfl
 rw [e, List.getElem?_append_right (by omega), hl, Nat.add_sub_cancel_left, List.getElem?_append_left (by rw [vtxL_len]; exact hj)]
 exact h
theorem cell_up {w0 : World} {S : SS} {r E tot : Nat} {f u d : Vtx} {G L : Value} (hm : (r, AO.cells (chgC f u d G L) E tot) ∈ S.flatten) : ∀ (j : Nat) (v : Value), (vtxL u)[j]? = some v -> Cell w0 S (((⟨r, 0, none⟩ : Addr).add 37).add j) v := fun j v hj => by
 have := (Rd.own (w0 := w0) hm).at (chgC_up (f := f) (d := d) (G := G) (L := L) hj)
 rwa [<- addr_add_add] at this
theorem cell_down {w0 : World} {S : SS} {r E tot : Nat} {f u d : Vtx} {G L : Value} (hm : (r, AO.cells (chgC f u d G L) E tot) ∈ S.flatten) : ∀ (j : Nat) (v : Value), (vtxL d)[j]? = some v -> Cell w0 S (((⟨r, 0, none⟩ : Addr).add 70).add j) v := fun j v hj => by
 have := (Rd.own (w0 := w0) hm).at (chgC_down (f := f) (u := u) (G := G) (L := L) hj)
 rwa [<- addr_add_add] at this
theorem items17_fc {w0 : World} {S : SS} {m : GrM} (h : GG w0 [] m [k17]) : ItemsFC w0 m.ptr I17 (GS m ++ S) := by
 have := itemsFC_gg (S := S) h over_nil (show 3 <= 60000 by decide)
 rwa [items17] at this
theorem sol17 : ∀ x ∈ I17, x.block = false -> 0 < x.lines.length := by decide +kernel
theorem one_fc {w0 : World} {S : SS} {W : Option Addr} {cw : Nat} {w : List ByteArray} {y : HunkP} (hw : Rd w0 S W (strs w)) (hwc : w.length <= cw) (hwl : w.length <= 1000) (hz : ∀ s ∈ w, s.size <= 1000000) (hE : errH I17 w = 0) (hy : hunksP I17 w = [y]) :
  FC Try.prog w0 43 [.slice W w.length cw] S (fun v S' => ∃ G cg A c junk, v = chgV v0 y.up y.down (.slice G y.gone.length cg) (.slice A y.lines.length c) /\ S' = junk :: S /\ Rd w0 (junk :: []) A (strs y.lines) /\ Rd w0 (junk :: []) G (vtxs y.gone)) := by
 refine FC.ofC Try.known43 (by simp) ?_
 unfold Try.pc43
 simp only [argT]
 refine PW.seqOps (OL.cons trivial OW.al ?_)
 rintro _ _ ⟨r2, rfl, rfl⟩
 change OL _ _ _ _ _ ([(r2, .cells zChg 89 105)] :: S) _
 refine OL.nil (PW.k2 0 2 rfl (PW.seqOps (OL.det trivial (.build (cs := vtxL v0) rfl) (OL.call trivial rfl (given_fc) ?_))))
 rintro _ _ ⟨m, sgl, rfl, rfl, hg⟩
 refine OL.dp rfl ?_
 refine OL.call trivial rfl (hunks_fc (S := GS m ++ (sgl :: [(r2, .cells zChg 89 105)] :: S)) (file := v0) (items17_fc hg) (by decide) sol17 (hw.mono (Over.trans (Over.cons (Over.cons (Over.refl S))) (Over.appR (fun q h => h)))) hwc (by omega) (fun s hs => by have := hz s hs; omega)) ?_
 rintro v9 _ ⟨va, hs, sgh, jh, rfl, rfl, hsh, hok, hpl⟩
 rw [hE]
 rw [hy] at hpl
 obtain ⟨x, rfl⟩ : ∃ x, hs = [x] := by
  match hs, hpl with
  | [x], _ => exact ⟨x, rfl⟩
 obtain rfl : ChgM.pl x = y := by simpa using hpl
 obtain ⟨hox, hxf⟩ := hok x (by simp)
 obtain ⟨Ah, ch, rfl, hnh, hch, hrh⟩ := slv_rdL (w0 := w0) hsh
 obtain ⟨ah, rfl⟩ := chgS_some (hrh []) (by simp)
 refine OL.dp rfl (OL.dp rfl (OL.dp rfl (OL.dp rfl (OL.dp rfl (OL.nil (PW.k3 2 3 4 rfl ?_))))))
 refine PW.seq fun K1 hK1 => ?_
 refine PW.seqOps (OL.dp rfl (OL.det trivial (.to (v' := .bool false) (Yields.pure rfl) rfl) (OL.dp rfl (OL.det rfl (.pure rfl) (OL.det rfl (.pure rfl) (OL.det rfl (.to (v' := .bool false) (Yields.pure rfl) rfl) (OL.dp rfl (OL.nil (PW.k3 2 3 18 rfl (PW.ite (b := false) rfl ?_))))))))))
 rw [if_neg Bool.false_ne_true]
 refine PW.skip ?_
 refine hK1 _ _ ?_
 refine PW.k2 2 3 rfl (PW.seqOps (OL.subS (S' := [(r2, .cells zChg 89 105)] :: sgh :: jh :: S) gs_l (OL.dp rfl (OL.det trivial (.ixN (j := 0) rfl rfl rfl Nat.zero_lt_one) ?_))))
 refine OL.det trivial (.ldA rfl (chgR_len _) (chg_at (l := [x]) (k := 0) (rd_mem (hrh []) (by simp)) Nat.zero_lt_one)) ?_
 refine OL.cons trivial (chg_stk (k := 0) (z := zChg) (f := x.file) (u := x.up) (d := x.down) (A := x.G) (a := x.gone.length) (c := x.gc) (B := x.A) (b := x.lines.length) (e := x.c) rfl rfl rfl zChg_len) ?_
 rintro _ _ rfl
 refine OL.nil (PW.k1 2 rfl (PW.ret ?_))
 exact ⟨.inr rfl, _, _, rfl, chg_read (E := 89) (tot := 105) zM0, (sgh ++ jh) :: S, (Sub.join).trans (Sub.drop (Sub.refl _)), x.G, x.gc, x.A, x.c, sgh ++ jh, by rw [hxf]; rfl, rfl, hox.rdL.mono fun p hp => by simp at hp ⊢; exact .inr hp, hox.rdG.mono fun p hp => by simp at hp ⊢; exact .inr hp⟩
theorem awake_fc {w0 : World} {S : SS} : FC Try.prog w0 46 [] S (fun v S' => v = .bool true /\ S' = S) := by
 refine FC.ofD Try.known46 (by simp) ?_
 unfold Try.pc46
 simp only [argT]
 refine PW.seqOps (OL.dp rfl (OL.nil (PW.keep (T' := []) trivial (PW.seqOps (OL.cons trivial (OW.bsl (cs := strs w17a) rfl) ?_)))))
 rintro _ _ ⟨r4, rfl, rfl⟩
 refine OL.call trivial rfl (one_fc (w := w17a) (y := y17a) (Rd.own (E := 9) (tot := 4) zM0) (show 4 <= 4 by decide) (show 4 <= 1000 by decide) (by decide +kernel) err17a hunks17a) ?_
 rintro _ _ ⟨G, cg, Ax, cx, jx, rfl, rfl, hrl, -⟩
 obtain ⟨ax, rfl⟩ := strs_some hrl Nat.zero_lt_one
 refine OL.cons trivial OW.al ?_
 rintro _ _ ⟨r1, rfl, rfl⟩
 change OL _ _ _ _ _ ([(r1, .cells zChg 89 105)] :: jx :: [(r4, .cells (strs w17a) 9 4)] :: S) _
 refine OL.cons trivial (chg_stk (k := 0) (z := zChg) (f := v0) (u := v17 1) (d := v17 2) (A := G) (a := 0) (c := cg) (B := some ax) (b := 1) (e := cx) rfl rfl rfl zChg_len) ?_
 rintro _ _ rfl
 refine OL.nil (PW.k1 1 rfl (PW.seqOps (OL.det trivial (.build (cs := vtxL v0) rfl) (OL.call trivial rfl (given_fc) ?_))))
 rintro _ _ ⟨m, sgl, rfl, rfl, hg⟩
 refine OL.cons trivial (OW.bsl (cs := strs w17b) rfl) ?_
 rintro _ _ ⟨r9, rfl, rfl⟩
 refine OL.call trivial rfl (FC.subS gs_a (hunks_fc (W := some ⟨r9, 0, none⟩) (cw := 3) (w := w17b) (file := v0) (S := GS m ++ ([(r9, .cells (strs w17b) 9 3)] :: sgl :: [(r1, .cells (chgC v0 (v17 1) (v17 2) (.slice G 0 cg) (.slice (some ax) 1 cx)) 89 105)] :: jx :: [(r4, .cells (strs w17a) 9 4)] :: S)) (items17_fc hg) (by decide) sol17 (Rd.own (E := 9) (tot := 3) (by simp)) (show 3 <= 3 by decide) (show 3 <= 100000 by decide) (by decide +kernel))) ?_
 rintro v10 _ ⟨va, hs, s1, j1, rfl, rfl, hsh, -, hpl⟩
 rw [err17b]
 rw [hunks17b] at hpl
 obtain rfl : hs = [] := by simpa using hpl
 obtain ⟨Ah, ch, rfl, -, -, -⟩ := slv_rdL (w0 := w0) hsh
 refine OL.dp rfl (OL.dp rfl (OL.dp rfl (OL.dp rfl (OL.subS (S' := [(r1, .cells (chgC v0 (v17 1) (v17 2) (.slice G 0 cg) (.slice (some ax) 1 cx)) 89 105)] :: jx :: S) gs_n (OL.dp rfl (OL.nil (PW.k3 1 2 3 rfl ?_)))))))
 refine PW.seq fun K1 hK1 => ?_
 refine PW.quietK Try.mixed (QK.dp rfl (QK.det trivial (.ld rfl (own_at (j := 0) (c := chgC v0 (v17 1) (v17 2) (.slice G 0 cg) (.slice (some ax) 1 cx)) (E := 89) (tot := 105) zM0 rfl)) (QK.det trivial (.to (v' := .bool true) (Yields.pure rfl) rfl) (QK.dp rfl (QK.det rfl (.pure rfl) (QK.det rfl (.ldA rfl (vtxL_len _) (cell_up (f := v0) (d := v17 2) (G := .slice G 0 cg) (L := .slice (some ax) 1 cx) (E := 89) (tot := 105) zM0)) (QK.call rfl rfl (line17_fc) ?_)))))))
 refine QK.det rfl (.to (v' := .bool true) (Yields.eqD (neg := false) rfl rfl (eqL_vtx _ _)) (congrArg Value.bool (by decide +kernel))) ?_
 refine QK.dp rfl (QK.dp rfl (QK.det rfl (.pure rfl) (QK.det rfl (.ldA rfl (vtxL_len _) (cell_down (f := v0) (u := v17 1) (G := .slice G 0 cg) (L := .slice (some ax) 1 cx) (E := 89) (tot := 105) zM0)) (QK.call rfl rfl (line17_fc) (QK.nil ?_)))))
 change OL _ _ _ [_, _, _, _, _, _, _, _, _, _, _, _, _, _, _, _, _, _, _, _, _, _, _, _, _, _, _, _, _, _, _] _ _ _
 refine OL.det rfl (.to (v' := .bool true) (Yields.eqD (neg := false) rfl rfl (eqL_vtx _ _)) (congrArg Value.bool (by decide +kernel))) ?_
 refine OL.dp rfl (OL.dp rfl (OL.det rfl (.pure rfl) (OL.det rfl (.ld rfl (own_at (j := 104) (c := chgC v0 (v17 1) (v17 2) (.slice G 0 cg) (.slice (some ax) 1 cx)) (E := 89) (tot := 105) zM0 (chgC_gone ..).2)) (OL.det rfl (.pure rfl) (OL.det rfl (.to (v' := .bool true) (Yields.pure rfl) rfl) (OL.dp rfl (OL.dp rfl (OL.det rfl (.pure rfl) (OL.det rfl (.ld rfl (own_at (j := 104) (c := chgC v0 (v17 1) (v17 2) (.slice G 0 cg) (.slice (some ax) 1 cx)) (E := 89) (tot := 105) zM0 (chgC_gone ..).2)) (OL.det rfl (.ixN1 (j := 0) rfl rfl rfl Nat.zero_lt_one) ?_))))))))))
 refine OL.det rfl (.ld rfl (str_at (l := [str1 120]) (rd_mem hrl (by simp)) (by decide))) ?_
 refine OL.det rfl (.to (v' := .bool true) (Yields.pure rfl) (congrArg Value.bool (by decide +kernel))) ?_
 refine OL.dp rfl (OL.dp rfl (OL.det rfl (.pure rfl) (OL.det rfl (.ld rfl (own_at (j := 103) (c := chgC v0 (v17 1) (v17 2) (.slice G 0 cg) (.slice (some ax) 1 cx)) (E := 89) (tot := 105) zM0 (chgC_gone ..).1)) (OL.det rfl (.pure rfl) (OL.det rfl (.to (v' := .bool true) (Yields.pure rfl) rfl) (OL.dp rfl (OL.dp rfl (OL.det rfl (.pure rfl) (OL.det rfl (.to (v' := .bool true) (Yields.pure rfl) rfl) (OL.dp rfl (OL.dp rfl ?_)))))))))))
 refine OL.det rfl (.pure rfl) (OL.det rfl (.pure rfl) (OL.det rfl (.to (v' := .bool true) (Yields.pure rfl) rfl) (OL.dp rfl (OL.dp rfl (OL.nil ?_)))))
 refine hK1 _ _ ?_
 refine PW.k1 0 rfl (PW.ret ?_)
 change (Exit.ret = Exit.normal ∨ Exit.ret = Exit.ret) /\ ∃ v, resV _ _ = some v /\ _
 exact ⟨.inr rfl, _, rfl, _, Sub.drop (Sub.drop (Sub.refl _)), rfl, rfl⟩
end Go.Proofs.Gr
