/- Walks. -/
import Derived.Test.YtbidjnjbiibdeaaGreatDoorPart1
import Derived.WalkKit
import Derived.ProofKit
import Derived.OpenShut
import Derived.ShutString
import Derived.ChangeOld
import Derived.Below
import Derived.SizedLaws
import Derived.SliceStrings
import Derived.Carry
import Derived.Laws.IdiomStrings
import Derived.Laws.IdiomCopy
import Derived.Lib.AppendStr
import Derived.ChangeKeysEq
import Derived.RangeFuncLeaves
import Derived.RangeFuncRecord
import Derived.RangeFuncKeeps
import Derived.OrdersIn
import Derived.Lib.AppendZerosOnto
import Derived.Lib.Overlaps
import Derived.Test.YtbidjnjbiibdeaaGreatDoorProg
import Derived.Laws.Externs
import Derived.Laws.Strings
import Derived.Laws.RangeAny
import Derived.Laws.RangeString
import Derived.Lib.Bytealg
import Derived.Lib.IndexLaws
set_option linter.unusedVariables false
set_option linter.unusedSimpArgs false
set_option linter.unusedSectionVars false

namespace Go.SL
open Go.RowKit
section
variable {P : Program} {w0 : World} {n : Nat} {T : TT} {S : SS}
def Rd (w0 : World) (S : SS) (A : Option Addr) (cs : List Value) : Prop := ∀ j v, cs[j]? = some v -> ∃ a, A = some a /\ Cell w0 S (a.add j) v
theorem Rd.mono {S S' : SS} {A : Option Addr} {cs : List Value} (h : Rd w0 S A cs) (hs : ∀ p ∈ S.flatten, p ∈ S'.flatten) : Rd w0 S' A cs :=
 fun j v hj => let ⟨a, e, hc⟩ := h j v hj; ⟨a, e, hc.mono hs⟩
theorem Rd.cons {S : SS} {s : Seg} {A : Option Addr} {cs : List Value} (h : Rd w0 S A cs) : Rd w0 (s :: S) A cs := h.mono (fun p hp => by simp [hp])
theorem Rd.nil {S : SS} {A : Option Addr} : Rd w0 S A [] := fun j v h => by simp at h
theorem Rd.some {S : SS} {A : Option Addr} {cs : List Value} (h : Rd w0 S A cs) (h0 : cs ≠ []) : ∃ a, A = Option.some a := by
 cases cs with
 | nil => exact absurd rfl h0
 | cons c cs => obtain ⟨a, e, _⟩ := h 0 c rfl; exact ⟨a, e⟩
theorem Rd.at {S : SS} {a : Addr} {cs : List Value} (h : Rd w0 S (Option.some a) cs) {j : Nat} {v : Value} (hj : cs[j]? = Option.some v) : Cell w0 S (a.add j) v := by
 obtain ⟨b, e, hc⟩ := h j v hj
 obtain rfl := Option.some.inj e
 exact hc
theorem Rd.own {S : SS} {r E tot : Nat} {xs : List Value} (h : (r, AO.cells xs E tot) ∈ S.flatten) : Rd w0 S (Option.some ⟨r, 0, none⟩) xs := by
 intro j v hj
 refine ⟨_, rfl, .inr (.inl ⟨xs, E, tot, ?_, ?_, ?_⟩)⟩
 ·simpa [Addr.add_lit] using h
 ·simp [Addr.add_lit]
 simpa [Addr.add_lit] using hj
theorem SlV.rd {S : SS} {k E sz m : Nat} {v : Value} {xs : List Value} {seg : Seg} (hv : SlV E sz v m xs seg) (hk : S[k]? = some seg) : ∃ A cap, v = .slice A m cap /\ Rd w0 S A xs /\ xs.length = m * sz := by
 obtain ⟨hl, ⟨rfl, rfl, rfl⟩ | ⟨r, cap, rfl, rfl, h1, h2⟩⟩ := hv
 ·have : xs = [] := List.eq_nil_of_length_eq_zero (by simpa using hl)
  subst this
  exact ⟨none, 0, rfl, Rd.nil, hl⟩
 have hm : (r, AO.cells xs E (cap * sz)) ∈ S.flatten := List.mem_flatten.2 ⟨[(r, AO.cells xs E (cap * sz))], List.mem_of_getElem? hk, List.mem_singleton.2 rfl⟩
 exact ⟨_, cap, rfl, Rd.own hm, hl⟩
theorem OL.call {f : FuncId} {args : List PV} {vs : List Value} {post : Value -> SS -> Prop} {d : Option Nat} {g : Option (Nat × Bool)} {r : List PI} {K : TT -> SS -> Prop} (hg : gOk T g) (hv : valsP T args = some vs) (h : FC P w0 f vs S post)
  (hk : ∀ v S', post v S' -> OL P w0 n r (put d v T) S' K) : OL P w0 n (⟨d, g, .call f args⟩ :: r) T S K := OL.cons hg (OW.call hv h) hk
theorem PW.seqOps {l : List PI} {y : PC} {Q : Exit -> TT -> SS -> Prop} (h : OL P w0 n l T S (fun T' S' => PW P w0 n y T' S' Q)) : PW P w0 n (.seq (.ops l) y) T S Q :=
 PW.seq fun K hK => PW.ops (fun ops is a w Q' hc hs hr hk => h ops is a w Q' hc hs hr fun a' w' T' S' h1 h2 h3 => hk a' w' T' S' h1 h2 (hK T' S' h3))
def QK (P : Program) (w0 : World) (n : Nat) (S : SS) (l : List PI) (T : TT) (K : TT -> Prop) : Prop := ∃ T', QL P w0 n S l T T' /\ K T'
theorem QK.nil {K : TT -> Prop} (h : K T) : QK P w0 n S [] T K := ⟨T, .nil, h⟩
theorem QK.cons {po : PO} {d : Option Nat} {g : Option (Nat × Bool)} {v : Value} {r : List PI} {K : TT -> Prop} (hg : gOk T g) (h : OW P w0 n po T S (fun v' S' => v' = v /\ S' = S)) (k : QK P w0 n S r (put d v T) K) : QK P w0 n S (⟨d, g, po⟩ :: r) T K :=
 let ⟨T', h1, h2⟩ := k; ⟨T', .step hg h h1, h2⟩
theorem QK.det {po : PO} {d : Option Nat} {g : Option (Nat × Bool)} {v : Value} {r : List PI} {K : TT -> Prop} (hg : gOk T g) (h : Yields P w0 n po T S v) (k : QK P w0 n S r (put d v T) K) : QK P w0 n S (⟨d, g, po⟩ :: r) T K := QK.cons hg (OW.of_yields h) k
theorem QK.dp {po : PO} {d : Option Nat} {v : Value} {r : List PI} {K : TT -> Prop} (h : evalP po T = some v) (k : QK P w0 n S r (put d v T) K) : QK P w0 n S (⟨d, none, po⟩ :: r) T K := QK.det trivial (.pure h) k
theorem _root_.Go.SL.OL.dp {po : PO} {d : Option Nat} {v : Value} {r : List PI} {K : TT -> SS -> Prop} (h : evalP po T = some v) (k : OL P w0 n r (put d v T) S K) : OL P w0 n (⟨d, none, po⟩ :: r) T S K := OL.det trivial (.pure h) k
theorem QK.call {f : FuncId} {args : List PV} {vs : List Value} {v : Value} {d : Option Nat} {g : Option (Nat × Bool)} {r : List PI} {K : TT -> Prop} (hg : gOk T g) (hv : valsP T args = some vs) (h : FC P w0 f vs S (fun v' S' => v' = v /\ S' = S)) (k : QK P w0 n S r (put d v T) K) : QK P w0 n S (⟨d, g, .call f args⟩ :: r) T K :=
 QK.cons hg (OW.call hv h) k
theorem QK.off {po : PO} {d : Option Nat} {s : Nat} {b : Bool} {u : Value} {r : List PI} {K : TT -> Prop} (hl : look T s = some u) (hc : (boolOf u == some b) = false) (k : QK P w0 n S r (put d undef T) K) : QK P w0 n S (⟨d, some (s, b), po⟩ :: r) T K :=
 let ⟨T', h1, h2⟩ := k; ⟨T', .off hl hc h1, h2⟩
theorem PW.quietK {b : List Nat} {k : Nat} {l : List PI} {Q : Exit -> TT -> SS -> Prop} (hm : P.follows .mixedOrders = true) (h : QK P w0 n S (l.take k) T (fun T' => OL P w0 n (l.drop k) T' S (Q .normal))) : PW P w0 n (.quietR b k l) T S Q :=
 let ⟨_, h1, h2⟩ := h; PW.quiet hm h1 h2
theorem Yields.to {po : PO} {v v' : Value} (h : Yields P w0 n po T S v) (e : v = v') : Yields P w0 n po T S v' := e ▸ h
theorem OL.bool {po : PO} {d : Nat} {g : Option (Nat × Bool)} {r : List PI} {K : TT -> SS -> Prop} {b : Bool} (hg : gOk T g) (h : Yields P w0 n po T S (.bool b)) (ht : b = true -> OL P w0 n r ((d, .bool true) :: T) S K) (hf : b = false -> OL P w0 n r ((d, .bool false) :: T) S K) : OL P w0 n (⟨some d, g, po⟩ :: r) T S K := by
 cases b
 ·exact OL.det hg h (hf rfl)
 exact OL.det hg h (ht rfl)
theorem QK.bool {po : PO} {d : Nat} {g : Option (Nat × Bool)} {r : List PI} {K : TT -> Prop} {b : Bool} (hg : gOk T g) (h : Yields P w0 n po T S (.bool b)) (ht : b = true -> QK P w0 n S r ((d, .bool true) :: T) K) (hf : b = false -> QK P w0 n S r ((d, .bool false) :: T) K) : QK P w0 n S (⟨some d, g, po⟩ :: r) T K := by
 cases b
 ·exact QK.det hg h (hf rfl)
 exact QK.det hg h (ht rfl)
theorem PW.ite {v : PV} {x y : PC} {Q : Exit -> TT -> SS -> Prop} {b : Bool} (hv : v.val T = some (.bool b)) (h : PW P w0 n (if b then x else y) T S Q) : PW P w0 n (.cond v x y) T S Q :=
 PW.cond hv (fun e => by subst e; exact h) (fun e => by subst e; exact h)
theorem addr_add_add (a : Addr) (m k : Nat) : (a.add m).add k = a.add (m + k) := by
 unfold Addr.add
 by_cases hm : m = 0
 ·subst hm; simp
 by_cases hk : k = 0
 ·subst hk; simp
 simp [hm, hk, Nat.add_assoc]
theorem Yields.ixN {sz : Nat} {x i : PV} {a : Addr} {len cap j : Nat} {k : IntKind} {z : Int} (hx : x.val T = some (.slice (some a) len cap)) (hi : i.val T = some (.int k z)) (hz : z = (j : Int)) (h : j < len) :
  Yields P w0 n (.ixS sz x i) T S (.pointer (some (a.add (j * sz)))) := by
 subst hz
 exact Yields.ixS hx hi (by omega) (by omega)
theorem Yields.ixN1 {x i : PV} {a : Addr} {len cap j : Nat} {k : IntKind} {z : Int} (hx : x.val T = some (.slice (some a) len cap)) (hi : i.val T = some (.int k z)) (hz : z = (j : Int)) (h : j < len) :
  Yields P w0 n (.ixS 1 x i) T S (.pointer (some (a.add j))) := by
 have := Yields.ixN (P := P) (w0 := w0) (n := n) (S := S) (sz := 1) hx hi hz h
 simpa using this
theorem OL.drop1 {l : List PI} {s : Seg} {K : TT -> SS -> Prop} (h : OL P w0 n l T S K) : OL P w0 n l T (s :: S) K :=
 fun ops is a w Q hc hs hr hq => h ops is a w Q hc hs (hr.sub (fun p hp => by simp [hp]) (by
  have := hr.nodup
  simp only [List.flatten_cons, List.map_append, List.nodup_append] at this
  exact this.2.1)) hq
theorem look_put_del {d1 d2 : Nat} {u v' : Value} {T : TT} (i : Nat) (v : Value) (h : look ((d2, v') :: SL.del (some d1) T) i = some v) : look ((d2, v') :: (d1, u) :: T) i = some v := by
 by_cases e : d2 = i
 ·subst e
  rw [look_put_same] at h ⊢
  exact h
 rw [look_cons_ne _ _ e] at h ⊢
 obtain ⟨h1, h2⟩ := look_del h
 rw [look_cons_ne _ _ h1]
 exact h2
theorem OL.app1 {t E sz bytes m k d1 d2 : Nat} {z v base : Value} {s x : PV} {zero : List Value} {xs : List Value} {seg : Seg} {r : List PI} {K : TT -> SS -> Prop}
  (hx : x.val T = some v) (hz : zero.length = sz) (hv1 : v.cells.size = sz) (hs : s.val T = some base) (hne : s.val ((d1, .bool true) :: T) = some base) (hk : S[k]? = some seg) (hv : SlV E sz base m xs seg) (h1 : v.cells.toList.all (·.oneCell') = true)
  (hb : (m + 1) * bytes <= 140737488355328) (h63 : m + 1 <= maxLen)
  (hK : ∀ v' seg', SlV E sz v' (m + 1) (xs ++ v.cells.toList) seg' -> OL P w0 n r ((d2, v') :: SL.del (some d1) T) (S.set k seg') K) :
  OL P w0 n (⟨some d1, none, .bsl E zero 1 [(0, sz, x)]⟩ :: ⟨some d2, none, .app t E sz bytes z s (.t d1)⟩ :: r) T S K := by
 have hfill : fillP T zero [(0, sz, x)] = some v.cells.toList := by
  simp only [fillP, hx]
  have hl : v.cells.toList.length = zero.length := by simp [hv1, hz]
  rw [if_pos ⟨hv1, by omega⟩]
  rw [setAt_eq zero 0 v.cells.toList (by omega)]
  simp [hl]
 refine OL.cons trivial (OW.bsl hfill) ?_
 rintro _ _ ⟨b, rfl, rfl⟩
 have hsv : s.val (put (some d1) (.slice (some ⟨b, 0, none⟩) 1 1) T) = some base := by
  cases s with
  | v y => simpa [PV.val] using hs
  | t i =>
   simp only [PV.val, put] at hne hs ⊢
   by_cases e : d1 = i
   ·subst e
    rw [look_put_same] at hne ⊢
    cases m with
    | zero =>
     obtain ⟨_, ⟨rfl, _⟩ | ⟨_, _, rfl, _⟩⟩ := hv <;> simp at hne
    | succ m => obtain ⟨_, ⟨rfl, _⟩ | ⟨_, _, rfl, _⟩⟩ := hv <;> simp at hne
   rw [look_cons_ne _ _ e]; exact hs
 refine OL.cons trivial (OW.app (k := k + 1) (a := ⟨b, 0, none⟩) (q := 1) (c := 1) (news := v.cells.toList) hsv (by simpa using hk) hv (by simp [PV.val, put, look_put_same]) (by simp [hv1]) (fun j u hj => (Rd.own (E := E) (tot := v.cells.toList.length) (by simp)).at hj) h1 hb h63) ?_
 rintro v' _ ⟨seg', rfl, hsl⟩
 rw [List.set_cons_succ]
 refine OL.drop1 ?_
 refine fun ops is a w Q hc hs hr hq => hK v' seg' hsl ops is a w Q hc (hs.keep fun i u hu => ?_) hr hq
 exact look_put_del i u hu
theorem thenK_n {K : TT -> SS -> Prop} {Q : Exit -> TT -> SS -> Prop} : thenK K Q .normal T S = K T S := rfl
structure Sub (S' S : SS) : Prop where
 mem : ∀ p ∈ S'.flatten, p ∈ S.flatten
 nodup : (S.flatten.map Prod.fst).Nodup -> (S'.flatten.map Prod.fst).Nodup
theorem Sub.refl (S : SS) : Sub S S := ⟨fun _ h => h, fun h => h⟩
theorem Sub.drop {s : Seg} {S' S : SS} (h : Sub S' S) : Sub S' (s :: S) := ⟨fun p hp => by simp [h.mem p hp], fun hn => h.nodup (by
 simp only [List.flatten_cons, List.map_append, List.nodup_append] at hn
 exact hn.2.1)⟩
theorem Sub.cons {s : Seg} {S' S : SS} (h : Sub S' S) : Sub (s :: S') (s :: S) := ⟨fun p hp => by
  simp only [List.flatten_cons, List.mem_append] at hp ⊢
  exact hp.imp id (h.mem p), fun hn => by
  simp only [List.flatten_cons, List.map_append, List.nodup_append] at hn ⊢
  exact ⟨hn.1, h.nodup hn.2.1, fun a ha b hb => hn.2.2 a ha b (by
   obtain ⟨p, hp, rfl⟩ := List.mem_map.1 hb
   exact List.mem_map.2 ⟨p, h.mem p hp, rfl⟩)⟩⟩
theorem Rep.subS {w : World} {S' : SS} (h : Rep w0 S w) (hs : Sub S' S) : Rep w0 S' w := h.sub hs.mem (hs.nodup h.nodup)
theorem FC.ofD {k : FuncId} {pc : PC} {rs : List Nat} {args : List Value} {post : Value -> SS -> Prop} (hk : Known P k pc n rs) (hn : args.length <= n)
  (h : PW P w0 n pc (argT 0 args) S (fun e T' S' => (e = .normal ∨ e = .ret) /\ ∃ v, resV T' rs = some v /\ ∃ S'', Sub S'' S' /\ post v S'')) : FC P w0 k args S post := by
 intro w hw
 refine (FC.of hk hn h w hw).mono ?_
 rintro e w' ⟨v, S', rfl, hr, S'', hs, hp⟩
 exact ⟨v, S'', rfl, hr.subS hs, hp⟩
theorem PW.subS {pc : PC} {S' : SS} {Q : Exit -> TT -> SS -> Prop} (hs : Sub S' S) (h : PW P w0 n pc T S' Q) : PW P w0 n pc T S Q := PW.sub hs.mem hs.nodup h
theorem OL.subS {l : List PI} {S' : SS} {K : TT -> SS -> Prop} (hs : Sub S' S) (h : OL P w0 n l T S' K) : OL P w0 n l T S K :=
 fun ops is a w Q hc hsat hr hq => h ops is a w Q hc hsat (hr.subS hs) hq
theorem FC.subS {k : FuncId} {args : List Value} {S' : SS} {post : Value -> SS -> Prop} (hs : Sub S' S) (h : FC P w0 k args S' post) : FC P w0 k args S post := fun w hw => h w (hw.subS hs)
def LoopEnd (I : Nat -> TT -> SS -> Prop) (m : Nat) (T' : TT) (S' : SS) : Prop := ∃ T'' S'', Within T'' T' /\ Sub S'' S' /\ ∃ k, k < m /\ I k T'' S''
theorem LoopEnd.mk {I : Nat -> TT -> SS -> Prop} {m : Nat} {T' T'' : TT} {S' : SS} (h : Within T'' T') (k : ∃ k, k < m /\ I k T'' S') : LoopEnd I m T' S' := ⟨T'', S', h, Sub.refl _, k⟩
theorem LoopEnd.mkS {I : Nat -> TT -> SS -> Prop} {m : Nat} {T' T'' : TT} {S' S'' : SS} (hs : Sub S'' S') (h : Within T'' T') (k : ∃ k, k < m /\ I k T'' S'') : LoopEnd I m T' S' := ⟨T'', S'', h, hs, k⟩
theorem PW.keepS {pc : PC} {T' : TT} {Q : Exit -> TT -> SS -> Prop} (hk : ∀ i v, look T' i = some v -> look T i = some v) (h : PW P w0 n pc T' S Q) : PW P w0 n pc T S Q :=
 fun c hc a w hs hr => h c hc a w (hs.keep hk) hr
theorem PW.loopK {x : PC} {Q : Exit -> TT -> SS -> Prop} (I : Nat -> TT -> SS -> Prop) {m : Nat} (h0 : I m T S)
  (round : ∀ m T S, I m T S -> PW P w0 n x T S (thenK (LoopEnd I m) Q)) : PW P w0 n (.loop x) T S Q := by
 refine PW.loop (fun m T S => ∃ T' S', (∀ i v, look T' i = some v -> look T i = some v) /\ Sub S' S /\ I m T' S') (m := m) ⟨T, S, fun _ _ h => h, Sub.refl _, h0⟩ ?_
 rintro m T S ⟨T', S', hw, hsub, hI⟩
 refine PW.subS hsub (PW.keepS hw (PW.mono (round m T' S' hI) ?_))
 intro e T S h
 cases e with
 | normal =>
  obtain ⟨T'', S'', h1, h2, k, h3, h4⟩ := h
  exact ⟨k, h3, T'', S'', h1.spec, h2, h4⟩
 | _ => exact h
variable {ez : PI -> FZ} {Ss : SS -> Prop} {fr : Bool} {K : TT -> SS -> Prop}
theorem GL.det {po : PO} {d : Option Nat} {g : Option (Nat × Bool)} {v : Value} {r : List (Nat × PI)} (hg : gOk T g) (h : ∀ S, Ss S -> Yields P w0 n po T S v) (k : GL P w0 n ez Ss fr K r (put d v T) S) : GL P w0 n ez Ss fr K ((0, ⟨d, g, po⟩) :: r) T S := .inr ⟨hg, .inl ⟨rfl, v, h, k⟩⟩
theorem GL.dp {po : PO} {d : Option Nat} {v : Value} {r : List (Nat × PI)} (h : evalP po T = some v) (k : GL P w0 n ez Ss fr K r (put d v T) S) : GL P w0 n ez Ss fr K ((0, ⟨d, none, po⟩) :: r) T S := GL.det trivial (fun _ _ => .pure h) k
theorem GL.call {f : FuncId} {args : List PV} {vs : List Value} {v : Value} {d : Option Nat} {g : Option (Nat × Bool)} {r : List (Nat × PI)} (hg : gOk T g) (hv : valsP T args = some vs) (h : ∀ S, Ss S -> FC P w0 f vs S (fun v' S' => v' = v /\ S' = S)) (k : GL P w0 n ez Ss fr K r (put d v T) S) : GL P w0 n ez Ss fr K ((1, ⟨d, g, .call f args⟩) :: r) T S :=
 .inr ⟨hg, .inr (.inl ⟨rfl, v, fun S hS => OW.call hv (h S hS), k⟩)⟩
theorem GL.lo {po : PO} {d : Option Nat} {g : Option (Nat × Bool)} {r : List (Nat × PI)} (hg : gOk T g) (h : OW P w0 n po T S (fun v S' => Ss S' /\ GL P w0 n ez Ss false K r (put d v T) S')) : GL P w0 n ez Ss false K ((2, ⟨d, g, po⟩) :: r) T S :=
 .inr ⟨hg, .inr (.inr (.inl ⟨rfl, fun F hF => by rw [hF rfl]; exact h.mono fun v S' ⟨h1, h2⟩ => ⟨S', List.Perm.refl _, h1, h2⟩⟩))⟩
theorem GL.loF {po : PO} {d : Option Nat} {g : Option (Nat × Bool)} {r : List (Nat × PI)} (hg : gOk T g) (h : ∀ F, OW P w0 n po T (F ++ S) (fun v S' => ∃ S1, (F ++ S1).Perm S' /\ Ss S1 /\ GL P w0 n ez Ss true K r (put d v T) S1)) : GL P w0 n ez Ss true K ((2, ⟨d, g, po⟩) :: r) T S :=
 .inr ⟨hg, .inr (.inr (.inl ⟨rfl, fun F _ => h F⟩))⟩
theorem GL.fresh {E : TypeId} {z : List Value} {d : Option Nat} {g : Option (Nat × Bool)} {r : List (Nat × PI)} (hg : gOk T g) (k : ∀ q, GL P w0 n ez Ss true K r (put d (.pointer (some ⟨q, 0, none⟩)) T) ([(q, .cells z E z.length)] :: S)) (he : ez ⟨d, g, .al E z⟩ = (E, z, fun r => .pointer (some ⟨r, 0, none⟩)) := by rfl) : GL P w0 n ez Ss true K ((3, ⟨d, g, .al E z⟩) :: r) T S :=
 .inr ⟨hg, .inr (.inr (.inr ⟨rfl, rfl, fun S' => by simp only; rw [he]; exact OW.al, by simp only; rw [he]; exact k⟩))⟩
end
section
variable {P : Program} {w0 : World} {n : Nat} {T : TT} {S : SS}
theorem add_own (r j : Nat) : (⟨r, 0, none⟩ : Addr).add j = ⟨r, j, none⟩ := by rw [Addr.add_lit]; simp
theorem Yields.ixO {sz : Nat} {x i : PV} {r len cap j : Nat} {k : IntKind} {z : Int} (hx : x.val T = some (.slice (some ⟨r, 0, none⟩) len cap)) (hi : i.val T = some (.int k z)) (hz : z = (j : Int)) (h : j < len) :
  Yields P w0 n (.ixS sz x i) T S (.pointer (some ⟨r, j * sz, none⟩)) := by
 have := Yields.ixN (P := P) (w0 := w0) (n := n) (S := S) (sz := sz) hx hi hz h
 rwa [add_own] at this
theorem made1 (z : Value) (hz : z.cells = #[z]) (m : Nat) : (madeCells z.cells (m * 1)).toList = List.replicate m z := by rw [hz, Nat.mul_one, toList_madeCells_one]
theorem own_at {r E tot : Nat} {c : List Value} (h : (r, AO.cells c E tot) ∈ S.flatten) {j : Nat} {v : Value} (hj : c[j]? = some v) : Cell w0 S ⟨r, j, none⟩ v := by
 have := (Rd.own (w0 := w0) h).at hj
 rwa [add_own] at this
theorem cutV0 (A : Option Addr) (cap sz h : Nat) : cutV A cap sz 0 h = .slice A h cap := by
 unfold cutV
 have : A.map (fun a => a.add (0 * sz)) = A := by cases A <;> simp [Addr.add]
 rw [this]; simp
theorem Rd.pre {A : Option Addr} {cs cs' : List Value} (h : Rd w0 S A cs) (hp : cs' <+: cs) : Rd w0 S A cs' := by
 obtain ⟨r, rfl⟩ := hp
 intro j v hj
 have hlt := (List.getElem?_eq_some_iff.1 hj).1
 exact h j v (by rw [List.getElem?_append_left hlt]; exact hj)
theorem Sub.nilL {S' S : SS} (h : Sub S' S) : Sub ([] :: S') S := ⟨fun p hp => h.mem p (by simpa using hp), fun hn => by simpa using h.nodup hn⟩
theorem inBlk_n {k : Nat} {Q : Exit -> TT -> SS -> Prop} : inBlk k Q .normal T S = Q .normal T S := rfl
end
end Go.SL

namespace Go.SL
open Go.ChangeShapes Go.WideShapes Go.ChangeAt Go.RowKit
section
variable {H : Type} {enc : TypeId × Value -> H} {P : Program} {W : World}
theorem trodAll_below (hl : laidOutB P = true) {W' : World} (hb : Below W.heap.size W W') : ∀ {ts : List TypeId} {vs : List Value} {ds : List (DataW H)} {ps : List MemPlace}, ts.all (fun t => P.readableRec t && decide (t < P.types.size)) = true ->
  DataW.TrodAll enc P W 0 (fun _ => true) true ts vs ds ps -> DataW.TrodAll enc P W' 0 (fun b => decide (b < W.heap.size)) true ts vs ds ps
 | [], [], [], ps, _, h => h
 | t :: ts, v :: vs, d :: ds, ps, hr, h => by
  obtain ⟨p, q, h1, h2, rfl⟩ := h
  simp only [List.all_cons, Bool.and_eq_true, decide_eq_true_eq] at hr
  obtain ⟨m, hm⟩ := h1
  exact ⟨p, q, Below.trod hl hr.1.1 hr.1.2 ⟨m, hm⟩ hb (DataW.trod_lt m _ _ _ hm), trodAll_below hl hb hr.2 h2, rfl⟩
theorem FC.below {k : FuncId} {args : List Value} {v : Value} (h : FC P W k args [] (fun u _ => u = v)) : Calls P k args.toArray W fun e w' => e = .returned v /\ Below W.heap.size W w' :=
 (h W ⟨Below.refl _ _, by simp, by simp, .inr (Nat.le_refl _)⟩).mono fun e w' ⟨u, S', he, hr, hu⟩ => ⟨by rw [he, hu], hr.below⟩
end
end Go.SL

namespace Go.SL
open Go.RowKit
section
variable {P : Program} {w0 : World} {n : Nat} {T : TT} {S : SS}
theorem Yields.nilc {x : PV} {a : Addr} (hx : x.val T = some (.pointer (some a))) : Yields P w0 n (.nilc x) T S (.pointer (some a)) := by
 intro o ac w hco hs hr
 obtain ⟨y, ho, rfl⟩ := cOp_spec P hco
 simp [execOp, ho, hs.eval hx]
def bytesC (l : List UInt8) : List Value := l.map fun b => .int .u8 (b.toNat : Int)
theorem bytesC_length (l : List UInt8) : (bytesC l).length = l.length := by simp [bytesC]
theorem Yields.strOf {x : PV} {A : Option Addr} {len cap : Nat} {l : List UInt8} (hx : x.val T = some (.slice A len cap)) (hl : l.length = len) (h : Rd w0 S A (bytesC l)) : Yields P w0 n (.strOf x) T S (.string ⟨l.toArray⟩) := by
 intro o ac w hco hs hr
 obtain ⟨s, t, a, e, ho, rfl, hs1, ht, he⟩ := cOp_spec P hco
 subst hl
 simp only [execOp, ho, hs.eval hx]
 cases A with
 | none =>
  have : l = [] := by
   cases l with
   | nil => rfl
   | cons b l => obtain ⟨_, e, _⟩ := h 0 _ rfl; cases e
  subst this
  rw [Sem.run_bind, run_convert_bytes_string w s t e none _ _ hs1 he ht]
  simp [Conv.bytesToString]
  rfl
 | some a' =>
  have := run_convert_bytes_back (P := P) w s t e a' cap l hs1 he ht (fun j hj => hr.cell (h.at (by simp [bytesC, hj])))
  rw [Sem.run_bind, this]
  simp
theorem OW.bytesOf {E : TypeId} {x : PV} {s : ByteArray} (hx : x.val T = some (.string s)) : OW P w0 n (.bytesOf E x) T S (fun v S' => ∃ r cap, v = .slice (some ⟨r, 0, none⟩) s.size cap /\ s.size <= cap /\ S' = [(r, .ro (bytesC s.data.toList))] :: S) := by
 intro op a w Q hco hs hr
 obtain ⟨u, t, y, ho, rfl, hs1, ht, he⟩ := cOp_spec P hco
 have hrun := run_bytes_of_string (P := P) w u t E s hs1 ht he
 have hex : (execOp a.eval op).run P w = .ok (.value (.slice (some ⟨w.heap.size, 0, none⟩) s.size (grownCap w s.size 0 E))) (w.drew.alloc (.cells (bytesRow s (grownCap w s.size 0 E)) E ((bytesRow s (grownCap w s.size 0 E)).size, (bytesRow s (grownCap w s.size 0 E)).size + 1))) := by
  simp only [execOp, ho, hs.eval hx]
  rw [Sem.run_bind, hrun]
  simp
 unfold Oper.wp
 rw [hex]
 refine ⟨_, _, rfl, ?_, w.heap.size, _, rfl, grownCap_ge .., rfl⟩
 have hb : Below w0.heap.size w (w.drew.alloc (.cells (bytesRow s (grownCap w s.size 0 E)) E ((bytesRow s (grownCap w s.size 0 E)).size, (bytesRow s (grownCap w s.size 0 E)).size + 1))) := (Below.refl _ w).drew.alloc hr.base _
 refine hr.push hb (fun i hi => alloc_heap_lt w.drew _ i hi) (by simp) ?_
 intro p hp
 simp only [List.mem_singleton] at hp
 subst hp
 refine ⟨?_, Nat.le_refl _⟩
 refine ⟨_, _, _, alloc_heap_new w.drew _, ?_⟩
 simp only [bytesRow, bytesC, Array.toList_append, Array.toList_map, List.length_map]
 have : (List.map (fun b : UInt8 => Value.int .u8 (b.toNat : Int)) s.data.toList).length = s.data.toList.length := by simp
 rw [<- this, List.take_left']
 simp
theorem Yields.ixA {len sz j : Nat} {x i : PV} {a : Addr} {k : IntKind} {z : Int} (hx : x.val T = some (.pointer (some a))) (hi : i.val T = some (.int k z)) (hz : z = (j : Int)) (h : j < len) : Yields P w0 n (.ixA len sz x i) T S (.pointer (some (a.add (j * sz)))) := by
 intro o ac w hco hs hr
 obtain ⟨t, y, y2, e, ie, ho, rfl, rfl, hu, hie, rfl⟩ := cOp_spec P hco
 subst hz
 have hsz : (sizeOf e).run P w = .ok ie.size w := by simp [sizeOf, typeInfo, program, hie, Sem.run]
 simp only [execOp, ho, hs.eval hx, hs.eval hi, Instr.indexAt]
 simp [run_underlying hu, Instr.sureAddr, asIntOf, hsz, h]
theorem Yields.mkF {f : FuncId} {caps : List PV} {vs : List Value} (hv : valsP T caps = some vs) : Yields P w0 n (.mkF f caps) T S (.func (.func f) #[] vs.toArray) := by
 intro o ac w hco hs hr
 obtain ⟨fi, cs, ho, hfi, rfl⟩ := cOp_spec P hco
 have hfi' : fi = #[] := by apply Array.toList_inj.1; simpa using hfi
 subst hfi'
 have hargs : cs.map ac.eval = vs.toArray := by
  have := valsP_spec hs hv
  rw [<- this, <- Array.toArray_toList (xs := cs.map ac.eval), Array.toList_map]
 simp [execOp, ho, Instr.makeFunc, hargs]
theorem OW.callv {f : PV} {g : FuncId} {args : List PV} {fi ca : List Value} {vs : List Value} {post : Value -> SS -> Prop} (hf : f.val T = some (.func (.func g) fi.toArray ca.toArray)) (hok : fnOk P g = true) (hv : valsP T args = some vs)
  (h : FC P w0 g (fi ++ vs ++ ca) S post) : OW P w0 n (.callv f args) T S post := by
 intro op ac w Q hco hs hr
 obtain ⟨cl, y, ho, hca, rfl, rfl⟩ := cOp_spec P hco
 have hargs : cl.args.map ac.eval = vs.toArray := by
  have := valsP_spec hs hv
  rw [<- this, <- Array.toArray_toList (xs := cl.args.map ac.eval), Array.toList_map]
 have hrun : (execOp ac.eval op).run P w = .ok (.enter g (fi ++ vs ++ ca).toArray) w := by
  unfold fnOk at hok
  split at hok
  ·rename_i fn hfn
   simp only [Bool.and_eq_true, bne_iff_ne, ne_eq] at hok
   have hb : ¬ fn.body = none := by intro hh; simp [hh] at hok
   simp only [execOp, ho, resolve, hca, hs.eval hf, Deferred.ofValue]
   simp [invoke, callFunc, program, Sem.run, hfn, hok.1, hb, hargs]
  simp at hok
 unfold Oper.wp
 rw [hrun]
 refine (h w hr).mono ?_
 rintro e w' ⟨v, S', rfl, hr', hp⟩
 exact ⟨v, S', rfl, hr', hp⟩
theorem OW.bsl0 {E : TypeId} : OW P w0 n (.bsl0 E) T S (fun v S' => ∃ r, v = .slice (some ⟨r, 0, none⟩) 0 0 /\ S' = [(r, .cells [] E 0)] :: S) := by
 intro op a w Q hco hs hr
 obtain ⟨t, l, qs, i, ho, rfl, hq, hu, hi⟩ := cOp_spec P hco
 have hq' : qs = #[] := by apply Array.toList_inj.1; simpa using hq
 subst hq'
 have hrun : (execOp a.eval op).run P w = .ok (.value (.slice (some ⟨w.heap.size, 0, none⟩) 0 0)) (w.alloc (.cells #[] E)) := by
  have hsz : (sizeOf E).run P w = .ok i.size w := by simp [sizeOf, typeInfo, program, hi, Sem.run]
  simp [execOp, ho, Instr.buildSlice, run_underlying hu, hsz, Instr.fill, newRow, newObj, Sem.run]
  rw [show Array.range 0 = #[] from by simp [Array.range], Array.map_empty]
 unfold Oper.wp
 rw [hrun]
 exact ⟨_, _, rfl, by simpa using hr.alloc #[] E, w.heap.size, rfl, rfl⟩
theorem strCells_bytesC (s : ByteArray) : Lib.strCells s = bytesC s.data.toList := by simp [Lib.strCells, bytesC]
theorem app_new_str {w : World} (t u ty e : TypeId) (i : TypeInfo) (ht : P.underlying t = some (.slice e)) (hu : P.underlying u = some .string) (hi : P.info? e = some i) (hz : i.zero = some (.int .u8 0)) (hsz : i.size = 1) (hby : i.bytes = 1)
  {base : Nat} (v : Value) (m : Nat) (xs : List Value) (hown : w.ownsRow base e 1 v m xs) (s : ByteArray) (hb : m + s.size <= 140737488355328) (hbase : base <= w.heap.size) :
  ∃ v' w', (Builtin.append_ #[t, u] ty #[v, .string s]).run P w = .ok v' w' /\ w'.ownsRow base e 1 v' (m + s.size) (xs ++ Lib.strCells s) /\ w.grownBy w' v.ownBlock /\
   (∀ r, v'.ownBlock = some r -> v.ownBlock = some r ∨ w.heap.size <= r) := by
 have h63 : m + s.size <= maxLen := by unfold maxLen; omega
 obtain ⟨v', w', hrun, ho, hg, hnil⟩ := Lib.run_append_own_string (P := P) w base t u ty e i ht hu hi hz hsz hby v m xs hown s h63 hb hbase
 refine ⟨v', w', hrun, ho, hg, fun r hr => ?_⟩
 obtain ⟨hxl, ⟨rfl, rfl⟩ | ⟨g, cap, cur, rfl, hbg, hgc, hnc, hcm, hcs, htake⟩⟩ := hown
 ·by_cases hm : s.size = 0
  ·rw [hnil.2 ⟨rfl, hm⟩] at hr
   simp [Value.ownBlock] at hr
  have h2 := run_append_nil_string (P := P) w t u ty e i (.int .u8 0) ht hu hi hz s (by omega) (by omega) (by rw [hby]; omega)
  rw [h2] at hrun
  injection hrun with e1 e2
  subst e1
  simp [Value.ownBlock] at hr
  exact .inr (by omega)
 by_cases hroom : m + s.size <= cap
 ·have h2 := Lib.run_append_room_string (P := P) w t u ty e i ht hu hi hsz g m cap cur hgc s hroom (by omega)
  rw [h2] at hrun
  injection hrun with e1 e2
  subst e1
  exact .inl hr
 have holds : ∀ j u, xs[j]? = some u -> w.cell? ((⟨g, 0, none⟩ : Addr).add j) = some u := (show w.ownsRow base e 1 _ m xs from ⟨hxl, .inr ⟨g, cap, cur, rfl, hbg, hgc, hnc, hcm, hcs, htake⟩⟩).cells (g := g) rfl
 have h2 := Lib.run_append_grow_string (P := P) w t u ty e i (.int .u8 0) ht hu hi hz ⟨g, 0, none⟩ m cap xs (by rw [hsz]; exact hxl) holds s (by omega) (by omega) (growslice_fits (by omega) (by rw [hby]; omega))
 rw [h2] at hrun
 injection hrun with e1 e2
 subst e1
 simp [Value.ownBlock] at hr
 exact .inr (by omega)
theorem OW.appStr {t u E m k : Nat} {v : Value} {s x : PV} {xs : List Value} {seg : Seg} {st : ByteArray} (hs' : s.val T = some v) (hk : S[k]? = some seg) (hv : SlV E 1 v m xs seg)
  (hx : x.val T = some (.string st)) (hb : m + st.size <= 140737488355328) :
  OW P w0 n (.appStr t u E 1 (.int .u8 0) s x) T S (fun v' S' => ∃ seg', S' = S.set k seg' /\ SlV E 1 v' (m + st.size) (xs ++ bytesC st.data.toList) seg') := by
 intro op ac w Q hco hs hr
 obtain ⟨y, y', cl, i, ho, hca, hat, har, rfl, rfl, ht, hu, hi, hz, hby, hzs, hsz⟩ := cOp_spec P hco
 obtain ⟨v', w', hrun, hown, hg, hnew⟩ := app_new_str (P := P) t u op.type E i ht hu hi hz hsz hby v m xs (hr.owns hk hv) st hb hr.base
 rw [strCells_bytesC] at hown
 obtain ⟨seg', hsl, hrep⟩ := hr.ofOwns hk hv hown hg hnew
 unfold Oper.wp
 have hrun' : (execOp ac.eval op).run P w = .ok (.value v') w' := by
  simp only [execOp, ho, resolve, hca, invoke, builtin, hat, har]
  simp [hs.eval hs', hs.eval hx, hrun]
 rw [hrun']
 exact ⟨v', _, rfl, hrep, seg', rfl, hsl⟩
theorem OW.cpy {E E' b o dl dc sl sc tot k : Nat} {d s : PV} {A : Option Addr} {c news : List Value} (hd : d.val T = some (.slice (some ⟨b, o, none⟩) dl dc)) (hs' : s.val T = some (.slice A sl sc)) (hk : S[k]? = some [(b, .cells c E' tot)])
  (hn : news.length = Nat.min sl dl) (hrd : Rd w0 S A news) (hb : o + news.length <= c.length) (h1 : news.all (·.oneCell') = true) :
  OW P w0 n (.cpy E 1 d s) T S (fun v S' => v = .int .i64 (news.length : Int) /\ S' = S.set k [(b, .cells (setAt c o news) E' tot)]) := by
 intro op a w Q hco hs hr
 obtain ⟨t, u, y, z, cl, i, ho, hca, hat, har, rfl, rfl, hu, hi, hsz⟩ := cOp_spec P hco
 obtain ⟨hge, C, hC, htot, hpre⟩ := hr.own (b, .cells c E' tot) (List.mem_flatten.2 ⟨_, List.mem_of_getElem? hk, by simp⟩)
 simp only at hge hC
 have hlen : c.length <= C.size := by
  have := congrArg List.length hpre
  simp at this
  omega
 have hst := run_storeCells_at P b o E' news 0 C w hC (by omega) (fun v hv => (List.all_eq_true.1 h1) v hv)
 simp only [Nat.add_zero] at hst
 have hfirst : (Builtin.firstCells 1 (Nat.min sl dl) (.slice A sl sc)).run P w = .ok news.toArray w := by
  cases A with
  | none =>
   have : news = [] := by
    cases news with
    | nil => rfl
    | cons x r => obtain ⟨_, e, _⟩ := hrd 0 _ rfl; cases e
   subst this
   simp [Builtin.firstCells]
  | some a' =>
   have hl := run_loadCells_list (P := P) w a' news (fun j v hj => hr.cell (hrd.at hj))
   simp [Builtin.firstCells, <- hn, hl]
 unfold Oper.wp
 have hrun : (execOp a.eval op).run P w = .ok (.value (.int .i64 (news.length : Int))) (w.setRow b (C.toList.take o ++ news ++ C.toList.drop (o + news.length)).toArray) := by
  simp only [execOp, ho, resolve, hca, invoke, builtin, hat, har]
  simp [Builtin.copy_, hs.eval hd, hs.eval hs', run_underlying hu, Builtin.lenOf, sizeOf, typeInfo, program, Sem.run, hi, hsz, hfirst, hst, goInt]
  exact congrArg _ hn.symm
 rw [hrun]
 refine ⟨_, _, rfl, ?_, rfl, rfl⟩
 have hheap := setRow_heap w b C (C.toList.take o ++ news ++ C.toList.drop (o + news.length)).toArray E' (0, 0) hC
 refine hr.replace hk (below_setRow w b _ hge) (fun i _ hne => setRow_heap_other w b i _ (by simpa using hne)) (by simp) ?_
 intro p hp
 simp only [List.mem_singleton] at hp
 subst hp
 refine ⟨hge, ⟨_, hheap, ?_, ?_⟩, .inl (by simp)⟩
 ·simp only [List.size_toArray, List.length_append, List.length_take, List.length_drop, Array.length_toList]; omega
 rw [setAt_length, setAt_eq c o _ (by omega)]
 have := take_lay C.toList o news c.length (by omega) (by simp; omega)
 rw [hpre] at this
 simpa using this
def KnownC (P : Program) (k : FuncId) (pc : PC) (n s : Nat) (m : Option Nat) : Prop :=
 ∃ fn c t, P.funcs[k]? = some fn /\ fn.body = some c /\ cC P fn.ntmps c = some pc /\ fn.ntmps = n /\ fn.results = #[.cell s t] /\ aggOf P t = some m
def ReadsAs (w0 : World) (S : SS) (m : Option Nat) (a : Addr) (v : Value) : Prop := match m with
 | none => Cell w0 S a v
 | some m => ∃ cs : List Value, v = .agg cs.toArray /\ cs.length = m /\ ∀ j u, cs[j]? = some u -> Cell w0 S (a.add j) u
theorem FC.ofC {k : FuncId} {pc : PC} {s : Nat} {m : Option Nat} {args : List Value} {post : Value -> SS -> Prop} (hk : KnownC P k pc n s m) (hn : args.length <= n)
  (h : PW P w0 n pc (argT 0 args) S (fun e T' S' => (e = .normal ∨ e = .ret) /\ ∃ a v, look T' s = some (.pointer (some a)) /\ ReadsAs w0 S' m a v /\ ∃ S'', Sub S'' S' /\ post v S'')) : FC P w0 k args S post := by
 obtain ⟨fn, c, t, hf, hb, hc, rfl, hres, hm⟩ := hk
 intro w hw
 refine calls_of_wp hf hb (wp_mono (h c hc _ w (argT_sat hn) hw) ?_)
 rintro e a' w' ⟨T', S', hs', hr', he, a, v, hl, hv, S'', hsub, hp⟩
 have ht := hs'.get s _ hl
 have hload : (loadVar t a).run P w' = .ok v w' := by
  cases m with
  | none =>
   obtain ⟨d, hu, hd⟩ := aggOf_none hm
   have := hr'.cell hv
   simp [loadVar, run_isAgg hu, hd, load, Sem.run, this]
  | some m =>
   obtain ⟨cs, rfl, hcl, hcs⟩ := hv
   obtain ⟨d, i, hu, hd, hi, hsz⟩ := aggOf_some hm
   have hload := run_loadCells_list (P := P) w' a cs (fun j v hj => hr'.cell (hcs j v hj))
   rw [hcl] at hload
   simp [loadVar, run_isAgg hu, hd, sizeOf, typeInfo, program, hi, hsz, hload, Sem.run]
 have hrun : (results fn a'.tmps).run P w' = .ok v w' := by
  simp [results, hres, ht, asAddr, hload]
 rcases he with rfl | rfl
 ·exact ⟨hs'.defers, v, hrun, v, S'', rfl, hr'.subS hsub, hp⟩
 exact ⟨hs'.defers, v, hrun, v, S'', rfl, hr'.subS hsub, hp⟩
end
section
variable {P : Program} {w0 : World} {n : Nat} {T : TT} {S : SS}
theorem Yields.binRaw {op : BinOp} {x y : PV} {u v r : Value} (hx : x.val T = some u) (hy : y.val T = some v) (hg : ∀ t a b w, (eqGuard op t a b u v).run P w = .ok () w) (h : ∀ t w, (binOp op t u v).run P w = .ok r w) : Yields P w0 n (.bin op x y) T S r := by
 intro o ac w hco hs hr
 obtain ⟨t, c, d, z, ho, rfl, rfl, hp⟩ := cOp_spec P hco
 simp only [execOp, ho, hs.eval hx, hs.eval hy]
 simp [hg, h]
theorem Yields.quo {x y : PV} {k : IntKind} {a b : Int} (hx : x.val T = some (.int k a)) (hy : y.val T = some (.int k b)) (hb : b ≠ 0) : Yields P w0 n (.bin .quo x y) T S (.int k (k.wrap (a.tdiv b))) :=
 Yields.binRaw hx hy (fun t a b w => by simp [eqGuard]) (fun t w => by simp [binOp, Op.intDiv, hb])
theorem Yields.shr {x y : PV} {k j : IntKind} {a b : Int} (hx : x.val T = some (.int k a)) (hy : y.val T = some (.int j b)) (h0 : 0 <= b) (h1 : b <= k.bits) : Yields P w0 n (.bin .shr x y) T S (.int k (a / 2 ^ b.toNat)) :=
 Yields.binRaw hx hy (fun t a b w => by simp [eqGuard]) (fun t w => by rw [show binOp .shr t (.int k a) (.int j b) = Op.shift .shr k a j b from rfl, shift_shr k j a b h0 h1]; simp)
theorem u64_wrap {a : Nat} (h : a < 18446744073709551616) : IntKind.u64.wrap (a : Int) = a := IntWalk.u64_in _ ⟨by omega, by omega⟩
theorem Yields.shrU {x y : PV} {j : IntKind} {a b : Nat} (hx : x.val T = some (.int .u64 (a : Int))) (hy : y.val T = some (.int j (b : Int))) (hb : b <= 64) : Yields P w0 n (.bin .shr x y) T S (.int .u64 ((a / 2 ^ b : Nat) : Int)) := by
 refine (Yields.shr hx hy (by omega) (by show (b : Int) <= 64; omega)).to ?_
 simp
end
section
variable {P : Program} {w0 : World} {n : Nat} {T : TT} {S : SS}
theorem Yields.ixA1 {len j : Nat} {x i : PV} {a : Addr} {k : IntKind} {z : Int} (hx : x.val T = some (.pointer (some a))) (hi : i.val T = some (.int k z)) (hz : z = (j : Int)) (h : j < len) : Yields P w0 n (.ixA len 1 x i) T S (.pointer (some (a.add j))) := by
 have := Yields.ixA (P := P) (w0 := w0) (n := n) (S := S) (sz := 1) hx hi hz h
 simpa using this
end
end Go.SL







namespace Go.SL
open Go.RowKit
section
variable {P : Program} {w0 : World} {n : Nat} {T : TT} {S : SS}
theorem Yields.neg {x : PV} {k : IntKind} {z : Int} (hx : x.val T = some (.int k z)) : Yields P w0 n (.more (.neg x)) T S (.int k (k.wrap (0 - z))) := by
 intro o a w hco hs hr
 obtain ⟨t, y, ho, rfl⟩ := cOp_spec P hco
 simp [execOp, ho, hs.eval hx, Op.unary, Op.intArith]
theorem constNil2 {y : Operand} (h : constNil y = 2) : y = .const (.slice none 0 0) := by
 unfold constNil at h
 split at h
 ·cases h
 ·rfl
 cases h
theorem Yields.slNil {neg : Bool} {x : PV} {A : Option Addr} {l c : Nat} (hx : x.val T = some (.slice A l c)) : Yields P w0 n (.more (.slNil neg x)) T S (.bool (if neg then A.isSome else A.isNone)) := by
 intro o a w hco hs hr
 obtain ⟨t, y, z, u, e, ho, rfl, hz, hu⟩ := cOp_spec P hco
 obtain rfl := constNil2 hz
 have he : a.eval (.const (.slice none 0 0)) = .slice none 0 0 := rfl
 have heq0 : ∀ d, (Op.equalIn (d + 1) t (.slice A l c) (.slice none 0 0)).run P w = .ok A.isNone w := by
  intro d
  cases A <;> simp [Op.equalIn, run_underlying hu]
 have heq : (Op.equal t (.slice A l c) (.slice none 0 0)).run P w = .ok A.isNone w := heq0 9999
 cases neg
 ·simp only [execOp, ho, Bool.false_eq_true, if_false, hs.eval hx, he]
  simp [eqGuard, binOp, heq]
 simp only [execOp, ho, if_true, hs.eval hx, he]
 simp [eqGuard, binOp, heq]
theorem Yields.slAr {len sz : Nat} {x : PV} {lo hi : Option PV} {a : Addr} {l h : Nat} {li hi' : Option Int} (hx : x.val T = some (.pointer (some a)))
  (hl : ovI lo T = some li) (hh : ovI hi T = some hi') (el : li = some (l : Int) ∨ (li = none /\ l = 0)) (eh : hi' = some (h : Int) ∨ (hi' = none /\ h = len)) (h1 : l <= h) (h2 : h <= len) :
  Yields P w0 n (.more (.slAr len sz x lo hi)) T S (.slice (some (if len = l then a else a.add (l * sz))) (h - l) (len - l)) := by
 intro o ac w hco hs hr
 obtain ⟨t, y, ol, oh, e, ie, ho, rfl, rfl, rfl, hu, hie, rfl⟩ := cOp_spec P hco
 have e1 : (∃ k, ol.map ac.eval = some (.int k (l : Int))) ∨ (ol.map ac.eval = none /\ l = 0) := by
  rcases ovI_spec hs hl with ⟨h, h'⟩ | ⟨j, k, h, h'⟩
  ·rw [h] at el; rcases el with el | el
   ·cases el
   exact .inr ⟨h', el.2⟩
  rw [h] at el; rcases el with el | el
  ·obtain rfl := Option.some.inj el; exact .inl ⟨k, h'⟩
  cases el.1
 have e2 : (∃ k, oh.map ac.eval = some (.int k (h : Int))) ∨ (oh.map ac.eval = none /\ h = len) := by
  rcases ovI_spec hs hh with ⟨h, h'⟩ | ⟨j, k, h, h'⟩
  ·rw [h] at eh; rcases eh with eh | eh
   ·cases eh
   exact .inr ⟨h', eh.2⟩
  rw [h] at eh; rcases eh with eh | eh
  ·obtain rfl := Option.some.inj eh; exact .inl ⟨k, h'⟩
  cases eh.1
 have hb := run_bounds (P := P) false len len (ol.map ac.eval) (oh.map ac.eval) l h e1 e2 h1 h2 w
 simp only [execOp, ho, hs.eval hx, Instr.sliceAt]
 simp [run_underlying hu, Instr.sureAddr, hb, sizeOf, typeInfo, program, Sem.run, hie]
theorem OW.cvS {x : PV} {b o l c k E tot : Nat} {cs : List Value} (hx : x.val T = some (.slice (some ⟨b, o, none⟩) l c)) (hk : S[k]? = some [(b, .cells cs E tot)]) :
  OW P w0 n (.more (.cvS x)) T S (fun v S' => v = .slice (some ⟨b, o, none⟩) l c /\ S' = S.set k [(b, .ro cs)]) := by
 intro op a w Q hco hs hr
 obtain ⟨s, t, y, e, ho, rfl, rfl, hu, he⟩ := cOp_spec P hco
 obtain ⟨hge, C, hC, htot, hpre⟩ := hr.own (b, .cells cs E tot) (List.mem_flatten.2 ⟨_, List.mem_of_getElem? hk, by simp⟩)
 simp only at hge hC
 have hlt : b < w.heap.size := (Array.getElem?_eq_some_iff.1 hC).1
 have hrun : (execOp a.eval op).run P w = .ok (.value (.slice (some ⟨b, o, none⟩) l c)) (w.freeze ⟨b, C.size, none⟩ 1) := by
  simp only [execOp, ho, hs.eval hx, convert]
  have hsh : w.shape? b = some (E, C.size) := by simp [World.shape?, hC]
  simp [run_underlying hu, run_underlying he, markStringish, shape, freeze, Sem.run, hsh]
 unfold Oper.wp
 rw [hrun]
 refine ⟨_, _, rfl, ?_, rfl, rfl⟩
 have hheap : ∀ i, i ≠ b -> (w.freeze ⟨b, C.size, none⟩ 1).heap[i]? = w.heap[i]? := by
  intro i hi
  simp [World.freeze, Array.getElem?_modify]
  intro e
  exact absurd e.symm hi
 refine hr.replace hk ⟨rfl, rfl, rfl, by simp [World.freeze], fun i hi => hheap i (by omega)⟩ (fun i _ hne => hheap i (by simpa using hne)) (by simp) ?_
 intro p hp
 simp only [List.mem_singleton] at hp
 subst hp
 refine ⟨hge, ?_, .inl (by simp)⟩
 refine ⟨C, E, (C.size, C.size + 1), ?_, hpre⟩
 simp [World.freeze, Array.getElem?_modify, hC]
theorem OW.rngS {x : PV} {s : ByteArray} (hx : x.val T = some (.string s)) : OW P w0 n (.more (.rngS x)) T S (fun v S' => ∃ r, v = .pointer (some ⟨r, 0, none⟩) /\ S' = [(r, .obj (.stringIter s 0))] :: S) := by
 intro op a w Q hco hs hr
 obtain ⟨t, y, ho, rfl, hu⟩ := cOp_spec P hco
 have hrun : (execOp a.eval op).run P w = .ok (.value (.pointer (some ⟨w.heap.size, 0, none⟩))) (w.alloc (.stringIter s 0)) := by
  simp [execOp, ho, hs.eval hx, Instr.range, run_underlying hu, newObj, Sem.run]
 unfold Oper.wp
 rw [hrun]
 refine ⟨_, _, rfl, ?_, w.heap.size, rfl, rfl⟩
 refine hr.push (below_alloc hr _) (fun i hi => alloc_heap_lt w _ i hi) (by simp) ?_
 intro p hp
 simp only [List.mem_singleton] at hp
 subst hp
 exact ⟨alloc_heap_new w _, Nat.le_refl _⟩
theorem iter_at {w : World} {k b : Nat} {o : Obj} (h : Rep w0 S w) (hk : S[k]? = some [(b, .obj o)]) : w0.heap.size <= b /\ w.heap[b]? = some o :=
 h.own (b, .obj o) (List.mem_flatten.2 ⟨_, List.mem_of_getElem? hk, by simp⟩)
theorem OW.nxtS_end {x : PV} {s : ByteArray} {b k p : Nat} (hx : x.val T = some (.pointer (some ⟨b, 0, none⟩))) (hk : S[k]? = some [(b, .obj (.stringIter s p))]) (hp : ¬ p < s.size) :
  Yields P w0 n (.more (.nxtS x)) T S (.tuple #[.bool false]) := by
 intro op a w hco hs hr
 obtain ⟨y, ho, rfl⟩ := cOp_spec P hco
 obtain ⟨_, hw⟩ := iter_at hr hk
 simp [execOp, ho, hs.eval hx, Instr.next, getObj, Sem.run, hw, hp]
theorem OW.nxtS {x : PV} {s : ByteArray} {b k p : Nat} (hx : x.val T = some (.pointer (some ⟨b, 0, none⟩))) (hk : S[k]? = some [(b, .obj (.stringIter s p))]) (hp : p < s.size) :
  OW P w0 n (.more (.nxtS x)) T S (fun v S' => v = .tuple #[.bool true, .int .i64 (p : Int), .int .i32 ((Utf8.decode s p).1 : Int)] /\ S' = S.set k [(b, .obj (.stringIter s (p + (Utf8.decode s p).2)))]) := by
 intro op a w Q hco hs hr
 obtain ⟨y, ho, rfl⟩ := cOp_spec P hco
 obtain ⟨hge, hw⟩ := iter_at hr hk
 have hlt : b < w.heap.size := (Array.getElem?_eq_some_iff.1 hw).1
 have hrun : (execOp a.eval op).run P w = .ok (.value (.tuple #[.bool true, .int .i64 (p : Int), .int .i32 ((Utf8.decode s p).1 : Int)])) { w with heap := w.heap.setIfInBounds b (.stringIter s (p + (Utf8.decode s p).2)) } := by
  simp [execOp, ho, hs.eval hx, Instr.next, getObj, setObj, Sem.run, hw, hp, goInt]
 unfold Oper.wp
 rw [hrun]
 refine ⟨_, _, rfl, ?_, rfl, rfl⟩
 refine hr.replace hk ⟨rfl, rfl, rfl, by simp, fun i hi => ?_⟩ (fun i hi hne => ?_) (by simp) ?_
 ·have : b ≠ i := by omega
  simp [Array.getElem?_setIfInBounds_ne this]
 ·have : b ≠ i := by simp at hne; omega
  simp [Array.getElem?_setIfInBounds_ne this]
 intro q hq
 simp only [List.mem_singleton] at hq
 subst hq
 refine ⟨hge, ?_, .inl (by simp)⟩
 show ({ w with heap := w.heap.setIfInBounds b (.stringIter s (p + (Utf8.decode s p).2)) } : World).heap[b]? = some _
 simp [hlt]
theorem ext_none {fn : Func} {name : String} (hn : fn.name = name) (ho : fn.origin = "") (h1 : (Extern.allNextRows.lookup name).isNone = true) (h2 : (Extern.allNextRows.lookup "").isNone = true) : Extern.findNext fn = none := by
 unfold Extern.findNext
 rw [hn, ho]
 simp only [Option.isNone_iff_eq_none] at h1 h2
 simp [h1, h2]
theorem Yields.xc {row : Nat} {args : List PV} {vs : List Value} {v : Value} {e : Array Value -> Sem Value} (hv : valsP T args = some vs) (h1 : (Extern.allNextRows.lookup (rowOf row)).isNone = true) (h2 : (Extern.allNextRows.lookup "").isNone = true)
  (he : ∀ fn : Func, fn.name = rowOf row -> Extern.find fn = some e) (hr : ∀ w, (e vs.toArray).run P w = .ok v w) : Yields P w0 n (.more (.xc row args)) T S v := by
 intro o a w hco hs hrep
 obtain ⟨c, f, fn, ho, hca, rfl, hf, hn, hor, hb, hng⟩ := cOp_spec P hco
 have hargs : c.args.map a.eval = vs.toArray := by
  apply Array.toList_inj.1
  simpa using valsP_spec hs hv
 have := run_callFunc_extern hf hng hb (ext_none hn hor h1 h2) (he fn hn) vs.toArray w
 rw [hr w] at this
 simp only [execOp, ho]
 simp [resolve, hca, Act.eval, Deferred.ofValue, invoke, hargs, this]
end
end Go.SL









namespace Go.SL
open Go.RowKit
section
variable {P : Program} {w0 : World} {n : Nat} {T : TT} {S : SS}
theorem Yields.cap {x : PV} {A : Option Addr} {l c : Nat} (hx : x.val T = some (.slice A l c)) : Yields P w0 n (.more (.other (.cap x))) T S (.int .i64 (c : Int)) := by
 intro o a w hco hs hr
 obtain ⟨cl, t, y, e, ho, hca, hat, har, rfl, hu⟩ := cOp_spec P hco
 simp only [execOp, ho, resolve, hca, invoke, builtin, hat, har]
 simp [Builtin.cap_, hs.eval hx, run_underlying hu, goInt]
theorem OW.xf {f : FuncId} {args : List PV} {vs : List Value} {v : Value} (hv : valsP T args = some vs) (h : ∀ w, Rep w0 S w -> (callFunc f vs.toArray).run P w = .ok (.value v) w) :
  OW P w0 n (.more (.other (.xf f args))) T S (fun u S' => u = v /\ S' = S) := by
 intro o a w Q hco hs hr
 obtain ⟨c, ho, hca, rfl⟩ := cOp_spec P hco
 have hargs : c.args.map a.eval = vs.toArray := by
  apply Array.toList_inj.1
  simpa using valsP_spec hs hv
 unfold Oper.wp
 have hrun : (execOp a.eval o).run P w = .ok (.value v) w := by
  simp only [execOp, ho]
  simp [resolve, hca, Act.eval, Deferred.ofValue, invoke, hargs, h w hr]
 rw [hrun]
 exact ⟨v, S, rfl, hr, rfl, rfl⟩
theorem OW.appM {t u E sz bytes m q cp : Nat} {z : Value} {s l : PV} {A : Option Addr} {olds : List Value} {kq : IntKind} (hs' : s.val T = some (.slice A m cp)) (hl : l.val T = some (.int kq (q : Int))) (hrd : Rd w0 S A olds) (ho : olds.length = m * sz)
  (hq : 0 < q) (hg : cp < m + q) (h63 : m + q <= maxLen) (hb : (m + q) * bytes <= 140737488355328) :
  OW P w0 n (.more (.other (.appM t u E sz bytes z s l))) T S (fun v S' => ∃ r c, v = .slice (some ⟨r, 0, none⟩) (m + q) c /\ m + q <= c /\ c <= maxLen /\ S' = [(r, .cells (olds ++ (Builtin.zeroCells z.cells q).toList ++ (Builtin.zeroCells z.cells (c - (m + q))).toList) E (c * sz))] :: S) := by
 intro op a w Q hco hs hr
 obtain ⟨a1, b1, cl, i, kn, hop, hca, hat, har, rfl, rfl, hu, hun, hi, hiz, rfl, rfl, hzs, hs0⟩ := cOp_spec P hco
 have hold : (Builtin.firstCells i.size m (.slice A m cp)).run P w.drew = .ok olds.toArray w.drew := by
  cases A with
  | none =>
   have : olds = [] := by
    cases olds with
    | nil => rfl
    | cons x r => obtain ⟨_, e, _⟩ := hrd 0 _ rfl; cases e
   subst this
   simp [Builtin.firstCells]
  | some a' => exact run_firstCells_some (P := P) w.drew i.size m a' m cp olds ho (fun j v hj => hr.cell (hrd.at hj))
 have hfit : Builtin.nextslicecap (m + q) cp * i.bytes <= 281474976710656 := growslice_fits (by omega) hb
 have h48 : q * i.bytes <= 281474976710656 := by
  have : q * i.bytes <= (m + q) * i.bytes := Nat.mul_le_mul_right _ (by omega)
  omega
 have hm63 : ((m + q : Nat) : Int) <= 9223372036854775807 := by have : maxLen = 9223372036854775807 := rfl; omega
 have happ := Lib.run_append_grow_zeros (P := P) w t u op.type E i z kq kn hu hun hi hiz A m cp olds hold q hq hs0 hg hm63 h48 hfit
 unfold Oper.wp
 have hrun : (execOp a.eval op).run P w = .ok (.value (.slice (some ⟨w.heap.size, 0, none⟩) (m + q) (grownCap w (m + q) cp E)))
   (w.drew.alloc (.cells (olds.toArray ++ Builtin.zeroCells z.cells q ++ Builtin.zeroCells z.cells (grownCap w (m + q) cp E - (m + q))) E)) := by
  simp only [execOp, hop, resolve, hca, invoke, builtin, hat, har]
  simp [hs.eval hs', hs.eval hl, happ]
 rw [hrun]
 have hr' : Rep w0 S w.drew := hr.same ⟨rfl, rfl, rfl, Nat.le_refl _, fun _ _ => rfl⟩ (fun _ _ => rfl)
 have hge := grownCap_ge w (m + q) cp E
 have hle := grownCap_le_maxLen w (m + q) cp E h63
 have hal := hr'.alloc (olds.toArray ++ Builtin.zeroCells z.cells q ++ Builtin.zeroCells z.cells (grownCap w (m + q) cp E - (m + q))) E
 generalize hc : grownCap w (m + q) cp E = c at *
 refine ⟨_, _, rfl, hal, w.heap.size, c, rfl, hge, hle, ?_⟩
 have hz0 : 0 < z.cells.size := by omega
 have hsz : (olds.toArray ++ Builtin.zeroCells z.cells q ++ Builtin.zeroCells z.cells (c - (m + q))).size = c * i.size := by
  simp only [Array.size_append, Builtin.zeroCells, Array.size_map, Array.size_range, List.size_toArray, ho, hzs]
  rw [<- Nat.add_mul, <- Nat.add_mul, show m + q + (c - (m + q)) = c from by omega]
 rw [hsz]
 simp
theorem OL.full {l : List PI} {K : TT -> SS -> Prop} {k b E tot : Nat} {c : List Value} (hk : S[k]? = some [(b, .cells c E tot)]) (h : ∀ d, (c ++ d).length = tot -> OL P w0 n l T (S.set k [(b, .cells (c ++ d) E tot)]) K) : OL P w0 n l T S K := by
  intro ops is a w Q hc hs hr hq
  obtain ⟨hge, C, hC, htot, hpre⟩ := hr.own (b, .cells c E tot) (List.mem_flatten.2 ⟨_, List.mem_of_getElem? hk, by simp⟩)
  have hcd : c ++ C.toList.drop c.length = C.toList := by rw [<- hpre, List.length_take]; rw [Nat.min_def]; split
                                                          · rw [List.take_append_drop]
                                                          rename_i hh; rw [List.take_of_length_le (by omega)]; simp
  have hlen : (c ++ C.toList.drop c.length).length = tot := by rw [hcd]; simpa using htot
  refine h _ hlen ops is a w Q hc hs ?_ hq
  refine hr.replace hk (Below.refl _ _) (fun _ _ _ => rfl) (by simp) ?_
  intro p hp
  simp only [List.mem_singleton] at hp
  subst hp
  exact ⟨hge, ⟨C, hC, htot, by rw [hcd, List.take_length]⟩, .inl (by simp)⟩
theorem OW.cpyN {E E' sz b o dl dc sl sc tot k : Nat} {d s : PV} {A : Option Addr} {c news : List Value} (hd : d.val T = some (.slice (some ⟨b, o, none⟩) dl dc)) (hs' : s.val T = some (.slice A sl sc)) (hk : S[k]? = some [(b, .cells c E' tot)])
  (hn : news.length = Nat.min sl dl * sz) (hrd : Rd w0 S A news) (hb : o + news.length <= c.length) (h1 : news.all (·.oneCell') = true) :
  OW P w0 n (.cpy E sz d s) T S (fun v S' => v = .int .i64 ((Nat.min sl dl : Nat) : Int) /\ S' = S.set k [(b, .cells (setAt c o news) E' tot)]) := by
 intro op a w Q hco hs hr
 obtain ⟨t, u, y, z, cl, i, ho, hca, hat, har, rfl, rfl, hu, hi, hsz⟩ := cOp_spec P hco
 obtain ⟨hge, C, hC, htot, hpre⟩ := hr.own (b, .cells c E' tot) (List.mem_flatten.2 ⟨_, List.mem_of_getElem? hk, by simp⟩)
 simp only at hge hC
 have hlen : c.length <= C.size := by
  have := congrArg List.length hpre
  simp at this
  omega
 have hst := run_storeCells_at P b o E' news 0 C w hC (by omega) (fun v hv => (List.all_eq_true.1 h1) v hv)
 simp only [Nat.add_zero] at hst
 have hfirst : (Builtin.firstCells sz (Nat.min sl dl) (.slice A sl sc)).run P w = .ok news.toArray w := by
  cases A with
  | none =>
   have : news = [] := by
    cases news with
    | nil => rfl
    | cons x r => obtain ⟨_, e, _⟩ := hrd 0 _ rfl; cases e
   subst this
   simp [Builtin.firstCells]
  | some a' => exact run_firstCells_some (P := P) w sz (Nat.min sl dl) a' sl sc news hn (fun j v hj => hr.cell (hrd.at hj))
 unfold Oper.wp
 have hrun : (execOp a.eval op).run P w = .ok (.value (.int .i64 ((Nat.min sl dl : Nat) : Int))) (w.setRow b (C.toList.take o ++ news ++ C.toList.drop (o + news.length)).toArray) := by
  simp only [execOp, ho, resolve, hca, invoke, builtin, hat, har]
  simp [Builtin.copy_, hs.eval hd, hs.eval hs', run_underlying hu, Builtin.lenOf, sizeOf, typeInfo, program, Sem.run, hi, hsz, hfirst, hst, goInt]
 rw [hrun]
 refine ⟨_, _, rfl, ?_, rfl, rfl⟩
 have hheap := setRow_heap w b C (C.toList.take o ++ news ++ C.toList.drop (o + news.length)).toArray E' (0, 0) hC
 refine hr.replace hk (below_setRow w b _ hge) (fun i _ hne => setRow_heap_other w b i _ (by simpa using hne)) (by simp) ?_
 intro p hp
 simp only [List.mem_singleton] at hp
 subst hp
 refine ⟨hge, ⟨_, hheap, ?_, ?_⟩, .inl (by simp)⟩
 ·simp only [List.size_toArray, List.length_append, List.length_take, List.length_drop, Array.length_toList]; omega
 rw [setAt_length, setAt_eq c o _ (by omega)]
 have := take_lay C.toList o news c.length (by omega) (by simp; omega)
 rw [hpre] at this
 simpa using this
theorem overlaps_no {f : FuncId} {fn : Func} {tS tR e sz : Nat} {i : TypeInfo} (hf : P.funcs[f]? = some fn) (hx : ∀ (vs : Array Value) (w : World), (callFunc f vs).run P w = ((Extern.SlicesOverlaps.overlaps #[tS, tS] #[tR] vs).run P w).andThen fun v w => .ok (.value v) w)
  (hu : P.underlying tS = some (.slice e)) (hz : ∀ w, (Go.sizeOf e).run P w = .ok sz w) {a b la lb ca cb oa ob E1 E2 t1 t2 : Nat} {c1 c2 : List Value} (h1 : (a, AO.cells c1 E1 t1) ∈ S.flatten) (h2 : (b, AO.cells c2 E2 t2) ∈ S.flatten) (hne : a ≠ b) (ht : t2 ≠ 0) :
  ∀ w, Rep w0 S w -> (callFunc f #[.slice (some ⟨a, oa, none⟩) la ca, .slice (some ⟨b, ob, none⟩) lb cb]).run P w = .ok (.value (.bool false)) w := by
 intro w hr
 obtain ⟨_, C1, hC1, ht1, _⟩ := hr.own _ h1
 obtain ⟨_, C2, hC2, ht2, _⟩ := hr.own _ h2
 rw [hx, Lib.run_overlaps_apart w tS tR e hu sz hz ⟨a, oa, none⟩ ⟨b, ob, none⟩ la ca lb cb hne E1 E2 C1.size C2.size (by simp [World.shape?, hC1]) (by simp [World.shape?, hC2]) (by omega) (by simp [World.frozen?, hC1]) (by simp [World.frozen?, hC1])]
 rfl
def KnownCT (P : Program) (k : FuncId) (pc : PC) (n s u : Nat) (m : Option Nat) : Prop :=
 ∃ fn c t, P.funcs[k]? = some fn /\ fn.body = some c /\ cC P fn.ntmps c = some pc /\ fn.ntmps = n /\ fn.results = #[.cell s t, .tmp u] /\ aggOf P t = some m
theorem FC.ofCT {k : FuncId} {pc : PC} {s u : Nat} {m : Option Nat} {args : List Value} {post : Value -> SS -> Prop} (hk : KnownCT P k pc n s u m) (hn : args.length <= n)
  (h : PW P w0 n pc (argT 0 args) S (fun e T' S' => (e = .normal ∨ e = .ret) /\ ∃ a v x, look T' s = some (.pointer (some a)) /\ ReadsAs w0 S' m a v /\ look T' u = some x /\ ∃ S'', Sub S'' S' /\ post (.tuple #[v, x]) S'')) : FC P w0 k args S post := by
 obtain ⟨fn, c, t, hf, hb, hc, rfl, hres, hm⟩ := hk
 intro w hw
 refine calls_of_wp hf hb (wp_mono (h c hc _ w (argT_sat hn) hw) ?_)
 rintro e a' w' ⟨T', S', hs', hr', he, a, v, x, hl, hv, hx, S'', hsub, hp⟩
 have ht := hs'.get s _ hl
 have htx := hs'.get u _ hx
 have hload : (loadVar t a).run P w' = .ok v w' := by
  cases m with
  | none =>
   obtain ⟨d, hu, hd⟩ := aggOf_none hm
   have := hr'.cell hv
   simp [loadVar, run_isAgg hu, hd, load, Sem.run, this]
  | some m =>
   obtain ⟨cs, rfl, hcl, hcs⟩ := hv
   obtain ⟨d, i, hu, hd, hi, hsz⟩ := aggOf_some hm
   have hload := run_loadCells_list (P := P) w' a cs (fun j v hj => hr'.cell (hcs j v hj))
   rw [hcl] at hload
   simp [loadVar, run_isAgg hu, hd, sizeOf, typeInfo, program, hi, hsz, hload, Sem.run]
 have hrun : (results fn a'.tmps).run P w' = .ok (.tuple #[v, x]) w' := by
  simp [results, hres, ht, htx, asAddr, hload]
 rcases he with rfl | rfl
 ·exact ⟨hs'.defers, _, hrun, _, S'', rfl, hr'.subS hsub, hp⟩
 exact ⟨hs'.defers, _, hrun, _, S'', rfl, hr'.subS hsub, hp⟩
end
end Go.SL



abbrev Go.SL.zo (d : Nat) (x : Go.SL.PO) : Go.SL.PI := ⟨some d, none, x⟩
abbrev Go.SL.zm (d a : Nat) : Go.SL.PI := ⟨some d, none, .mov (.t a)⟩
abbrev Go.SL.zg (d g : Nat) (b : Bool) (x : Go.SL.PO) : Go.SL.PI := ⟨some d, some (g, b), x⟩
abbrev Go.SL.zz : Go.Value := .int .u8 0
abbrev Go.SL.yy : Go.SL.CK := .int .u8
abbrev Go.SL.zC0 : List Go.Value := [.string ⟨#[]⟩, .int .i64 0, .int .u64 0]
abbrev Go.SL.zC1 : List Go.Value := [.int .i64 0, .slice none 0 0]
abbrev Go.SL.zC2 : List Go.Value := [.int .i64 0, .int .u64 0]
abbrev Go.SL.zC3 : List Go.SL.CK := [.int .i64, .int .u64]
abbrev Go.SL.zi : Go.SL.PV := .v (.int .i64 0)
abbrev Go.SL.zj : Go.SL.PV := .v (.int .i64 1)
abbrev Go.SL.zf : Go.SL.PV := .v (.bool false)
abbrev Go.SL.zt : Go.SL.PV := .v (.bool true)
namespace Go.Proofs
open Go.SL
set_option maxRecDepth 100000
theorem Tryz.mixed : Tryz.prog.follows .mixedOrders = true := by kernel_rfl
def Tryz.pc4 : PC :=
 (.seq (.ops [zo 0 (.mov zf)])
 (.seq (.ops [zo 12 (.call 17 []), zo 1 (.al 24 zC1), ⟨none, none, .st 2 (.t 1) (.t 12)⟩])
 (.seq (.quietR [0, 1, 0, 7, 0] 5 [zo 13 (.ldA 2 (.t 1)), zo 14 (.call 13 [(.t 13), (.v (.string ⟨#[97]⟩))]), zo 15 (.ldA 2 (.t 1)), zo 16 (.call 13 [(.t 15), (.v (.string ⟨#[97, 47, 98]⟩))]), zo 17 (.ldA 2 (.t 1)), zo 18 (.call 13 [(.t 17), (.v (.string ⟨#[]⟩))]), zm 2 14, zm 3 16, zm 4 18])
 (.seq (.quietR [0, 0, 3, 7, 15, 15, 0, 95] 8 [zo 20 (.ldA 2 (.t 1)), zo 21 (.call 19 [(.v (.int .i64 3)), (.v (.int .u64 0))]), zo 22 (.call 18 [(.t 20), (.v (.string ⟨#[97]⟩)), (.t 21)]), zm 19 22, zo 23 (.ext 0 (.t 19)), zo 24 (.ext 1 (.t 19)), zo 5 (.al 24 zC1), ⟨none, none, .st 2 (.t 5) (.t 23)⟩, zm 6 24])
 (.seq (.quietR [0, 0, 3, 7, 15, 15, 0, 95] 8 [zo 26 (.ldA 2 (.t 1)), zo 27 (.call 19 [zi, (.v (.int .u64 0))]), zo 28 (.call 18 [(.t 26), (.v (.string ⟨#[97, 47, 47, 98]⟩)), (.t 27)]), zm 25 28, zo 29 (.ext 0 (.t 25)), zo 30 (.ext 1 (.t 25)), zo 7 (.al 24 zC1), ⟨none, none, .st 2 (.t 7) (.t 29)⟩, zm 8 30])
 (.seq (.quietR [0, 0, 3, 7, 15, 15, 0, 95] 8 [zo 32 (.ldA 2 (.t 1)), zo 33 (.call 19 [(.v (.int .i64 16)), (.v (.int .u64 0))]), zo 34 (.call 18 [(.t 32), (.v (.string ⟨#[97]⟩)), (.t 33)]), zm 31 34, zo 35 (.ext 0 (.t 31)), zo 36 (.ext 1 (.t 31)), zo 9 (.al 24 zC1), ⟨none, none, .st 2 (.t 9) (.t 35)⟩, zm 10 36])
 (.seq (.ops [zo 37 (.build zC0 [(0, 1, (.v (.string ⟨#[98]⟩)))]), zo 38 (.build zC0 [(0, 1, (.v (.string ⟨#[97]⟩)))]), zo 39 (.bsl 48 [.string ⟨#[]⟩, .int .i64 0, .int .u64 0, .string ⟨#[]⟩, .int .i64 0, .int .u64 0] 2 [(0, 3, (.t 37)), (3, 3, (.t 38))]), zo 40 (.build zC1 [(0, 1, (.v (.int .i64 2))), (1, 1, (.t 39))]), zo 11 (.al 24 zC1), ⟨none, none, .st 2 (.t 11) (.t 40)⟩])
 (.seq (.quietR [0, 1, 3, 7, 15, 31, 63, 127, 255, 511, 1023, 2047, 4095, 8191, 16383, 32767, 65535, 131071, 262143, 524287, 1048575, 2097151, 524287, 8388607, 16777215, 33554431, 67108863, 134217727, 268435455, 67108863] 30 [zo 41 (.call 6 []), zm 42 41, zg 43 42 true (.ldA 2 (.t 1)), zg 44 42 true (.call 10 [(.t 43), (.v (.string ⟨#[97]⟩))]), zg 45 42 true (.call 19 [(.v (.int .i64 2)), (.v (.int .u64 1))]), zg 46 42 true (.eqA false 34 zC3 (.t 44) (.t 45)), zo 47 (.pick (.t 42) (.t 46) zf), zm 48 47, zg 49 48 true (.ldA 2 (.t 1)), zg 50 48 true (.call 10 [(.t 49), (.v (.string ⟨#[97, 47, 98]⟩))]), zg 51 48 true (.call 19 [zi, (.v (.int .u64 0))]), zg 52 48 true (.eqA false 34 zC3 (.t 50) (.t 51)), zo 53 (.pick (.t 48) (.t 52) zf), zm 54 53, zg 55 54 true (.mov (.t 2)), zg 56 54 true (.lenS (.t 55)), zg 57 54 true (.bin .eql (.t 56) (.v (.int .i64 2))), zo 58 (.pick (.t 54) (.t 57) zf), zm 59 58, zg 60 59 true (.mov (.t 2)), zg 61 59 true (.ixS 2 (.t 60) zi), zg 62 59 true (.ldA 2 (.t 61)), zg 63 59 true (.call 19 [zi, (.v (.int .u64 0))]), zg 64 59 true (.eqA false 34 zC3 (.t 62) (.t 63)), zo 65 (.pick (.t 59) (.t 64) zf), zm 66 65, zg 67 66 true (.mov (.t 2)), zg 68 66 true (.ixS 2 (.t 67) zj), zg 69 66 true (.ldA 2 (.t 68)), zg 70 66 true (.call 19 [(.v (.int .i64 2)), (.v (.int .u64 1))]), zg 71 66 true (.eqA false 34 zC3 (.t 69) (.t 70)), zo 72 (.pick (.t 66) (.t 71) zf), zm 73 72, zg 74 73 true (.mov (.t 3)), zg 75 73 true (.lenS (.t 74)), zg 76 73 true (.bin .eql (.t 75) zj), zo 77 (.pick (.t 73) (.t 76) zf), zm 78 77, zg 79 78 true (.mov (.t 4)), zg 80 78 true (.lenS (.t 79)), zg 81 78 true (.bin .eql (.t 80) (.v (.int .i64 3))), zo 82 (.pick (.t 78) (.t 81) zf), zm 83 82, zg 84 83 true (.mov (.t 6)), zg 85 83 true (.bin .eql (.t 84) zi), zo 86 (.pick (.t 83) (.t 85) zf), zm 87 86, zg 88 87 true (.fa 0 (.t 5)), zg 89 87 true (.ld (.t 88)), zg 90 87 true (.bin .eql (.t 89) (.v (.int .i64 4))), zo 91 (.pick (.t 87) (.t 90) zf), zm 92 91, zg 93 92 true (.ldA 2 (.t 5)), zg 94 92 true (.call 10 [(.t 93), (.v (.string ⟨#[97, 47, 99]⟩))]), zg 95 92 true (.call 19 [(.v (.int .i64 3)), (.v (.int .u64 0))]), zg 96 92 true (.eqA false 34 zC3 (.t 94) (.t 95)), zo 97 (.pick (.t 92) (.t 96) zf), zm 98 97, zg 99 98 true (.ldA 2 (.t 5)), zg 100 98 true (.call 10 [(.t 99), (.v (.string ⟨#[97, 47, 98]⟩))]), zg 101 98 true (.call 19 [zi, (.v (.int .u64 0))]), zg 102 98 true (.eqA false 34 zC3 (.t 100) (.t 101)), zo 103 (.pick (.t 98) (.t 102) zf), zm 104 103, zg 105 104 true (.mov (.t 8)), zg 106 104 true (.bin .eql (.t 105) (.v (.int .i64 15))), zo 107 (.pick (.t 104) (.t 106) zf), zm 108 107, zg 109 108 true (.mov (.t 10)), zg 110 108 true (.bin .eql (.t 109) (.v (.int .i64 2))), zo 111 (.pick (.t 108) (.t 110) zf), zm 112 111, zg 113 112 true (.ldA 2 (.t 1)), zg 114 112 true (.call 15 [(.t 113)]), zg 115 112 true (.bin .eql (.t 114) (.v (.string ⟨#[118, 51, 10, 49, 58, 48, 32, 10, 50, 58, 49, 32, 97, 10, 48, 58, 48, 32, 97, 47, 98]⟩))), zo 116 (.pick (.t 112) (.t 115) zf), zm 117 116, zg 118 117 true (.ldA 2 (.t 11)), zg 119 117 true (.call 7 [(.t 118)]), zg 120 117 true (.bin .eql (.t 119) (.v (.int .i64 2))), zo 121 (.pick (.t 117) (.t 120) zf), zm 122 121, zg 123 122 true (.build zC1 []), zg 124 122 true (.call 10 [(.t 123), (.v (.string ⟨#[120]⟩))]), zg 125 122 true (.call 19 [zi, (.v (.int .u64 0))]), zg 126 122 true (.eqA false 34 zC3 (.t 124) (.t 125)), zo 127 (.pick (.t 122) (.t 126) zf), zm 0 127])
 .ret))))))))
theorem Tryz.known4 : Known Tryz.prog 4 Tryz.pc4 128 [0] := ⟨Tryz.f4, _, Tryz.func4, rfl, by kernel_rfl, rfl, rfl⟩
def Tryz.pc5 : PC :=
 (.seq (.ops [zo 2 (.bx 24 (.t 0)), zo 4 (.mov zf)])
 (.seq (.seq (.ops [zo 5 (.mov zi)])
 (.block 0 (.loop (.seq (.seq (.ops [zm 6 5, zo 7 (.fa 1 (.t 2)), zo 8 (.ld (.t 7)), zo 9 (.lenS (.t 8)), zo 10 (.bin .lss (.t 6) (.t 9)), zm 11 10, zg 12 11 true (.mov (.t 5)), zg 13 11 true (.bin .lss (.t 12) (.v (.int .i64 70))), zo 14 (.pick (.t 11) (.t 13) zf)])
 (.cond (.t 14) .skip (.exit 0)))
 (.seq (.block 1 (.seq (.ops [zo 17 (.fa 1 (.t 2)), zo 18 (.ld (.t 17)), zm 19 5, zo 20 (.ixS 3 (.t 18) (.t 19)), zo 21 (.fa 0 (.t 20)), zo 22 (.ld (.t 21)), zo 23 (.lenStr (.t 22)), zo 24 (.bin .gtr (.t 23) (.v (.int .i64 200)))])
 (.cond (.t 24) (.seq (.ops [zo 4 (.mov zt)])
 .ret) .skip)))
 (.ops [zm 15 5, zo 16 (.bin .add (.t 15) zj), zm 5 16]))))))
 (.seq (.ops [zo 25 (.fa 1 (.t 2)), zo 26 (.ld (.t 25)), zo 27 (.lenS (.t 26)), zo 28 (.bin .gtr (.t 27) (.v (.int .i64 60))), zm 29 28, zg 30 29 false (.mov (.t 1)), zg 31 29 false (.lenStr (.t 30)), zg 32 29 false (.bin .gtr (.t 31) (.v (.int .i64 200))), zo 33 (.pick (.t 29) zt (.t 32)), zm 34 33, zg 35 34 false (.fa 0 (.t 2)), zg 36 34 false (.ld (.t 35)), zg 37 34 false (.bin .gtr (.t 36) (.v (.int .i64 999999999))), zo 38 (.pick (.t 34) zt (.t 37)), zm 39 38, zg 40 39 false (.fa 0 (.t 2)), zg 41 39 false (.ld (.t 40)), zg 42 39 false (.bin .lss (.t 41) (.v (.int .i64 (-999999999)))), zo 43 (.pick (.t 39) zt (.t 42)), zm 4 43])
 .ret)))
theorem Tryz.known5 : Known Tryz.prog 5 Tryz.pc5 44 [4] := ⟨Tryz.f5, _, Tryz.func5, rfl, by kernel_rfl, rfl, rfl⟩
def Tryz.pc6 : PC :=
 (.seq (.ops [zo 0 (.mov zf)])
 (.seq (.ops [zo 2 (.call 17 []), zo 1 (.al 24 zC1), ⟨none, none, .st 2 (.t 1) (.t 2)⟩])
 (.seq (.ops [zo 3 (.ldA 2 (.t 1)), zo 4 (.call 7 [(.t 3)]), zo 5 (.bin .eql (.t 4) zi), zm 6 5, zg 7 6 true (.ldA 2 (.t 1)), zg 8 6 true (.call 10 [(.t 7), (.v (.string ⟨#[120]⟩))]), zg 9 6 true (.call 19 [zj, (.v (.int .u64 0))]), zg 10 6 true (.eqA false 34 zC3 (.t 8) (.t 9)), zo 11 (.pick (.t 6) (.t 10) zf), zm 12 11, zg 13 12 true (.ldA 2 (.t 1)), zg 14 12 true (.call 10 [(.t 13), (.v (.string ⟨#[97, 98]⟩))]), zg 15 12 true (.call 19 [zj, (.v (.int .u64 0))]), zg 16 12 true (.eqA false 34 zC3 (.t 14) (.t 15)), zo 17 (.pick (.t 12) (.t 16) zf), zm 18 17, zg 19 18 true (.ldA 2 (.t 1)), zg 20 18 true (.call 10 [(.t 19), (.v (.string ⟨#[97, 47, 99]⟩))]), zg 21 18 true (.call 19 [(.v (.int .i64 2)), (.v (.int .u64 1))]), zg 22 18 true (.eqA false 34 zC3 (.t 20) (.t 21)), zo 23 (.pick (.t 18) (.t 22) zf), zm 24 23, zg 25 24 true (.ldA 2 (.t 1)), zg 26 24 true (.call 10 [(.t 25), (.v (.string ⟨#[97, 47, 98, 47, 99]⟩))]), zg 27 24 true (.call 19 [zi, (.v (.int .u64 0))]), zg 28 24 true (.eqA false 34 zC3 (.t 26) (.t 27)), zo 29 (.pick (.t 24) (.t 28) zf), zm 0 29])
 .ret)))
theorem Tryz.known6 : Known Tryz.prog 6 Tryz.pc6 30 [0] := ⟨Tryz.f6, _, Tryz.func6, rfl, by kernel_rfl, rfl, rfl⟩
def Tryz.pc7 : PC :=
 (.seq (.ops [zo 1 (.bx 24 (.t 0)), zo 2 (.mov zi)])
 (.seq (.seq (.ops [zo 5 (.fa 1 (.t 1)), zo 6 (.ld (.t 5)), zo 7 (.lenS (.t 6)), zo 8 (.bin .gtr (.t 7) (.v (.int .i64 32))), zm 9 8, zg 10 9 false (.fa 0 (.t 1)), zg 11 9 false (.ld (.t 10)), zg 12 9 false (.fa 1 (.t 1)), zg 13 9 false (.ld (.t 12)), zg 14 9 false (.lenS (.t 13)), zg 15 9 false (.bin .lss (.t 11) (.t 14)), zo 16 (.pick (.t 9) zt (.t 15))])
 (.cond (.t 16) (.seq (.ops [zo 2 (.mov (.v (.int .i64 2)))])
 .ret) .skip))
 (.seq (.seq (.ops [zo 17 (.fa 1 (.t 1)), zo 18 (.ld (.t 17)), zo 19 (.lenS (.t 18)), zo 20 (.mov zi)])
 (.block 0 (.loop (.seq (.ops [zo 21 (.bin .lss (.t 20) (.t 19))])
 (.seq (.cond (.t 21) .skip (.exit 0))
 (.seq (.block 1 (.seq (.ops [zm 22 20, zo 23 (.ixS 3 (.t 18) (.t 20)), zo 24 (.ldA 3 (.t 23)), zo 4 (.al 48 zC0), zm 3 22, ⟨none, none, .st 3 (.t 4) (.t 24)⟩])
 (.seq (.quietR [] 12 [zm 25 3, zo 26 (.bin .gtr (.t 25) zi), zm 27 26, zg 28 27 true (.fa 1 (.t 1)), zg 29 27 true (.ld (.t 28)), zg 30 27 true (.mov (.t 3)), zg 31 27 true (.bin .sub (.t 30) zj), zg 32 27 true (.ixS 3 (.t 29) (.t 31)), zg 33 27 true (.fa 0 (.t 32)), zg 34 27 true (.ld (.t 33)), zg 35 27 true (.fa 0 (.t 4)), zg 36 27 true (.ld (.t 35)), zg 37 27 true (.bin .geq (.t 34) (.t 36)), zo 38 (.pick (.t 27) (.t 37) zf), zm 39 38, zg 40 39 false (.fa 0 (.t 4)), zg 41 39 false (.ld (.t 40)), zg 42 39 false (.call 20 [(.t 41)]), zg 43 39 false (.not (.t 42)), zo 44 (.pick (.t 39) zt (.t 43)), zm 45 44, zg 46 45 false (.fa 1 (.t 4)), zg 47 45 false (.ldA 2 (.t 46)), zg 48 45 false (.call 21 [(.t 47)]), zg 49 45 false (.bin .neq (.t 48) zi), zo 50 (.pick (.t 45) zt (.t 49))])
 (.cond (.t 50) (.seq (.ops [zo 2 (.mov (.v (.int .i64 2)))])
 .ret) .skip))))
 (.ops [zo 51 (.bin .add (.t 20) zj), zm 20 51])))))))
 (.seq (.ops [zo 2 (.mov zi)])
 .ret))))
theorem Tryz.known7 : Known Tryz.prog 7 Tryz.pc7 52 [2] := ⟨Tryz.f7, _, Tryz.func7, rfl, by kernel_rfl, rfl, rfl⟩
def Tryz.pc10 : PC :=
 (.seq (.ops [zo 2 (.bx 24 (.t 0)), zo 4 (.al 34 zC2)])
 (.seq (.ops [zo 5 (.mov (.v (.int .i64 (-1))))])
 (.seq (.seq (.ops [zo 8 (.fa 1 (.t 2)), zo 9 (.ld (.t 8)), zo 10 (.lenS (.t 9)), zo 11 (.mov zi)])
 (.block 0 (.loop (.seq (.ops [zo 12 (.bin .lss (.t 11) (.t 10))])
 (.seq (.cond (.t 12) .skip (.exit 0))
 (.seq (.block 1 (.seq (.ops [zo 13 (.ixS 3 (.t 9) (.t 11)), zo 14 (.ldA 3 (.t 13)), zo 7 (.al 48 zC0), ⟨none, none, .st 3 (.t 7) (.t 14)⟩])
 (.seq (.ops [zo 15 (.fa 0 (.t 7)), zo 16 (.ld (.t 15)), zo 17 (.lenStr (.t 16)), zm 18 5, zo 19 (.bin .gtr (.t 17) (.t 18)), zm 20 19, zg 21 20 true (.fa 0 (.t 7)), zg 22 20 true (.ld (.t 21)), zg 23 20 true (.mov (.t 1)), zg 24 20 true (.call 24 [(.t 22), (.t 23)]), zo 25 (.pick (.t 20) (.t 24) zf)])
 (.cond (.t 25) (.quietR [] 6 [zo 26 (.fa 0 (.t 7)), zo 27 (.ld (.t 26)), zo 28 (.lenStr (.t 27)), zo 29 (.fa 1 (.t 7)), zo 30 (.ldA 2 (.t 29)), zm 5 28, ⟨none, none, .st 2 (.t 4) (.t 30)⟩]) .skip))))
 (.ops [zo 31 (.bin .add (.t 11) zj), zm 11 31])))))))
 (.seq (.ops [zo 32 (.ldA 2 (.t 4)), ⟨none, none, .st 2 (.t 4) (.t 32)⟩])
 .ret))))
theorem Tryz.known10 : KnownC Tryz.prog 10 Tryz.pc10 33 4 (some 2) := ⟨Tryz.f10, _, _, Tryz.func10, rfl, by kernel_rfl, rfl, rfl, by kernel_rfl⟩
def Tryz.pc13 : PC :=
 (.seq (.ops [zo 2 (.bx 24 (.t 0)), zo 4 (.mov (.v (.slice none 0 0)))])
 (.seq (.ops [zo 8 (.ldA 2 (.t 2)), zm 9 1, zo 10 (.call 10 [(.t 8), (.t 9)]), zo 11 (.bsl 34 zC2 1 [(0, 2, (.t 10))]), zm 5 11])
 (.seq (.seq (.ops [zo 12 (.fa 1 (.t 2)), zo 13 (.ld (.t 12)), zo 14 (.lenS (.t 13)), zo 15 (.mov zi)])
 (.block 0 (.loop (.seq (.ops [zo 16 (.bin .lss (.t 15) (.t 14))])
 (.seq (.cond (.t 16) .skip (.exit 0))
 (.seq (.block 1 (.seq (.ops [zo 17 (.ixS 3 (.t 13) (.t 15)), zo 18 (.ldA 3 (.t 17)), zo 7 (.al 48 zC0), ⟨none, none, .st 3 (.t 7) (.t 18)⟩])
 (.seq (.ops [zm 19 1, zo 20 (.fa 0 (.t 7)), zo 21 (.ld (.t 20)), zo 22 (.call 24 [(.t 19), (.t 21)])])
 (.cond (.t 22) (.ops [zm 23 5, zo 24 (.fa 1 (.t 7)), zo 25 (.ldA 2 (.t 24)), zo 26 (.bsl 34 zC2 1 [(0, 2, (.t 25))]), zo 27 (.app 38 34 2 16 (.agg #[.int .i64 0, .int .u64 0]) (.t 23) (.t 26)), zm 5 27]) .skip))))
 (.ops [zo 28 (.bin .add (.t 15) zj), zm 15 28])))))))
 (.seq (.ops [zm 29 5, zo 30 (.call 26 [(.t 29)]), zm 4 30])
 .ret))))
theorem Tryz.known13 : Known Tryz.prog 13 Tryz.pc13 31 [4] := ⟨Tryz.f13, _, Tryz.func13, rfl, by kernel_rfl, rfl, rfl⟩
def Tryz.pc15 : PC :=
 (.seq (.ops [zo 1 (.bx 24 (.t 0)), zo 2 (.mov (.v (.string ⟨#[]⟩)))])
 (.seq (.ops [zo 6 (.fa 0 (.t 1)), zo 7 (.ld (.t 6)), zo 8 (.call 28 [(.t 7)]), zo 9 (.bin .add (.v (.string ⟨#[118]⟩)) (.t 8)), zo 10 (.bsl 9 [.string ⟨#[]⟩] 1 [(0, 1, (.t 9))]), zm 3 10])
 (.seq (.seq (.ops [zo 11 (.fa 1 (.t 1)), zo 12 (.ld (.t 11)), zo 13 (.lenS (.t 12)), zo 14 (.mov zi)])
 (.block 0 (.loop (.seq (.ops [zo 15 (.bin .lss (.t 14) (.t 13))])
 (.seq (.cond (.t 15) .skip (.exit 0))
 (.seq (.block 1 (.seq (.ops [zo 16 (.ixS 3 (.t 12) (.t 14)), zo 17 (.ldA 3 (.t 16)), zo 5 (.al 48 zC0), ⟨none, none, .st 3 (.t 5) (.t 17)⟩])
 (.quietR [0, 0, 2, 6, 0, 16] 6 [zm 18 3, zo 19 (.fa 1 (.t 5)), zo 20 (.ldA 2 (.t 19)), zo 21 (.call 30 [(.t 20)]), zo 22 (.fa 0 (.t 5)), zo 23 (.ld (.t 22)), zo 24 (.bsl 9 [.string ⟨#[]⟩, .string ⟨#[]⟩] 2 [(0, 1, (.t 21)), (1, 1, (.t 23))]), zo 25 (.call 29 [(.t 24)]), zo 26 (.bsl 9 [.string ⟨#[]⟩] 1 [(0, 1, (.t 25))]), zo 27 (.app 55 9 1 16 (.string ⟨#[]⟩) (.t 18) (.t 26)), zm 3 27])))
 (.ops [zo 28 (.bin .add (.t 14) zj), zm 14 28])))))))
 (.seq (.ops [zm 29 3, zo 30 (.call 31 [(.t 29), (.v (.string ⟨#[10]⟩))]), zm 2 30])
 .ret))))
theorem Tryz.known15 : Known Tryz.prog 15 Tryz.pc15 31 [2] := ⟨Tryz.f15, _, Tryz.func15, rfl, by kernel_rfl, rfl, rfl⟩
def Tryz.pc17 : PC :=
 (.seq (.ops [zo 0 (.al 24 zC1)])
 (.seq (.ops [zo 1 (.call 19 [zj, (.v (.int .u64 0))]), zo 2 (.build zC0 [(1, 2, (.t 1))]), zo 3 (.call 19 [(.v (.int .i64 2)), (.v (.int .u64 1))]), zo 4 (.build zC0 [(0, 1, (.v (.string ⟨#[97]⟩))), (1, 2, (.t 3))]), zo 5 (.build zC0 [(0, 1, (.v (.string ⟨#[97, 47, 98]⟩)))]), zo 6 (.bsl 48 [.string ⟨#[]⟩, .int .i64 0, .int .u64 0, .string ⟨#[]⟩, .int .i64 0, .int .u64 0, .string ⟨#[]⟩, .int .i64 0, .int .u64 0] 3 [(0, 3, (.t 2)), (3, 3, (.t 4)), (6, 3, (.t 5))]), zo 7 (.build zC1 [(0, 1, (.v (.int .i64 3))), (1, 1, (.t 6))]), ⟨none, none, .st 2 (.t 0) (.t 7)⟩])
 .ret))
theorem Tryz.known17 : KnownC Tryz.prog 17 Tryz.pc17 8 0 (some 2) := ⟨Tryz.f17, _, _, Tryz.func17, rfl, by kernel_rfl, rfl, rfl, by kernel_rfl⟩
def Tryz.pc18 : PC :=
 (.seq (.ops [zo 3 (.bx 24 (.t 0)), zo 4 (.bx 9 (.t 1)), zo 5 (.bx 34 (.t 2)), zo 6 (.al 24 zC1), zo 7 (.mov zi)])
 (.seq (.block 0 (.seq (.ops [zo 11 (.ld (.t 4)), zo 12 (.call 20 [(.t 11)]), zo 13 (.not (.t 12)), zm 10 13])
 (.cond (.t 10) (.seq (.ops [zo 14 (.build zC1 []), ⟨none, none, .st 2 (.t 6) (.t 14)⟩, zo 7 (.mov (.v (.int .i64 15)))])
 .ret) (.seq (.ops [zo 16 (.ldA 2 (.t 5)), zo 17 (.call 21 [(.t 16)]), zo 18 (.bin .neq (.t 17) zi), zm 19 18, zg 20 19 false (.ldA 2 (.t 3)), zg 21 19 false (.call 7 [(.t 20)]), zg 22 19 false (.bin .neq (.t 21) zi), zo 23 (.pick (.t 19) zt (.t 22)), zm 15 23])
 (.cond (.t 15) (.seq (.ops [zo 24 (.build zC1 []), ⟨none, none, .st 2 (.t 6) (.t 24)⟩, zo 7 (.mov (.v (.int .i64 2)))])
 .ret) .skip)))))
 (.seq (.ops [zo 25 (.fa 1 (.t 3)), zo 26 (.ld (.t 25)), zo 27 (.call 34 [(.t 26)]), zm 8 27])
 (.seq (.ops [zm 28 8, zo 29 (.mkF 36 [(.t 4)]), zo 30 (.call 35 [(.t 28), (.t 29)]), zm 9 30])
 (.seq (.seq (.ops [zm 31 9, zo 32 (.bin .lss (.t 31) zi)])
 (.cond (.t 32) (.ops [zm 33 8, zo 34 (.lenS (.t 33)), zm 9 34]) .skip))
 (.seq (.seq (.quietR [] 11 [zm 35 9, zm 36 8, zo 37 (.lenS (.t 36)), zo 38 (.bin .lss (.t 35) (.t 37)), zm 39 38, zg 40 39 true (.mov (.t 8)), zg 41 39 true (.mov (.t 9)), zg 42 39 true (.ixS 3 (.t 40) (.t 41)), zg 43 39 true (.fa 0 (.t 42)), zg 44 39 true (.ld (.t 43)), zg 45 39 true (.ld (.t 4)), zg 46 39 true (.bin .eql (.t 44) (.t 45)), zo 47 (.pick (.t 39) (.t 46) zf)])
 (.cond (.t 47) (.seq (.ops [zm 48 8, zm 49 9, zo 50 (.ldA 2 (.t 5)), zo 51 (.ixS 3 (.t 48) (.t 49)), zo 52 (.fa 1 (.t 51)), ⟨none, none, .st 2 (.t 52) (.t 50)⟩])
 (.seq (.ops [zo 53 (.fa 0 (.t 3)), zo 54 (.ld (.t 53)), zo 55 (.bin .add (.t 54) zj), zm 56 8, zo 57 (.build zC1 [(0, 1, (.t 55)), (1, 1, (.t 56))]), ⟨none, none, .st 2 (.t 6) (.t 57)⟩, zo 7 (.mov zi)])
 .ret)) .skip))
 (.seq (.seq (.ops [zm 58 8, zo 59 (.lenS (.t 58)), zo 60 (.bin .eql (.t 59) (.v (.int .i64 32)))])
 (.cond (.t 60) (.seq (.ops [zo 61 (.build zC1 []), ⟨none, none, .st 2 (.t 6) (.t 61)⟩, zo 7 (.mov (.v (.int .i64 7)))])
 .ret) .skip))
 (.seq (.quietR [0, 1, 3, 0, 0, 0, 0, 96, 224, 504] 10 [zo 62 (.fa 0 (.t 3)), zo 63 (.ld (.t 62)), zo 64 (.bin .add (.t 63) zj), zm 65 8, zm 66 9, zo 67 (.ld (.t 4)), zo 68 (.ldA 2 (.t 5)), zo 69 (.build zC0 [(0, 1, (.t 67)), (1, 2, (.t 68))]), zo 70 (.bsl 48 zC0 1 [(0, 3, (.t 69))]), zo 71 (.call 37 [(.t 65), (.t 66), (.t 70)]), zo 72 (.build zC1 [(0, 1, (.t 64)), (1, 1, (.t 71))]), ⟨none, none, .st 2 (.t 6) (.t 72)⟩, zo 7 (.mov zi)])
 .ret))))))))
theorem Tryz.known18 : KnownCT Tryz.prog 18 Tryz.pc18 73 6 7 (some 2) := ⟨Tryz.f18, _, _, Tryz.func18, rfl, by kernel_rfl, rfl, rfl, by kernel_rfl⟩
def Tryz.pc19 : PC :=
 (.seq (.ops [zo 4 (.al 34 zC2)])
 (.seq (.ops [zm 5 0, zm 6 1, zo 7 (.build zC2 [(0, 1, (.t 5)), (1, 1, (.t 6))]), ⟨none, none, .st 2 (.t 4) (.t 7)⟩])
 .ret))
theorem Tryz.known19 : KnownC Tryz.prog 19 Tryz.pc19 8 4 (some 2) := ⟨Tryz.f19, _, _, Tryz.func19, rfl, by kernel_rfl, rfl, rfl, by kernel_rfl⟩
def Tryz.pc20 : PC :=
 (.seq (.ops [zo 2 (.mov zf)])
 (.seq (.ops [zm 3 0, zo 4 (.bin .eql (.t 3) (.v (.string ⟨#[]⟩))), zm 5 4, zg 6 5 false (.mov (.t 0)), zg 7 5 false (.call 38 [(.t 6)]), zg 8 5 false (.bin .eql (.t 7) zi), zo 9 (.pick (.t 5) zt (.t 8)), zm 2 9])
 .ret))
theorem Tryz.known20 : Known Tryz.prog 20 Tryz.pc20 10 [2] := ⟨Tryz.f20, _, Tryz.func20, rfl, by kernel_rfl, rfl, rfl⟩
def Tryz.pc21 : PC :=
 (.seq (.ops [zo 1 (.bx 34 (.t 0)), zo 2 (.mov zi)])
 (.seq (.seq (.ops [zo 3 (.fa 0 (.t 1)), zo 4 (.ld (.t 3)), zo 5 (.bin .lss (.t 4) zi), zm 6 5, zg 7 6 false (.fa 0 (.t 1)), zg 8 6 false (.ld (.t 7)), zg 9 6 false (.bin .gtr (.t 8) (.v (.int .i64 15))), zo 10 (.pick (.t 6) zt (.t 9))])
 (.cond (.t 10) (.seq (.ops [zo 2 (.mov (.v (.int .i64 2)))])
 .ret) .skip))
 (.seq (.ops [zo 2 (.mov zi)])
 .ret)))
theorem Tryz.known21 : Known Tryz.prog 21 Tryz.pc21 11 [2] := ⟨Tryz.f21, _, Tryz.func21, rfl, by kernel_rfl, rfl, rfl⟩
def Tryz.pc24 : PC :=
 (.seq (.ops [zo 4 (.mov zf)])
 (.seq (.ops [zm 5 0, zm 6 1, zo 7 (.bin .eql (.t 5) (.t 6)), zm 8 7, zg 9 8 false (.mov (.t 0)), zg 10 8 false (.mov (.t 1)), zg 11 8 false (.call 40 [(.t 9), (.t 10)]), zo 12 (.pick (.t 8) zt (.t 11)), zm 4 12])
 .ret))
theorem Tryz.known24 : Known Tryz.prog 24 Tryz.pc24 13 [4] := ⟨Tryz.f24, _, Tryz.func24, rfl, by kernel_rfl, rfl, rfl⟩
def Tryz.pc26 : PC :=
 (.seq (.ops [zo 2 (.mov (.v (.slice none 0 0)))])
 (.seq (.ops [zm 4 0, zo 5 (.call 42 [(.t 4)]), zm 3 5])
 (.seq (.ops [zm 6 3, zo 7 (.call 43 [(.t 6), (.v (.func (.func 44) #[] #[]))])])
 (.seq (.ops [zm 8 3, zo 9 (.call 45 [(.t 8)]), zm 2 9])
 .ret))))
theorem Tryz.known26 : Known Tryz.prog 26 Tryz.pc26 10 [2] := ⟨Tryz.f26, _, Tryz.func26, rfl, by kernel_rfl, rfl, rfl⟩
def Tryz.pc29 : PC :=
 (.seq (.ops [zo 2 (.mov (.v (.string ⟨#[]⟩)))])
 (.seq (.ops [zm 3 0, zo 4 (.call 31 [(.t 3), (.v (.string ⟨#[32]⟩))]), zm 2 4])
 .ret))
theorem Tryz.known29 : Known Tryz.prog 29 Tryz.pc29 5 [2] := ⟨Tryz.f29, _, Tryz.func29, rfl, by kernel_rfl, rfl, rfl⟩
def Tryz.pc30 : PC :=
 (.seq (.ops [zo 1 (.bx 34 (.t 0)), zo 2 (.mov (.v (.string ⟨#[]⟩)))])
 (.seq (.seq (.ops [zo 3 (.ldA 2 (.t 1)), zo 4 (.call 21 [(.t 3)]), zo 5 (.bin .neq (.t 4) zi)])
 (.cond (.t 5) (.seq (.ops [zo 2 (.mov (.v (.string ⟨#[63]⟩)))])
 .ret) .skip))
 (.seq (.quietR [0, 1, 3, 7, 0, 16, 55] 7 [zo 6 (.fa 0 (.t 1)), zo 7 (.ld (.t 6)), zo 8 (.call 28 [(.t 7)]), zo 9 (.bin .add (.t 8) (.v (.string ⟨#[58]⟩))), zo 10 (.fa 1 (.t 1)), zo 11 (.ld (.t 10)), zo 12 (.call 48 [(.t 11), (.v (.int .i64 16))]), zo 13 (.bin .add (.t 9) (.t 12)), zm 2 13])
 .ret)))
theorem Tryz.known30 : Known Tryz.prog 30 Tryz.pc30 14 [2] := ⟨Tryz.f30, _, Tryz.func30, rfl, by kernel_rfl, rfl, rfl⟩
def Tryz.pc31 : PC :=
 (.seq (.ops [zo 4 (.mov (.v (.string ⟨#[]⟩)))])
 (.seq (.seq (.ops [zm 11 0, zo 12 (.lenS (.t 11))])
 (.block 0 (.seq (.ops [zo 14 (.bin .eql (.t 12) zi), zm 13 14])
 (.cond (.t 13) (.seq (.ops [zo 4 (.mov (.v (.string ⟨#[]⟩)))])
 .ret) (.seq (.ops [zo 16 (.bin .eql (.t 12) zj), zm 15 16])
 (.cond (.t 15) (.seq (.ops [zm 17 0, zo 18 (.ixS 1 (.t 17) zi), zo 19 (.ld (.t 18)), zm 4 19])
 .ret) .skip))))))
 (.seq (.ops [zo 5 (.mov zi)])
 (.seq (.seq (.ops [zm 20 1, zo 21 (.lenStr (.t 20)), zo 22 (.bin .gtr (.t 21) zi)])
 (.cond (.t 22) (.seq (.seq (.ops [zm 23 1, zo 24 (.lenStr (.t 23)), zm 25 0, zo 26 (.lenS (.t 25)), zo 27 (.bin .sub (.t 26) zj), zo 28 (.bin .quo (.v (.int .i64 9223372036854775807)) (.t 27)), zo 29 (.bin .geq (.t 24) (.t 28))])
 (.cond (.t 29) (.ops [zo 30 (.more (.mkI 9 (.v (.string ⟨#[115, 116, 114, 105, 110, 103, 115, 58, 32, 74, 111, 105, 110, 32, 111, 117, 116, 112, 117, 116, 32, 108, 101, 110, 103, 116, 104, 32, 111, 118, 101, 114, 102, 108, 111, 119]⟩)))), ⟨none, none, .more (.other .any)⟩]) .skip))
 (.ops [zm 31 5, zm 32 1, zo 33 (.lenStr (.t 32)), zm 34 0, zo 35 (.lenS (.t 34)), zo 36 (.bin .sub (.t 35) zj), zo 37 (.bin .mul (.t 33) (.t 36)), zo 38 (.bin .add (.t 31) (.t 37)), zm 5 38])) .skip))
 (.seq (.seq (.ops [zm 39 0, zo 40 (.lenS (.t 39)), zo 41 (.mov zi)])
 (.block 1 (.loop (.seq (.ops [zo 42 (.bin .lss (.t 41) (.t 40))])
 (.seq (.cond (.t 42) .skip (.exit 1))
 (.seq (.block 2 (.seq (.ops [zo 43 (.ixS 1 (.t 39) (.t 41)), zo 44 (.ld (.t 43)), zm 7 44])
 (.seq (.seq (.ops [zm 45 7, zo 46 (.lenStr (.t 45)), zm 47 5, zo 48 (.bin .sub (.v (.int .i64 9223372036854775807)) (.t 47)), zo 49 (.bin .gtr (.t 46) (.t 48))])
 (.cond (.t 49) (.ops [zo 50 (.more (.mkI 9 (.v (.string ⟨#[115, 116, 114, 105, 110, 103, 115, 58, 32, 74, 111, 105, 110, 32, 111, 117, 116, 112, 117, 116, 32, 108, 101, 110, 103, 116, 104, 32, 111, 118, 101, 114, 102, 108, 111, 119]⟩)))), ⟨none, none, .more (.other .any)⟩]) .skip))
 (.ops [zm 51 5, zm 52 7, zo 53 (.lenStr (.t 52)), zo 54 (.bin .add (.t 51) (.t 53)), zm 5 54]))))
 (.ops [zo 55 (.bin .add (.t 41) zj), zm 41 55])))))))
 (.seq (.ops [zo 8 (.al 71 [.pointer none, .slice none 0 0])])
 (.seq (.ops [zm 56 5, zo 57 (.call 49 [(.t 8), (.t 56)])])
 (.seq (.ops [zm 58 0, zo 59 (.ixS 1 (.t 58) zi), zo 60 (.ld (.t 59)), zo 61 (.call 50 [(.t 8), (.t 60)])])
 (.seq (.seq (.ops [zm 62 0, zo 63 (.slS 1 (.t 62) (some zj) none), zo 64 (.lenS (.t 63)), zo 65 (.mov zi)])
 (.block 3 (.loop (.seq (.ops [zo 66 (.bin .lss (.t 65) (.t 64))])
 (.seq (.cond (.t 66) .skip (.exit 3))
 (.seq (.block 4 (.seq (.ops [zo 67 (.ixS 1 (.t 63) (.t 65)), zo 68 (.ld (.t 67)), zm 10 68])
 (.seq (.ops [zm 69 1, zo 70 (.call 50 [(.t 8), (.t 69)])])
 (.ops [zm 71 10, zo 72 (.call 50 [(.t 8), (.t 71)])]))))
 (.ops [zo 73 (.bin .add (.t 65) zj), zm 65 73])))))))
 (.seq (.ops [zo 74 (.call 51 [(.t 8)]), zm 4 74])
 .ret))))))))))
theorem Tryz.known31 : Known Tryz.prog 31 Tryz.pc31 75 [4] := ⟨Tryz.f31, _, Tryz.func31, rfl, by kernel_rfl, rfl, rfl⟩
def Tryz.pc34 : PC :=
 (.seq (.ops [zo 2 (.mov (.v (.slice none 0 0)))])
 (.seq (.seq (.ops [zm 3 0, zo 4 (.more (.slNil false (.t 3)))])
 (.cond (.t 4) (.seq (.ops [zo 2 (.mov (.v (.slice none 0 0)))])
 .ret) .skip))
 (.seq (.ops [zo 5 (.bsl0 48), zm 6 0, zo 7 (.app 22 48 3 32 (.agg #[.string ⟨#[]⟩, .int .i64 0, .int .u64 0]) (.t 5) (.t 6)), zm 2 7])
 .ret)))
theorem Tryz.known34 : Known Tryz.prog 34 Tryz.pc34 8 [2] := ⟨Tryz.f34, _, Tryz.func34, rfl, by kernel_rfl, rfl, rfl⟩
def Tryz.pc35 : PC :=
 (.seq (.ops [zo 4 (.mov zi)])
 (.seq (.seq (.ops [zm 6 0, zo 7 (.lenS (.t 6)), zo 8 (.mov zi)])
 (.block 0 (.loop (.seq (.ops [zo 9 (.bin .lss (.t 8) (.t 7))])
 (.seq (.cond (.t 9) .skip (.exit 0))
 (.seq (.block 1 (.seq (.ops [zm 10 8, zm 5 10])
 (.seq (.ops [zm 11 1, zm 12 0, zm 13 5, zo 14 (.ixS 3 (.t 12) (.t 13)), zo 15 (.ldA 3 (.t 14)), zo 16 (.callv (.t 11) [(.t 15)])])
 (.cond (.t 16) (.seq (.ops [zm 17 5, zm 4 17])
 .ret) .skip))))
 (.ops [zo 18 (.bin .add (.t 8) zj), zm 8 18])))))))
 (.seq (.ops [zo 4 (.mov (.v (.int .i64 (-1))))])
 .ret)))
theorem Tryz.known35 : Known Tryz.prog 35 Tryz.pc35 19 [4] := ⟨Tryz.f35, _, Tryz.func35, rfl, by kernel_rfl, rfl, rfl⟩
def Tryz.pc36 : PC :=
 (.seq (.ops [zo 2 (.bx 48 (.t 0)), zo 3 (.mov zf)])
 (.seq (.ops [zo 4 (.fa 0 (.t 2)), zo 5 (.ld (.t 4)), zo 6 (.ld (.t 1)), zo 7 (.bin .geq (.t 5) (.t 6)), zm 3 7])
 .ret))
theorem Tryz.known36 : Known Tryz.prog 36 Tryz.pc36 8 [3] := ⟨Tryz.f36, _, Tryz.func36, rfl, by kernel_rfl, rfl, rfl⟩
def Tryz.pc37 : PC :=
 (.seq (.ops [zo 6 (.mov (.v (.slice none 0 0)))])
 (.seq (.ops [zm 10 0, zm 11 1, zo 12 (.slS 3 (.t 10) (some (.t 11)) none)])
 (.seq (.ops [zm 13 2, zo 14 (.lenS (.t 13)), zm 7 14])
 (.seq (.seq (.ops [zm 15 7, zo 16 (.bin .eql (.t 15) zi)])
 (.cond (.t 16) (.seq (.ops [zm 17 0, zm 6 17])
 .ret) .skip))
 (.seq (.ops [zm 18 0, zo 19 (.lenS (.t 18)), zm 8 19])
 (.seq (.seq (.ops [zm 20 1, zm 21 8, zo 22 (.bin .eql (.t 20) (.t 21))])
 (.cond (.t 22) (.seq (.ops [zm 23 0, zm 24 2, zo 25 (.app 22 48 3 32 (.agg #[.string ⟨#[]⟩, .int .i64 0, .int .u64 0]) (.t 23) (.t 24)), zm 6 25])
 .ret) .skip))
 (.seq (.seq (.ops [zm 26 8, zm 27 7, zo 28 (.bin .add (.t 26) (.t 27)), zm 29 0, zo 30 (.more (.other (.cap (.t 29)))), zo 31 (.bin .gtr (.t 28) (.t 30))])
 (.cond (.t 31) (.seq (.ops [zm 32 0, zm 33 1, zo 34 (.slS 3 (.t 32) none (some (.t 33))), zm 35 8, zm 36 7, zo 37 (.bin .add (.t 35) (.t 36)), zm 38 1, zo 39 (.bin .sub (.t 37) (.t 38)), zo 40 (.more (.other (.appM 22 3 48 3 32 (.agg #[.string ⟨#[]⟩, .int .i64 0, .int .u64 0]) (.t 34) (.t 39)))), zm 9 40])
 (.seq (.ops [zm 41 9, zm 42 1, zo 43 (.slS 3 (.t 41) (some (.t 42)) none), zm 44 2, zo 45 (.cpy 48 3 (.t 43) (.t 44))])
 (.seq (.quietR [] 8 [zm 46 9, zm 47 1, zm 48 7, zo 49 (.bin .add (.t 47) (.t 48)), zo 50 (.slS 3 (.t 46) (some (.t 49)) none), zm 51 0, zm 52 1, zo 53 (.slS 3 (.t 51) (some (.t 52)) none), zo 54 (.cpy 48 3 (.t 50) (.t 53))])
 (.seq (.ops [zm 55 9, zm 6 55])
 .ret)))) .skip))
 (.seq (.ops [zm 56 0, zm 57 8, zm 58 7, zo 59 (.bin .add (.t 57) (.t 58)), zo 60 (.slS 3 (.t 56) none (some (.t 59))), zm 0 60])
 (.seq (.seq (.ops [zm 61 2, zm 62 0, zm 63 1, zm 64 7, zo 65 (.bin .add (.t 63) (.t 64)), zo 66 (.slS 3 (.t 62) (some (.t 65)) none), zo 67 (.more (.other (.xf 53 [(.t 61), (.t 66)]))), zo 68 (.not (.t 67))])
 (.cond (.t 68) (.seq (.quietR [] 8 [zm 69 0, zm 70 1, zm 71 7, zo 72 (.bin .add (.t 70) (.t 71)), zo 73 (.slS 3 (.t 69) (some (.t 72)) none), zm 74 0, zm 75 1, zo 76 (.slS 3 (.t 74) (some (.t 75)) none), zo 77 (.cpy 48 3 (.t 73) (.t 76))])
 (.seq (.ops [zm 78 0, zm 79 1, zo 80 (.slS 3 (.t 78) (some (.t 79)) none), zm 81 2, zo 82 (.cpy 48 3 (.t 80) (.t 81))])
 (.seq (.ops [zm 83 0, zm 6 83])
 .ret))) .skip))
 (.seq (.ops [zm 84 0, zm 85 8, zo 86 (.slS 3 (.t 84) (some (.t 85)) none), zm 87 2, zo 88 (.cpy 48 3 (.t 86) (.t 87))])
 (.seq (.ops [zm 89 0, zm 90 1, zo 91 (.slS 3 (.t 89) (some (.t 90)) none), zm 92 7, zo 93 (.call 54 [(.t 91), (.t 92)])])
 (.seq (.ops [zm 94 0, zm 6 94])
 .ret))))))))))))
theorem Tryz.known37 : Known Tryz.prog 37 Tryz.pc37 95 [6] := ⟨Tryz.f37, _, Tryz.func37, rfl, by kernel_rfl, rfl, rfl⟩
def Tryz.pc38 : PC :=
 (.seq (.ops [zo 2 (.mov zi)])
 (.seq (.seq (.ops [zm 3 0, zo 4 (.call 55 [(.t 3)]), zo 5 (.not (.t 4))])
 (.cond (.t 5) (.seq (.ops [zo 2 (.mov (.v (.int .i64 15)))])
 .ret) .skip))
 (.seq (.ops [zo 2 (.mov zi)])
 .ret)))
theorem Tryz.known38 : Known Tryz.prog 38 Tryz.pc38 6 [2] := ⟨Tryz.f38, _, Tryz.func38, rfl, by kernel_rfl, rfl, rfl⟩
def Tryz.pc40 : PC :=
 (.seq (.ops [zo 4 (.mov zf)])
 (.seq (.seq (.ops [zm 5 1, zo 6 (.call 55 [(.t 5)]), zo 7 (.not (.t 6)), zm 8 7, zg 9 8 false (.mov (.t 0)), zg 10 8 false (.call 57 [(.t 9)]), zg 11 8 false (.bin .neq (.t 10) zi), zo 12 (.pick (.t 8) zt (.t 11))])
 (.cond (.t 12) (.seq (.ops [zo 4 (.mov zf)])
 .ret) .skip))
 (.seq (.ops [zm 13 0, zo 14 (.bin .eql (.t 13) (.v (.string ⟨#[]⟩))), zm 15 14, zg 16 15 false (.mov (.t 0)), zg 17 15 false (.mov (.t 1)), zg 18 15 false (.bin .eql (.t 16) (.t 17)), zo 19 (.pick (.t 15) zt (.t 18)), zm 20 19, zg 21 20 false (.mov (.t 1)), zg 22 20 false (.mov (.t 0)), zg 23 20 false (.bin .add (.t 22) (.v (.string ⟨#[47]⟩))), zg 24 20 false (.call 58 [(.t 21), (.t 23)]), zo 25 (.pick (.t 20) zt (.t 24)), zm 4 25])
 .ret)))
theorem Tryz.known40 : Known Tryz.prog 40 Tryz.pc40 26 [4] := ⟨Tryz.f40, _, Tryz.func40, rfl, by kernel_rfl, rfl, rfl⟩
def Tryz.pc42 : PC :=
 (.seq (.ops [zo 2 (.mov (.v (.slice none 0 0)))])
 (.seq (.seq (.ops [zm 3 0, zo 4 (.more (.slNil false (.t 3)))])
 (.cond (.t 4) (.seq (.ops [zo 2 (.mov (.v (.slice none 0 0)))])
 .ret) .skip))
 (.seq (.ops [zo 5 (.bsl0 34), zm 6 0, zo 7 (.app 38 34 2 16 (.agg #[.int .i64 0, .int .u64 0]) (.t 5) (.t 6)), zm 2 7])
 .ret)))
theorem Tryz.known42 : Known Tryz.prog 42 Tryz.pc42 8 [2] := ⟨Tryz.f42, _, Tryz.func42, rfl, by kernel_rfl, rfl, rfl⟩
def Tryz.pc44 : PC :=
 (.seq (.ops [zo 2 (.bx 34 (.t 0)), zo 3 (.bx 34 (.t 1)), zo 4 (.mov zi)])
 (.seq (.quietR [0, 1, 0, 4, 15, 0, 32, 0, 128] 9 [zo 5 (.fa 0 (.t 2)), zo 6 (.ld (.t 5)), zo 7 (.fa 0 (.t 3)), zo 8 (.ld (.t 7)), zo 9 (.call 63 [(.t 6), (.t 8)]), zo 10 (.fa 1 (.t 2)), zo 11 (.ld (.t 10)), zo 12 (.fa 1 (.t 3)), zo 13 (.ld (.t 12)), zo 14 (.call 64 [(.t 11), (.t 13)]), zo 15 (.bsl 3 [.int .i64 0, .int .i64 0] 2 [(0, 1, (.t 9)), (1, 1, (.t 14))]), zo 16 (.call 62 [(.t 15)]), zm 4 16])
 .ret))
theorem Tryz.known44 : Known Tryz.prog 44 Tryz.pc44 17 [4] := ⟨Tryz.f44, _, Tryz.func44, rfl, by kernel_rfl, rfl, rfl⟩
def Tryz.pc45 : PC :=
 (.seq (.ops [zo 2 (.mov (.v (.slice none 0 0)))])
 (.seq (.seq (.ops [zm 6 0, zo 7 (.lenS (.t 6)), zo 8 (.bin .lss (.t 7) (.v (.int .i64 2)))])
 (.cond (.t 8) (.seq (.ops [zm 9 0, zm 2 9])
 .ret) .skip))
 (.seq (.seq (.ops [zo 3 (.mov zj)])
 (.block 0 (.loop (.seq (.seq (.ops [zm 10 3, zm 11 0, zo 12 (.lenS (.t 11)), zo 13 (.bin .lss (.t 10) (.t 12))])
 (.cond (.t 13) .skip (.exit 0)))
 (.seq (.block 1 (.seq (.quietR [] 9 [zm 16 0, zm 17 3, zo 18 (.ixS 2 (.t 16) (.t 17)), zo 19 (.ldA 2 (.t 18)), zm 20 0, zm 21 3, zo 22 (.bin .sub (.t 21) zj), zo 23 (.ixS 2 (.t 20) (.t 22)), zo 24 (.ldA 2 (.t 23)), zo 25 (.eqA false 34 zC3 (.t 19) (.t 24))])
 (.cond (.t 25) (.seq (.ops [zm 26 0, zm 27 3, zo 28 (.slS 2 (.t 26) (some (.t 27)) none), zm 4 28])
 (.seq (.seq (.ops [zo 5 (.mov zj)])
 (.block 2 (.loop (.seq (.seq (.ops [zm 29 5, zm 30 4, zo 31 (.lenS (.t 30)), zo 32 (.bin .lss (.t 29) (.t 31))])
 (.cond (.t 32) .skip (.exit 2)))
 (.seq (.block 3 (.seq (.quietR [] 9 [zm 35 4, zm 36 5, zo 37 (.ixS 2 (.t 35) (.t 36)), zo 38 (.ldA 2 (.t 37)), zm 39 4, zm 40 5, zo 41 (.bin .sub (.t 40) zj), zo 42 (.ixS 2 (.t 39) (.t 41)), zo 43 (.ldA 2 (.t 42)), zo 44 (.eqA true 34 zC3 (.t 38) (.t 43))])
 (.cond (.t 44) (.seq (.ops [zm 45 0, zm 46 3, zm 47 4, zm 48 5, zo 49 (.ixS 2 (.t 47) (.t 48)), zo 50 (.ldA 2 (.t 49)), zo 51 (.ixS 2 (.t 45) (.t 46)), ⟨none, none, .st 2 (.t 51) (.t 50)⟩])
 (.ops [zm 52 3, zo 53 (.bin .add (.t 52) zj), zm 3 53])) .skip)))
 (.ops [zm 33 5, zo 34 (.bin .add (.t 33) zj), zm 5 34]))))))
 (.seq (.ops [zm 54 0, zm 55 3, zo 56 (.slS 2 (.t 54) (some (.t 55)) none), ⟨none, none, .more (.clr 34 2 (.agg #[.int .i64 0, .int .u64 0]) (.t 56))⟩])
 (.seq (.ops [zm 57 0, zm 58 3, zo 59 (.slS 2 (.t 57) none (some (.t 58))), zm 2 59])
 .ret)))) .skip)))
 (.ops [zm 14 3, zo 15 (.bin .add (.t 14) zj), zm 3 15]))))))
 (.seq (.ops [zm 60 0, zm 2 60])
 .ret))))
theorem Tryz.known45 : Known Tryz.prog 45 Tryz.pc45 61 [2] := ⟨Tryz.f45, _, Tryz.func45, rfl, by kernel_rfl, rfl, rfl⟩
def Tryz.pc48 : PC :=
 (.seq (.ops [zo 4 (.mov (.v (.string ⟨#[]⟩)))])
 (.seq (.ops [zm 5 0, zm 6 1, zo 7 (.call 66 [(.t 5), (.t 6)]), zm 4 7])
 .ret))
theorem Tryz.known48 : Known Tryz.prog 48 Tryz.pc48 8 [4] := ⟨Tryz.f48, _, Tryz.func48, rfl, by kernel_rfl, rfl, rfl⟩
def Tryz.pc49 : PC :=
 (.seq (.ops [zm 4 0, zo 5 (.call 67 [(.t 4)])])
 (.seq (.seq (.ops [zm 6 1, zo 7 (.bin .lss (.t 6) zi)])
 (.cond (.t 7) (.ops [zo 8 (.more (.mkI 9 (.v (.string ⟨#[115, 116, 114, 105, 110, 103, 115, 46, 66, 117, 105, 108, 100, 101, 114, 46, 71, 114, 111, 119, 58, 32, 110, 101, 103, 97, 116, 105, 118, 101, 32, 99, 111, 117, 110, 116]⟩)))), ⟨none, none, .more (.other .any)⟩]) .skip))
 (.seq (.quietR [] 12 [zm 9 0, zo 10 (.nilc (.t 9)), zo 11 (.fa 1 (.t 10)), zo 12 (.ld (.t 11)), zo 13 (.more (.other (.cap (.t 12)))), zm 14 0, zo 15 (.nilc (.t 14)), zo 16 (.fa 1 (.t 15)), zo 17 (.ld (.t 16)), zo 18 (.lenS (.t 17)), zo 19 (.bin .sub (.t 13) (.t 18)), zm 20 1, zo 21 (.bin .lss (.t 19) (.t 20))])
 (.cond (.t 21) (.ops [zm 22 0, zm 23 1, zo 24 (.call 68 [(.t 22), (.t 23)])]) .skip))))
theorem Tryz.known49 : Known Tryz.prog 49 Tryz.pc49 25 [] := ⟨Tryz.f49, _, Tryz.func49, rfl, by kernel_rfl, rfl, rfl⟩
def Tryz.pc50 : PC :=
 (.seq (.ops [zo 4 (.mov zi), zo 5 (.mov (.v .nilIface))])
 (.seq (.ops [zm 6 0, zo 7 (.call 67 [(.t 6)])])
 (.seq (.ops [zm 8 0, zm 9 0, zo 10 (.nilc (.t 9)), zo 11 (.fa 1 (.t 10)), zo 12 (.ld (.t 11)), zm 13 1, zo 14 (.appStr 69 9 5 1 (.int .u8 0) (.t 12) (.t 13)), zo 15 (.nilc (.t 8)), zo 16 (.fa 1 (.t 15)), ⟨none, none, .st 1 (.t 16) (.t 14)⟩])
 (.seq (.ops [zm 17 1, zo 18 (.lenStr (.t 17)), zm 4 18, zo 5 (.mov (.v .nilIface))])
 .ret))))
theorem Tryz.known50 : Known Tryz.prog 50 Tryz.pc50 19 [4, 5] := ⟨Tryz.f50, _, Tryz.func50, rfl, by kernel_rfl, rfl, rfl⟩
def Tryz.pc51 : PC :=
 (.seq (.ops [zo 2 (.mov (.v (.string ⟨#[]⟩)))])
 (.seq (.quietR [] 10 [zm 3 0, zo 4 (.nilc (.t 3)), zo 5 (.fa 1 (.t 4)), zo 6 (.ld (.t 5)), zo 7 (.more (.usd (.t 6))), zm 8 0, zo 9 (.nilc (.t 8)), zo 10 (.fa 1 (.t 9)), zo 11 (.ld (.t 10)), zo 12 (.lenS (.t 11)), zo 13 (.more (.uss 5 (.t 7) (.t 12))), zm 2 13])
 .ret))
theorem Tryz.known51 : Known Tryz.prog 51 Tryz.pc51 14 [2] := ⟨Tryz.f51, _, Tryz.func51, rfl, by kernel_rfl, rfl, rfl⟩
def Tryz.pc55 : PC :=
 (.seq (.ops [zo 2 (.mov zf)])
 (.seq (.seq (.ops [zm 4 0, zo 5 (.lenStr (.t 4)), zo 6 (.bin .gtr (.t 5) (.v (.int .i64 60)))])
 (.cond (.t 6) (.seq (.ops [zo 2 (.mov zf)])
 .ret) .skip))
 (.seq (.ops [zm 7 0, zo 8 (.call 70 [(.t 7), (.v (.string ⟨#[47]⟩))]), zm 3 8])
 (.seq (.ops [zm 9 3, zo 10 (.lenS (.t 9)), zo 11 (.bin .leq (.t 10) (.v (.int .i64 8))), zm 12 11, zg 13 12 true (.mov (.t 3)), zg 14 12 true (.call 71 [(.t 13), (.v (.func (.func 72) #[] #[]))]), zg 15 12 true (.not (.t 14)), zo 16 (.pick (.t 12) (.t 15) zf), zm 2 16])
 .ret))))
theorem Tryz.known55 : Known Tryz.prog 55 Tryz.pc55 17 [2] := ⟨Tryz.f55, _, Tryz.func55, rfl, by kernel_rfl, rfl, rfl⟩
def Tryz.pc57 : PC :=
 (.seq (.ops [zo 2 (.mov zi)])
 (.seq (.seq (.ops [zm 3 0, zo 4 (.bin .eql (.t 3) (.v (.string ⟨#[]⟩)))])
 (.cond (.t 4) (.seq (.ops [zo 2 (.mov zi)])
 .ret) .skip))
 (.seq (.ops [zm 5 0, zo 6 (.call 38 [(.t 5)]), zm 2 6])
 .ret)))
theorem Tryz.known57 : Known Tryz.prog 57 Tryz.pc57 7 [2] := ⟨Tryz.f57, _, Tryz.func57, rfl, by kernel_rfl, rfl, rfl⟩
def Tryz.pc58 : PC :=
 (.seq (.ops [zo 4 (.mov zf)])
 (.seq (.ops [zm 5 0, zm 6 1, zo 7 (.call 76 [(.t 5), (.t 6)]), zm 4 7])
 .ret))
theorem Tryz.known58 : Known Tryz.prog 58 Tryz.pc58 8 [4] := ⟨Tryz.f58, _, Tryz.func58, rfl, by kernel_rfl, rfl, rfl⟩
def Tryz.pc62 : PC :=
 (.seq (.ops [zo 2 (.mov zi)])
 (.seq (.ops [zo 3 (.mov zi)])
 (.seq (.seq (.ops [zm 6 0, zo 7 (.lenS (.t 6)), zo 8 (.mov zi)])
 (.block 0 (.loop (.seq (.ops [zo 9 (.bin .lss (.t 8) (.t 7))])
 (.seq (.cond (.t 9) .skip (.exit 0))
 (.seq (.block 1 (.seq (.ops [zo 10 (.ixS 1 (.t 6) (.t 8)), zo 11 (.ld (.t 10)), zm 5 11])
 (.seq (.ops [zm 12 5, zm 13 3, zo 14 (.bin .neq (.t 12) (.t 13))])
 (.cond (.t 14) (.seq (.ops [zm 15 5, zm 2 15])
 .ret) .skip))))
 (.ops [zo 16 (.bin .add (.t 8) zj), zm 8 16])))))))
 (.seq (.ops [zm 17 3, zm 2 17])
 .ret))))
theorem Tryz.known62 : Known Tryz.prog 62 Tryz.pc62 18 [2] := ⟨Tryz.f62, _, Tryz.func62, rfl, by kernel_rfl, rfl, rfl⟩
def Tryz.pc63 : PC :=
 (.seq (.ops [zo 4 (.mov zi)])
 (.seq (.ops [zm 7 0, zo 8 (.call 87 [(.t 7)]), zm 5 8])
 (.seq (.ops [zm 9 1, zo 10 (.call 87 [(.t 9)]), zm 6 10])
 (.seq (.seq (.ops [zm 11 5])
 (.cond (.t 11) (.seq (.seq (.ops [zm 12 6])
 (.cond (.t 12) (.seq (.ops [zo 4 (.mov zi)])
 .ret) .skip))
 (.seq (.ops [zo 4 (.mov (.v (.int .i64 (-1))))])
 .ret)) .skip))
 (.seq (.seq (.ops [zm 13 6])
 (.cond (.t 13) (.seq (.ops [zo 4 (.mov zj)])
 .ret) .skip))
 (.seq (.seq (.ops [zm 14 0, zm 15 1, zo 16 (.bin .lss (.t 14) (.t 15))])
 (.cond (.t 16) (.seq (.ops [zo 4 (.mov (.v (.int .i64 (-1))))])
 .ret) .skip))
 (.seq (.seq (.ops [zm 17 0, zm 18 1, zo 19 (.bin .gtr (.t 17) (.t 18))])
 (.cond (.t 19) (.seq (.ops [zo 4 (.mov zj)])
 .ret) .skip))
 (.seq (.ops [zo 4 (.mov zi)])
 .ret))))))))
theorem Tryz.known63 : Known Tryz.prog 63 Tryz.pc63 20 [4] := ⟨Tryz.f63, _, Tryz.func63, rfl, by kernel_rfl, rfl, rfl⟩
def Tryz.pc64 : PC :=
 (.seq (.ops [zo 4 (.mov zi)])
 (.seq (.ops [zm 7 0, zo 8 (.call 88 [(.t 7)]), zm 5 8])
 (.seq (.ops [zm 9 1, zo 10 (.call 88 [(.t 9)]), zm 6 10])
 (.seq (.seq (.ops [zm 11 5])
 (.cond (.t 11) (.seq (.seq (.ops [zm 12 6])
 (.cond (.t 12) (.seq (.ops [zo 4 (.mov zi)])
 .ret) .skip))
 (.seq (.ops [zo 4 (.mov (.v (.int .i64 (-1))))])
 .ret)) .skip))
 (.seq (.seq (.ops [zm 13 6])
 (.cond (.t 13) (.seq (.ops [zo 4 (.mov zj)])
 .ret) .skip))
 (.seq (.seq (.ops [zm 14 0, zm 15 1, zo 16 (.bin .lss (.t 14) (.t 15))])
 (.cond (.t 16) (.seq (.ops [zo 4 (.mov (.v (.int .i64 (-1))))])
 .ret) .skip))
 (.seq (.seq (.ops [zm 17 0, zm 18 1, zo 19 (.bin .gtr (.t 17) (.t 18))])
 (.cond (.t 19) (.seq (.ops [zo 4 (.mov zj)])
 .ret) .skip))
 (.seq (.ops [zo 4 (.mov zi)])
 .ret))))))))
theorem Tryz.known64 : Known Tryz.prog 64 Tryz.pc64 20 [4] := ⟨Tryz.f64, _, Tryz.func64, rfl, by kernel_rfl, rfl, rfl⟩
def Tryz.pc66 : PC :=
 (.seq (.ops [zo 4 (.mov (.v (.string ⟨#[]⟩)))])
 (.seq (.seq (.ops [zm 9 1, zo 10 (.bin .eql (.t 9) (.v (.int .i64 10)))])
 (.cond (.t 10) (.seq (.seq (.ops [zm 11 0, zo 12 (.bin .lss (.t 11) (.v (.int .u64 100)))])
 (.cond (.t 12) (.seq (.ops [zm 13 0, zo 14 (.cvt .i64 (.t 13)), zo 15 (.call 89 [(.t 14)]), zm 4 15])
 .ret) .skip))
 (.seq (.ops [zo 5 (.al 106 [zz, zz, zz, zz, zz, zz, zz, zz, zz, zz, zz, zz, zz, zz, zz, zz, zz, zz, zz, zz, zz, zz, zz, .int .u8 0])])
 (.seq (.ops [zm 16 0, zo 17 (.call 90 [(.t 16)]), zm 6 17])
 (.seq (.ops [zm 18 6, zo 19 (.more (.slAr 24 1 (.t 5) none (some (.t 18)))), zm 20 0, zo 21 (.call 91 [(.t 19), (.t 20)])])
 (.seq (.ops [zm 22 6, zo 23 (.more (.slAr 24 1 (.t 5) none (some (.t 22)))), zo 24 (.strOf (.t 23)), zm 4 24])
 .ret))))) .skip))
 (.seq (.ops [zm 26 0, zm 27 1, zo 28 (.call 92 [(.v (.slice none 0 0)), (.t 26), (.t 27), zf, zf]), zm 25 28, zo 29 (.ext 0 (.t 25)), zo 30 (.ext 1 (.t 25)), zm 7 29, zm 8 30])
 (.seq (.ops [zm 31 8, zm 4 31])
 .ret))))
theorem Tryz.known66 : Known Tryz.prog 66 Tryz.pc66 32 [4] := ⟨Tryz.f66, _, Tryz.func66, rfl, by kernel_rfl, rfl, rfl⟩
def Tryz.pc68 : PC :=
 (.seq (.quietR [0, 1, 3, 7, 15, 31, 0, 127, 255, 0, 512, 1536, 3584, 7680] 14 [zm 5 0, zo 6 (.nilc (.t 5)), zo 7 (.fa 1 (.t 6)), zo 8 (.ld (.t 7)), zo 9 (.more (.other (.cap (.t 8)))), zo 10 (.bin .mul (.v (.int .i64 2)) (.t 9)), zm 11 1, zo 12 (.bin .add (.t 10) (.t 11)), zo 13 (.more (.other (.xf 94 [(.t 12)]))), zm 14 0, zo 15 (.nilc (.t 14)), zo 16 (.fa 1 (.t 15)), zo 17 (.ld (.t 16)), zo 18 (.lenS (.t 17)), zo 19 (.slS 1 (.t 13) none (some (.t 18))), zm 4 19])
 (.seq (.ops [zm 20 4, zm 21 0, zo 22 (.nilc (.t 21)), zo 23 (.fa 1 (.t 22)), zo 24 (.ld (.t 23)), zo 25 (.cpy 5 1 (.t 20) (.t 24))])
 (.ops [zm 26 0, zm 27 4, zo 28 (.nilc (.t 26)), zo 29 (.fa 1 (.t 28)), ⟨none, none, .st 1 (.t 29) (.t 27)⟩])))
theorem Tryz.known68 : Known Tryz.prog 68 Tryz.pc68 30 [] := ⟨Tryz.f68, _, Tryz.func68, rfl, by kernel_rfl, rfl, rfl⟩
def Tryz.pc70 : PC :=
 (.seq (.ops [zo 4 (.mov (.v (.slice none 0 0)))])
 (.seq (.ops [zm 5 0, zm 6 1, zo 7 (.call 96 [(.t 5), (.t 6), zi, (.v (.int .i64 (-1)))]), zm 4 7])
 .ret))
theorem Tryz.known70 : Known Tryz.prog 70 Tryz.pc70 8 [4] := ⟨Tryz.f70, _, Tryz.func70, rfl, by kernel_rfl, rfl, rfl⟩
def Tryz.pc71 : PC :=
 (.seq (.ops [zo 4 (.mov zf)])
 (.seq (.ops [zm 5 0, zm 6 1, zo 7 (.call 97 [(.t 5), (.t 6)]), zo 8 (.bin .geq (.t 7) zi), zm 4 8])
 .ret))
theorem Tryz.known71 : Known Tryz.prog 71 Tryz.pc71 9 [4] := ⟨Tryz.f71, _, Tryz.func71, rfl, by kernel_rfl, rfl, rfl⟩
def Tryz.pc72 : PC :=
 (.seq (.ops [zo 2 (.mov zf)])
 (.seq (.ops [zm 3 0, zo 4 (.call 73 [(.t 3)]), zo 5 (.not (.t 4)), zm 2 5])
 .ret))
theorem Tryz.known72 : Known Tryz.prog 72 Tryz.pc72 6 [2] := ⟨Tryz.f72, _, Tryz.func72, rfl, by kernel_rfl, rfl, rfl⟩
def Tryz.pc73 : PC :=
 (.seq (.ops [zo 2 (.mov zf)])
 (.seq (.ops [zo 3 (.mov zi)])
 (.seq (.seq (.ops [zm 6 0, zo 7 (.more (.rngS (.t 6)))])
 (.block 0 (.loop (.seq (.ops [zo 8 (.more (.nxtS (.t 7))), zo 9 (.ext 0 (.t 8))])
 (.seq (.cond (.t 9) .skip (.exit 0))
 (.block 1 (.seq (.ops [zo 10 (.ext 2 (.t 8)), zm 5 10])
 (.seq (.seq (.ops [zm 11 5, zo 12 (.call 98 [(.t 11)]), zo 13 (.not (.t 12))])
 (.cond (.t 13) (.seq (.ops [zo 2 (.mov zf)])
 .ret) .skip))
 (.seq (.ops [zm 14 5, zo 15 (.bin .eql (.t 14) (.v (.int .i32 46)))])
 (.cond (.t 15) (.ops [zm 16 3, zo 17 (.bin .add (.t 16) zj), zm 3 17]) .skip))))))))))
 (.seq (.ops [zm 18 3, zm 19 0, zo 20 (.lenStr (.t 19)), zo 21 (.bin .lss (.t 18) (.t 20)), zm 2 21])
 .ret))))
theorem Tryz.known73 : Known Tryz.prog 73 Tryz.pc73 22 [2] := ⟨Tryz.f73, _, Tryz.func73, rfl, by kernel_rfl, rfl, rfl⟩
def Tryz.pc74 : PC :=
 (.seq (.ops [zo 2 (.mov (.v (.slice none 0 0)))])
 (.seq (.ops [zo 3 (.mov (.v (.slice none 0 0)))])
 (.seq (.ops [zo 4 (.mov zi)])
 (.seq (.seq (.ops [zo 5 (.mov zi)])
 (.block 0 (.loop (.seq (.seq (.ops [zm 6 5, zm 7 0, zo 8 (.lenStr (.t 7)), zo 9 (.bin .lss (.t 6) (.t 8))])
 (.cond (.t 9) .skip (.exit 0)))
 (.seq (.block 1 (.seq (.ops [zm 12 0, zm 13 5, zo 14 (.ixStr (.t 12) (.t 13)), zo 15 (.bin .eql (.t 14) (.v (.int .u8 47)))])
 (.cond (.t 15) (.seq (.ops [zm 16 3, zm 17 0, zm 18 4, zm 19 5, zo 20 (.slStr (.t 17) (some (.t 18)) (some (.t 19))), zo 21 (.bsl 9 [.string ⟨#[]⟩] 1 [(0, 1, (.t 20))]), zo 22 (.app 55 9 1 16 (.string ⟨#[]⟩) (.t 16) (.t 21)), zm 3 22])
 (.ops [zm 23 5, zo 24 (.bin .add (.t 23) zj), zm 4 24])) .skip)))
 (.ops [zm 10 5, zo 11 (.bin .add (.t 10) zj), zm 5 11]))))))
 (.seq (.ops [zm 25 3, zm 26 0, zm 27 4, zo 28 (.slStr (.t 26) (some (.t 27)) none), zo 29 (.bsl 9 [.string ⟨#[]⟩] 1 [(0, 1, (.t 28))]), zo 30 (.app 55 9 1 16 (.string ⟨#[]⟩) (.t 25) (.t 29)), zm 2 30])
 .ret)))))
theorem Tryz.known74 : Known Tryz.prog 74 Tryz.pc74 31 [2] := ⟨Tryz.f74, _, Tryz.func74, rfl, by kernel_rfl, rfl, rfl⟩
def Tryz.pc76 : PC :=
 (.seq (.ops [zo 4 (.mov zf)])
 (.seq (.ops [zm 5 0, zo 6 (.lenStr (.t 5)), zm 7 1, zo 8 (.lenStr (.t 7)), zo 9 (.bin .geq (.t 6) (.t 8)), zm 10 9, zg 11 10 true (.mov (.t 0)), zg 12 10 true (.mov (.t 1)), zg 13 10 true (.lenStr (.t 12)), zg 14 10 true (.slStr (.t 11) none (some (.t 13))), zg 15 10 true (.mov (.t 1)), zg 16 10 true (.bin .eql (.t 14) (.t 15)), zo 17 (.pick (.t 10) (.t 16) zf), zm 4 17])
 .ret))
theorem Tryz.known76 : Known Tryz.prog 76 Tryz.pc76 18 [4] := ⟨Tryz.f76, _, Tryz.func76, rfl, by kernel_rfl, rfl, rfl⟩
def Tryz.pc87 : PC :=
 (.seq (.ops [zo 2 (.mov zf)])
 (.seq (.ops [zm 3 0, zm 4 0, zo 5 (.bin .neq (.t 3) (.t 4)), zm 2 5])
 .ret))
theorem Tryz.known87 : Known Tryz.prog 87 Tryz.pc87 6 [2] := ⟨Tryz.f87, _, Tryz.func87, rfl, by kernel_rfl, rfl, rfl⟩
def Tryz.pc88 : PC :=
 (.seq (.ops [zo 2 (.mov zf)])
 (.seq (.ops [zm 3 0, zm 4 0, zo 5 (.bin .neq (.t 3) (.t 4)), zm 2 5])
 .ret))
theorem Tryz.known88 : Known Tryz.prog 88 Tryz.pc88 6 [2] := ⟨Tryz.f88, _, Tryz.func88, rfl, by kernel_rfl, rfl, rfl⟩
def Tryz.pc92 : PC :=
 (.seq (.ops [zo 10 (.mov (.v (.slice none 0 0))), zo 11 (.mov (.v (.string ⟨#[]⟩)))])
 (.seq (.seq (.ops [zm 19 2, zo 20 (.bin .lss (.t 19) (.v (.int .i64 2))), zm 21 20, zg 22 21 false (.mov (.t 2)), zg 23 21 false (.bin .eql (.t 22) (.v (.int .i64 10))), zo 24 (.pick (.t 21) zt (.t 23)), zm 25 24, zg 26 25 false (.mov (.t 2)), zg 27 25 false (.bin .gtr (.t 26) (.v (.int .i64 36))), zo 28 (.pick (.t 25) zt (.t 27))])
 (.cond (.t 28) (.ops [zo 29 (.more (.mkI 9 (.v (.string ⟨#[115, 116, 114, 99, 111, 110, 118, 58, 32, 105, 108, 108, 101, 103, 97, 108, 32, 65, 112, 112, 101, 110, 100, 73, 110, 116, 47, 70, 111, 114, 109, 97, 116, 73, 110, 116, 32, 98, 97, 115, 101]⟩)))), ⟨none, none, .more (.other .any)⟩]) .skip))
 (.seq (.ops [zo 12 (.al 127 [zz, zz, zz, zz, zz, zz, zz, zz, zz, zz, zz, zz, zz, zz, zz, zz, zz, zz, zz, zz, zz, zz, zz, zz, zz, zz, zz, zz, zz, zz, zz, zz, zz, zz, zz, zz, zz, zz, zz, zz, zz, zz, zz, zz, zz, zz, zz, zz, zz, zz, zz, zz, zz, zz, zz, zz, zz, zz, zz, zz, zz, zz, zz, zz, .int .u8 0])])
 (.seq (.ops [zo 13 (.mov (.v (.int .i64 65)))])
 (.seq (.seq (.ops [zm 30 3])
 (.cond (.t 30) (.ops [zm 31 1, zo 32 (.more (.neg (.t 31))), zm 1 32]) .skip))
 (.seq (.seq (.ops [zm 33 2, zo 34 (.call 107 [(.t 33)])])
 (.cond (.t 34) (.seq (.ops [zm 35 2, zo 36 (.cvt .u64 (.t 35)), zo 37 (.call 108 [(.t 36)]), zo 38 (.cvt .u64 (.t 37)), zm 14 38])
 (.seq (.ops [zm 39 2, zo 40 (.cvt .u64 (.t 39)), zm 15 40])
 (.seq (.ops [zm 41 2, zo 42 (.cvt .u64 (.t 41)), zo 43 (.bin .sub (.t 42) (.v (.int .u64 1))), zm 16 43])
 (.seq (.block 0 (.loop (.seq (.seq (.ops [zm 44 1, zm 45 15, zo 46 (.bin .geq (.t 44) (.t 45))])
 (.cond (.t 46) .skip (.exit 0)))
 (.block 1 (.seq (.ops [zm 47 13, zo 48 (.bin .sub (.t 47) zj), zm 13 48])
 (.seq (.ops [zm 49 13, zm 50 1, zm 51 16, zo 52 (.bin .and (.t 50) (.t 51)), zo 53 (.ixStr (.v (.string ⟨#[48, 49, 50, 51, 52, 53, 54, 55, 56, 57, 97, 98, 99, 100, 101, 102, 103, 104, 105, 106, 107, 108, 109, 110, 111, 112, 113, 114, 115, 116, 117, 118, 119, 120, 121, 122]⟩)) (.t 52)), zo 54 (.ixA 65 1 (.t 12) (.t 49)), ⟨none, none, .st 1 (.t 54) (.t 53)⟩])
 (.ops [zm 55 1, zm 56 14, zo 57 (.bin .shr (.t 55) (.t 56)), zm 1 57])))))))
 (.seq (.ops [zm 58 13, zo 59 (.bin .sub (.t 58) zj), zm 13 59])
 (.ops [zm 60 13, zm 61 1, zo 62 (.ixStr (.v (.string ⟨#[48, 49, 50, 51, 52, 53, 54, 55, 56, 57, 97, 98, 99, 100, 101, 102, 103, 104, 105, 106, 107, 108, 109, 110, 111, 112, 113, 114, 115, 116, 117, 118, 119, 120, 121, 122]⟩)) (.t 61)), zo 63 (.ixA 65 1 (.t 12) (.t 60)), ⟨none, none, .st 1 (.t 63) (.t 62)⟩])))))) (.seq (.ops [zm 64 2, zo 65 (.cvt .u64 (.t 64)), zm 17 65])
 (.seq (.block 2 (.loop (.seq (.seq (.ops [zm 66 1, zm 67 17, zo 68 (.bin .geq (.t 66) (.t 67))])
 (.cond (.t 68) .skip (.exit 2)))
 (.block 3 (.seq (.ops [zm 69 13, zo 70 (.bin .sub (.t 69) zj), zm 13 70])
 (.seq (.ops [zm 71 1, zm 72 17, zo 73 (.bin .quo (.t 71) (.t 72)), zm 18 73])
 (.seq (.ops [zm 74 13, zm 75 1, zm 76 18, zm 77 17, zo 78 (.bin .mul (.t 76) (.t 77)), zo 79 (.bin .sub (.t 75) (.t 78)), zo 80 (.ixStr (.v (.string ⟨#[48, 49, 50, 51, 52, 53, 54, 55, 56, 57, 97, 98, 99, 100, 101, 102, 103, 104, 105, 106, 107, 108, 109, 110, 111, 112, 113, 114, 115, 116, 117, 118, 119, 120, 121, 122]⟩)) (.t 79)), zo 81 (.ixA 65 1 (.t 12) (.t 74)), ⟨none, none, .st 1 (.t 81) (.t 80)⟩])
 (.ops [zm 82 18, zm 1 82]))))))))
 (.seq (.ops [zm 83 13, zo 84 (.bin .sub (.t 83) zj), zm 13 84])
 (.ops [zm 85 13, zm 86 1, zo 87 (.ixStr (.v (.string ⟨#[48, 49, 50, 51, 52, 53, 54, 55, 56, 57, 97, 98, 99, 100, 101, 102, 103, 104, 105, 106, 107, 108, 109, 110, 111, 112, 113, 114, 115, 116, 117, 118, 119, 120, 121, 122]⟩)) (.t 86)), zo 88 (.ixA 65 1 (.t 12) (.t 85)), ⟨none, none, .st 1 (.t 88) (.t 87)⟩]))))))
 (.seq (.seq (.ops [zm 89 3])
 (.cond (.t 89) (.seq (.ops [zm 90 13, zo 91 (.bin .sub (.t 90) zj), zm 13 91])
 (.ops [zm 92 13, zo 93 (.ixA 65 1 (.t 12) (.t 92)), ⟨none, none, .st 1 (.t 93) (.v (.int .u8 45))⟩])) .skip))
 (.seq (.seq (.ops [zm 94 4])
 (.cond (.t 94) (.seq (.ops [zm 95 0, zm 96 13, zo 97 (.more (.slAr 65 1 (.t 12) (some (.t 96)) none)), zo 98 (.app 69 5 1 1 (.int .u8 0) (.t 95) (.t 97)), zm 10 98])
 .ret) .skip))
 (.seq (.ops [zm 99 13, zo 100 (.more (.slAr 65 1 (.t 12) (some (.t 99)) none)), zo 101 (.strOf (.t 100)), zm 11 101])
 .ret)))))))))
theorem Tryz.known92 : Known Tryz.prog 92 Tryz.pc92 102 [10, 11] := ⟨Tryz.f92, _, Tryz.func92, rfl, by kernel_rfl, rfl, rfl⟩
def Tryz.pc96 : PC :=
 (.seq (.ops [zo 8 (.mov (.v (.slice none 0 0)))])
 (.seq (.seq (.ops [zm 12 3, zo 13 (.bin .eql (.t 12) zi)])
 (.cond (.t 13) (.seq (.ops [zo 8 (.mov (.v (.slice none 0 0)))])
 .ret) .skip))
 (.seq (.seq (.ops [zm 14 1, zo 15 (.bin .eql (.t 14) (.v (.string ⟨#[]⟩)))])
 (.cond (.t 15) (.seq (.ops [zm 16 0, zm 17 3, zo 18 (.call 109 [(.t 16), (.t 17)]), zm 8 18])
 .ret) .skip))
 (.seq (.seq (.ops [zm 19 3, zo 20 (.bin .lss (.t 19) zi)])
 (.cond (.t 20) (.ops [zm 21 0, zm 22 1, zo 23 (.call 110 [(.t 21), (.t 22)]), zo 24 (.bin .add (.t 23) zj), zm 3 24]) .skip))
 (.seq (.ops [zm 25 3, zm 26 0, zo 27 (.lenStr (.t 26)), zo 28 (.bin .add (.t 27) zj), zo 29 (.mnx false [(.t 25), (.t 28)]), zm 3 29])
 (.seq (.ops [zm 30 3, zo 31 (.mkS 55 9 1 16 (.string ⟨#[]⟩) (.t 30) (.t 30)), zm 9 31])
 (.seq (.ops [zm 32 3, zo 33 (.bin .sub (.t 32) zj), zm 3 33])
 (.seq (.ops [zo 10 (.mov zi)])
 (.seq (.block 0 (.loop (.seq (.seq (.ops [zm 34 10, zm 35 3, zo 36 (.bin .lss (.t 34) (.t 35))])
 (.cond (.t 36) .skip (.exit 0)))
 (.block 1 (.seq (.ops [zm 37 0, zm 38 1, zo 39 (.call 111 [(.t 37), (.t 38)]), zm 11 39])
 (.seq (.seq (.ops [zm 40 11, zo 41 (.bin .lss (.t 40) zi)])
 (.cond (.t 41) (.exit 0) .skip))
 (.seq (.ops [zm 42 9, zm 43 10, zm 44 0, zm 45 11, zm 46 2, zo 47 (.bin .add (.t 45) (.t 46)), zo 48 (.slStr (.t 44) none (some (.t 47))), zo 49 (.ixS 1 (.t 42) (.t 43)), ⟨none, none, .st 1 (.t 49) (.t 48)⟩])
 (.seq (.ops [zm 50 0, zm 51 11, zm 52 1, zo 53 (.lenStr (.t 52)), zo 54 (.bin .add (.t 51) (.t 53)), zo 55 (.slStr (.t 50) (some (.t 54)) none), zm 0 55])
 (.ops [zm 56 10, zo 57 (.bin .add (.t 56) zj), zm 10 57])))))))))
 (.seq (.ops [zm 58 9, zm 59 10, zm 60 0, zo 61 (.ixS 1 (.t 58) (.t 59)), ⟨none, none, .st 1 (.t 61) (.t 60)⟩])
 (.seq (.ops [zm 62 9, zm 63 10, zo 64 (.bin .add (.t 63) zj), zo 65 (.slS 1 (.t 62) none (some (.t 64))), zm 8 65])
 .ret)))))))))))
theorem Tryz.known96 : Known Tryz.prog 96 Tryz.pc96 66 [8] := ⟨Tryz.f96, _, Tryz.func96, rfl, by kernel_rfl, rfl, rfl⟩
def Tryz.pc97 : PC :=
 (.seq (.ops [zo 4 (.mov zi)])
 (.seq (.seq (.ops [zm 6 0, zo 7 (.lenS (.t 6)), zo 8 (.mov zi)])
 (.block 0 (.loop (.seq (.ops [zo 9 (.bin .lss (.t 8) (.t 7))])
 (.seq (.cond (.t 9) .skip (.exit 0))
 (.seq (.block 1 (.seq (.ops [zm 10 8, zm 5 10])
 (.seq (.ops [zm 11 1, zm 12 0, zm 13 5, zo 14 (.ixS 1 (.t 12) (.t 13)), zo 15 (.ld (.t 14)), zo 16 (.callv (.t 11) [(.t 15)])])
 (.cond (.t 16) (.seq (.ops [zm 17 5, zm 4 17])
 .ret) .skip))))
 (.ops [zo 18 (.bin .add (.t 8) zj), zm 8 18])))))))
 (.seq (.ops [zo 4 (.mov (.v (.int .i64 (-1))))])
 .ret)))
theorem Tryz.known97 : Known Tryz.prog 97 Tryz.pc97 19 [4] := ⟨Tryz.f97, _, Tryz.func97, rfl, by kernel_rfl, rfl, rfl⟩
def Tryz.pc98 : PC :=
 (.seq (.ops [zo 2 (.mov zf)])
 (.seq (.ops [zm 3 0, zo 4 (.bin .geq (.t 3) (.v (.int .i32 97))), zm 5 4, zg 6 5 true (.mov (.t 0)), zg 7 5 true (.bin .leq (.t 6) (.v (.int .i32 122))), zo 8 (.pick (.t 5) (.t 7) zf), zm 9 8, zg 10 9 false (.mov (.t 0)), zg 11 9 false (.bin .geq (.t 10) (.v (.int .i32 65))), zg 12 9 false (.mov (.t 11)), zg 13 12 true (.mov (.t 0)), zg 14 12 true (.bin .leq (.t 13) (.v (.int .i32 90))), zg 15 9 false (.pick (.t 12) (.t 14) zf), zo 16 (.pick (.t 9) zt (.t 15)), zm 17 16, zg 18 17 false (.mov (.t 0)), zg 19 17 false (.bin .geq (.t 18) (.v (.int .i32 48))), zg 20 17 false (.mov (.t 19)), zg 21 20 true (.mov (.t 0)), zg 22 20 true (.bin .leq (.t 21) (.v (.int .i32 57))), zg 23 17 false (.pick (.t 20) (.t 22) zf), zo 24 (.pick (.t 17) zt (.t 23)), zm 25 24, zg 26 25 false (.mov (.t 0)), zg 27 25 false (.bin .eql (.t 26) (.v (.int .i32 95))), zo 28 (.pick (.t 25) zt (.t 27)), zm 29 28, zg 30 29 false (.mov (.t 0)), zg 31 29 false (.bin .eql (.t 30) (.v (.int .i32 45))), zo 32 (.pick (.t 29) zt (.t 31)), zm 33 32, zg 34 33 false (.mov (.t 0)), zg 35 33 false (.bin .eql (.t 34) (.v (.int .i32 46))), zo 36 (.pick (.t 33) zt (.t 35)), zm 2 36])
 .ret))
theorem Tryz.known98 : Known Tryz.prog 98 Tryz.pc98 37 [2] := ⟨Tryz.f98, _, Tryz.func98, rfl, by kernel_rfl, rfl, rfl⟩
def Tryz.pc107 : PC :=
 (.seq (.ops [zo 2 (.mov zf)])
 (.seq (.ops [zm 3 0, zm 4 0, zo 5 (.bin .sub (.t 4) zj), zo 6 (.bin .and (.t 3) (.t 5)), zo 7 (.bin .eql (.t 6) zi), zm 2 7])
 .ret))
theorem Tryz.known107 : Known Tryz.prog 107 Tryz.pc107 8 [2] := ⟨Tryz.f107, _, Tryz.func107, rfl, by kernel_rfl, rfl, rfl⟩
def Tryz.pc108 : PC :=
 (.seq (.ops [zo 2 (.mov zi)])
 (.seq (.cond zf (.seq (.ops [zm 3 0, zo 4 (.cvt .u32 (.t 3)), zo 5 (.call 113 [(.t 4)]), zm 2 5])
 .ret) .skip)
 (.seq (.ops [zm 6 0, zo 7 (.call 114 [(.t 6)]), zm 2 7])
 .ret)))
theorem Tryz.known108 : Known Tryz.prog 108 Tryz.pc108 8 [2] := ⟨Tryz.f108, _, Tryz.func108, rfl, by kernel_rfl, rfl, rfl⟩
def Tryz.pc110 : PC :=
 (.seq (.ops [zo 4 (.mov zi)])
 (.seq (.seq (.ops [zm 7 1, zo 8 (.lenStr (.t 7)), zo 9 (.bin .eql (.t 8) zi)])
 (.cond (.t 9) (.seq (.ops [zm 10 0, zo 11 (.call 115 [(.t 10)]), zo 12 (.bin .add (.t 11) zj), zm 4 12])
 .ret) .skip))
 (.seq (.seq (.ops [zm 13 1, zo 14 (.lenStr (.t 13)), zo 15 (.bin .eql (.t 14) zj)])
 (.cond (.t 15) (.seq (.ops [zm 16 0, zm 17 1, zo 18 (.ixStr (.t 17) zi), zo 19 (.more (.xc 1 [(.t 16), (.t 18)])), zm 4 19])
 .ret) .skip))
 (.seq (.ops [zo 5 (.mov zi)])
 (.block 0 (.loop (.block 1 (.seq (.ops [zm 20 0, zm 21 1, zo 22 (.call 111 [(.t 20), (.t 21)]), zm 6 22])
 (.seq (.seq (.ops [zm 23 6, zo 24 (.bin .eql (.t 23) (.v (.int .i64 (-1))))])
 (.cond (.t 24) (.seq (.ops [zm 25 5, zm 4 25])
 .ret) .skip))
 (.seq (.ops [zm 26 5, zo 27 (.bin .add (.t 26) zj), zm 5 27])
 (.ops [zm 28 0, zm 29 6, zm 30 1, zo 31 (.lenStr (.t 30)), zo 32 (.bin .add (.t 29) (.t 31)), zo 33 (.slStr (.t 28) (some (.t 32)) none), zm 0 33])))))))))))
theorem Tryz.known110 : Known Tryz.prog 110 Tryz.pc110 34 [4] := ⟨Tryz.f110, _, Tryz.func110, rfl, by kernel_rfl, rfl, rfl⟩
def Tryz.pc111 : PC :=
 (.seq (.ops [zo 4 (.mov zi)])
 (.seq (.ops [zm 5 0, zm 6 1, zo 7 (.call 118 [(.t 5), (.t 6)]), zm 4 7])
 .ret))
theorem Tryz.known111 : Known Tryz.prog 111 Tryz.pc111 8 [4] := ⟨Tryz.f111, _, Tryz.func111, rfl, by kernel_rfl, rfl, rfl⟩
def Tryz.pc114 : PC :=
 (.seq (.ops [zo 2 (.mov zi)])
 (.seq (.seq (.ops [zm 3 0, zo 4 (.bin .eql (.t 3) (.v (.int .u64 0)))])
 (.cond (.t 4) (.seq (.ops [zo 2 (.mov (.v (.int .i64 64)))])
 .ret) .skip))
 (.seq (.ops [zm 5 0, zm 6 0, zo 7 (.more (.neg (.t 6))), zo 8 (.bin .and (.t 5) (.t 7)), zo 9 (.bin .mul (.t 8) (.v (.int .u64 285870213051353865))), zo 10 (.bin .shr (.t 9) (.v (.int .u64 58))), zo 11 (.ixA 64 1 (.v (.pointer (some ⟨3, 0, none⟩))) (.t 10)), zo 12 (.ld (.t 11)), zo 13 (.cvt .i64 (.t 12)), zm 2 13])
 .ret)))
theorem Tryz.known114 : Known Tryz.prog 114 Tryz.pc114 14 [2] := ⟨Tryz.f114, _, Tryz.func114, rfl, by kernel_rfl, rfl, rfl⟩
def Tryz.pc118 : PC :=
 (.seq (.ops [zo 4 (.mov zi)])
 (.seq (.ops [zm 14 1, zo 15 (.lenStr (.t 14)), zm 5 15])
 (.seq (.block 0 (.seq (.ops [zm 17 5, zo 18 (.bin .eql (.t 17) zi), zm 19 18, zg 20 19 false (.mov (.t 1)), zg 21 19 false (.mov (.t 0)), zg 22 19 false (.bin .eql (.t 20) (.t 21)), zo 23 (.pick (.t 19) zt (.t 22)), zm 16 23])
 (.cond (.t 16) (.seq (.ops [zo 4 (.mov zi)])
 .ret) (.seq (.ops [zm 25 5, zo 26 (.bin .eql (.t 25) zj), zm 24 26])
 (.cond (.t 24) (.seq (.ops [zm 27 0, zm 28 1, zo 29 (.ixStr (.t 28) zi), zo 30 (.call 120 [(.t 27), (.t 29)]), zm 4 30])
 .ret) (.seq (.ops [zm 32 5, zm 33 0, zo 34 (.lenStr (.t 33)), zo 35 (.bin .geq (.t 32) (.t 34)), zm 31 35])
 (.cond (.t 31) (.seq (.ops [zo 4 (.mov (.v (.int .i64 (-1))))])
 .ret) (.seq (.ops [zm 37 5, zo 38 (.ld (.v (.pointer (some ⟨1, 0, none⟩)))), zo 39 (.bin .leq (.t 37) (.t 38)), zm 40 39, zg 41 40 true (.mov (.t 0)), zg 42 40 true (.lenStr (.t 41)), zg 43 40 true (.bin .leq (.t 42) (.v (.int .i64 64))), zo 44 (.pick (.t 40) (.t 43) zf), zm 36 44])
 (.cond (.t 36) (.seq (.ops [zm 45 0, zm 46 1, zo 47 (.more (.other (.xf 121 [(.t 45), (.t 46)]))), zm 4 47])
 .ret) .skip)))))))))
 (.seq (.ops [zm 48 1, zo 49 (.ixStr (.t 48) zi), zm 6 49])
 (.seq (.ops [zm 50 1, zo 51 (.ixStr (.t 50) zj), zm 7 51])
 (.seq (.ops [zo 8 (.mov zi)])
 (.seq (.ops [zm 52 0, zo 53 (.lenStr (.t 52)), zm 54 5, zo 55 (.bin .sub (.t 53) (.t 54)), zo 56 (.bin .add (.t 55) zj), zm 9 56])
 (.seq (.ops [zo 10 (.mov zi)])
 (.seq (.block 1 (.loop (.seq (.seq (.ops [zm 57 8, zm 58 9, zo 59 (.bin .lss (.t 57) (.t 58))])
 (.cond (.t 59) .skip (.exit 1)))
 (.block 2 (.seq (.seq (.ops [zm 60 0, zm 61 8, zo 62 (.ixStr (.t 60) (.t 61)), zm 63 6, zo 64 (.bin .neq (.t 62) (.t 63))])
 (.cond (.t 64) (.seq (.ops [zm 65 0, zm 66 8, zo 67 (.bin .add (.t 66) zj), zm 68 9, zo 69 (.slStr (.t 65) (some (.t 67)) (some (.t 68))), zm 70 6, zo 71 (.call 120 [(.t 69), (.t 70)]), zm 11 71])
 (.seq (.seq (.ops [zm 72 11, zo 73 (.bin .lss (.t 72) zi)])
 (.cond (.t 73) (.seq (.ops [zo 4 (.mov (.v (.int .i64 (-1))))])
 .ret) .skip))
 (.ops [zm 74 8, zm 75 11, zo 76 (.bin .add (.t 75) zj), zo 77 (.bin .add (.t 74) (.t 76)), zm 8 77]))) .skip))
 (.seq (.seq (.ops [zm 78 0, zm 79 8, zo 80 (.bin .add (.t 79) zj), zo 81 (.ixStr (.t 78) (.t 80)), zm 82 7, zo 83 (.bin .eql (.t 81) (.t 82)), zm 84 83, zg 85 84 true (.mov (.t 0)), zg 86 84 true (.mov (.t 8)), zg 87 84 true (.mov (.t 8)), zg 88 84 true (.mov (.t 5)), zg 89 84 true (.bin .add (.t 87) (.t 88)), zg 90 84 true (.slStr (.t 85) (some (.t 86)) (some (.t 89))), zg 91 84 true (.mov (.t 1)), zg 92 84 true (.bin .eql (.t 90) (.t 91)), zo 93 (.pick (.t 84) (.t 92) zf)])
 (.cond (.t 93) (.seq (.ops [zm 94 8, zm 4 94])
 .ret) .skip))
 (.seq (.ops [zm 95 8, zo 96 (.bin .add (.t 95) zj), zm 8 96])
 (.seq (.ops [zm 97 10, zo 98 (.bin .add (.t 97) zj), zm 10 98])
 (.seq (.ops [zm 99 5, zo 100 (.ld (.v (.pointer (some ⟨1, 0, none⟩)))), zo 101 (.bin .leq (.t 99) (.t 100)), zm 102 101, zg 103 102 true (.mov (.t 10)), zg 104 102 true (.mov (.t 8)), zg 105 102 true (.call 122 [(.t 104)]), zg 106 102 true (.bin .gtr (.t 103) (.t 105)), zo 107 (.pick (.t 102) (.t 106) zf)])
 (.cond (.t 107) (.seq (.ops [zm 108 0, zm 109 8, zo 110 (.slStr (.t 108) (some (.t 109)) none), zm 111 1, zo 112 (.more (.other (.xf 121 [(.t 110), (.t 111)]))), zm 12 112])
 (.seq (.seq (.ops [zm 113 12, zo 114 (.bin .geq (.t 113) zi)])
 (.cond (.t 114) (.seq (.ops [zm 115 12, zm 116 8, zo 117 (.bin .add (.t 115) (.t 116)), zm 4 117])
 .ret) .skip))
 (.seq (.ops [zo 4 (.mov (.v (.int .i64 (-1))))])
 .ret))) (.seq (.ops [zm 118 5, zo 119 (.ld (.v (.pointer (some ⟨1, 0, none⟩)))), zo 120 (.bin .gtr (.t 118) (.t 119)), zm 121 120, zg 122 121 true (.mov (.t 10)), zg 123 121 true (.mov (.t 8)), zg 124 121 true (.bin .shr (.t 123) (.v (.int .u64 4))), zg 125 121 true (.bin .add (.v (.int .i64 4)) (.t 124)), zg 126 121 true (.bin .geq (.t 122) (.t 125)), zo 127 (.pick (.t 121) (.t 126) zf), zm 128 127, zg 129 128 true (.mov (.t 8)), zg 130 128 true (.mov (.t 9)), zg 131 128 true (.bin .lss (.t 129) (.t 130)), zo 132 (.pick (.t 128) (.t 131) zf)])
 (.cond (.t 132) (.seq (.ops [zm 133 0, zm 134 8, zo 135 (.slStr (.t 133) (some (.t 134)) none), zm 136 1, zo 137 (.call 123 [(.t 135), (.t 136)]), zm 13 137])
 (.seq (.seq (.ops [zm 138 13, zo 139 (.bin .lss (.t 138) zi)])
 (.cond (.t 139) (.seq (.ops [zo 4 (.mov (.v (.int .i64 (-1))))])
 .ret) .skip))
 (.seq (.ops [zm 140 8, zm 141 13, zo 142 (.bin .add (.t 140) (.t 141)), zm 4 142])
 .ret))) .skip))))))))))))
 (.seq (.ops [zo 4 (.mov (.v (.int .i64 (-1))))])
 .ret))))))))))
theorem Tryz.known118 : Known Tryz.prog 118 Tryz.pc118 143 [4] := ⟨Tryz.f118, _, Tryz.func118, rfl, by kernel_rfl, rfl, rfl⟩
def Tryz.pc120 : PC :=
 (.seq (.ops [zo 4 (.mov zi)])
 (.seq (.ops [zm 5 0, zm 6 1, zo 7 (.more (.xc 0 [(.t 5), (.t 6)])), zm 4 7])
 .ret))
theorem Tryz.known120 : Known Tryz.prog 120 Tryz.pc120 8 [4] := ⟨Tryz.f120, _, Tryz.func120, rfl, by kernel_rfl, rfl, rfl⟩
end Go.Proofs

namespace Go.Proofs
open Go.SL Go.RowKit
set_option maxHeartbeats 1000000
theorem ext_list (s : ByteArray) (a b : Nat) : (s.extract a b).data.toList = (s.data.toList.take b).drop a := by
 simp [ByteArray.data_extract, List.drop_take]
theorem ba_ext {s t : ByteArray} (h : s.data.toList = t.data.toList) : s = t := by
 cases s; cases t; congr 1; exact Array.toList_inj.1 h
theorem ba_get {s : ByteArray} {k : Nat} (h : k < s.size) : ∃ b, s[k]? = some b /\ s.data.toList[k]? = some b /\ s.data.toList.take (k + 1) = s.data.toList.take k ++ [b] /\ s[k]'h = b := by
 have h' : k < s.data.toList.length := by simpa using h
 refine ⟨s[k], by rw [getElem?_pos s k h], ?_, ?_, rfl⟩
 ·rw [List.getElem?_eq_getElem h']; rfl
 rw [List.take_add_one, List.getElem?_eq_getElem h']; rfl
theorem dec_ok {s : ByteArray} {p : Nat} {b : UInt8} (hp : p < s.size) (hb : s[p]'hp = b) : (b.toNat < 128 /\ (Utf8.decode s p).1 = b.toNat /\ (Utf8.decode s p).2 = 1) ∨ (128 <= b.toNat /\ 128 <= (Utf8.decode s p).1) := by
 by_cases h : b.toNat < 128
 ·have := decode_ascii s p hp (by rw [hb]; exact h)
  rw [this, hb]
  exact .inl ⟨h, rfl, rfl⟩
 exact .inr ⟨by omega, (decode_high s p hp (by rw [hb]; omega)).1⟩
theorem OL.nxt {P : Program} {w0 : World} {n : Nat} {T : TT} {S : SS} {x : PV} {s : ByteArray} {b k p d1 d2 : Nat} {rest : List PI} {K : TT -> SS -> Prop} (hx : x.val T = some (.pointer (some ⟨b, 0, none⟩))) (hk : S[k]? = some [(b, .obj (.stringIter s p))])
  (h1 : p < s.size -> OL P w0 n rest ((d2, .bool true) :: (d1, .tuple #[.bool true, .int .i64 (p : Int), .int .i32 ((Utf8.decode s p).1 : Int)]) :: T) (S.set k [(b, .obj (.stringIter s (p + (Utf8.decode s p).2)))]) K)
  (h2 : ¬ p < s.size -> OL P w0 n rest ((d2, .bool false) :: (d1, .tuple #[.bool false]) :: T) S K) :
  OL P w0 n (⟨some d1, none, .more (.nxtS x)⟩ :: ⟨some d2, none, .ext 0 (.t d1)⟩ :: rest) T S K := by
 have hl : ∀ v : Value, (PV.t d1).val ((d1, v) :: T) = some v := fun v => look_put_same d1 v T
 by_cases hp : p < s.size
 ·refine OL.cons trivial (OW.nxtS hx hk hp) ?_
  rintro _ _ ⟨rfl, rfl⟩
  refine OL.det trivial (.pure (v := .bool true) ?_) (h1 hp)
  show evalP _ _ = _
  unfold evalP
  simp only [put, hl]
  rfl
 refine OL.det trivial (OW.nxtS_end hx hk hp) ?_
 refine OL.det trivial (.pure (v := .bool false) ?_) (h2 hp)
 show evalP _ _ = _
 unfold evalP
 simp only [put, hl]
 rfl
theorem toL_inj {a b : ByteArray} : a.toList = b.toList ↔ a = b := by
 constructor
 ·intro h; rw [ByteArray.toList_eq, ByteArray.toList_eq] at h; exact ba_ext h
 rintro rfl; rfl
theorem eqS (a b : ByteArray) : (a.toList == b.toList) = decide (a = b) := by
 rw [Bool.eq_iff_iff, beq_iff_eq, toL_inj, decide_eq_true_eq]
theorem yields_cat {P : Program} {w0 : World} {n : Nat} {T : TT} {S : SS} {x y : PV} {a b : ByteArray} (hx : x.val T = some (.string a)) (hy : y.val T = some (.string b)) (h : a.size + b.size <= 9223372036854775807) : Go.SL.Yields P w0 n (.bin .add x y) T S (.string (a ++ b)) :=
 Go.SL.Yields.binRaw hx hy (fun t a b w => by simp [eqGuard]) (fun t w => by
  have hm : IntKind.i64.max = 9223372036854775807 := by decide
  have : ¬ ((a.size + b.size : Nat) : Int) > IntKind.i64.max := by rw [hm]; omega
  show Sem.run P (Op.stringOp .add a b) w = _
  unfold Op.stringOp
  simp only
  rw [if_neg this]
  rfl)
def strs (ls : List ByteArray) : List Value := ls.map .string
theorem strs_len (ls : List ByteArray) : (strs ls).length = ls.length := by simp [strs]
theorem strs_at {w0 : World} {S : SS} {a : Addr} {ls : List ByteArray} (h : Rd w0 S (some a) (strs ls)) {k : Nat} (hk : k < ls.length) : Cell w0 S (a.add k) (.string ls[k]) := h.at (by simp [strs, hk])
theorem strs_ne {ls : List ByteArray} (h : 0 < ls.length) : strs ls ≠ [] := by intro e; have := congrArg List.length e; rw [strs_len, List.length_nil] at this; omega
def cutL : List UInt8 -> List ByteArray
 | [] => [⟨#[]⟩]
 | b :: r => if b = 47 then ⟨#[]⟩ :: cutL r else match cutL r with | x :: xs => ⟨(b :: x.data.toList).toArray⟩ :: xs | [] => []
theorem cut_ne : ∀ l : List UInt8, cutL l ≠ []
 | [] => by simp [cutL]
 | b :: r => by
  have := cut_ne r
  simp only [cutL]
  split
  ·simp
  split
  ·simp
  rename_i h; exact absurd h this
theorem cut_cons : ∀ (p r : List UInt8), (∀ b ∈ p, b ≠ 47) -> cutL (p ++ 47 :: r) = ⟨p.toArray⟩ :: cutL r
 | [], r, h => by simp [cutL]
 | b :: p, r, h => by
  have ih := cut_cons p r (fun x hx => h x (by simp [hx]))
  simp only [List.cons_append, cutL]
  rw [if_neg (h b (by simp)), ih]
theorem cut_no : ∀ (l : List UInt8), (∀ b ∈ l, b ≠ 47) -> cutL l = [⟨l.toArray⟩]
 | [], h => rfl
 | b :: l, h => by
  have ih := cut_no l (fun x hx => h x (by simp [hx]))
  simp only [cutL]
  rw [if_neg (h b (by simp)), ih]
theorem cut_len : ∀ l : List UInt8, (cutL l).length = Lib.countByte l 47 + 1
 | [] => rfl
 | b :: r => by
  have ih := cut_len r
  have hn := cut_ne r
  simp only [cutL, Lib.countByte, List.count_cons] at ih ⊢
  split
  ·rename_i h; subst h; simp; omega
  rename_i h
  have hb : (b == 47) = false := by simpa using h
  rw [hb]
  split
  ·rename_i x xs e; rw [e] at ih; simp at ih ⊢; omega
  rename_i e; exact absurd e hn
def idxP (s : ByteArray) : Int := firstIdx s 47
theorem idx_spec (s : ByteArray) : (0 <= idxP s -> ∃ p r, s.data.toList = p ++ 47 :: r /\ (∀ b ∈ p, b ≠ 47) /\ idxP s = (p.length : Int)) /\ (¬ 0 <= idxP s -> ∀ b ∈ s.data.toList, b ≠ 47) := by
 have e : idxP s = Lib.indexByte s.data.toList 47 := Lib.firstIdx_eq s 47
 rw [e]
 generalize s.data.toList = l
 induction l with
 | nil => simp [Lib.indexByte]
 | cons b l ih =>
  have hge := Lib.indexByte_ge l 47
  simp only [Lib.indexByte]
  by_cases hb : b = 47
  ·subst hb
   simp only [beq_self_eq_true, if_true]
   exact ⟨fun _ => ⟨[], l, rfl, by simp, rfl⟩, fun h => absurd (by omega) h⟩
  have hbf : (b == 47) = false := by simpa using hb
  rw [hbf]
  simp only [Bool.false_eq_true, if_false]
  by_cases h1 : Lib.indexByte l 47 = -1
  ·rw [h1]
   simp only [beq_self_eq_true, if_true]
   refine ⟨fun h => absurd h (by omega), fun _ x hx => ?_⟩
   rcases List.mem_cons.1 hx with rfl | hx
   ·exact hb
   exact ih.2 (by omega) x hx
  have h2 : (Lib.indexByte l 47 == -1) = false := by simpa using h1
  rw [h2]
  simp only [Bool.false_eq_true, if_false]
  refine ⟨fun _ => ?_, fun h => absurd (by omega) h⟩
  obtain ⟨p, r, e1, e2, e3⟩ := ih.1 (by omega)
  refine ⟨b :: p, r, by rw [e1]; rfl, ?_, by rw [e3]; simp⟩
  intro x hx
  rcases List.mem_cons.1 hx with rfl | hx
  ·exact hb
  exact e2 x hx
def slB : ByteArray := ⟨#[47]⟩
def numP (s : ByteArray) : Nat := Lib.countByte s.data.toList 47
theorem num_fold (s : ByteArray) : s.foldl (fun (n : Int) x => if x == (47 : UInt8) then n + 1 else n) ((0 : Nat) : Int) = (numP s : Int) := by
 have e : s.foldl (fun (n : Int) x => if x == (47 : UInt8) then n + 1 else n) ((0 : Nat) : Int) = s.data.toList.foldl (fun (n : Int) x => if x == (47 : UInt8) then n + 1 else n) ((0 : Nat) : Int) := by
  rw [<- Lib.foldl_data]
 rw [e, Lib.count_foldl]
 simp [numP]
theorem idxb_fc {w0 : World} {S : SS} {s : ByteArray} : FC Tryz.prog w0 120 [.string s, .int .u8 47] S (fun v S' => v = .int .i64 (idxP s) /\ S' = S) := by
 refine FC.of Tryz.known120 (by simp) ?_
 unfold Tryz.pc120
 simp only [argT]
 refine PW.seqOps (OL.dp rfl (OL.nil (PW.k2 0 1 rfl (PW.seqOps (OL.dp rfl (OL.dp rfl ?_))))))
 refine OL.det trivial (Yields.xc (e := Extern.BytealgIndexByte.indexByte) rfl (by kernel_rfl) (by kernel_rfl) (fun fn hn => by unfold Extern.find; rw [hn]; kernel_rfl) (fun w => run_indexByte_string s 47 w)) ?_
 refine OL.dp rfl (OL.nil (PW.k1 4 rfl (PW.ret ?_)))
 change (Exit.ret = Exit.normal ∨ Exit.ret = Exit.ret) /\ ∃ v, resV _ _ = some v /\ _
 exact ⟨.inr rfl, _, rfl, rfl, rfl⟩
theorem index_fc {w0 : World} {S : SS} {s : ByteArray} : FC Tryz.prog w0 118 [.string s, .string slB] S (fun v S' => v = .int .i64 (idxP s) /\ S' = S) := by
 refine FC.of Tryz.known118 (by simp) ?_
 unfold Tryz.pc118
 simp only [argT]
 refine PW.seqOps (OL.dp rfl (OL.nil (PW.k2 0 1 rfl (PW.seqOps (OL.dp rfl (OL.dp rfl (OL.dp rfl (OL.nil (PW.k3 0 1 5 rfl ?_)))))))))
 refine PW.seq fun K1 hK1 => ?_
 refine PW.block (PW.seqOps (OL.dp rfl (OL.dp rfl ?_)))
 refine OL.bool trivial (Yields.pure rfl) (fun g19 => ?_) (fun g19 => ?_)
 ·try simp only [decide_eq_true_eq, decide_eq_false_iff_not, beq_iff_eq, bne_iff_ne, beq_eq_false_iff_ne, bne_eq_false_iff_eq, Bool.not_eq_true', Bool.not_eq_false', Bool.not_eq_true, ne_eq, Decidable.not_not] at g19
  exfalso; revert g19; decide
  -- done
 try simp only [decide_eq_true_eq, decide_eq_false_iff_not, beq_iff_eq, bne_iff_ne, beq_eq_false_iff_ne, bne_eq_false_iff_eq, Bool.not_eq_true', Bool.not_eq_false', Bool.not_eq_true, ne_eq, Decidable.not_not] at g19
 refine OL.det rfl (.pure rfl) (OL.det rfl (.pure rfl) (OL.det rfl (.pure rfl) (OL.dp rfl (OL.dp rfl (OL.nil (PW.k4 0 1 5 16 rfl ?_))))))
 refine PW.cond rfl (fun c16 => ?_) (fun c16 => ?_)
 ·try simp only [decide_eq_true_eq, decide_eq_false_iff_not, beq_iff_eq, bne_iff_ne, beq_eq_false_iff_ne, bne_eq_false_iff_eq, Bool.not_eq_true', Bool.not_eq_false', Bool.not_eq_true, ne_eq, Decidable.not_not] at c16
  refine PW.seqOps (OL.dp rfl (OL.nil (PW.k1 4 rfl (PW.ret ?_))))
  change (Exit.ret = Exit.normal ∨ Exit.ret = Exit.ret) /\ ∃ v, resV _ _ = some v /\ _
  rw [toL_inj] at c16
  subst c16
  exact ⟨.inr rfl, _, rfl, rfl, rfl⟩
 try simp only [decide_eq_true_eq, decide_eq_false_iff_not, beq_iff_eq, bne_iff_ne, beq_eq_false_iff_ne, bne_eq_false_iff_eq, Bool.not_eq_true', Bool.not_eq_false', Bool.not_eq_true, ne_eq, Decidable.not_not] at c16
 refine PW.seqOps (OL.dp rfl (OL.dp rfl (OL.dp rfl (OL.nil (PW.k4 0 1 5 24 rfl ?_)))))
 refine PW.cond rfl (fun c24 => ?_) (fun c24 => ?_)
 ·try simp only [decide_eq_true_eq, decide_eq_false_iff_not, beq_iff_eq, bne_iff_ne, beq_eq_false_iff_ne, bne_eq_false_iff_eq, Bool.not_eq_true', Bool.not_eq_false', Bool.not_eq_true, ne_eq, Decidable.not_not] at c24
  refine PW.seqOps (OL.dp rfl (OL.dp rfl (OL.det trivial (Yields.ixStr (b := 47) rfl rfl rfl) (OL.call trivial rfl (idxb_fc) ?_))))
  rintro _ _ ⟨rfl, rfl⟩
  refine OL.dp rfl (OL.nil (PW.k1 4 rfl (PW.ret ?_)))
  change (Exit.ret = Exit.normal ∨ Exit.ret = Exit.ret) /\ ∃ v, resV _ _ = some v /\ _
  exact ⟨.inr rfl, _, rfl, rfl, rfl⟩
 try simp only [decide_eq_true_eq, decide_eq_false_iff_not, beq_iff_eq, bne_iff_ne, beq_eq_false_iff_ne, bne_eq_false_iff_eq, Bool.not_eq_true', Bool.not_eq_false', Bool.not_eq_true, ne_eq, Decidable.not_not] at c24
 exfalso; revert c24; decide
 -- done
theorem sindex_fc {w0 : World} {S : SS} {s : ByteArray} : FC Tryz.prog w0 111 [.string s, .string slB] S (fun v S' => v = .int .i64 (idxP s) /\ S' = S) := by
 refine FC.of Tryz.known111 (by simp) ?_
 unfold Tryz.pc111
 simp only [argT]
 refine PW.seqOps (OL.dp rfl (OL.nil (PW.k2 0 1 rfl (PW.seqOps (OL.dp rfl (OL.dp rfl (OL.call trivial rfl (index_fc) ?_)))))))
 rintro _ _ ⟨rfl, rfl⟩
 refine OL.dp rfl (OL.nil (PW.k1 4 rfl (PW.ret ?_)))
 change (Exit.ret = Exit.normal ∨ Exit.ret = Exit.ret) /\ ∃ v, resV _ _ = some v /\ _
 exact ⟨.inr rfl, _, rfl, rfl, rfl⟩
theorem count_fc {w0 : World} {S : SS} {s : ByteArray} : FC Tryz.prog w0 110 [.string s, .string slB] S (fun v S' => v = .int .i64 (numP s : Int) /\ S' = S) := by
 refine FC.of Tryz.known110 (by simp) ?_
 unfold Tryz.pc110
 simp only [argT]
 refine PW.seqOps (OL.dp rfl (OL.nil (PW.k2 0 1 rfl ?_)))
 refine PW.seq fun K1 hK1 => ?_
 refine PW.seqOps (OL.dp rfl (OL.dp rfl (OL.dp rfl (OL.nil (PW.k3 0 1 9 rfl ?_)))))
 refine PW.cond rfl (fun c9 => ?_) (fun c9 => ?_)
 ·try simp only [decide_eq_true_eq, decide_eq_false_iff_not, beq_iff_eq, bne_iff_ne, beq_eq_false_iff_ne, bne_eq_false_iff_eq, Bool.not_eq_true', Bool.not_eq_false', Bool.not_eq_true, ne_eq, Decidable.not_not] at c9
  exfalso; revert c9; decide
  -- done
 try simp only [decide_eq_true_eq, decide_eq_false_iff_not, beq_iff_eq, bne_iff_ne, beq_eq_false_iff_ne, bne_eq_false_iff_eq, Bool.not_eq_true', Bool.not_eq_false', Bool.not_eq_true, ne_eq, Decidable.not_not] at c9
 refine PW.skip (hK1 _ _ (PW.k2 0 1 rfl ?_))
 refine PW.seq fun K2 hK2 => ?_
 refine PW.seqOps (OL.dp rfl (OL.dp rfl (OL.dp rfl (OL.nil (PW.k3 0 1 15 rfl ?_)))))
 refine PW.cond rfl (fun c15 => ?_) (fun c15 => ?_)
 ·try simp only [decide_eq_true_eq, decide_eq_false_iff_not, beq_iff_eq, bne_iff_ne, beq_eq_false_iff_ne, bne_eq_false_iff_eq, Bool.not_eq_true', Bool.not_eq_false', Bool.not_eq_true, ne_eq, Decidable.not_not] at c15
  refine PW.seqOps (OL.dp rfl (OL.dp rfl (OL.det trivial (Yields.ixStr (b := 47) rfl rfl rfl) ?_)))
  refine OL.det trivial (Yields.xc (e := Extern.BytealgCount.count) rfl (by kernel_rfl) (by kernel_rfl) (fun fn hn => by unfold Extern.find; rw [hn]; kernel_rfl) (fun w => rfl)) ?_
  refine OL.dp rfl (OL.nil (PW.k1 4 rfl (PW.ret ?_)))
  change (Exit.ret = Exit.normal ∨ Exit.ret = Exit.ret) /\ ∃ v, resV _ _ = some v /\ _
  exact ⟨.inr rfl, _, rfl, by rw [<- num_fold]; rfl, rfl⟩
 try simp only [decide_eq_true_eq, decide_eq_false_iff_not, beq_iff_eq, bne_iff_ne, beq_eq_false_iff_ne, bne_eq_false_iff_eq, Bool.not_eq_true', Bool.not_eq_false', Bool.not_eq_true, ne_eq, Decidable.not_not] at c15
 exfalso; revert c15; decide
 -- done
def startsB (s p : ByteArray) : Bool := decide (p.size <= s.size) && decide (s.extract 0 p.size = p)
theorem starts_fc {w0 : World} {S : SS} {s p : ByteArray} : FC Tryz.prog w0 76 [.string s, .string p] S (fun v S' => v = .bool (startsB s p) /\ S' = S) := by
 refine FC.of Tryz.known76 (by simp) ?_
 unfold Tryz.pc76
 simp only [argT]
 refine PW.seqOps (OL.dp rfl (OL.nil (PW.k2 0 1 rfl (PW.seqOps (OL.dp rfl (OL.dp rfl (OL.dp rfl (OL.dp rfl (OL.dp rfl ?_)))))))))
 refine OL.bool trivial (Yields.pure rfl) (fun g10 => ?_) (fun g10 => ?_)
 ·try simp only [decide_eq_true_eq, decide_eq_false_iff_not, beq_iff_eq, bne_iff_ne, beq_eq_false_iff_ne, bne_eq_false_iff_eq, Bool.not_eq_true', Bool.not_eq_false', Bool.not_eq_true, ne_eq, Decidable.not_not] at g10
  refine OL.det rfl (.pure rfl) (OL.det rfl (.pure rfl) (OL.det rfl (.pure rfl) ?_))
  refine OL.det rfl (Yields.slStr (s := s) (l := 0) (h := p.size) rfl rfl rfl (.inr ⟨rfl, rfl⟩) (.inl rfl) (by omega) (by omega)) ?_
  refine OL.det rfl (.pure rfl) (OL.det rfl (.pure rfl) (OL.dp rfl (OL.dp rfl (OL.nil (PW.k1 4 rfl (PW.ret ?_))))))
  change (Exit.ret = Exit.normal ∨ Exit.ret = Exit.ret) /\ ∃ v, resV _ _ = some v /\ _
  exact ⟨.inr rfl, _, rfl, by unfold startsB; first | (rw [show decide (p.size <= s.size) = true from decide_eq_true (by omega), eqS]; rfl) | (rw [show decide (p.size <= s.size) = false from decide_eq_false (by omega)]; rfl), rfl⟩
 try simp only [decide_eq_true_eq, decide_eq_false_iff_not, beq_iff_eq, bne_iff_ne, beq_eq_false_iff_ne, bne_eq_false_iff_eq, Bool.not_eq_true', Bool.not_eq_false', Bool.not_eq_true, ne_eq, Decidable.not_not] at g10
 refine OL.off rfl rfl (OL.off rfl rfl (OL.off rfl rfl (OL.off rfl rfl (OL.off rfl rfl (OL.off rfl rfl (OL.dp rfl (OL.dp rfl (OL.nil (PW.k1 4 rfl (PW.ret ?_))))))))))
 change (Exit.ret = Exit.normal ∨ Exit.ret = Exit.ret) /\ ∃ v, resV _ _ = some v /\ _
 exact ⟨.inr rfl, _, rfl, by unfold startsB; first | (rw [show decide (p.size <= s.size) = true from decide_eq_true (by omega), eqS]; rfl) | (rw [show decide (p.size <= s.size) = false from decide_eq_false (by omega)]; rfl), rfl⟩
theorem hasp_fc {w0 : World} {S : SS} {s p : ByteArray} : FC Tryz.prog w0 58 [.string s, .string p] S (fun v S' => v = .bool (startsB s p) /\ S' = S) := by
 refine FC.of Tryz.known58 (by simp) ?_
 unfold Tryz.pc58
 simp only [argT]
 refine PW.seqOps (OL.dp rfl (OL.nil (PW.k2 0 1 rfl (PW.seqOps (OL.dp rfl (OL.dp rfl (OL.call trivial rfl (starts_fc) ?_)))))))
 rintro _ _ ⟨rfl, rfl⟩
 refine OL.dp rfl (OL.nil (PW.k1 4 rfl (PW.ret ?_)))
 change (Exit.ret = Exit.normal ∨ Exit.ret = Exit.ret) /\ ∃ v, resV _ _ = some v /\ _
 exact ⟨.inr rfl, _, rfl, rfl, rfl⟩
def mayZ (z : Int) : Bool := (decide (97 <= z) && decide (z <= 122)) || (decide (65 <= z) && decide (z <= 90)) || (decide (48 <= z) && decide (z <= 57)) || decide (z = 95) || decide (z = 45) || decide (z = 46)
def mayB (b : UInt8) : Bool := mayZ b.toNat
def partP (s : ByteArray) : Bool := s.data.toList.all mayB && s.data.toList.any (fun b => b != 46)
theorem part_bad {s : ByteArray} {k : Nat} {b : UInt8} (h : s.data.toList[k]? = some b) (hb : mayB b = false) : partP s = false := by
 unfold partP
 have : s.data.toList.all mayB = false := by
  rw [List.all_eq_false]
  exact ⟨b, List.mem_of_getElem? h, by rw [hb]; simp⟩
 rw [this]; rfl
def dotN (l : List UInt8) : Nat := l.countP (fun b => b == 46)
theorem dot_cons (b : UInt8) (l : List UInt8) : dotN (b :: l) = dotN l + (if b == 46 then 1 else 0) := by unfold dotN; rw [List.countP_cons]
theorem dots_lt (l : List UInt8) : decide ((dotN l : Int) < (l.length : Int)) = l.any (fun b => b != 46) := by
 induction l with
 | nil => rfl
 | cons b l ih =>
  have hle : dotN l <= l.length := List.countP_le_length
  rw [List.any_cons, <- ih]
  have e := dot_cons b l
  have e2 : (b :: l).length = l.length + 1 := rfl
  by_cases hb : b = 46
  ·subst hb
   simp only [beq_self_eq_true, if_true] at e
   rw [bne_self_eq_false, Bool.false_or, decide_eq_decide]; omega
  have h1 : (b == 46) = false := by simpa using hb
  have h2 : (b != 46) = true := by simpa using hb
  rw [h1] at e
  simp only [Bool.false_eq_true, if_false] at e
  rw [h2, Bool.true_or, decide_eq_true_eq]
  omega
theorem part_all {s : ByteArray} {k : Nat} (hk : k = s.size) (h : (s.data.toList.take k).all mayB = true) : partP s = decide ((dotN (s.data.toList.take k) : Int) < (s.size : Int)) := by
 subst hk
 rw [List.take_of_length_le (by simp)] at h ⊢
 unfold partP
 rw [h, <- dots_lt]
 simp
theorem may_fc {w0 : World} {S : SS} {z : Int} : FC Tryz.prog w0 98 [.int .i32 z] S (fun v S' => v = .bool (mayZ z) /\ S' = S) := by
 refine FC.of Tryz.known98 (by simp) ?_
 unfold Tryz.pc98
 simp only [argT]
 refine PW.seqOps (OL.dp rfl (OL.nil (PW.k1 0 rfl (PW.seqOps (OL.dp rfl (OL.dp rfl ?_))))))
 refine OL.bool trivial (Yields.pure rfl) (fun g5 => ?_) (fun g5 => ?_)
 ·try simp only [decide_eq_true_eq, decide_eq_false_iff_not, beq_iff_eq, bne_iff_ne, beq_eq_false_iff_ne, bne_eq_false_iff_eq, Bool.not_eq_true', Bool.not_eq_false', Bool.not_eq_true, ne_eq, Decidable.not_not] at g5
  refine OL.det rfl (.pure rfl) (OL.det rfl (.pure rfl) (OL.dp rfl ?_))
  refine OL.bool trivial (Yields.pure rfl) (fun g9 => ?_) (fun g9 => ?_)
  ·try simp only [decide_eq_true_eq, decide_eq_false_iff_not, beq_iff_eq, bne_iff_ne, beq_eq_false_iff_ne, bne_eq_false_iff_eq, Bool.not_eq_true', Bool.not_eq_false', Bool.not_eq_true, ne_eq, Decidable.not_not] at g9
   refine OL.off rfl rfl (OL.off rfl rfl (OL.off rfl rfl (OL.off rfl rfl (OL.off rfl rfl (OL.off rfl rfl (OL.dp rfl (OL.dp rfl (OL.off rfl rfl (OL.off rfl rfl (OL.off rfl rfl (OL.off rfl rfl ?_)))))))))))
   refine OL.off rfl rfl (OL.off rfl rfl (OL.dp rfl (OL.dp rfl (OL.off rfl rfl (OL.off rfl rfl (OL.dp rfl (OL.dp rfl (OL.off rfl rfl (OL.off rfl rfl (OL.dp rfl (OL.dp rfl ?_)))))))))))
   refine OL.off rfl rfl (OL.off rfl rfl (OL.dp rfl (OL.dp rfl (OL.nil (PW.k1 2 rfl (PW.ret ?_))))))
   change (Exit.ret = Exit.normal ∨ Exit.ret = Exit.ret) /\ ∃ v, resV _ _ = some v /\ _
   refine ⟨.inr rfl, _, rfl, congrArg Value.bool ?_, rfl⟩
   unfold mayZ
   rw [Bool.eq_iff_iff]
   simp only [Bool.or_eq_true, Bool.and_eq_true, decide_eq_true_eq, beq_iff_eq, Bool.false_eq_true, true_iff, false_iff]
   omega
  try simp only [decide_eq_true_eq, decide_eq_false_iff_not, beq_iff_eq, bne_iff_ne, beq_eq_false_iff_ne, bne_eq_false_iff_eq, Bool.not_eq_true', Bool.not_eq_false', Bool.not_eq_true, ne_eq, Decidable.not_not] at g9
  refine OL.det rfl (.pure rfl) (OL.det rfl (.pure rfl) ?_)
  refine OL.bool rfl (Yields.pure rfl) (fun g12 => ?_) (fun g12 => ?_)
  ·try simp only [decide_eq_true_eq, decide_eq_false_iff_not, beq_iff_eq, bne_iff_ne, beq_eq_false_iff_ne, bne_eq_false_iff_eq, Bool.not_eq_true', Bool.not_eq_false', Bool.not_eq_true, ne_eq, Decidable.not_not] at g12
   refine OL.det rfl (.pure rfl) (OL.det rfl (.pure rfl) (OL.det rfl (.pure rfl) (OL.dp rfl ?_)))
   refine OL.bool trivial (Yields.pure rfl) (fun g17 => ?_) (fun g17 => ?_)
   ·try simp only [decide_eq_true_eq, decide_eq_false_iff_not, beq_iff_eq, bne_iff_ne, beq_eq_false_iff_ne, bne_eq_false_iff_eq, Bool.not_eq_true', Bool.not_eq_false', Bool.not_eq_true, ne_eq, Decidable.not_not] at g17
    refine OL.off rfl rfl (OL.off rfl rfl (OL.off rfl rfl (OL.off rfl rfl (OL.off rfl rfl (OL.off rfl rfl (OL.dp rfl (OL.dp rfl (OL.off rfl rfl (OL.off rfl rfl (OL.dp rfl (OL.dp rfl ?_)))))))))))
    refine OL.off rfl rfl (OL.off rfl rfl (OL.dp rfl (OL.dp rfl (OL.off rfl rfl (OL.off rfl rfl (OL.dp rfl (OL.dp rfl (OL.nil (PW.k1 2 rfl (PW.ret ?_))))))))))
    change (Exit.ret = Exit.normal ∨ Exit.ret = Exit.ret) /\ ∃ v, resV _ _ = some v /\ _
    refine ⟨.inr rfl, _, rfl, congrArg Value.bool ?_, rfl⟩
    unfold mayZ
    rw [Bool.eq_iff_iff]
    simp only [Bool.or_eq_true, Bool.and_eq_true, decide_eq_true_eq, beq_iff_eq, Bool.false_eq_true, true_iff, false_iff]
    omega
   try simp only [decide_eq_true_eq, decide_eq_false_iff_not, beq_iff_eq, bne_iff_ne, beq_eq_false_iff_ne, bne_eq_false_iff_eq, Bool.not_eq_true', Bool.not_eq_false', Bool.not_eq_true, ne_eq, Decidable.not_not] at g17
   refine OL.det rfl (.pure rfl) (OL.det rfl (.pure rfl) ?_)
   refine OL.bool rfl (Yields.pure rfl) (fun g20 => ?_) (fun g20 => ?_)
   ·try simp only [decide_eq_true_eq, decide_eq_false_iff_not, beq_iff_eq, bne_iff_ne, beq_eq_false_iff_ne, bne_eq_false_iff_eq, Bool.not_eq_true', Bool.not_eq_false', Bool.not_eq_true, ne_eq, Decidable.not_not] at g20
    refine OL.det rfl (.pure rfl) (OL.det rfl (.pure rfl) (OL.det rfl (.pure rfl) (OL.dp rfl ?_)))
    refine OL.bool trivial (Yields.pure rfl) (fun g25 => ?_) (fun g25 => ?_)
    ·try simp only [decide_eq_true_eq, decide_eq_false_iff_not, beq_iff_eq, bne_iff_ne, beq_eq_false_iff_ne, bne_eq_false_iff_eq, Bool.not_eq_true', Bool.not_eq_false', Bool.not_eq_true, ne_eq, Decidable.not_not] at g25
     refine OL.off rfl rfl (OL.off rfl rfl (OL.dp rfl (OL.dp rfl (OL.off rfl rfl (OL.off rfl rfl (OL.dp rfl (OL.dp rfl (OL.off rfl rfl (OL.off rfl rfl (OL.dp rfl (OL.dp rfl ?_)))))))))))
     refine OL.nil (PW.k1 2 rfl (PW.ret ?_))
     change (Exit.ret = Exit.normal ∨ Exit.ret = Exit.ret) /\ ∃ v, resV _ _ = some v /\ _
     refine ⟨.inr rfl, _, rfl, congrArg Value.bool ?_, rfl⟩
     unfold mayZ
     rw [Bool.eq_iff_iff]
     simp only [Bool.or_eq_true, Bool.and_eq_true, decide_eq_true_eq, beq_iff_eq, Bool.false_eq_true, true_iff, false_iff]
     omega
    try simp only [decide_eq_true_eq, decide_eq_false_iff_not, beq_iff_eq, bne_iff_ne, beq_eq_false_iff_ne, bne_eq_false_iff_eq, Bool.not_eq_true', Bool.not_eq_false', Bool.not_eq_true, ne_eq, Decidable.not_not] at g25
    refine OL.det rfl (.pure rfl) (OL.det rfl (.pure rfl) (OL.dp rfl ?_))
    refine OL.bool trivial (Yields.pure rfl) (fun g29 => ?_) (fun g29 => ?_)
    ·try simp only [decide_eq_true_eq, decide_eq_false_iff_not, beq_iff_eq, bne_iff_ne, beq_eq_false_iff_ne, bne_eq_false_iff_eq, Bool.not_eq_true', Bool.not_eq_false', Bool.not_eq_true, ne_eq, Decidable.not_not] at g29
     refine OL.off rfl rfl (OL.off rfl rfl (OL.dp rfl (OL.dp rfl (OL.off rfl rfl (OL.off rfl rfl (OL.dp rfl (OL.dp rfl (OL.nil (PW.k1 2 rfl (PW.ret ?_))))))))))
     change (Exit.ret = Exit.normal ∨ Exit.ret = Exit.ret) /\ ∃ v, resV _ _ = some v /\ _
     refine ⟨.inr rfl, _, rfl, congrArg Value.bool ?_, rfl⟩
     unfold mayZ
     rw [Bool.eq_iff_iff]
     simp only [Bool.or_eq_true, Bool.and_eq_true, decide_eq_true_eq, beq_iff_eq, Bool.false_eq_true, true_iff, false_iff]
     omega
    try simp only [decide_eq_true_eq, decide_eq_false_iff_not, beq_iff_eq, bne_iff_ne, beq_eq_false_iff_ne, bne_eq_false_iff_eq, Bool.not_eq_true', Bool.not_eq_false', Bool.not_eq_true, ne_eq, Decidable.not_not] at g29
    refine OL.det rfl (.pure rfl) (OL.det rfl (.pure rfl) (OL.dp rfl ?_))
    refine OL.bool trivial (Yields.pure rfl) (fun g33 => ?_) (fun g33 => ?_)
    ·try simp only [decide_eq_true_eq, decide_eq_false_iff_not, beq_iff_eq, bne_iff_ne, beq_eq_false_iff_ne, bne_eq_false_iff_eq, Bool.not_eq_true', Bool.not_eq_false', Bool.not_eq_true, ne_eq, Decidable.not_not] at g33
     refine OL.off rfl rfl (OL.off rfl rfl (OL.dp rfl (OL.dp rfl (OL.nil (PW.k1 2 rfl (PW.ret ?_))))))
     change (Exit.ret = Exit.normal ∨ Exit.ret = Exit.ret) /\ ∃ v, resV _ _ = some v /\ _
     refine ⟨.inr rfl, _, rfl, congrArg Value.bool ?_, rfl⟩
     unfold mayZ
     rw [Bool.eq_iff_iff]
     simp only [Bool.or_eq_true, Bool.and_eq_true, decide_eq_true_eq, beq_iff_eq, Bool.false_eq_true, true_iff, false_iff]
     omega
    try simp only [decide_eq_true_eq, decide_eq_false_iff_not, beq_iff_eq, bne_iff_ne, beq_eq_false_iff_ne, bne_eq_false_iff_eq, Bool.not_eq_true', Bool.not_eq_false', Bool.not_eq_true, ne_eq, Decidable.not_not] at g33
    refine OL.det rfl (.pure rfl) (OL.det rfl (.pure rfl) (OL.dp rfl (OL.dp rfl (OL.nil (PW.k1 2 rfl (PW.ret ?_))))))
    change (Exit.ret = Exit.normal ∨ Exit.ret = Exit.ret) /\ ∃ v, resV _ _ = some v /\ _
    refine ⟨.inr rfl, _, rfl, congrArg Value.bool ?_, rfl⟩
    unfold mayZ
    rw [Bool.eq_iff_iff]
    simp only [Bool.or_eq_true, Bool.and_eq_true, decide_eq_true_eq, beq_iff_eq, Bool.false_eq_true, true_iff, false_iff]
    omega
   try simp only [decide_eq_true_eq, decide_eq_false_iff_not, beq_iff_eq, bne_iff_ne, beq_eq_false_iff_ne, bne_eq_false_iff_eq, Bool.not_eq_true', Bool.not_eq_false', Bool.not_eq_true, ne_eq, Decidable.not_not] at g20
   refine OL.off rfl rfl (OL.off rfl rfl (OL.det rfl (.pure rfl) (OL.dp rfl (OL.dp rfl (OL.det rfl (.pure rfl) (OL.det rfl (.pure rfl) (OL.dp rfl ?_)))))))
   refine OL.bool trivial (Yields.pure rfl) (fun g29 => ?_) (fun g29 => ?_)
   ·try simp only [decide_eq_true_eq, decide_eq_false_iff_not, beq_iff_eq, bne_iff_ne, beq_eq_false_iff_ne, bne_eq_false_iff_eq, Bool.not_eq_true', Bool.not_eq_false', Bool.not_eq_true, ne_eq, Decidable.not_not] at g29
    refine OL.off rfl rfl (OL.off rfl rfl (OL.dp rfl (OL.dp rfl (OL.off rfl rfl (OL.off rfl rfl (OL.dp rfl (OL.dp rfl (OL.nil (PW.k1 2 rfl (PW.ret ?_))))))))))
    change (Exit.ret = Exit.normal ∨ Exit.ret = Exit.ret) /\ ∃ v, resV _ _ = some v /\ _
    refine ⟨.inr rfl, _, rfl, congrArg Value.bool ?_, rfl⟩
    unfold mayZ
    rw [Bool.eq_iff_iff]
    simp only [Bool.or_eq_true, Bool.and_eq_true, decide_eq_true_eq, beq_iff_eq, Bool.false_eq_true, true_iff, false_iff]
    omega
   try simp only [decide_eq_true_eq, decide_eq_false_iff_not, beq_iff_eq, bne_iff_ne, beq_eq_false_iff_ne, bne_eq_false_iff_eq, Bool.not_eq_true', Bool.not_eq_false', Bool.not_eq_true, ne_eq, Decidable.not_not] at g29
   refine OL.det rfl (.pure rfl) (OL.det rfl (.pure rfl) (OL.dp rfl ?_))
   refine OL.bool trivial (Yields.pure rfl) (fun g33 => ?_) (fun g33 => ?_)
   ·try simp only [decide_eq_true_eq, decide_eq_false_iff_not, beq_iff_eq, bne_iff_ne, beq_eq_false_iff_ne, bne_eq_false_iff_eq, Bool.not_eq_true', Bool.not_eq_false', Bool.not_eq_true, ne_eq, Decidable.not_not] at g33
    refine OL.off rfl rfl (OL.off rfl rfl (OL.dp rfl (OL.dp rfl (OL.nil (PW.k1 2 rfl (PW.ret ?_))))))
    change (Exit.ret = Exit.normal ∨ Exit.ret = Exit.ret) /\ ∃ v, resV _ _ = some v /\ _
    refine ⟨.inr rfl, _, rfl, congrArg Value.bool ?_, rfl⟩
    unfold mayZ
    rw [Bool.eq_iff_iff]
    simp only [Bool.or_eq_true, Bool.and_eq_true, decide_eq_true_eq, beq_iff_eq, Bool.false_eq_true, true_iff, false_iff]
    omega
   try simp only [decide_eq_true_eq, decide_eq_false_iff_not, beq_iff_eq, bne_iff_ne, beq_eq_false_iff_ne, bne_eq_false_iff_eq, Bool.not_eq_true', Bool.not_eq_false', Bool.not_eq_true, ne_eq, Decidable.not_not] at g33
   refine OL.det rfl (.pure rfl) (OL.det rfl (.pure rfl) (OL.dp rfl (OL.dp rfl (OL.nil (PW.k1 2 rfl (PW.ret ?_))))))
   change (Exit.ret = Exit.normal ∨ Exit.ret = Exit.ret) /\ ∃ v, resV _ _ = some v /\ _
   refine ⟨.inr rfl, _, rfl, congrArg Value.bool ?_, rfl⟩
   unfold mayZ
   rw [Bool.eq_iff_iff]
   simp only [Bool.or_eq_true, Bool.and_eq_true, decide_eq_true_eq, beq_iff_eq, Bool.false_eq_true, true_iff, false_iff]
   omega
  try simp only [decide_eq_true_eq, decide_eq_false_iff_not, beq_iff_eq, bne_iff_ne, beq_eq_false_iff_ne, bne_eq_false_iff_eq, Bool.not_eq_true', Bool.not_eq_false', Bool.not_eq_true, ne_eq, Decidable.not_not] at g12
  refine OL.off rfl rfl (OL.off rfl rfl (OL.det rfl (.pure rfl) (OL.dp rfl (OL.dp rfl (OL.det rfl (.pure rfl) (OL.det rfl (.pure rfl) ?_))))))
  refine OL.bool rfl (Yields.pure rfl) (fun g20 => ?_) (fun g20 => ?_)
  ·try simp only [decide_eq_true_eq, decide_eq_false_iff_not, beq_iff_eq, bne_iff_ne, beq_eq_false_iff_ne, bne_eq_false_iff_eq, Bool.not_eq_true', Bool.not_eq_false', Bool.not_eq_true, ne_eq, Decidable.not_not] at g20
   refine OL.det rfl (.pure rfl) (OL.det rfl (.pure rfl) (OL.det rfl (.pure rfl) (OL.dp rfl ?_)))
   refine OL.bool trivial (Yields.pure rfl) (fun g25 => ?_) (fun g25 => ?_)
   ·try simp only [decide_eq_true_eq, decide_eq_false_iff_not, beq_iff_eq, bne_iff_ne, beq_eq_false_iff_ne, bne_eq_false_iff_eq, Bool.not_eq_true', Bool.not_eq_false', Bool.not_eq_true, ne_eq, Decidable.not_not] at g25
    refine OL.off rfl rfl (OL.off rfl rfl (OL.dp rfl (OL.dp rfl (OL.off rfl rfl (OL.off rfl rfl (OL.dp rfl (OL.dp rfl (OL.off rfl rfl (OL.off rfl rfl (OL.dp rfl (OL.dp rfl ?_)))))))))))
    refine OL.nil (PW.k1 2 rfl (PW.ret ?_))
    change (Exit.ret = Exit.normal ∨ Exit.ret = Exit.ret) /\ ∃ v, resV _ _ = some v /\ _
    refine ⟨.inr rfl, _, rfl, congrArg Value.bool ?_, rfl⟩
    unfold mayZ
    rw [Bool.eq_iff_iff]
    simp only [Bool.or_eq_true, Bool.and_eq_true, decide_eq_true_eq, beq_iff_eq, Bool.false_eq_true, true_iff, false_iff]
    omega
   try simp only [decide_eq_true_eq, decide_eq_false_iff_not, beq_iff_eq, bne_iff_ne, beq_eq_false_iff_ne, bne_eq_false_iff_eq, Bool.not_eq_true', Bool.not_eq_false', Bool.not_eq_true, ne_eq, Decidable.not_not] at g25
   refine OL.det rfl (.pure rfl) (OL.det rfl (.pure rfl) (OL.dp rfl ?_))
   refine OL.bool trivial (Yields.pure rfl) (fun g29 => ?_) (fun g29 => ?_)
   ·try simp only [decide_eq_true_eq, decide_eq_false_iff_not, beq_iff_eq, bne_iff_ne, beq_eq_false_iff_ne, bne_eq_false_iff_eq, Bool.not_eq_true', Bool.not_eq_false', Bool.not_eq_true, ne_eq, Decidable.not_not] at g29
    refine OL.off rfl rfl (OL.off rfl rfl (OL.dp rfl (OL.dp rfl (OL.off rfl rfl (OL.off rfl rfl (OL.dp rfl (OL.dp rfl (OL.nil (PW.k1 2 rfl (PW.ret ?_))))))))))
    change (Exit.ret = Exit.normal ∨ Exit.ret = Exit.ret) /\ ∃ v, resV _ _ = some v /\ _
    refine ⟨.inr rfl, _, rfl, congrArg Value.bool ?_, rfl⟩
    unfold mayZ
    rw [Bool.eq_iff_iff]
    simp only [Bool.or_eq_true, Bool.and_eq_true, decide_eq_true_eq, beq_iff_eq, Bool.false_eq_true, true_iff, false_iff]
    omega
   try simp only [decide_eq_true_eq, decide_eq_false_iff_not, beq_iff_eq, bne_iff_ne, beq_eq_false_iff_ne, bne_eq_false_iff_eq, Bool.not_eq_true', Bool.not_eq_false', Bool.not_eq_true, ne_eq, Decidable.not_not] at g29
   refine OL.det rfl (.pure rfl) (OL.det rfl (.pure rfl) (OL.dp rfl ?_))
   refine OL.bool trivial (Yields.pure rfl) (fun g33 => ?_) (fun g33 => ?_)
   ·try simp only [decide_eq_true_eq, decide_eq_false_iff_not, beq_iff_eq, bne_iff_ne, beq_eq_false_iff_ne, bne_eq_false_iff_eq, Bool.not_eq_true', Bool.not_eq_false', Bool.not_eq_true, ne_eq, Decidable.not_not] at g33
    refine OL.off rfl rfl (OL.off rfl rfl (OL.dp rfl (OL.dp rfl (OL.nil (PW.k1 2 rfl (PW.ret ?_))))))
    change (Exit.ret = Exit.normal ∨ Exit.ret = Exit.ret) /\ ∃ v, resV _ _ = some v /\ _
    refine ⟨.inr rfl, _, rfl, congrArg Value.bool ?_, rfl⟩
    unfold mayZ
    rw [Bool.eq_iff_iff]
    simp only [Bool.or_eq_true, Bool.and_eq_true, decide_eq_true_eq, beq_iff_eq, Bool.false_eq_true, true_iff, false_iff]
    omega
   try simp only [decide_eq_true_eq, decide_eq_false_iff_not, beq_iff_eq, bne_iff_ne, beq_eq_false_iff_ne, bne_eq_false_iff_eq, Bool.not_eq_true', Bool.not_eq_false', Bool.not_eq_true, ne_eq, Decidable.not_not] at g33
   refine OL.det rfl (.pure rfl) (OL.det rfl (.pure rfl) (OL.dp rfl (OL.dp rfl (OL.nil (PW.k1 2 rfl (PW.ret ?_))))))
   change (Exit.ret = Exit.normal ∨ Exit.ret = Exit.ret) /\ ∃ v, resV _ _ = some v /\ _
   refine ⟨.inr rfl, _, rfl, congrArg Value.bool ?_, rfl⟩
   unfold mayZ
   rw [Bool.eq_iff_iff]
   simp only [Bool.or_eq_true, Bool.and_eq_true, decide_eq_true_eq, beq_iff_eq, Bool.false_eq_true, true_iff, false_iff]
   omega
  try simp only [decide_eq_true_eq, decide_eq_false_iff_not, beq_iff_eq, bne_iff_ne, beq_eq_false_iff_ne, bne_eq_false_iff_eq, Bool.not_eq_true', Bool.not_eq_false', Bool.not_eq_true, ne_eq, Decidable.not_not] at g20
  refine OL.off rfl rfl (OL.off rfl rfl (OL.det rfl (.pure rfl) (OL.dp rfl (OL.dp rfl (OL.det rfl (.pure rfl) (OL.det rfl (.pure rfl) (OL.dp rfl ?_)))))))
  refine OL.bool trivial (Yields.pure rfl) (fun g29 => ?_) (fun g29 => ?_)
  ·try simp only [decide_eq_true_eq, decide_eq_false_iff_not, beq_iff_eq, bne_iff_ne, beq_eq_false_iff_ne, bne_eq_false_iff_eq, Bool.not_eq_true', Bool.not_eq_false', Bool.not_eq_true, ne_eq, Decidable.not_not] at g29
   refine OL.off rfl rfl (OL.off rfl rfl (OL.dp rfl (OL.dp rfl (OL.off rfl rfl (OL.off rfl rfl (OL.dp rfl (OL.dp rfl (OL.nil (PW.k1 2 rfl (PW.ret ?_))))))))))
   change (Exit.ret = Exit.normal ∨ Exit.ret = Exit.ret) /\ ∃ v, resV _ _ = some v /\ _
   refine ⟨.inr rfl, _, rfl, congrArg Value.bool ?_, rfl⟩
   unfold mayZ
   rw [Bool.eq_iff_iff]
   simp only [Bool.or_eq_true, Bool.and_eq_true, decide_eq_true_eq, beq_iff_eq, Bool.false_eq_true, true_iff, false_iff]
   omega
  try simp only [decide_eq_true_eq, decide_eq_false_iff_not, beq_iff_eq, bne_iff_ne, beq_eq_false_iff_ne, bne_eq_false_iff_eq, Bool.not_eq_true', Bool.not_eq_false', Bool.not_eq_true, ne_eq, Decidable.not_not] at g29
  refine OL.det rfl (.pure rfl) (OL.det rfl (.pure rfl) (OL.dp rfl ?_))
  refine OL.bool trivial (Yields.pure rfl) (fun g33 => ?_) (fun g33 => ?_)
  ·try simp only [decide_eq_true_eq, decide_eq_false_iff_not, beq_iff_eq, bne_iff_ne, beq_eq_false_iff_ne, bne_eq_false_iff_eq, Bool.not_eq_true', Bool.not_eq_false', Bool.not_eq_true, ne_eq, Decidable.not_not] at g33
   refine OL.off rfl rfl (OL.off rfl rfl (OL.dp rfl (OL.dp rfl (OL.nil (PW.k1 2 rfl (PW.ret ?_))))))
   change (Exit.ret = Exit.normal ∨ Exit.ret = Exit.ret) /\ ∃ v, resV _ _ = some v /\ _
   refine ⟨.inr rfl, _, rfl, congrArg Value.bool ?_, rfl⟩
   unfold mayZ
   rw [Bool.eq_iff_iff]
   simp only [Bool.or_eq_true, Bool.and_eq_true, decide_eq_true_eq, beq_iff_eq, Bool.false_eq_true, true_iff, false_iff]
   omega
  try simp only [decide_eq_true_eq, decide_eq_false_iff_not, beq_iff_eq, bne_iff_ne, beq_eq_false_iff_ne, bne_eq_false_iff_eq, Bool.not_eq_true', Bool.not_eq_false', Bool.not_eq_true, ne_eq, Decidable.not_not] at g33
  refine OL.det rfl (.pure rfl) (OL.det rfl (.pure rfl) (OL.dp rfl (OL.dp rfl (OL.nil (PW.k1 2 rfl (PW.ret ?_))))))
  change (Exit.ret = Exit.normal ∨ Exit.ret = Exit.ret) /\ ∃ v, resV _ _ = some v /\ _
  refine ⟨.inr rfl, _, rfl, congrArg Value.bool ?_, rfl⟩
  unfold mayZ
  rw [Bool.eq_iff_iff]
  simp only [Bool.or_eq_true, Bool.and_eq_true, decide_eq_true_eq, beq_iff_eq, Bool.false_eq_true, true_iff, false_iff]
  omega
 try simp only [decide_eq_true_eq, decide_eq_false_iff_not, beq_iff_eq, bne_iff_ne, beq_eq_false_iff_ne, bne_eq_false_iff_eq, Bool.not_eq_true', Bool.not_eq_false', Bool.not_eq_true, ne_eq, Decidable.not_not] at g5
 refine OL.off rfl rfl (OL.off rfl rfl (OL.dp rfl (OL.dp rfl (OL.det rfl (.pure rfl) (OL.det rfl (.pure rfl) ?_)))))
 refine OL.bool rfl (Yields.pure rfl) (fun g12 => ?_) (fun g12 => ?_)
 ·try simp only [decide_eq_true_eq, decide_eq_false_iff_not, beq_iff_eq, bne_iff_ne, beq_eq_false_iff_ne, bne_eq_false_iff_eq, Bool.not_eq_true', Bool.not_eq_false', Bool.not_eq_true, ne_eq, Decidable.not_not] at g12
  refine OL.det rfl (.pure rfl) (OL.det rfl (.pure rfl) (OL.det rfl (.pure rfl) (OL.dp rfl ?_)))
  refine OL.bool trivial (Yields.pure rfl) (fun g17 => ?_) (fun g17 => ?_)
  ·try simp only [decide_eq_true_eq, decide_eq_false_iff_not, beq_iff_eq, bne_iff_ne, beq_eq_false_iff_ne, bne_eq_false_iff_eq, Bool.not_eq_true', Bool.not_eq_false', Bool.not_eq_true, ne_eq, Decidable.not_not] at g17
   refine OL.off rfl rfl (OL.off rfl rfl (OL.off rfl rfl (OL.off rfl rfl (OL.off rfl rfl (OL.off rfl rfl (OL.dp rfl (OL.dp rfl (OL.off rfl rfl (OL.off rfl rfl (OL.dp rfl (OL.dp rfl ?_)))))))))))
   refine OL.off rfl rfl (OL.off rfl rfl (OL.dp rfl (OL.dp rfl (OL.off rfl rfl (OL.off rfl rfl (OL.dp rfl (OL.dp rfl (OL.nil (PW.k1 2 rfl (PW.ret ?_))))))))))
   change (Exit.ret = Exit.normal ∨ Exit.ret = Exit.ret) /\ ∃ v, resV _ _ = some v /\ _
   refine ⟨.inr rfl, _, rfl, congrArg Value.bool ?_, rfl⟩
   unfold mayZ
   rw [Bool.eq_iff_iff]
   simp only [Bool.or_eq_true, Bool.and_eq_true, decide_eq_true_eq, beq_iff_eq, Bool.false_eq_true, true_iff, false_iff]
   omega
  try simp only [decide_eq_true_eq, decide_eq_false_iff_not, beq_iff_eq, bne_iff_ne, beq_eq_false_iff_ne, bne_eq_false_iff_eq, Bool.not_eq_true', Bool.not_eq_false', Bool.not_eq_true, ne_eq, Decidable.not_not] at g17
  refine OL.det rfl (.pure rfl) (OL.det rfl (.pure rfl) ?_)
  refine OL.bool rfl (Yields.pure rfl) (fun g20 => ?_) (fun g20 => ?_)
  ·try simp only [decide_eq_true_eq, decide_eq_false_iff_not, beq_iff_eq, bne_iff_ne, beq_eq_false_iff_ne, bne_eq_false_iff_eq, Bool.not_eq_true', Bool.not_eq_false', Bool.not_eq_true, ne_eq, Decidable.not_not] at g20
   refine OL.det rfl (.pure rfl) (OL.det rfl (.pure rfl) (OL.det rfl (.pure rfl) (OL.dp rfl ?_)))
   refine OL.bool trivial (Yields.pure rfl) (fun g25 => ?_) (fun g25 => ?_)
   ·try simp only [decide_eq_true_eq, decide_eq_false_iff_not, beq_iff_eq, bne_iff_ne, beq_eq_false_iff_ne, bne_eq_false_iff_eq, Bool.not_eq_true', Bool.not_eq_false', Bool.not_eq_true, ne_eq, Decidable.not_not] at g25
    refine OL.off rfl rfl (OL.off rfl rfl (OL.dp rfl (OL.dp rfl (OL.off rfl rfl (OL.off rfl rfl (OL.dp rfl (OL.dp rfl (OL.off rfl rfl (OL.off rfl rfl (OL.dp rfl (OL.dp rfl ?_)))))))))))
    refine OL.nil (PW.k1 2 rfl (PW.ret ?_))
    change (Exit.ret = Exit.normal ∨ Exit.ret = Exit.ret) /\ ∃ v, resV _ _ = some v /\ _
    refine ⟨.inr rfl, _, rfl, congrArg Value.bool ?_, rfl⟩
    unfold mayZ
    rw [Bool.eq_iff_iff]
    simp only [Bool.or_eq_true, Bool.and_eq_true, decide_eq_true_eq, beq_iff_eq, Bool.false_eq_true, true_iff, false_iff]
    omega
   try simp only [decide_eq_true_eq, decide_eq_false_iff_not, beq_iff_eq, bne_iff_ne, beq_eq_false_iff_ne, bne_eq_false_iff_eq, Bool.not_eq_true', Bool.not_eq_false', Bool.not_eq_true, ne_eq, Decidable.not_not] at g25
   refine OL.det rfl (.pure rfl) (OL.det rfl (.pure rfl) (OL.dp rfl ?_))
   refine OL.bool trivial (Yields.pure rfl) (fun g29 => ?_) (fun g29 => ?_)
   ·try simp only [decide_eq_true_eq, decide_eq_false_iff_not, beq_iff_eq, bne_iff_ne, beq_eq_false_iff_ne, bne_eq_false_iff_eq, Bool.not_eq_true', Bool.not_eq_false', Bool.not_eq_true, ne_eq, Decidable.not_not] at g29
    refine OL.off rfl rfl (OL.off rfl rfl (OL.dp rfl (OL.dp rfl (OL.off rfl rfl (OL.off rfl rfl (OL.dp rfl (OL.dp rfl (OL.nil (PW.k1 2 rfl (PW.ret ?_))))))))))
    change (Exit.ret = Exit.normal ∨ Exit.ret = Exit.ret) /\ ∃ v, resV _ _ = some v /\ _
    refine ⟨.inr rfl, _, rfl, congrArg Value.bool ?_, rfl⟩
    unfold mayZ
    rw [Bool.eq_iff_iff]
    simp only [Bool.or_eq_true, Bool.and_eq_true, decide_eq_true_eq, beq_iff_eq, Bool.false_eq_true, true_iff, false_iff]
    omega
   try simp only [decide_eq_true_eq, decide_eq_false_iff_not, beq_iff_eq, bne_iff_ne, beq_eq_false_iff_ne, bne_eq_false_iff_eq, Bool.not_eq_true', Bool.not_eq_false', Bool.not_eq_true, ne_eq, Decidable.not_not] at g29
   refine OL.det rfl (.pure rfl) (OL.det rfl (.pure rfl) (OL.dp rfl ?_))
   refine OL.bool trivial (Yields.pure rfl) (fun g33 => ?_) (fun g33 => ?_)
   ·try simp only [decide_eq_true_eq, decide_eq_false_iff_not, beq_iff_eq, bne_iff_ne, beq_eq_false_iff_ne, bne_eq_false_iff_eq, Bool.not_eq_true', Bool.not_eq_false', Bool.not_eq_true, ne_eq, Decidable.not_not] at g33
    refine OL.off rfl rfl (OL.off rfl rfl (OL.dp rfl (OL.dp rfl (OL.nil (PW.k1 2 rfl (PW.ret ?_))))))
    change (Exit.ret = Exit.normal ∨ Exit.ret = Exit.ret) /\ ∃ v, resV _ _ = some v /\ _
    refine ⟨.inr rfl, _, rfl, congrArg Value.bool ?_, rfl⟩
    unfold mayZ
    rw [Bool.eq_iff_iff]
    simp only [Bool.or_eq_true, Bool.and_eq_true, decide_eq_true_eq, beq_iff_eq, Bool.false_eq_true, true_iff, false_iff]
    omega
   try simp only [decide_eq_true_eq, decide_eq_false_iff_not, beq_iff_eq, bne_iff_ne, beq_eq_false_iff_ne, bne_eq_false_iff_eq, Bool.not_eq_true', Bool.not_eq_false', Bool.not_eq_true, ne_eq, Decidable.not_not] at g33
   refine OL.det rfl (.pure rfl) (OL.det rfl (.pure rfl) (OL.dp rfl (OL.dp rfl (OL.nil (PW.k1 2 rfl (PW.ret ?_))))))
   change (Exit.ret = Exit.normal ∨ Exit.ret = Exit.ret) /\ ∃ v, resV _ _ = some v /\ _
   refine ⟨.inr rfl, _, rfl, congrArg Value.bool ?_, rfl⟩
   unfold mayZ
   rw [Bool.eq_iff_iff]
   simp only [Bool.or_eq_true, Bool.and_eq_true, decide_eq_true_eq, beq_iff_eq, Bool.false_eq_true, true_iff, false_iff]
   omega
  try simp only [decide_eq_true_eq, decide_eq_false_iff_not, beq_iff_eq, bne_iff_ne, beq_eq_false_iff_ne, bne_eq_false_iff_eq, Bool.not_eq_true', Bool.not_eq_false', Bool.not_eq_true, ne_eq, Decidable.not_not] at g20
  refine OL.off rfl rfl (OL.off rfl rfl (OL.det rfl (.pure rfl) (OL.dp rfl (OL.dp rfl (OL.det rfl (.pure rfl) (OL.det rfl (.pure rfl) (OL.dp rfl ?_)))))))
  refine OL.bool trivial (Yields.pure rfl) (fun g29 => ?_) (fun g29 => ?_)
  ·try simp only [decide_eq_true_eq, decide_eq_false_iff_not, beq_iff_eq, bne_iff_ne, beq_eq_false_iff_ne, bne_eq_false_iff_eq, Bool.not_eq_true', Bool.not_eq_false', Bool.not_eq_true, ne_eq, Decidable.not_not] at g29
   refine OL.off rfl rfl (OL.off rfl rfl (OL.dp rfl (OL.dp rfl (OL.off rfl rfl (OL.off rfl rfl (OL.dp rfl (OL.dp rfl (OL.nil (PW.k1 2 rfl (PW.ret ?_))))))))))
   change (Exit.ret = Exit.normal ∨ Exit.ret = Exit.ret) /\ ∃ v, resV _ _ = some v /\ _
   refine ⟨.inr rfl, _, rfl, congrArg Value.bool ?_, rfl⟩
   unfold mayZ
   rw [Bool.eq_iff_iff]
   simp only [Bool.or_eq_true, Bool.and_eq_true, decide_eq_true_eq, beq_iff_eq, Bool.false_eq_true, true_iff, false_iff]
   omega
  try simp only [decide_eq_true_eq, decide_eq_false_iff_not, beq_iff_eq, bne_iff_ne, beq_eq_false_iff_ne, bne_eq_false_iff_eq, Bool.not_eq_true', Bool.not_eq_false', Bool.not_eq_true, ne_eq, Decidable.not_not] at g29
  refine OL.det rfl (.pure rfl) (OL.det rfl (.pure rfl) (OL.dp rfl ?_))
  refine OL.bool trivial (Yields.pure rfl) (fun g33 => ?_) (fun g33 => ?_)
  ·try simp only [decide_eq_true_eq, decide_eq_false_iff_not, beq_iff_eq, bne_iff_ne, beq_eq_false_iff_ne, bne_eq_false_iff_eq, Bool.not_eq_true', Bool.not_eq_false', Bool.not_eq_true, ne_eq, Decidable.not_not] at g33
   refine OL.off rfl rfl (OL.off rfl rfl (OL.dp rfl (OL.dp rfl (OL.nil (PW.k1 2 rfl (PW.ret ?_))))))
   change (Exit.ret = Exit.normal ∨ Exit.ret = Exit.ret) /\ ∃ v, resV _ _ = some v /\ _
   refine ⟨.inr rfl, _, rfl, congrArg Value.bool ?_, rfl⟩
   unfold mayZ
   rw [Bool.eq_iff_iff]
   simp only [Bool.or_eq_true, Bool.and_eq_true, decide_eq_true_eq, beq_iff_eq, Bool.false_eq_true, true_iff, false_iff]
   omega
  try simp only [decide_eq_true_eq, decide_eq_false_iff_not, beq_iff_eq, bne_iff_ne, beq_eq_false_iff_ne, bne_eq_false_iff_eq, Bool.not_eq_true', Bool.not_eq_false', Bool.not_eq_true, ne_eq, Decidable.not_not] at g33
  refine OL.det rfl (.pure rfl) (OL.det rfl (.pure rfl) (OL.dp rfl (OL.dp rfl (OL.nil (PW.k1 2 rfl (PW.ret ?_))))))
  change (Exit.ret = Exit.normal ∨ Exit.ret = Exit.ret) /\ ∃ v, resV _ _ = some v /\ _
  refine ⟨.inr rfl, _, rfl, congrArg Value.bool ?_, rfl⟩
  unfold mayZ
  rw [Bool.eq_iff_iff]
  simp only [Bool.or_eq_true, Bool.and_eq_true, decide_eq_true_eq, beq_iff_eq, Bool.false_eq_true, true_iff, false_iff]
  omega
 try simp only [decide_eq_true_eq, decide_eq_false_iff_not, beq_iff_eq, bne_iff_ne, beq_eq_false_iff_ne, bne_eq_false_iff_eq, Bool.not_eq_true', Bool.not_eq_false', Bool.not_eq_true, ne_eq, Decidable.not_not] at g12
 refine OL.off rfl rfl (OL.off rfl rfl (OL.det rfl (.pure rfl) (OL.dp rfl (OL.dp rfl (OL.det rfl (.pure rfl) (OL.det rfl (.pure rfl) ?_))))))
 refine OL.bool rfl (Yields.pure rfl) (fun g20 => ?_) (fun g20 => ?_)
 ·try simp only [decide_eq_true_eq, decide_eq_false_iff_not, beq_iff_eq, bne_iff_ne, beq_eq_false_iff_ne, bne_eq_false_iff_eq, Bool.not_eq_true', Bool.not_eq_false', Bool.not_eq_true, ne_eq, Decidable.not_not] at g20
  refine OL.det rfl (.pure rfl) (OL.det rfl (.pure rfl) (OL.det rfl (.pure rfl) (OL.dp rfl ?_)))
  refine OL.bool trivial (Yields.pure rfl) (fun g25 => ?_) (fun g25 => ?_)
  ·try simp only [decide_eq_true_eq, decide_eq_false_iff_not, beq_iff_eq, bne_iff_ne, beq_eq_false_iff_ne, bne_eq_false_iff_eq, Bool.not_eq_true', Bool.not_eq_false', Bool.not_eq_true, ne_eq, Decidable.not_not] at g25
   refine OL.off rfl rfl (OL.off rfl rfl (OL.dp rfl (OL.dp rfl (OL.off rfl rfl (OL.off rfl rfl (OL.dp rfl (OL.dp rfl (OL.off rfl rfl (OL.off rfl rfl (OL.dp rfl (OL.dp rfl ?_)))))))))))
   refine OL.nil (PW.k1 2 rfl (PW.ret ?_))
   change (Exit.ret = Exit.normal ∨ Exit.ret = Exit.ret) /\ ∃ v, resV _ _ = some v /\ _
   refine ⟨.inr rfl, _, rfl, congrArg Value.bool ?_, rfl⟩
   unfold mayZ
   rw [Bool.eq_iff_iff]
   simp only [Bool.or_eq_true, Bool.and_eq_true, decide_eq_true_eq, beq_iff_eq, Bool.false_eq_true, true_iff, false_iff]
   omega
  try simp only [decide_eq_true_eq, decide_eq_false_iff_not, beq_iff_eq, bne_iff_ne, beq_eq_false_iff_ne, bne_eq_false_iff_eq, Bool.not_eq_true', Bool.not_eq_false', Bool.not_eq_true, ne_eq, Decidable.not_not] at g25
  refine OL.det rfl (.pure rfl) (OL.det rfl (.pure rfl) (OL.dp rfl ?_))
  refine OL.bool trivial (Yields.pure rfl) (fun g29 => ?_) (fun g29 => ?_)
  ·try simp only [decide_eq_true_eq, decide_eq_false_iff_not, beq_iff_eq, bne_iff_ne, beq_eq_false_iff_ne, bne_eq_false_iff_eq, Bool.not_eq_true', Bool.not_eq_false', Bool.not_eq_true, ne_eq, Decidable.not_not] at g29
   refine OL.off rfl rfl (OL.off rfl rfl (OL.dp rfl (OL.dp rfl (OL.off rfl rfl (OL.off rfl rfl (OL.dp rfl (OL.dp rfl (OL.nil (PW.k1 2 rfl (PW.ret ?_))))))))))
   change (Exit.ret = Exit.normal ∨ Exit.ret = Exit.ret) /\ ∃ v, resV _ _ = some v /\ _
   refine ⟨.inr rfl, _, rfl, congrArg Value.bool ?_, rfl⟩
   unfold mayZ
   rw [Bool.eq_iff_iff]
   simp only [Bool.or_eq_true, Bool.and_eq_true, decide_eq_true_eq, beq_iff_eq, Bool.false_eq_true, true_iff, false_iff]
   omega
  try simp only [decide_eq_true_eq, decide_eq_false_iff_not, beq_iff_eq, bne_iff_ne, beq_eq_false_iff_ne, bne_eq_false_iff_eq, Bool.not_eq_true', Bool.not_eq_false', Bool.not_eq_true, ne_eq, Decidable.not_not] at g29
  refine OL.det rfl (.pure rfl) (OL.det rfl (.pure rfl) (OL.dp rfl ?_))
  refine OL.bool trivial (Yields.pure rfl) (fun g33 => ?_) (fun g33 => ?_)
  ·try simp only [decide_eq_true_eq, decide_eq_false_iff_not, beq_iff_eq, bne_iff_ne, beq_eq_false_iff_ne, bne_eq_false_iff_eq, Bool.not_eq_true', Bool.not_eq_false', Bool.not_eq_true, ne_eq, Decidable.not_not] at g33
   refine OL.off rfl rfl (OL.off rfl rfl (OL.dp rfl (OL.dp rfl (OL.nil (PW.k1 2 rfl (PW.ret ?_))))))
   change (Exit.ret = Exit.normal ∨ Exit.ret = Exit.ret) /\ ∃ v, resV _ _ = some v /\ _
   refine ⟨.inr rfl, _, rfl, congrArg Value.bool ?_, rfl⟩
   unfold mayZ
   rw [Bool.eq_iff_iff]
   simp only [Bool.or_eq_true, Bool.and_eq_true, decide_eq_true_eq, beq_iff_eq, Bool.false_eq_true, true_iff, false_iff]
   omega
  try simp only [decide_eq_true_eq, decide_eq_false_iff_not, beq_iff_eq, bne_iff_ne, beq_eq_false_iff_ne, bne_eq_false_iff_eq, Bool.not_eq_true', Bool.not_eq_false', Bool.not_eq_true, ne_eq, Decidable.not_not] at g33
  refine OL.det rfl (.pure rfl) (OL.det rfl (.pure rfl) (OL.dp rfl (OL.dp rfl (OL.nil (PW.k1 2 rfl (PW.ret ?_))))))
  change (Exit.ret = Exit.normal ∨ Exit.ret = Exit.ret) /\ ∃ v, resV _ _ = some v /\ _
  refine ⟨.inr rfl, _, rfl, congrArg Value.bool ?_, rfl⟩
  unfold mayZ
  rw [Bool.eq_iff_iff]
  simp only [Bool.or_eq_true, Bool.and_eq_true, decide_eq_true_eq, beq_iff_eq, Bool.false_eq_true, true_iff, false_iff]
  omega
 try simp only [decide_eq_true_eq, decide_eq_false_iff_not, beq_iff_eq, bne_iff_ne, beq_eq_false_iff_ne, bne_eq_false_iff_eq, Bool.not_eq_true', Bool.not_eq_false', Bool.not_eq_true, ne_eq, Decidable.not_not] at g20
 refine OL.off rfl rfl (OL.off rfl rfl (OL.det rfl (.pure rfl) (OL.dp rfl (OL.dp rfl (OL.det rfl (.pure rfl) (OL.det rfl (.pure rfl) (OL.dp rfl ?_)))))))
 refine OL.bool trivial (Yields.pure rfl) (fun g29 => ?_) (fun g29 => ?_)
 ·try simp only [decide_eq_true_eq, decide_eq_false_iff_not, beq_iff_eq, bne_iff_ne, beq_eq_false_iff_ne, bne_eq_false_iff_eq, Bool.not_eq_true', Bool.not_eq_false', Bool.not_eq_true, ne_eq, Decidable.not_not] at g29
  refine OL.off rfl rfl (OL.off rfl rfl (OL.dp rfl (OL.dp rfl (OL.off rfl rfl (OL.off rfl rfl (OL.dp rfl (OL.dp rfl (OL.nil (PW.k1 2 rfl (PW.ret ?_))))))))))
  change (Exit.ret = Exit.normal ∨ Exit.ret = Exit.ret) /\ ∃ v, resV _ _ = some v /\ _
  refine ⟨.inr rfl, _, rfl, congrArg Value.bool ?_, rfl⟩
  unfold mayZ
  rw [Bool.eq_iff_iff]
  simp only [Bool.or_eq_true, Bool.and_eq_true, decide_eq_true_eq, beq_iff_eq, Bool.false_eq_true, true_iff, false_iff]
  omega
 try simp only [decide_eq_true_eq, decide_eq_false_iff_not, beq_iff_eq, bne_iff_ne, beq_eq_false_iff_ne, bne_eq_false_iff_eq, Bool.not_eq_true', Bool.not_eq_false', Bool.not_eq_true, ne_eq, Decidable.not_not] at g29
 refine OL.det rfl (.pure rfl) (OL.det rfl (.pure rfl) (OL.dp rfl ?_))
 refine OL.bool trivial (Yields.pure rfl) (fun g33 => ?_) (fun g33 => ?_)
 ·try simp only [decide_eq_true_eq, decide_eq_false_iff_not, beq_iff_eq, bne_iff_ne, beq_eq_false_iff_ne, bne_eq_false_iff_eq, Bool.not_eq_true', Bool.not_eq_false', Bool.not_eq_true, ne_eq, Decidable.not_not] at g33
  refine OL.off rfl rfl (OL.off rfl rfl (OL.dp rfl (OL.dp rfl (OL.nil (PW.k1 2 rfl (PW.ret ?_))))))
  change (Exit.ret = Exit.normal ∨ Exit.ret = Exit.ret) /\ ∃ v, resV _ _ = some v /\ _
  refine ⟨.inr rfl, _, rfl, congrArg Value.bool ?_, rfl⟩
  unfold mayZ
  rw [Bool.eq_iff_iff]
  simp only [Bool.or_eq_true, Bool.and_eq_true, decide_eq_true_eq, beq_iff_eq, Bool.false_eq_true, true_iff, false_iff]
  omega
 try simp only [decide_eq_true_eq, decide_eq_false_iff_not, beq_iff_eq, bne_iff_ne, beq_eq_false_iff_ne, bne_eq_false_iff_eq, Bool.not_eq_true', Bool.not_eq_false', Bool.not_eq_true, ne_eq, Decidable.not_not] at g33
 refine OL.det rfl (.pure rfl) (OL.det rfl (.pure rfl) (OL.dp rfl (OL.dp rfl (OL.nil (PW.k1 2 rfl (PW.ret ?_))))))
 change (Exit.ret = Exit.normal ∨ Exit.ret = Exit.ret) /\ ∃ v, resV _ _ = some v /\ _
 refine ⟨.inr rfl, _, rfl, congrArg Value.bool ?_, rfl⟩
 unfold mayZ
 rw [Bool.eq_iff_iff]
 simp only [Bool.or_eq_true, Bool.and_eq_true, decide_eq_true_eq, beq_iff_eq, Bool.false_eq_true, true_iff, false_iff]
 omega
theorem part_fc {w0 : World} {S : SS} {s : ByteArray} (hs : s.size <= 1000000000) : FC Tryz.prog w0 73 [.string s] S (fun v S' => v = .bool (partP s) /\ S' = S) := by
 refine FC.ofD Tryz.known73 (by simp) ?_
 unfold Tryz.pc73
 simp only [argT]
 refine PW.seqOps (OL.dp rfl (OL.nil (PW.k1 0 rfl (PW.seqOps (OL.dp rfl (OL.nil (PW.k2 0 3 rfl ?_)))))))
 refine PW.seq fun K1 hK1 => ?_
 refine PW.seqOps (OL.dp rfl (OL.cons trivial (OW.rngS rfl) ?_))
 rintro _ _ ⟨r7, rfl, rfl⟩
 refine OL.nil (PW.k3 0 3 7 rfl (PW.block (PW.k3 0 3 7 rfl ?_)))
 refine PW.loopK (I := fun m T S' => ∃ (k d : Nat), (k <= s.size /\ m = s.size - k /\ (s.data.toList.take k).all mayB = true /\ d = dotN (s.data.toList.take k) /\ d <= k) /\ T = ([(0, .string s), (3, .int .i64 (d : Int)), (7, .pointer (some ⟨r7, 0, none⟩))] : TT) /\ S' = [(r7, .obj (.stringIter s k))] :: S) (m := s.size) ⟨0, 0, ⟨by omega, by omega, rfl, rfl, by omega⟩, rfl, rfl⟩ ?_
 rintro m _ _ ⟨k, d, ⟨hk, hm, hall, hd, hdk⟩, rfl, rfl⟩
 refine PW.seqOps ?_
 refine OL.nxt (k := 0) rfl rfl ?_ ?_
 ·intro hp
  refine OL.nil (PW.k5 0 3 7 8 9 rfl ?_)
  refine PW.seq fun K2 hK2 => ?_
  refine PW.ite (b := true) rfl ?_
  rw [if_pos rfl]
  refine PW.skip (hK2 _ _ (PW.k4 0 3 7 8 rfl (PW.block (PW.seqOps ?_))))
  obtain ⟨b, hb, hb2, htk, hbe⟩ := ba_get hp
  have hdec := dec_ok hp hbe
  refine OL.dp rfl (OL.dp rfl (OL.nil (PW.k4 0 3 5 7 rfl ?_)))
  refine PW.seq fun K3 hK3 => ?_
  refine PW.seqOps (OL.dp rfl (OL.call trivial rfl (may_fc) ?_))
  rintro _ Sx ⟨rfl, hSx⟩
  rw [hSx]
  clear hSx
  refine OL.dp rfl (OL.nil (PW.k5 0 3 5 7 13 rfl ?_))
  refine PW.cond rfl (fun c13 => ?_) (fun c13 => ?_)
  ·try simp only [decide_eq_true_eq, decide_eq_false_iff_not, beq_iff_eq, bne_iff_ne, beq_eq_false_iff_ne, bne_eq_false_iff_eq, Bool.not_eq_true', Bool.not_eq_false', Bool.not_eq_true, ne_eq, Decidable.not_not] at c13
   refine PW.seqOps (OL.dp rfl (OL.nil (PW.k1 2 rfl (PW.ret ?_))))
   change (Exit.ret = Exit.normal ∨ Exit.ret = Exit.ret) /\ ∃ v, resV _ _ = some v /\ _
   have hbad : mayB b = false := by
    rcases hdec with ⟨e0, e1, _⟩ | ⟨e0, e1⟩
    ·rw [e1] at c13; exact c13
    unfold mayB mayZ; rw [Bool.eq_iff_iff]; simp only [Bool.or_eq_true, Bool.and_eq_true, decide_eq_true_eq, Bool.false_eq_true, iff_false]; omega
   exact ⟨.inr rfl, _, rfl, _, Sub.drop (Sub.refl _), by rw [part_bad hb2 hbad], rfl⟩
  try simp only [decide_eq_true_eq, decide_eq_false_iff_not, beq_iff_eq, bne_iff_ne, beq_eq_false_iff_ne, bne_eq_false_iff_eq, Bool.not_eq_true', Bool.not_eq_false', Bool.not_eq_true, ne_eq, Decidable.not_not] at c13
  have hmz : mayZ ((Utf8.decode s k).1 : Int) = true := c13
  have hdec2 : (Utf8.decode s k).1 = b.toNat /\ (Utf8.decode s k).2 = 1 := by
   rcases hdec with ⟨_, e1, e2⟩ | ⟨e0, e1⟩
   ·exact ⟨e1, e2⟩
   exfalso
   revert hmz
   unfold mayZ; simp only [Bool.or_eq_true, Bool.and_eq_true, decide_eq_true_eq]; omega
  obtain ⟨h1, h2⟩ := hdec2
  refine PW.skip (hK3 _ _ (PW.k4 0 3 5 7 rfl (PW.seqOps (OL.dp rfl (OL.dp rfl (OL.nil (PW.k4 0 3 7 15 rfl ?_)))))))
  refine PW.cond rfl (fun c15 => ?_) (fun c15 => ?_)
  ·try simp only [decide_eq_true_eq, decide_eq_false_iff_not, beq_iff_eq, bne_iff_ne, beq_eq_false_iff_ne, bne_eq_false_iff_eq, Bool.not_eq_true', Bool.not_eq_false', Bool.not_eq_true, ne_eq, Decidable.not_not] at c15
   refine PW.ops (OL.dp rfl ?_)
   refine OL.det trivial (.add64 rfl rfl (by omega) (by omega)) ?_
   refine OL.dp rfl (OL.nil ?_)
   repeat rw [inBlk_n]
   try rw [thenK_n]
   refine LoopEnd.mk (T'' := [(0, _), (3, _), (7, _)]) (wi rfl) ?_
   have hz : mayB b = true := by rw [<- hmz]; unfold mayB; rw [h1]
   rw [h1] at c15
   refine ⟨s.size - (k + 1), by omega, k + 1, d + 1, ⟨by omega, rfl, ?_, ?_, by omega⟩, rfl, by rw [h2]; rfl⟩
   ·rw [htk, List.all_append, hall]; simp [hz]
   rw [htk]; unfold dotN at hd ⊢; rw [List.countP_append, <- hd]
   have : b = 46 := UInt8.toNat_inj.1 (by show b.toNat = 46; omega)
   simp [this]
  try simp only [decide_eq_true_eq, decide_eq_false_iff_not, beq_iff_eq, bne_iff_ne, beq_eq_false_iff_ne, bne_eq_false_iff_eq, Bool.not_eq_true', Bool.not_eq_false', Bool.not_eq_true, ne_eq, Decidable.not_not] at c15
  refine PW.skip ?_
  repeat rw [inBlk_n]
  try rw [thenK_n]
  refine LoopEnd.mk (T'' := [(0, _), (3, _), (7, _)]) (wi rfl) ?_
  have hz : mayB b = true := by rw [<- hmz]; unfold mayB; rw [h1]
  rw [h1] at c15
  refine ⟨s.size - (k + 1), by omega, k + 1, d, ⟨by omega, rfl, ?_, ?_, by omega⟩, rfl, by rw [h2]; rfl⟩
  ·rw [htk, List.all_append, hall]; simp [hz]
  rw [htk]; unfold dotN at hd ⊢; rw [List.countP_append, <- hd]
  have : b ≠ 46 := fun e => c15 (by rw [e]; rfl)
  simp [this]
 intro hp
 refine OL.nil (PW.k5 0 3 7 8 9 rfl ?_)
 refine PW.seq fun K4 hK4 => ?_
 refine PW.ite (b := false) rfl ?_
 rw [if_neg Bool.false_ne_true]
 refine PW.exit (hK1 _ _ (PW.k2 0 3 rfl (PW.seqOps (OL.dp rfl (OL.dp rfl (OL.dp rfl (OL.dp rfl (OL.dp rfl (OL.nil (PW.k1 2 rfl (PW.ret ?_)))))))))))
 change (Exit.ret = Exit.normal ∨ Exit.ret = Exit.ret) /\ ∃ v, resV _ _ = some v /\ _
 exact ⟨.inr rfl, _, rfl, _, Sub.drop (Sub.refl _), by rw [part_all (k := k) (by omega) hall, <- hd], rfl⟩
theorem is1_fc {w0 : World} {S : SS} {s : ByteArray} (hs : s.size <= 1000000000) : FC Tryz.prog w0 72 [.string s] S (fun v S' => v = .bool (!(partP s)) /\ S' = S) := by
 refine FC.of Tryz.known72 (by simp) ?_
 unfold Tryz.pc72
 simp only [argT]
 refine PW.seqOps (OL.dp rfl (OL.nil (PW.k1 0 rfl (PW.seqOps (OL.dp rfl (OL.call trivial rfl (part_fc hs) ?_))))))
 rintro _ Sx ⟨rfl, hSx⟩
 rw [hSx]
 clear hSx
 refine OL.dp rfl (OL.dp rfl (OL.nil (PW.k1 2 rfl (PW.ret ?_))))
 change (Exit.ret = Exit.normal ∨ Exit.ret = Exit.ret) /\ ∃ v, resV _ _ = some v /\ _
 exact ⟨.inr rfl, _, rfl, rfl, rfl⟩
def idxQ (q : ByteArray -> Bool) (ls : List ByteArray) (z : Int) : Prop := (0 <= z ↔ ls.any q = true)
theorem any_take {q : ByteArray -> Bool} {ls : List ByteArray} {k : Nat} (h : k < ls.length) : (ls.take (k + 1)).any q = ((ls.take k).any q || q ls[k]) := by
 rw [List.take_add_one, List.getElem?_eq_getElem h, List.any_append]
 simp only [Option.toList, List.any_cons, List.any_nil, Bool.or_false]
theorem indexF_fc {w0 : World} {S : SS} {A : Option Addr} {cap g : Nat} {ls : List ByteArray} {q : ByteArray -> Bool} (hx : Rd w0 S A (strs ls)) (hb : ls.length <= 1000000000) (hok : fnOk Tryz.prog g = true) (hq : ∀ s ∈ ls, FC Tryz.prog w0 g [.string s] S (fun v S' => v = .bool (q s) /\ S' = S)) :
  FC Tryz.prog w0 97 [.slice A ls.length cap, .func (.func g) #[] #[]] S (fun v S' => ∃ z, v = .int .i64 z /\ idxQ q ls z /\ S' = S) := by
 refine FC.of Tryz.known97 (by simp) ?_
 unfold Tryz.pc97
 simp only [argT]
 refine PW.seqOps (OL.dp rfl (OL.nil (PW.k2 0 1 rfl ?_)))
 refine PW.seq fun K1 hK1 => ?_
 refine PW.seqOps (OL.dp rfl (OL.dp rfl (OL.dp rfl (OL.nil (PW.k4 0 1 7 8 rfl (PW.block (PW.k4 0 1 7 8 rfl ?_)))))))
 refine PW.loopK (I := fun m T S' => ∃ (k : Nat), (k <= ls.length /\ m = ls.length - k /\ (ls.take k).any q = false) /\ T = ([(0, .slice A ls.length cap), (1, .func (.func g) #[] #[]), (7, .int .i64 (ls.length : Int)), (8, .int .i64 k)] : TT) /\ S' = S) (m := ls.length) ⟨0, ⟨by omega, by omega, rfl⟩, rfl, rfl⟩ ?_
 rintro m _ _ ⟨k, ⟨hk, hm, hall⟩, rfl, rfl⟩
 refine PW.seqOps (OL.dp rfl (OL.nil (PW.k5 0 1 7 8 9 rfl ?_)))
 refine PW.seq fun K2 hK2 => ?_
 refine PW.cond rfl (fun c9 => ?_) (fun c9 => ?_)
 ·try simp only [decide_eq_true_eq, decide_eq_false_iff_not, beq_iff_eq, bne_iff_ne, beq_eq_false_iff_ne, bne_eq_false_iff_eq, Bool.not_eq_true', Bool.not_eq_false', Bool.not_eq_true, ne_eq, Decidable.not_not] at c9
  have hkl : k < ls.length := by omega
  obtain ⟨b0, rfl⟩ := hx.some (strs_ne (by omega))
  refine PW.skip (hK2 _ _ (PW.k4 0 1 7 8 rfl ?_))
  refine PW.seq fun K3 hK3 => ?_
  refine PW.block (PW.seqOps (OL.dp rfl (OL.dp rfl (OL.nil (PW.k5 0 1 5 7 8 rfl (PW.seqOps (OL.dp rfl (OL.dp rfl (OL.dp rfl ?_)))))))))
  refine OL.det trivial (.ixN1 rfl rfl rfl (by omega)) ?_
  refine OL.det trivial (.ld rfl (strs_at hx hkl)) (OL.cons trivial (OW.callv (fi := []) (ca := []) rfl hok rfl (hq _ (List.getElem_mem hkl))) ?_)
  rintro _ Sx ⟨rfl, hSx⟩
  rw [hSx]
  clear hSx
  refine OL.nil (PW.k6 0 1 5 7 8 16 rfl ?_)
  refine PW.cond rfl (fun c16 => ?_) (fun c16 => ?_)
  ·try simp only [decide_eq_true_eq, decide_eq_false_iff_not, beq_iff_eq, bne_iff_ne, beq_eq_false_iff_ne, bne_eq_false_iff_eq, Bool.not_eq_true', Bool.not_eq_false', Bool.not_eq_true, ne_eq, Decidable.not_not] at c16
   refine PW.seqOps (OL.dp rfl (OL.dp rfl (OL.nil (PW.k1 4 rfl (PW.ret ?_)))))
   change (Exit.ret = Exit.normal ∨ Exit.ret = Exit.ret) /\ ∃ v, resV _ _ = some v /\ _
   exact ⟨.inr rfl, _, rfl, _, rfl, ⟨fun _ => List.any_eq_true.2 ⟨_, List.getElem_mem hkl, c16⟩, fun _ => by omega⟩, rfl⟩
  try simp only [decide_eq_true_eq, decide_eq_false_iff_not, beq_iff_eq, bne_iff_ne, beq_eq_false_iff_ne, bne_eq_false_iff_eq, Bool.not_eq_true', Bool.not_eq_false', Bool.not_eq_true, ne_eq, Decidable.not_not] at c16
  refine PW.skip (hK3 _ _ (PW.k4 0 1 7 8 rfl (PW.ops ?_)))
  refine OL.det trivial (.add64 rfl rfl (by omega) (by omega)) ?_
  refine OL.dp rfl (OL.nil ?_)
  repeat rw [inBlk_n]
  try rw [thenK_n]
  refine LoopEnd.mk (T'' := [(0, _), (1, _), (7, _), (8, _)]) (wi rfl) ?_
  refine ⟨ls.length - (k + 1), by omega, k + 1, ⟨by omega, rfl, ?_⟩, by simp, rfl⟩
  rw [any_take hkl, hall, c16]; rfl
 try simp only [decide_eq_true_eq, decide_eq_false_iff_not, beq_iff_eq, bne_iff_ne, beq_eq_false_iff_ne, bne_eq_false_iff_eq, Bool.not_eq_true', Bool.not_eq_false', Bool.not_eq_true, ne_eq, Decidable.not_not] at c9
 refine PW.exit (hK1 _ _ (PW.keep (T' := []) trivial (PW.seqOps (OL.dp rfl (OL.nil (PW.k1 4 rfl (PW.ret ?_)))))))
 change (Exit.ret = Exit.normal ∨ Exit.ret = Exit.ret) /\ ∃ v, resV _ _ = some v /\ _
 obtain rfl : k = ls.length := by omega
 rw [List.take_length] at hall
 exact ⟨.inr rfl, _, rfl, _, rfl, ⟨fun h => absurd h (by omega), fun h => by rw [hall] at h; cases h⟩, rfl⟩
theorem contains_fc {w0 : World} {S : SS} {A : Option Addr} {cap g : Nat} {ls : List ByteArray} {q : ByteArray -> Bool} (hx : Rd w0 S A (strs ls)) (hb : ls.length <= 1000000000) (hok : fnOk Tryz.prog g = true) (hq : ∀ s ∈ ls, FC Tryz.prog w0 g [.string s] S (fun v S' => v = .bool (q s) /\ S' = S)) :
  FC Tryz.prog w0 71 [.slice A ls.length cap, .func (.func g) #[] #[]] S (fun v S' => v = .bool (ls.any q) /\ S' = S) := by
 refine FC.of Tryz.known71 (by simp) ?_
 unfold Tryz.pc71
 simp only [argT]
 refine PW.seqOps (OL.dp rfl (OL.nil (PW.k2 0 1 rfl (PW.seqOps (OL.dp rfl (OL.dp rfl (OL.call trivial rfl (indexF_fc hx hb hok hq) ?_)))))))
 rintro _ Sx ⟨z, rfl, hz, hSx⟩
 rw [hSx]
 clear hSx
 refine OL.dp rfl (OL.dp rfl (OL.nil (PW.k1 4 rfl (PW.ret ?_))))
 change (Exit.ret = Exit.normal ∨ Exit.ret = Exit.ret) /\ ∃ v, resV _ _ = some v /\ _
 exact ⟨.inr rfl, _, rfl, congrArg Value.bool (by rw [Bool.eq_iff_iff, <- (show 0 <= z ↔ ls.any q = true from hz)]; simp), rfl⟩
def resL (w0 : World) (ls : List ByteArray) (S : SS) (v : Value) (S' : SS) : Prop := ∃ A cap seg, v = .slice A ls.length cap /\ S' = seg :: S /\ ∀ S2, Rd w0 (seg :: S2) A (strs ls)
theorem setAt_mid (ds : List ByteArray) (x : ByteArray) (e : Value) (k : Nat) : setAt (strs ds ++ List.replicate (k + 1) e) ds.length (Value.string x).cells.toList = strs (ds ++ [x]) ++ List.replicate k e := by
 rw [show (Value.string x).cells.toList = [Value.string x] from rfl, setAt_eq _ _ _ (by simp [strs])]
 rw [List.take_left' (by simp [strs])]
 have e1 : ds.length + [Value.string x].length = (strs ds).length + 1 := by simp [strs]
 rw [e1, <- List.drop_drop, List.drop_left, List.replicate_succ]
 simp [strs]
theorem num_cons {p r : List UInt8} (h : ∀ b ∈ p, b ≠ 47) : Lib.countByte (p ++ 47 :: r) 47 = Lib.countByte r 47 + 1 := by
 unfold Lib.countByte
 rw [List.count_append, List.count_cons_self, List.count_eq_zero.2 (fun hm => h 47 hm rfl)]
 omega
theorem num_no {l : List UInt8} (h : ∀ b ∈ l, b ≠ 47) : Lib.countByte l 47 = 0 := List.count_eq_zero.2 (fun hm => h 47 hm rfl)
theorem num_le (s : ByteArray) : numP s <= s.size := by
 have : Lib.countByte s.data.toList 47 <= s.data.toList.length := List.count_le_length
 simpa [numP] using this
theorem no_of_num {s : ByteArray} (h : numP s = 0) : ∀ b ∈ s.data.toList, b ≠ 47 := fun b hb e => by
 subst e
 have := List.count_pos_iff.2 hb
 unfold numP Lib.countByte at h
 omega
def partsP (s : ByteArray) : List ByteArray := cutL s.data.toList
theorem parts_len (s : ByteArray) : (partsP s).length = numP s + 1 := cut_len _
theorem gen_fc {w0 : World} {S : SS} {s : ByteArray} (hs : s.size <= 1000000000) : FC Tryz.prog w0 96 [.string s, .string slB, .int .i64 0, .int .i64 (-1)] S (resL w0 (partsP s) S) := by
 have hnum := num_le s
 have hsl : slB.size = 1 := rfl
 refine FC.of Tryz.known96 (by simp) ?_
 unfold Tryz.pc96
 simp only [argT]
 refine PW.seqOps (OL.dp rfl (OL.nil (PW.k4 0 1 2 3 rfl ?_)))
 refine PW.seq fun K1 hK1 => ?_
 refine PW.seqOps (OL.dp rfl (OL.dp rfl (OL.nil (PW.k5 0 1 2 3 13 rfl ?_))))
 refine PW.cond rfl (fun c13 => ?_) (fun c13 => ?_)
 ·try simp only [decide_eq_true_eq, decide_eq_false_iff_not, beq_iff_eq, bne_iff_ne, beq_eq_false_iff_ne, bne_eq_false_iff_eq, Bool.not_eq_true', Bool.not_eq_false', Bool.not_eq_true, ne_eq, Decidable.not_not] at c13
  exfalso; revert c13; decide
  -- done
 try simp only [decide_eq_true_eq, decide_eq_false_iff_not, beq_iff_eq, bne_iff_ne, beq_eq_false_iff_ne, bne_eq_false_iff_eq, Bool.not_eq_true', Bool.not_eq_false', Bool.not_eq_true, ne_eq, Decidable.not_not] at c13
 refine PW.skip (hK1 _ _ (PW.k4 0 1 2 3 rfl ?_))
 refine PW.seq fun K2 hK2 => ?_
 refine PW.seqOps (OL.dp rfl (OL.dp rfl (OL.nil (PW.k5 0 1 2 3 15 rfl ?_))))
 refine PW.cond rfl (fun c15 => ?_) (fun c15 => ?_)
 ·try simp only [decide_eq_true_eq, decide_eq_false_iff_not, beq_iff_eq, bne_iff_ne, beq_eq_false_iff_ne, bne_eq_false_iff_eq, Bool.not_eq_true', Bool.not_eq_false', Bool.not_eq_true, ne_eq, Decidable.not_not] at c15
  exfalso; have c := toL_inj.1 c15; revert c; decide
  -- done
 try simp only [decide_eq_true_eq, decide_eq_false_iff_not, beq_iff_eq, bne_iff_ne, beq_eq_false_iff_ne, bne_eq_false_iff_eq, Bool.not_eq_true', Bool.not_eq_false', Bool.not_eq_true, ne_eq, Decidable.not_not] at c15
 refine PW.skip (hK2 _ _ (PW.k4 0 1 2 3 rfl ?_))
 refine PW.seq fun K3 hK3 => ?_
 refine PW.seqOps (OL.dp rfl (OL.dp rfl (OL.nil (PW.k5 0 1 2 3 20 rfl ?_))))
 refine PW.cond rfl (fun c20 => ?_) (fun c20 => ?_)
 ·try simp only [decide_eq_true_eq, decide_eq_false_iff_not, beq_iff_eq, bne_iff_ne, beq_eq_false_iff_ne, bne_eq_false_iff_eq, Bool.not_eq_true', Bool.not_eq_false', Bool.not_eq_true, ne_eq, Decidable.not_not] at c20
  refine PW.ops (OL.dp rfl (OL.dp rfl (OL.call trivial rfl (count_fc) ?_)))
  rintro _ Sx ⟨rfl, hSx⟩
  rw [hSx]
  clear hSx
  refine OL.det trivial (.add64 rfl rfl (by omega) (by omega)) ?_
  refine OL.dp rfl (OL.nil (hK3 _ _ (PW.k4 0 1 2 3 rfl (PW.seqOps (OL.dp rfl (OL.dp rfl (OL.dp rfl ?_)))))))
  refine OL.det trivial (.add64 rfl rfl (by omega) (by omega)) ?_
  refine OL.det trivial (.to (v' := .int .i64 ((numP s + 1 : Nat) : Int)) (Yields.pure rfl) (by congr 1; simp only [Bool.false_eq_true, if_false]; split <;> omega)) ?_
  refine OL.dp rfl (OL.nil (PW.k4 0 1 2 3 rfl (PW.seqOps (OL.dp rfl ?_))))
  refine OL.cons trivial (OW.mkS_full (m := numP s + 1) rfl rfl (by omega) (by unfold maxLen; omega)) ?_
  rintro _ _ ⟨r9, rfl, rfl⟩
  rw [made1 _ rfl]
  refine OL.dp rfl (OL.nil (PW.k5 0 1 2 3 9 rfl (PW.seqOps (OL.dp rfl ?_))))
  refine OL.det trivial (.to (v' := .int .i64 (numP s : Int)) (Yields.sub64 rfl rfl (by omega) (by omega)) (by congr 1; omega)) ?_
  refine OL.dp rfl (OL.nil (PW.k5 0 1 2 3 9 rfl (PW.seqOps (OL.dp rfl (OL.nil (PW.k6 0 1 2 3 9 10 rfl ?_))))))
  refine PW.seq fun K4 hK4 => ?_
  refine PW.block (PW.k6 0 1 2 3 9 10 rfl ?_)
  refine PW.loopK (I := fun m T S' => ∃ (t : ByteArray) (ds : List ByteArray), (cutL s.data.toList = ds ++ cutL t.data.toList /\ ds.length + numP t = numP s /\ t.size <= s.size /\ m = numP t) /\ T = ([(0, .string t), (1, .string slB), (2, .int .i64 0), (3, .int .i64 (numP s : Int)), (9, .slice (some ⟨r9, 0, none⟩) (numP s + 1) (numP s + 1)), (10, .int .i64 (ds.length : Int))] : TT) /\ S' = [(r9, .cells (strs ds ++ List.replicate (numP t + 1) (.string ⟨#[]⟩)) 9 ((numP s + 1) * 1))] :: S) (m := numP s) ⟨s, [], ⟨rfl, by simp, by omega, rfl⟩, rfl, rfl⟩ ?_
  rintro m _ _ ⟨t, ds, ⟨hcut, hdn, hts, hm⟩, rfl, rfl⟩
  refine PW.seq fun K5 hK5 => ?_
  refine PW.seqOps (OL.dp rfl (OL.dp rfl (OL.dp rfl (OL.nil (PW.k7 0 1 2 3 9 10 36 rfl ?_)))))
  refine PW.cond rfl (fun c36 => ?_) (fun c36 => ?_)
  ·try simp only [decide_eq_true_eq, decide_eq_false_iff_not, beq_iff_eq, bne_iff_ne, beq_eq_false_iff_ne, bne_eq_false_iff_eq, Bool.not_eq_true', Bool.not_eq_false', Bool.not_eq_true, ne_eq, Decidable.not_not] at c36
   refine PW.skip (hK5 _ _ (PW.k6 0 1 2 3 9 10 rfl (PW.block (PW.seqOps (OL.dp rfl (OL.dp rfl (OL.call trivial rfl (sindex_fc) ?_)))))))
   rintro _ _ ⟨rfl, rfl⟩
   refine OL.dp rfl (OL.nil (PW.k7 0 1 2 3 9 10 11 rfl ?_))
   refine PW.seq fun K6 hK6 => ?_
   refine PW.seqOps (OL.dp rfl (OL.dp rfl (OL.nil (PW.k8 0 1 2 3 9 10 11 41 rfl ?_))))
   refine PW.cond rfl (fun c41 => ?_) (fun c41 => ?_)
   ·try simp only [decide_eq_true_eq, decide_eq_false_iff_not, beq_iff_eq, bne_iff_ne, beq_eq_false_iff_ne, bne_eq_false_iff_eq, Bool.not_eq_true', Bool.not_eq_false', Bool.not_eq_true, ne_eq, Decidable.not_not] at c41
    exfalso; have := num_no ((idx_spec t).2 (by omega)); unfold numP at *; omega
    -- done
   try simp only [decide_eq_true_eq, decide_eq_false_iff_not, beq_iff_eq, bne_iff_ne, beq_eq_false_iff_ne, bne_eq_false_iff_eq, Bool.not_eq_true', Bool.not_eq_false', Bool.not_eq_true, ne_eq, Decidable.not_not] at c41
   obtain ⟨p, r, ht, hp, hi⟩ := (idx_spec t).1 (by omega)
   have htl : t.size = p.length + 1 + r.length := by have := congrArg List.length ht; simp at this; omega
   have hnt : numP t = Lib.countByte r 47 + 1 := by unfold numP; rw [ht]; exact num_cons hp
   have hex : t.extract 0 p.length = ⟨p.toArray⟩ := ba_ext (by rw [ext_list, ht]; simp)
   have hex2 : (t.extract (p.length + 1) t.size).data.toList = r := by
    rw [ext_list, ht, htl, show p ++ 47 :: r = (p ++ [47]) ++ r by simp, List.take_of_length_le (by simp; omega), List.drop_left' (by simp)]
   refine PW.skip (hK6 _ _ (PW.k7 0 1 2 3 9 10 11 rfl (PW.seqOps (OL.dp rfl (OL.dp rfl (OL.dp rfl (OL.dp rfl (OL.dp rfl ?_))))))))
   refine OL.det trivial (.to (v' := .int .i64 (p.length : Int)) (Yields.add64 rfl rfl (by omega) (by omega)) (by congr 1; omega)) ?_
   refine OL.det trivial (Yields.slStr (s := t) (l := 0) (h := p.length) rfl rfl rfl (.inr ⟨rfl, rfl⟩) (.inl rfl) (by omega) (by omega)) ?_
   refine OL.det trivial (.to (v' := .pointer (some ⟨r9, ds.length, none⟩)) (Yields.ixN1 rfl rfl rfl (by omega)) (by rw [add_own])) ?_
   refine OL.cons trivial (OW.st (k := 0) (u := .string (t.extract 0 p.length)) rfl rfl rfl rfl (by simp [strs]) rfl) ?_
   rintro _ _ rfl
   rw [setAt_mid]
   refine OL.nil (PW.k7 0 1 2 3 9 10 11 rfl (PW.seqOps (OL.dp rfl (OL.dp rfl (OL.dp rfl (OL.dp rfl ?_))))))
   refine OL.det trivial (.to (v' := .int .i64 ((p.length + 1 : Nat) : Int)) (Yields.add64 rfl rfl (by rw [hsl]; omega) (by rw [hsl]; omega)) (by congr 1; rw [hsl]; omega)) ?_
   refine OL.det trivial (Yields.slStr (s := t) (l := p.length + 1) (h := t.size) rfl rfl rfl (.inl rfl) (.inr ⟨rfl, rfl⟩) (by omega) (by omega)) ?_
   refine OL.dp rfl (OL.nil (PW.k6 0 1 2 3 9 10 rfl (PW.ops (OL.dp rfl ?_))))
   refine OL.det trivial (.add64 rfl rfl (by omega) (by omega)) ?_
   refine OL.dp rfl (OL.nil ?_)
   repeat rw [inBlk_n]
   try rw [thenK_n]
   refine LoopEnd.mk (T'' := [(0, _), (1, _), (2, _), (3, _), (9, _), (10, _)]) (wi rfl) ?_
   have e3 : numP (t.extract (p.length + 1) t.size) + 1 = numP t := by unfold numP; rw [hex2, ht, num_cons hp]
   refine ⟨numP (t.extract (p.length + 1) t.size), by omega, t.extract (p.length + 1) t.size, ds ++ [t.extract 0 p.length], ⟨?_, by simp; omega, by simp; omega, rfl⟩, by simp, ?_⟩
   ·rw [hcut, ht, cut_cons p r hp, hex2, hex]; simp
   rw [e3]; rfl
  try simp only [decide_eq_true_eq, decide_eq_false_iff_not, beq_iff_eq, bne_iff_ne, beq_eq_false_iff_ne, bne_eq_false_iff_eq, Bool.not_eq_true', Bool.not_eq_false', Bool.not_eq_true, ne_eq, Decidable.not_not] at c36
  refine PW.exit (hK4 _ _ (PW.k3 0 9 10 rfl (PW.seqOps ?_)))
  have hz : numP t = 0 := by omega
  rw [hz]
  refine OL.dp rfl (OL.dp rfl (OL.dp rfl ?_))
  refine OL.det trivial (.to (v' := .pointer (some ⟨r9, ds.length, none⟩)) (Yields.ixN1 rfl rfl rfl (by omega)) (by rw [add_own])) ?_
  refine OL.cons trivial (OW.st (k := 0) (u := .string t) rfl rfl rfl rfl (by simp [strs]) rfl) ?_
  rintro _ _ rfl
  rw [setAt_mid, List.replicate_zero, List.append_nil]
  refine OL.nil (PW.k2 9 10 rfl (PW.seqOps (OL.dp rfl (OL.dp rfl ?_))))
  refine OL.det trivial (.to (v' := .int .i64 ((ds.length + 1 : Nat) : Int)) (Yields.add64 rfl rfl (by omega) (by omega)) (by congr 1)) ?_
  refine OL.det trivial (.slS (l := 0) (h := ds.length + 1) rfl rfl rfl (.inr ⟨rfl, rfl⟩) (.inl rfl) (by omega) (by omega)) ?_
  rw [cutV0]
  refine OL.dp rfl (OL.nil (PW.k1 8 rfl (PW.ret ?_)))
  change (Exit.ret = Exit.normal ∨ Exit.ret = Exit.ret) /\ ∃ v, resV _ _ = some v /\ _
  have he : partsP s = ds ++ [t] := by
   unfold partsP
   rw [hcut, cut_no _ (no_of_num hz)]
  have hlen : (partsP s).length = ds.length + 1 := by rw [he]; simp
  exact ⟨.inr rfl, _, rfl, some ⟨r9, 0, none⟩, numP s + 1, _, by rw [hlen], rfl, fun S2 => by
   rw [he]
   exact (Rd.own (xs := strs (ds ++ [t])) (E := 9) (tot := (numP s + 1) * 1) (by simp))⟩
 try simp only [decide_eq_true_eq, decide_eq_false_iff_not, beq_iff_eq, bne_iff_ne, beq_eq_false_iff_ne, bne_eq_false_iff_eq, Bool.not_eq_true', Bool.not_eq_false', Bool.not_eq_true, ne_eq, Decidable.not_not] at c20
 exfalso; revert c20; decide
 -- done
theorem split_fc {w0 : World} {S : SS} {s : ByteArray} (hs : s.size <= 1000000000) : FC Tryz.prog w0 70 [.string s, .string slB] S (resL w0 (partsP s) S) := by
 refine FC.of Tryz.known70 (by simp) ?_
 unfold Tryz.pc70
 simp only [argT]
 refine PW.seqOps (OL.dp rfl (OL.nil (PW.k2 0 1 rfl (PW.seqOps (OL.dp rfl (OL.dp rfl (OL.call trivial rfl (gen_fc hs) ?_)))))))
 rintro _ _ ⟨A, cap, seg, rfl, rfl, hrd⟩
 refine OL.dp rfl (OL.nil (PW.k1 4 rfl (PW.ret ?_)))
 change (Exit.ret = Exit.normal ∨ Exit.ret = Exit.ret) /\ ∃ v, resV _ _ = some v /\ _
 exact ⟨.inr rfl, _, rfl, A, cap, seg, rfl, rfl, hrd⟩
end Go.Proofs
