/- What slices read as; helpers of a walk. -/
import Derived.Test.YtbidjnjbiibdeaaDoorSl6
set_option linter.unusedVariables false
set_option linter.unusedSimpArgs false
namespace Go.SL
open Go.RowKit

section
variable {P : Program} {w0 : World} {n : Nat} {T : TT} {S : SS}

/-- the cells from an address on read so -/
def Rd (w0 : World) (S : SS) (A : Option Addr) (cs : List Value) : Prop := ∀ j v, cs[j]? = some v → ∃ a, A = some a ∧ Cell w0 S (a.add j) v
theorem Rd.mono {S S' : SS} {A : Option Addr} {cs : List Value} (h : Rd w0 S A cs) (hs : ∀ p ∈ S.flatten, p ∈ S'.flatten) : Rd w0 S' A cs :=
  fun j v hj => let ⟨a, e, hc⟩ := h j v hj; ⟨a, e, hc.mono hs⟩
theorem Rd.any {S : SS} {A : Option Addr} {cs : List Value} (h : Rd w0 [] A cs) : Rd w0 S A cs := h.mono (by simp)
theorem Rd.cons {S : SS} {s : Seg} {A : Option Addr} {cs : List Value} (h : Rd w0 S A cs) : Rd w0 (s :: S) A cs := h.mono (fun p hp => by simp [hp])
theorem Rd.nil {S : SS} {A : Option Addr} : Rd w0 S A [] := fun j v h => by simp at h
theorem Rd.some {S : SS} {A : Option Addr} {cs : List Value} (h : Rd w0 S A cs) (h0 : cs ≠ []) : ∃ a, A = Option.some a := by
  cases cs with
  | nil => exact absurd rfl h0
  | cons c cs => obtain ⟨a, e, _⟩ := h 0 c rfl; exact ⟨a, e⟩
theorem Rd.at {S : SS} {a : Addr} {cs : List Value} (h : Rd w0 S (Option.some a) cs) {j : Nat} {v : Value} (hj : cs[j]? = Option.some v) : Cell w0 S (a.add j) v := by
  obtain ⟨b, e, hc⟩ := h j v hj
  obtain rfl := Option.some.inj e
  exact hc
theorem Rd.own {S : SS} {r E tot : Nat} {xs : List Value} (h : (r, AO.cells xs E tot) ∈ S.flatten) : Rd w0 S (Option.some ⟨r, 0, none⟩) xs := by
  intro j v hj
  refine ⟨_, rfl, .inr (.inl ⟨xs, E, tot, ?_, ?_, ?_⟩)⟩
  · simpa [Addr.add_lit] using h
  · simp [Addr.add_lit]
  · simpa [Addr.add_lit] using hj
/-- an own slice reads as what it holds -/
theorem SlV.rd {S : SS} {k E sz m : Nat} {v : Value} {xs : List Value} {seg : Seg} (hv : SlV E sz v m xs seg) (hk : S[k]? = some seg) : ∃ A cap, v = .slice A m cap ∧ Rd w0 S A xs ∧ xs.length = m * sz := by
  obtain ⟨hl, ⟨rfl, rfl, rfl⟩ | ⟨r, cap, rfl, rfl, h1, h2⟩⟩ := hv
  · have : xs = [] := List.eq_nil_of_length_eq_zero (by simpa using hl)
    subst this
    exact ⟨none, 0, rfl, Rd.nil, hl⟩
  · have hm : (r, AO.cells xs E (cap * sz)) ∈ S.flatten := List.mem_flatten.2 ⟨[(r, AO.cells xs E (cap * sz))], List.mem_of_getElem? hk, List.mem_singleton.2 rfl⟩
    exact ⟨_, cap, rfl, Rd.own hm, hl⟩

/-- a Bool is one or the other -/
theorem OL.boolAt {l : List PI} {K : TT → SS → Prop} (s : Nat) {b : Bool} (hl : look T s = some (.bool b)) (ht : b = true → OL P w0 n l ((s, .bool true) :: T) S K) (hf : b = false → OL P w0 n l ((s, .bool false) :: T) S K) : OL P w0 n l T S K := by
  cases b
  · refine fun ops is a w Q hc hs hr hk => hf rfl ops is a w Q hc (hs.keep fun i v hv => ?_) hr hk
    by_cases e : s = i
    · subst e; rw [look_put_same] at hv; obtain rfl := Option.some.inj hv; exact hl
    · rw [look_cons_ne _ _ e] at hv; exact hv
  · refine fun ops is a w Q hc hs hr hk => ht rfl ops is a w Q hc (hs.keep fun i v hv => ?_) hr hk
    by_cases e : s = i
    · subst e; rw [look_put_same] at hv; obtain rfl := Option.some.inj hv; exact hl
    · rw [look_cons_ne _ _ e] at hv; exact hv
theorem OL.keep {l : List PI} {T' : TT} {K : TT → SS → Prop} (hk : Within T' T) (h : OL P w0 n l T' S K) : OL P w0 n l T S K :=
  fun ops is a w Q hc hs hr hq => h ops is a w Q hc (hs.keep hk.spec) hr hq
/-- a contract tried at a call -/
theorem OL.call {f : FuncId} {args : List PV} {vs : List Value} {post : Value → SS → Prop} {d : Option Nat} {g : Option (Nat × Bool)} {r : List PI} {K : TT → SS → Prop} (hg : gOk T g) (hv : valsP T args = some vs) (h : FC P w0 f vs S post)
    (hk : ∀ v S', post v S' → OL P w0 n r (put d v T) S' K) : OL P w0 n (⟨d, g, .call f args⟩ :: r) T S K := OL.cons hg (OW.call hv h) hk
/-- a whole region, then what comes behind it -/
theorem PW.seqOps {l : List PI} {y : PC} {Q : Exit → TT → SS → Prop} (h : OL P w0 n l T S (fun T' S' => PW P w0 n y T' S' Q)) : PW P w0 n (.seq (.ops l) y) T S Q :=
  PW.seq fun K hK => PW.ops (fun ops is a w Q' hc hs hr hk => h ops is a w Q' hc hs hr fun a' w' T' S' h1 h2 h3 => hk a' w' T' S' h1 h2 (hK T' S' h3))

/-! ### quiet regions, told forward -/
def QK (P : Program) (w0 : World) (n : Nat) (S : SS) (l : List PI) (T : TT) (K : TT → Prop) : Prop := ∃ T', QL P w0 n S l T T' ∧ K T'
theorem QK.nil {K : TT → Prop} (h : K T) : QK P w0 n S [] T K := ⟨T, .nil, h⟩
theorem QK.cons {po : PO} {d : Option Nat} {g : Option (Nat × Bool)} {v : Value} {r : List PI} {K : TT → Prop} (hg : gOk T g) (h : OW P w0 n po T S (fun v' S' => v' = v ∧ S' = S)) (k : QK P w0 n S r (put d v T) K) : QK P w0 n S (⟨d, g, po⟩ :: r) T K :=
  let ⟨T', h1, h2⟩ := k; ⟨T', .step hg h h1, h2⟩
theorem QK.det {po : PO} {d : Option Nat} {g : Option (Nat × Bool)} {v : Value} {r : List PI} {K : TT → Prop} (hg : gOk T g) (h : Yields P w0 n po T S v) (k : QK P w0 n S r (put d v T) K) : QK P w0 n S (⟨d, g, po⟩ :: r) T K := QK.cons hg (OW.of_yields h) k
theorem QK.call {f : FuncId} {args : List PV} {vs : List Value} {v : Value} {d : Option Nat} {g : Option (Nat × Bool)} {r : List PI} {K : TT → Prop} (hg : gOk T g) (hv : valsP T args = some vs) (h : FC P w0 f vs S (fun v' S' => v' = v ∧ S' = S)) (k : QK P w0 n S r (put d v T) K) : QK P w0 n S (⟨d, g, .call f args⟩ :: r) T K :=
  QK.cons hg (OW.call hv h) k
theorem QK.off {po : PO} {d : Option Nat} {s : Nat} {b : Bool} {u : Value} {r : List PI} {K : TT → Prop} (hl : look T s = some u) (hc : (boolOf u == some b) = false) (k : QK P w0 n S r (put d undef T) K) : QK P w0 n S (⟨d, some (s, b), po⟩ :: r) T K :=
  let ⟨T', h1, h2⟩ := k; ⟨T', .off hl hc h1, h2⟩
theorem QL.keep {l : List PI} {T1 T2 T3 : TT} (h : QL P w0 n S l T1 T2) : True := trivial
theorem look_again {s i : Nat} {v : Value} (hl : look T s = some v) : look ((s, v) :: T) i = look T i := by
  by_cases e : s = i
  · subst e; rw [look_put_same, hl]
  · rw [look_cons_ne _ _ e]
theorem PW.quietK {k : Nat} {l : List PI} {Q : Exit → TT → SS → Prop} (hm : P.follows .mixedOrders = true) (h : QK P w0 n S (l.take k) T (fun T' => OL P w0 n (l.drop k) T' S (Q .normal))) : PW P w0 n (.quiet k l) T S Q :=
  let ⟨_, h1, h2⟩ := h; PW.quiet hm h1 h2
theorem PW.boolAt {pc : PC} {Q : Exit → TT → SS → Prop} (s : Nat) {b : Bool} (hl : look T s = some (.bool b)) (ht : b = true → PW P w0 n pc ((s, .bool true) :: T) S Q) (hf : b = false → PW P w0 n pc ((s, .bool false) :: T) S Q) : PW P w0 n pc T S Q := by
  cases b
  · exact fun c hc a w hs hr => hf rfl c hc a w (hs.keep fun i v hv => by rw [look_again hl] at hv; exact hv) hr
  · exact fun c hc a w hs hr => ht rfl c hc a w (hs.keep fun i v hv => by rw [look_again hl] at hv; exact hv) hr
theorem Yields.to {po : PO} {v v' : Value} (h : Yields P w0 n po T S v) (e : v = v') : Yields P w0 n po T S v' := e ▸ h
/-- a Bool that the region reckons is one or the other: the walk parts there -/
theorem OL.bool {po : PO} {d : Nat} {g : Option (Nat × Bool)} {r : List PI} {K : TT → SS → Prop} {b : Bool} (hg : gOk T g) (h : Yields P w0 n po T S (.bool b)) (ht : b = true → OL P w0 n r ((d, .bool true) :: T) S K) (hf : b = false → OL P w0 n r ((d, .bool false) :: T) S K) : OL P w0 n (⟨some d, g, po⟩ :: r) T S K := by
  cases b
  · exact OL.det hg h (hf rfl)
  · exact OL.det hg h (ht rfl)
theorem QK.bool {po : PO} {d : Nat} {g : Option (Nat × Bool)} {r : List PI} {K : TT → Prop} {b : Bool} (hg : gOk T g) (h : Yields P w0 n po T S (.bool b)) (ht : b = true → QK P w0 n S r ((d, .bool true) :: T) K) (hf : b = false → QK P w0 n S r ((d, .bool false) :: T) K) : QK P w0 n S (⟨some d, g, po⟩ :: r) T K := by
  cases b
  · exact QK.det hg h (hf rfl)
  · exact QK.det hg h (ht rfl)
theorem PW.ite {v : PV} {x y : PC} {Q : Exit → TT → SS → Prop} {b : Bool} (hv : v.val T = some (.bool b)) (h : PW P w0 n (if b then x else y) T S Q) : PW P w0 n (.cond v x y) T S Q :=
  PW.cond hv (fun e => by subst e; exact h) (fun e => by subst e; exact h)

/-! ### indexes -/
theorem addr_add_add (a : Addr) (m k : Nat) : (a.add m).add k = a.add (m + k) := by
  unfold Addr.add
  by_cases hm : m = 0
  · subst hm; simp
  · by_cases hk : k = 0
    · subst hk; simp
    · simp [hm, hk, Nat.add_assoc]
theorem Yields.ixN {sz : Nat} {x i : PV} {a : Addr} {len cap j : Nat} {k : IntKind} {z : Int} (hx : x.val T = some (.slice (some a) len cap)) (hi : i.val T = some (.int k z)) (hz : z = (j : Int)) (h : j < len) :
    Yields P w0 n (.ixS sz x i) T S (.pointer (some (a.add (j * sz)))) := by
  subst hz
  exact Yields.ixS hx hi (by omega) (by omega)
theorem Yields.ixN1 {x i : PV} {a : Addr} {len cap j : Nat} {k : IntKind} {z : Int} (hx : x.val T = some (.slice (some a) len cap)) (hi : i.val T = some (.int k z)) (hz : z = (j : Int)) (h : j < len) :
    Yields P w0 n (.ixS 1 x i) T S (.pointer (some (a.add j))) := by
  have := Yields.ixN (P := P) (w0 := w0) (n := n) (S := S) (sz := 1) hx hi hz h
  simpa using this

/-! ### one more element -/
theorem OL.drop1 {l : List PI} {s : Seg} {K : TT → SS → Prop} (h : OL P w0 n l T S K) : OL P w0 n l T (s :: S) K :=
  fun ops is a w Q hc hs hr hq => h ops is a w Q hc hs (hr.sub (fun p hp => by simp [hp]) (by
    have := hr.nodup
    simp only [List.flatten_cons, List.map_append, List.nodup_append] at this
    exact this.2.1)) hq
theorem PW.drop1 {pc : PC} {s : Seg} {Q : Exit → TT → SS → Prop} (h : PW P w0 n pc T S Q) : PW P w0 n pc T (s :: S) Q :=
  fun c hc a w hs hr => h c hc a w hs (hr.sub (fun p hp => by simp [hp]) (by
    have := hr.nodup
    simp only [List.flatten_cons, List.map_append, List.nodup_append] at this
    exact this.2.1))
theorem Within.del {d : Nat} {T : TT} : ∀ i v, look (SL.del (some d) T) i = some v → look T i = some v := fun i v h => (look_del h).2
theorem look_put_del {d1 d2 : Nat} {u v' : Value} {T : TT} (i : Nat) (v : Value) (h : look ((d2, v') :: SL.del (some d1) T) i = some v) : look ((d2, v') :: (d1, u) :: T) i = some v := by
  by_cases e : d2 = i
  · subst e
    rw [look_put_same] at h ⊢
    exact h
  · rw [look_cons_ne _ _ e] at h ⊢
    obtain ⟨h1, h2⟩ := look_del h
    rw [look_cons_ne _ _ h1]
    exact h2
/-- 'append(s, x)': the row of the one element, and the append, together -/
theorem OL.app1 {t E sz bytes m k d1 d2 : Nat} {z v base : Value} {s x : PV} {zero : List Value} {xs : List Value} {seg : Seg} {r : List PI} {K : TT → SS → Prop}
    (hx : x.val T = some v) (hz : zero.length = sz) (hv1 : v.cells.size = sz) (hs : s.val T = some base) (hne : s.val ((d1, .bool true) :: T) = some base) (hk : S[k]? = some seg) (hv : SlV E sz base m xs seg) (h1 : v.cells.toList.all (·.oneCell') = true)
    (hb : (m + 1) * bytes ≤ 140737488355328) (h63 : m + 1 ≤ maxLen)
    (hK : ∀ v' seg', SlV E sz v' (m + 1) (xs ++ v.cells.toList) seg' → OL P w0 n r ((d2, v') :: SL.del (some d1) T) (S.set k seg') K) :
    OL P w0 n (⟨some d1, none, .bsl E zero 1 [(0, sz, x)]⟩ :: ⟨some d2, none, .app t E sz bytes z s (.t d1)⟩ :: r) T S K := by
  have hfill : fillP T zero [(0, sz, x)] = some v.cells.toList := by
    simp only [fillP, hx]
    have hl : v.cells.toList.length = zero.length := by simp [hv1, hz]
    rw [if_pos ⟨hv1, by omega⟩]
    rw [setAt_eq zero 0 v.cells.toList (by omega)]
    simp [hl]
  refine OL.cons trivial (OW.bsl hfill) ?_
  rintro _ _ ⟨b, rfl, rfl⟩
  have hsv : s.val (put (some d1) (.slice (some ⟨b, 0, none⟩) 1 1) T) = some base := by
    cases s with
    | v y => simpa [PV.val] using hs
    | t i =>
      simp only [PV.val, put] at hne hs ⊢
      by_cases e : d1 = i
      · subst e
        rw [look_put_same] at hne ⊢
        cases m with
        | zero =>
          obtain ⟨_, ⟨rfl, _⟩ | ⟨_, _, rfl, _⟩⟩ := hv <;> simp at hne
        | succ m => obtain ⟨_, ⟨rfl, _⟩ | ⟨_, _, rfl, _⟩⟩ := hv <;> simp at hne
      · rw [look_cons_ne _ _ e]; exact hs
  refine OL.cons trivial (OW.app (k := k + 1) (a := ⟨b, 0, none⟩) (q := 1) (c := 1) (news := v.cells.toList) hsv (by simpa using hk) hv (by simp [PV.val, put, look_put_same]) (by simp [hv1]) (fun j u hj => (Rd.own (E := E) (tot := v.cells.toList.length) (by simp)).at hj) h1 hb h63) ?_
  rintro v' _ ⟨seg', rfl, hsl⟩
  rw [List.set_cons_succ]
  refine OL.drop1 ?_
  refine fun ops is a w Q hc hs hr hq => hK v' seg' hsl ops is a w Q hc (hs.keep fun i u hu => ?_) hr hq
  exact look_put_del i u hu

theorem thenK_n {K : TT → SS → Prop} {Q : Exit → TT → SS → Prop} : thenK K Q .normal T S = K T S := rfl
/-! ### what is known may be forgotten at the end -/
structure Sub (S' S : SS) : Prop where
  mem : ∀ p ∈ S'.flatten, p ∈ S.flatten
  nodup : (S.flatten.map Prod.fst).Nodup → (S'.flatten.map Prod.fst).Nodup
theorem Sub.refl (S : SS) : Sub S S := ⟨fun _ h => h, fun h => h⟩
theorem Sub.trans {A B C : SS} (h : Sub A B) (k : Sub B C) : Sub A C := ⟨fun p hp => k.mem p (h.mem p hp), fun hn => h.nodup (k.nodup hn)⟩
theorem Sub.drop {s : Seg} {S' S : SS} (h : Sub S' S) : Sub S' (s :: S) := ⟨fun p hp => by simp [h.mem p hp], fun hn => h.nodup (by
  simp only [List.flatten_cons, List.map_append, List.nodup_append] at hn
  exact hn.2.1)⟩
theorem Sub.sel (is : List Nat) (m : Nat) (hi : (decide is.Nodup && is.all (· < m)) = true) (S : SS) : Sub (SL.sel is m S) S := by
  simp only [Bool.and_eq_true, decide_eq_true_eq, List.all_eq_true] at hi
  exact ⟨fun p hp => sel_mem hp, fun hn => sel_nodup hn hi.1 hi.2⟩
theorem Sub.cons {s : Seg} {S' S : SS} (h : Sub S' S) : Sub (s :: S') (s :: S) := ⟨fun p hp => by
    simp only [List.flatten_cons, List.mem_append] at hp ⊢
    exact hp.imp id (h.mem p), fun hn => by
    simp only [List.flatten_cons, List.map_append, List.nodup_append] at hn ⊢
    exact ⟨hn.1, h.nodup hn.2.1, fun a ha b hb => hn.2.2 a ha b (by
      obtain ⟨p, hp, rfl⟩ := List.mem_map.1 hb
      exact List.mem_map.2 ⟨p, h.mem p hp, rfl⟩)⟩⟩
theorem Rep.subS {w : World} {S' : SS} (h : Rep w0 S w) (hs : Sub S' S) : Rep w0 S' w := h.sub hs.mem (hs.nodup h.nodup)
theorem FC.ofD {k : FuncId} {pc : PC} {rs : List Nat} {args : List Value} {post : Value → SS → Prop} (hk : Known P k pc n rs) (hn : args.length ≤ n)
    (h : PW P w0 n pc (argT 0 args) S (fun e T' S' => (e = .normal ∨ e = .ret) ∧ ∃ v, resV T' rs = some v ∧ ∃ S'', Sub S'' S' ∧ post v S'')) : FC P w0 k args S post := by
  intro w hw
  refine (FC.of hk hn h w hw).mono ?_
  rintro e w' ⟨v, S', rfl, hr, S'', hs, hp⟩
  exact ⟨v, S'', rfl, hr.subS hs, hp⟩
theorem PW.subS {pc : PC} {S' : SS} {Q : Exit → TT → SS → Prop} (hs : Sub S' S) (h : PW P w0 n pc T S' Q) : PW P w0 n pc T S Q := PW.sub hs.mem hs.nodup h
theorem OL.subS {l : List PI} {S' : SS} {K : TT → SS → Prop} (hs : Sub S' S) (h : OL P w0 n l T S' K) : OL P w0 n l T S K :=
  fun ops is a w Q hc hsat hr hq => h ops is a w Q hc hsat (hr.subS hs) hq
theorem FC.subS {k : FuncId} {args : List Value} {S' : SS} {post : Value → SS → Prop} (hs : Sub S' S) (h : FC P w0 k args S' post) : FC P w0 k args S post := fun w hw => h w (hw.subS hs)
/-- two segments as one, and back -/
theorem Sub.join {a b : Seg} {S : SS} : Sub ((a ++ b) :: S) (a :: b :: S) := ⟨fun p hp => by simpa using hp, fun hn => by simpa using hn⟩
theorem Sub.split {a b : Seg} {S : SS} : Sub (a :: b :: S) ((a ++ b) :: S) := ⟨fun p hp => by simpa using hp, fun hn => by simpa using hn⟩
/-! ### a loop, what is known being forgotten at its end -/
def LoopEnd (I : Nat → TT → SS → Prop) (m : Nat) (T' : TT) (S' : SS) : Prop := ∃ T'' S'', Within T'' T' ∧ Sub S'' S' ∧ ∃ k, k < m ∧ I k T'' S''
theorem LoopEnd.mk {I : Nat → TT → SS → Prop} {m : Nat} {T' T'' : TT} {S' : SS} (h : Within T'' T') (k : ∃ k, k < m ∧ I k T'' S') : LoopEnd I m T' S' := ⟨T'', S', h, Sub.refl _, k⟩
theorem LoopEnd.mkS {I : Nat → TT → SS → Prop} {m : Nat} {T' T'' : TT} {S' S'' : SS} (hs : Sub S'' S') (h : Within T'' T') (k : ∃ k, k < m ∧ I k T'' S'') : LoopEnd I m T' S' := ⟨T'', S'', h, hs, k⟩
theorem PW.keepS {pc : PC} {T' : TT} {Q : Exit → TT → SS → Prop} (hk : ∀ i v, look T' i = some v → look T i = some v) (h : PW P w0 n pc T' S Q) : PW P w0 n pc T S Q :=
  fun c hc a w hs hr => h c hc a w (hs.keep hk) hr
theorem PW.loopK {x : PC} {Q : Exit → TT → SS → Prop} (I : Nat → TT → SS → Prop) {m : Nat} (h0 : I m T S)
    (round : ∀ m T S, I m T S → PW P w0 n x T S (thenK (LoopEnd I m) Q)) : PW P w0 n (.loop x) T S Q := by
  refine PW.loop (fun m T S => ∃ T' S', (∀ i v, look T' i = some v → look T i = some v) ∧ Sub S' S ∧ I m T' S') (m := m) ⟨T, S, fun _ _ h => h, Sub.refl _, h0⟩ ?_
  rintro m T S ⟨T', S', hw, hsub, hI⟩
  refine PW.subS hsub (PW.keepS hw (PW.mono (round m T' S' hI) ?_))
  intro e T S h
  cases e with
  | normal =>
    obtain ⟨T'', S'', h1, h2, k, h3, h4⟩ := h
    exact ⟨k, h3, T'', S'', h1.spec, h2, h4⟩
  | _ => exact h
end
end Go.SL
