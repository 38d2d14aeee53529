/- Walks and plain facts for the laws of this seat: what each function answers, for every input. -/
import Derived.Test.YteidpegjehdneaaLnW2
set_option linter.unusedVariables false
set_option linter.unusedSimpArgs false
namespace Go.Proofs
open Go.SL Go.RowKit
set_option maxHeartbeats 1000000

theorem OLi.sel' {P : Program} {w0 : World} {n : Nat} {r : Option Nat} {m : Nat} {T : TT} {S : SS} {l : List PI} {K : TT → SS → Prop} (is : List Nat) (mm : Nat) (hi : (decide is.Nodup && is.all (· < mm)) = true) (h : OLi P w0 n r m l T (SL.sel is mm S) K) : OLi P w0 n r m l T S K :=
  fun ops js a w Q hc hs hr hq => h ops js a w Q hc hs (hr.sel is mm hi) hq
theorem PW.seqOpsY {P : Program} {w0 : World} {n : Nat} {m : Nat} {T : TT} {S : SS} {l : List PI} {y : PC} {Q : Exit → TT → SS → Prop} (h : OLi P w0 n none m l T S (fun T' S' => PW P w0 n y T' S' Q)) : PW P w0 n (.seq (.ops l) y) T S Q :=
  PWi.toPW (m := m) (PWi.seqOps fun ops is a w Q' hc hs hr hk => h ops is a w Q' hc hs hr fun a' w' T' S' h1 h2 h3 => hk a' w' T' S' h1 h2 (PWi.ofPW h3))
def strs (ls : List ByteArray) : List Value := ls.map .string
theorem strs_len (ls : List ByteArray) : (strs ls).length = ls.length := by simp [strs]
def OUT (r2 : Nat) (v : Value) : Seg := [(r2, .cells [v] 23 1)]
def OKC (r3 : Nat) (b : Bool) : Seg := [(r3, .cells [.bool b] 4 1)]
noncomputable def pC0 : Code := match Try.f24.body with | some (.seq c0 _) => c0 | _ => .skip
noncomputable def pC1 : Code := match Try.f24.body with | some (.seq _ (.seq (.seq c1 _) _)) => c1 | _ => .skip
noncomputable def pC7 : Code := match Try.f24.body with | some (.seq _ (.seq _ (.seq c7 _))) => c7 | _ => .skip
noncomputable def pA : Code := match Try.f24.body with | some (.seq _ (.seq (.seq _ (.block _ (.rangeFunc _ _ A _))) _)) => A | _ => .skip
noncomputable def pB : Code := match Try.f24.body with | some (.seq _ (.seq (.seq _ (.block _ (.rangeFunc _ _ _ B))) _)) => B | _ => .skip
theorem parts_body : Try.f24.body = some (.seq pC0 (.seq (.seq pC1 (.block 0 (.rangeFunc (.tmp 8) #[9] pA pB))) (.seq pC7 .ret))) := rfl
def pa : PC := .ops [⟨some 4, none, .mov (.t 9)⟩]
def pb : PC := .block 1 (.seq (.ops [⟨some 11, none, .mov (.t 4)⟩, ⟨some 12, none, .call 34 [(.t 11), (.v (.string ⟨#[10]⟩))]⟩, ⟨some 10, none, .mov (.t 12)⟩, ⟨some 13, none, .ext 0 (.t 10)⟩, ⟨some 14, none, .ext 1 (.t 10)⟩, ⟨some 5, none, .mov (.t 13)⟩, ⟨some 6, none, .mov (.t 14)⟩])
  (.seq (.seq (.ops [⟨some 15, none, .mov (.t 6)⟩, ⟨some 16, none, .not (.t 15)⟩]) (.cond (.t 16) (.seq (.ops [⟨none, none, .st 1 (.t 2) (.v (.slice none 0 0))⟩, ⟨none, none, .st 1 (.t 3) (.v (.bool false))⟩]) .ret) .skip))
  (.ops [⟨some 17, none, .ld (.t 2)⟩, ⟨some 18, none, .mov (.t 5)⟩, ⟨some 19, none, .bsl 9 [.string ⟨#[]⟩] 1 [(0, 1, (.t 18))]⟩, ⟨some 20, none, .app 23 9 1 16 (.string ⟨#[]⟩) (.t 17) (.t 19)⟩, ⟨none, none, .st 1 (.t 2) (.t 20)⟩])))
theorem pa_ok : cC Try.prog 22 pA = some pa := by kernel_rfl
theorem pb_ok : cC Try.prog 22 pB = some pb := by kernel_rfl
def partsK (l D : Nat) (L : Loop) (cs : Seg) (r2 r3 : Nat) (s : ByteArray) (ls : List ByteArray) (S0 : SS) (v : Value) (S' : SS) : Prop :=
  ∃ (L' : Loop) (v2 : Value) (seg' : Seg), v = .bool (endsN s) ∧ S' = LS l D L' (cs :: OUT r2 v2 :: OKC r3 false :: seg' :: S0) ∧
    (endsN s = true → L' = L ∧ SlV 9 1 v2 (ls.length + 1) (strs (ls ++ [cutN s])) seg') ∧ (endsN s = false → L' = { L with state := .done, pending := some .ret } ∧ v2 = .slice none 0 0)
theorem parts_body_fc {w0 : World} {l D m r2 r3 : Nat} {L : Loop} {cs seg : Seg} {s : ByteArray} {ls : List ByteArray} {v : Value} {S0 : SS} (hs : s.size ≤ 9223372036854775807) (hls : ls.length ≤ 1000000) (hv : SlV 9 1 v ls.length (strs ls) seg) (h1 : L.state = .ready) (h2 : L.pending = none) :
    PWi Try.prog w0 22 (some l) m pa [(9, .string s), (2, .pointer (some ⟨r2, 0, none⟩)), (3, .pointer (some ⟨r3, 0, none⟩))] ([(l, .obj (.loop L))] :: [(D, .obj (.deferred (some [])))] :: cs :: OUT r2 v :: OKC r3 false :: seg :: S0)
      (thenK (fun T' S' => ∃ S2, S' = [(l, .obj (.loop L))] :: S2 ∧ PWi Try.prog w0 22 (some l) m pb T' ([(l, .obj (.loop { L with state := .busy }))] :: S2) (roundQ l L (partsK l D L cs r2 r3 s ls S0))) (fun _ _ _ => False)) := by
  have hL : { L with state := .ready, pending := none } = L := by cases L; simp_all
  refine PWi.ops ?_
  refine OLi.det (by simp) trivial (Yields.pure rfl) ?_
  refine OLi.nil ⟨_, rfl, ?_⟩
  refine PWi.keep (T' := [(2, _), (3, _), (4, _)]) ⟨rfl, rfl, rfl, trivial⟩ ?_
  refine PWi.block ?_
  refine PWi.seqOps ?_
  refine OLi.det (by simp) trivial (Yields.pure rfl) ?_
  refine OLi.cons trivial (OWi.of (by simp) (OW.call rfl (cutS_fc hs))) ?_
  rintro _ _ ⟨rfl, rfl⟩
  refine OLi.det (by simp) trivial (Yields.pure rfl) ?_
  refine OLi.det (by simp) trivial (Yields.pure rfl) ?_
  refine OLi.det (by simp) trivial (Yields.pure rfl) ?_
  refine OLi.det (by simp) trivial (Yields.pure rfl) ?_
  refine OLi.det (by simp) trivial (Yields.pure rfl) ?_
  refine OLi.nil ?_
  refine PWi.keep (T' := [(2, _), (3, _), (5, _), (6, _)]) ⟨rfl, rfl, rfl, rfl, trivial⟩ ?_
  refine PWi.seq fun K1 hK1 => ?_
  refine PWi.seqOps ?_
  refine OLi.det (by simp) trivial (Yields.pure rfl) ?_
  refine OLi.det (by simp) trivial (Yields.pure rfl) ?_
  refine OLi.nil ?_
  refine PWi.cond (b := !(endsN s)) rfl (fun c => ?_) (fun c => ?_)
  · have c0 : endsN s = false := by simpa using c
    refine PWi.seqOps ?_
    refine OLi.cons trivial (OWi.of (by simp) (OW.st (k := 3) rfl rfl rfl rfl (Nat.le_refl 1) rfl)) ?_
    rintro _ _ rfl
    refine OLi.cons trivial (OWi.of (by simp) (OW.st (k := 4) rfl rfl rfl rfl (Nat.le_refl 1) rfl)) ?_
    rintro _ _ rfl
    refine OLi.nil ?_
    refine PWi.ret ?_
    exact ⟨_, rfl, _, .slice none 0 0, seg, by rw [c0], rfl, (fun h => by rw [c0] at h; cases h), fun _ => ⟨rfl, rfl⟩⟩
  · have c0 : endsN s = true := by simpa using c
    refine PWi.skip ?_
    refine hK1 _ _ ?_
    refine PWi.ops ?_
    refine OLi.det (by simp) trivial (Yields.ld rfl (own_at (j := 0) (c := [v]) (E := 23) (tot := 1) (List.mem_flatten.2 ⟨OUT r2 v, by simp, List.mem_singleton.2 rfl⟩) rfl)) ?_
    refine OLi.det (by simp) trivial (Yields.pure rfl) ?_
    refine OLi.cons trivial (OWi.of (by simp) (OW.bsl rfl)) ?_
    rintro _ _ ⟨r19, rfl, rfl⟩
    refine OLi.cons trivial (OWi.of (by simp) (OW.app (k := 6) (news := [.string (cutN s)]) rfl rfl hv rfl rfl (fun j u hj => (Rd.own (r := r19) (E := 9) (tot := 1) (List.Mem.head _)).at hj) rfl (by omega) (by unfold maxLen; omega))) ?_
    rintro v20 _ ⟨seg20, rfl, hsl20⟩
    obtain ⟨A20, c20, rfl, _, _⟩ := hsl20.rd (w0 := w0) (S := [seg20]) (k := 0) rfl
    refine OLi.cons trivial (OWi.of (by simp) (OW.st (k := 4) rfl rfl rfl rfl (Nat.le_refl 1) rfl)) ?_
    rintro _ _ rfl
    refine OLi.sel' [1, 2, 3, 4, 5, 6] 7 (by decide) ?_
    refine OLi.nil ?_
    refine ⟨[(D, .obj (.deferred (some [])))] :: cs :: OUT r2 (.slice A20 (ls.length + 1) c20) :: OKC r3 false :: seg20 :: S0, rfl, L, .slice A20 (ls.length + 1) c20, seg20, by rw [c0], ?_, fun _ => ⟨rfl, ?_⟩, (fun h => by rw [c0] at h; cases h)⟩
    · rw [hL]; rfl
    · simpa [strs] using hsl20

end Go.Proofs
