/- Walks and plain facts for the laws of this seat: what each function answers, for every input. -/
import Derived.Test.YteidpegjehdneaaLnW4
set_option linter.unusedVariables false
set_option linter.unusedSimpArgs false
namespace Go.Proofs
open Go.SL Go.RowKit
set_option maxHeartbeats 1000000
theorem lines_fc {w0 : World} {S : SS} {s : ByteArray} :
    FC Try.prog w0 33 [.string s] S (fun v S' => ∃ rs, v = .func (.func 37) #[] #[.pointer (some ⟨rs, 0, none⟩)] ∧ S' = [(rs, .cells [.string s] 9 1)] :: S) := by
  refine FC.of Try.known33 (by simp) ?_
  unfold Try.pc33
  simp only [argT]
  refine PW.seqOps ?_
  refine OL.cons trivial (OW.bx rfl) ?_
  rintro _ _ ⟨r1, rfl, rfl⟩
  refine OL.det trivial (Yields.pure rfl) ?_
  refine OL.nil ?_
  refine PW.keep (T' := [(1, _)]) ⟨rfl, trivial⟩ ?_
  refine PW.seqOps ?_
  refine OL.det trivial (Yields.mkF rfl) ?_
  refine OL.det trivial (Yields.pure rfl) ?_
  refine OL.nil ?_
  refine PW.keep (T' := [(2, _)]) ⟨rfl, trivial⟩ ?_
  refine PW.ret ?_
  change (Exit.ret = Exit.normal ∨ Exit.ret = Exit.ret) ∧ ∃ v, resV _ _ = some v ∧ _
  exact ⟨.inr rfl, _, rfl, r1, rfl, rfl⟩

theorem results24 {w0 : World} {T : TT} {S : SS} {r2 r3 : Nat} {v2 : Value} {b : Bool} (h2 : Go.SL.look T 2 = some (.pointer (some ⟨r2, 0, none⟩))) (h3 : Go.SL.look T 3 = some (.pointer (some ⟨r3, 0, none⟩)))
    (hm2 : (r2, AO.cells [v2] 23 1) ∈ S.flatten) (hm3 : (r3, AO.cells [.bool b] 4 1) ∈ S.flatten) (a : Act) (w : World) (hs : Sat 22 T a) (hr : Rep w0 S w) : (results Try.f24 a.tmps).run Try.prog w = .ok (.tuple #[v2, .bool b]) w := by
  have t2 := hs.get 2 _ h2
  have t3 := hs.get 3 _ h3
  have c2 := hr.cell (own_at (j := 0) hm2 rfl)
  have c3 := hr.cell (own_at (j := 0) hm3 rfl)
  have e2 : (loadVar 23 ⟨r2, 0, none⟩).run Try.prog w = .ok v2 w := by
    obtain ⟨d, hu, hd⟩ := aggOf_none (P := Try.prog) (t := 23) (by kernel_rfl)
    simp [loadVar, run_isAgg hu, hd, load, Sem.run, c2]
  have e3 : (loadVar 4 ⟨r3, 0, none⟩).run Try.prog w = .ok (.bool b) w := by
    obtain ⟨d, hu, hd⟩ := aggOf_none (P := Try.prog) (t := 4) (by kernel_rfl)
    simp [loadVar, run_isAgg hu, hd, load, Sem.run, c3]
  have hres : Try.f24.results = #[.cell 2 23, .cell 3 4] := by kernel_rfl
  simp [results, hres, t2, t3, asAddr, Sem.run_bind, e2, e3, Result.andThen]
theorem mem_at {S : SS} {k : Nat} {s : Seg} {p : Nat × AO} (h : S[k]? = some s) (hp : p ∈ s) : p ∈ S.flatten := List.mem_flatten.2 ⟨s, List.mem_of_getElem? h, hp⟩
def partsQ (tb : ByteArray) (S : SS) (v : Value) (S' : SS) : Prop :=
  ∃ (v2 : Value) (seg : Seg) (b : Bool), v = .tuple #[v2, .bool b] ∧ S' = seg :: S ∧ match splB tb.data.toList with
    | some ls => b = true ∧ SlV 9 1 v2 ls.length (strs ls) seg
    | none => b = false ∧ v2 = .slice none 0 0
theorem parts_fc {w0 : World} {S : SS} {tb : ByteArray} (htb : tb.size ≤ 100000) : FC Try.prog w0 24 [.string tb] S (partsQ tb S) := by
  have key : FC Try.prog w0 24 [.string tb] S (fun v S' => ∃ r2 r3 cs v2 seg b, v = .tuple #[v2, .bool b] ∧ S' = cs :: OUT r2 v2 :: OKC r3 b :: seg :: S ∧ match splB tb.data.toList with
      | some ls => b = true ∧ SlV 9 1 v2 ls.length (strs ls) seg
      | none => b = false ∧ v2 = .slice none 0 0) := by
    refine FC.range (l0 := [⟨some 2, none, .al 23 [.slice none 0 0]⟩, ⟨some 3, none, .al 4 [.bool false]⟩]) (l1 := [⟨some 7, none, .mov (.t 0)⟩, ⟨some 8, none, .call 33 [(.t 7)]⟩]) (l7 := [⟨some 21, none, .ld (.t 2)⟩, ⟨none, none, .st 1 (.t 2) (.t 21)⟩, ⟨none, none, .st 1 (.t 3) (.v (.bool true))⟩]) Try.func24 parts_body (by kernel_rfl : Try.f24.ntmps = 22) (by kernel_rfl) (by kernel_rfl) (by kernel_rfl) (by simp) ?_
    refine OL.nilseg ?_
    refine OL.cons trivial OW.al ?_
    rintro _ _ ⟨r2, rfl, rfl⟩
    refine OL.cons trivial OW.al ?_
    rintro _ _ ⟨r3, rfl, rfl⟩
    refine OL.nil ?_
    refine OL.det trivial (Yields.pure rfl) ?_
    refine OL.call trivial rfl lines_fc ?_
    rintro _ _ ⟨rs, rfl, rfl⟩
    refine OL.nil ⟨37, [], [.pointer (some ⟨rs, 0, none⟩)], rfl, by kernel_rfl, fun l D fid tmps hsat => ?_⟩
    refine FC.mono (FC.sel [0, 1, 2, 4, 3] 5 rfl (iter_fc (T1 := _) htb rfl rfl rfl rfl rfl hsat rfl rfl)) ?_
    rintro _ S' ⟨L', v2, seg, cs, rfl, hbusy, hcase⟩
    refine ⟨L', _, rfl, hbusy, ?_⟩
    rcases hcase with ⟨hp, ls, h1, h2⟩ | ⟨hp, h1, rfl⟩
    · refine .inl ⟨hp, fun L2 ds => ?_⟩
      obtain ⟨A2, c2, rfl, _, _⟩ := h2.rd (w0 := w0) (S := [seg]) (k := 0) rfl
      refine OLd.cons noDefer_ld (OW.of_yields (Yields.ld rfl (own_at (j := 0) (c := [.slice A2 ls.length c2]) (E := 23) (tot := 1) (mem_at (k := 3) rfl (List.mem_singleton.2 rfl)) rfl))) ?_
      rintro _ _ ⟨rfl, rfl⟩
      refine OLd.cons noDefer_st (OW.st (k := 3) rfl rfl rfl rfl (Nat.le_refl 1) rfl) ?_
      rintro _ _ rfl
      refine OLd.cons noDefer_st (OW.st (k := 4) rfl rfl rfl rfl (Nat.le_refl 1) rfl) ?_
      rintro _ _ rfl
      refine OLd.nil ⟨cs :: OUT r2 (.slice A2 ls.length c2) :: OKC r3 true :: seg :: S, rfl, .tuple #[.slice A2 ls.length c2, .bool true], fun a w hs hr => results24 rfl rfl (mem_at (k := 1) rfl (List.mem_singleton.2 rfl)) (mem_at (k := 2) rfl (List.mem_singleton.2 rfl)) a w hs hr, ?_⟩
      exact ⟨r2, r3, cs, _, seg, true, rfl, rfl, by rw [h1]; exact ⟨rfl, h2⟩⟩
    · refine .inr ⟨hp, .tuple #[.slice none 0 0, .bool false], fun a w hs hr => results24 rfl rfl (mem_at (k := 1) rfl (List.mem_singleton.2 rfl)) (mem_at (k := 2) rfl (List.mem_singleton.2 rfl)) a w hs hr, ?_⟩
      exact ⟨r2, r3, cs, _, seg, false, rfl, rfl, by rw [h1]; exact ⟨rfl, rfl⟩⟩
  intro w hw
  refine (key w hw).mono ?_
  rintro e w' ⟨v, S', rfl, hr, r2, r3, cs, v2, seg, b, rfl, rfl, h⟩
  exact ⟨_, _, rfl, hr.subS (Sub.drop (Sub.drop (Sub.drop (Sub.refl _)))), v2, seg, b, rfl, rfl, h⟩

end Go.Proofs
