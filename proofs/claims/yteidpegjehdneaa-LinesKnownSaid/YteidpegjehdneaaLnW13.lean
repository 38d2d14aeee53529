/- Walks and plain facts for the laws of this seat: what each function answers, for every input. -/
import Derived.Test.YteidpegjehdneaaLnW12
set_option linter.unusedVariables false
set_option linter.unusedSimpArgs false
namespace Go.Proofs
open Go.SL Go.RowKit
set_option maxHeartbeats 1000000

theorem FC.frame {P : Program} {w0 : World} {S : SS} {k : Nat} {args : List Value} {post : Value → Prop} (h : ∀ w, Rep w0 S w → FC P w k args [] (fun v _ => post v)) : FC P w0 k args S (fun v S' => post v ∧ S' = S) := by
  intro w hw
  refine (h w hw w (Rep.start w)).mono ?_
  rintro e w' ⟨v, S', rfl, hr, hp⟩
  exact ⟨v, S, rfl, hw.same (hr.below.mono hw.base) (fun i hi => hr.below.block i hi), hp, rfl⟩
theorem Rd.frame {w0 w : World} {S : SS} {A : Option Addr} {cs : List Value} (h : Rd w0 S A cs) (hw : Rep w0 S w) : Rd w [] A cs := fun j v hj => let ⟨a, e, hc⟩ := h j v hj; ⟨a, e, .inl (hw.cell hc)⟩
theorem two_cells {w0 w : World} {S : SS} {b E : Nat} {p v : Value} (h : Rep w0 ([(b, .cells [p, v] E 2)] :: S) w) : w0.heap.size ≤ b ∧ w.heap[b]? = some (.cells #[p, v] E (0, 0)) := by
  obtain ⟨hge, C, hC, hsz, hpre⟩ := h.own (b, .cells [p, v] E 2) (by simp)
  have : C = #[p, v] := by
    apply Array.toList_inj.1
    rw [← hpre]
    simp only [List.length_cons, List.length_nil]
    rw [List.take_of_length_le (by simp [hsz])]
  exact ⟨hge, by rw [hC, this]⟩
theorem Rep.cell0 {w0 w : World} {S : SS} {b E : Nat} {p v u : Value} (h : Rep w0 ([(b, .cells [p, v] E 2)] :: S) w) : Rep w0 ([(b, .cells [u, v] E 2)] :: S) (w.setCell ⟨b, 0, none⟩ u) := by
  obtain ⟨hge, hC⟩ := two_cells h
  refine ⟨h.below.setCell (p := ⟨b, 0, none⟩) hge u, by simpa using h.nodup, fun q hq => ?_⟩
  simp only [List.flatten_cons, List.singleton_append, List.mem_cons] at hq
  rcases hq with rfl | hq
  · refine ⟨hge, #[u, v], ?_, rfl, rfl⟩
    simp [World.setCell, Array.getElem?_modify, hC]
  · obtain ⟨h1, h2⟩ := h.own q (by simp [hq])
    refine ⟨h1, h2.congr (Below.heap_setCell _ _ _ _ ?_)⟩
    intro e
    have := h.nodup
    simp only [List.flatten_cons, List.singleton_append, List.map_cons, List.nodup_cons] at this
    exact this.1 (List.mem_map.2 ⟨q, hq, e⟩)
def BS (b : Nat) (p v : Value) : Seg := [(b, .cells [p, v] 44 2)]
def selfP (b : Nat) : Value := .pointer (some ⟨b, 0, none⟩)
theorem cc_fc {w0 : World} {S : SS} {b : Nat} {p v : Value} (hp : p = .pointer none ∨ p = selfP b) : FC Try.prog w0 36 [.pointer (some ⟨b, 0, none⟩)] (BS b p v :: S) (fun _ S' => S' = BS b (selfP b) v :: S) := by
  intro w hw
  obtain ⟨hge, hC⟩ := two_cells hw
  rcases hp with rfl | rfl
  · refine (Try.cc_fresh b w (by simp [World.cell?, hC]) (by simp [World.shape?, hC]) (by simp [World.frozen?, hC])).mono ?_
    rintro e w' ⟨rfl, rfl⟩
    exact ⟨_, _, rfl, Rep.cell0 hw, rfl⟩
  · refine (Try.cc_used b w (by simp [World.cell?, hC, selfP])).mono ?_
    rintro e w' ⟨rfl, rfl⟩
    exact ⟨_, _, rfl, hw, rfl⟩
theorem str_fc {w0 : World} {S : SS} {b : Nat} {p v : Value} {seg : Seg} {xs : List UInt8} (hp : p = .pointer none ∨ p = selfP b) (hv : SlV 5 1 v xs.length (bytesC xs) seg) :
    FC Try.prog w0 32 [.pointer (some ⟨b, 0, none⟩)] (BS b p v :: seg :: S) (fun v' S' => v' = .string ⟨xs.toArray⟩ ∧ S' = []) := by
  intro w hw
  obtain ⟨hge, hC⟩ := two_cells hw
  have hown := hw.owns (k := 1) rfl hv
  have hne : v.ownBlock ≠ some b := by
    obtain ⟨_, ⟨rfl, _, _⟩ | ⟨r, cap, rfl, rfl, _⟩⟩ := hv
    · simp [Value.ownBlock]
    · have := hw.nodup
      unfold BS at this
      simp only [List.flatten_cons, List.singleton_append, List.map_cons, List.nodup_cons, List.mem_cons, not_or] at this
      simp only [Value.ownBlock]
      intro e
      exact this.1.1 (Option.some.inj e).symm
  have hat : ∀ q, q = p → Lib.BuilderAt 44 5 w0.heap.size b q (Lib.byteCells xs) w := by
    rintro q rfl
    exact ⟨hge, v, hC, by have e : Lib.byteCells xs = bytesC xs := rfl
                          rw [e, bytesC_length]; exact hown, hne⟩
  have hB : Lib.IsBuilder 44 5 w0.heap.size b (Lib.byteCells xs) w := by
    rcases hp with rfl | rfl
    · exact .inl (hat _ rfl)
    · exact .inr (hat _ rfl)
  refine (Try.Builder_String_any w0.heap.size b xs w hB hw.base).mono ?_
  rintro e w' ⟨rfl, hbel⟩
  exact ⟨_, [], rfl, ⟨hw.below.trans hbel, by simp, by simp⟩, rfl, rfl⟩
theorem write_fc {w0 : World} {S : SS} {b : Nat} {p v : Value} {seg : Seg} {xs : List UInt8} {s : ByteArray} (hp : p = .pointer none ∨ p = selfP b) (hv : SlV 5 1 v xs.length (bytesC xs) seg) (hb : xs.length + s.size ≤ 1000000000000) :
    FC Try.prog w0 31 [.pointer (some ⟨b, 0, none⟩), .string s] (BS b p v :: seg :: S) (fun _ S' => ∃ v2 seg2, S' = BS b (selfP b) v2 :: seg2 :: S ∧ SlV 5 1 v2 (xs ++ s.data.toList).length (bytesC (xs ++ s.data.toList)) seg2) := by
  refine FC.of Try.known31 (by simp) ?_
  unfold Try.pc31
  simp only [argT]
  refine PW.seqOps ?_
  refine OL.det trivial (Yields.pure rfl) ?_
  refine OL.det trivial (Yields.pure rfl) ?_
  refine OL.nil ?_
  refine PW.keep (T' := [(0, _), (1, _)]) ⟨rfl, rfl, trivial⟩ ?_
  refine PW.seqOps ?_
  refine OL.det trivial (Yields.pure rfl) ?_
  refine OL.call trivial rfl (cc_fc hp) ?_
  rintro _ _ rfl
  change OL _ _ _ _ _ (BS b (selfP b) v :: seg :: S) _
  refine OL.nil ?_
  refine PW.keep (T' := [(0, _), (1, _)]) ⟨rfl, rfl, trivial⟩ ?_
  refine PW.seqOps ?_
  refine OL.det trivial (Yields.pure rfl) ?_
  refine OL.det trivial (Yields.pure rfl) ?_
  refine OL.det trivial (Yields.nilc rfl) ?_
  refine OL.det trivial (Yields.pure rfl) ?_
  refine OL.det trivial (Yields.ld rfl (own_at (j := 1) (c := [selfP b, v]) (E := 44) (tot := 2) (List.mem_flatten.2 ⟨BS b (selfP b) v, List.mem_cons_self, List.mem_singleton.2 rfl⟩) rfl)) ?_
  refine OL.det trivial (Yields.pure rfl) ?_
  refine OL.cons trivial (OW.appStr (k := 1) rfl rfl hv rfl (by omega)) ?_
  rintro v14 _ ⟨seg14, rfl, hsl14⟩
  obtain ⟨A14, c14, rfl, _, _⟩ := hsl14.rd (w0 := w0) (S := [seg14]) (k := 0) rfl
  refine OL.det trivial (Yields.nilc rfl) ?_
  refine OL.det trivial (Yields.pure rfl) ?_
  refine OL.cons trivial (OW.st (k := 0) rfl rfl rfl rfl (by first | decide | (simp; done) | (simp; omega)) (by first | rfl | simp)) ?_
  rintro _ _ rfl
  refine OL.nil ?_
  refine PW.keep (T' := [(1, _)]) ⟨rfl, trivial⟩ ?_
  refine PW.seqOps ?_
  refine OL.det trivial (Yields.pure rfl) ?_
  refine OL.det trivial (Yields.pure rfl) ?_
  refine OL.det trivial (Yields.pure rfl) ?_
  refine OL.det trivial (Yields.pure rfl) ?_
  refine OL.nil ?_
  refine PW.keep (T' := [(4, _), (5, _)]) ⟨rfl, rfl, trivial⟩ ?_
  refine PW.ret ?_
  change (Exit.ret = Exit.normal ∨ Exit.ret = Exit.ret) ∧ ∃ v, resV _ _ = some v ∧ _
  exact ⟨.inr rfl, _, rfl, .slice A14 (xs.length + s.size) c14, seg14, rfl, by rw [List.length_append, show s.data.toList.length = s.size by simp, bytesC, List.map_append]; exact hsl14⟩

end Go.Proofs
