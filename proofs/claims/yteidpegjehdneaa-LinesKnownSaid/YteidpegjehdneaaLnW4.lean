/- Walks and plain facts for the laws of this seat: what each function answers, for every input. -/
import Derived.Laws.Strings
import Derived.Lib.Bytealg
import Derived.Lib.IndexLaws
import Derived.Test.YteidpegjehdneaaLnW3
set_option linter.unusedVariables false
set_option linter.unusedSimpArgs false
namespace Go.Proofs
open Go.SL Go.RowKit
set_option maxHeartbeats 1000000

/-- the lines of a text all of which end -/
def splB : List UInt8 → Option (List ByteArray)
  | [] => some []
  | b :: r => if b = 10 then (splB r).map (⟨#[]⟩ :: ·) else match splB r with | some (x :: xs) => some (⟨(b :: x.data.toList).toArray⟩ :: xs) | _ => none
theorem spl_cut : ∀ (p r : List UInt8), (∀ b ∈ p, b ≠ 10) → splB (p ++ 10 :: r) = (splB r).map (⟨p.toArray⟩ :: ·)
  | [], r, h => by simp [splB]
  | b :: p, r, h => by
    have ih := spl_cut p r (fun x hx => h x (by simp [hx]))
    simp only [List.cons_append, splB]
    rw [if_neg (h b (by simp)), ih]
    cases splB r <;> simp
theorem spl_last : ∀ (l : List UInt8), l ≠ [] → l.getLast? ≠ some 10 → splB l = none
  | [], h, _ => absurd rfl h
  | [b], _, h => by
    have hb : b ≠ 10 := by simpa using h
    simp [splB, hb]
  | b :: c :: r, _, h => by
    have ih := spl_last (c :: r) (by simp) (by simpa using h)
    rw [splB, ih]
    split <;> rfl
theorem spl_no {l : List UInt8} (h0 : l ≠ []) (h : ∀ b ∈ l, b ≠ 10) : splB l = none :=
  spl_last l h0 fun e => h 10 (List.mem_of_getLast? e) rfl
theorem idx_spec (s : ByteArray) : (0 ≤ idxV s → ∃ p r, s.data.toList = p ++ 10 :: r ∧ (∀ b ∈ p, b ≠ 10) ∧ idxV s = (p.length : Int)) ∧ (¬ 0 ≤ idxV s → ∀ b ∈ s.data.toList, b ≠ 10) := by
  have e : idxV s = Lib.indexByte s.data.toList 10 := Lib.firstIdx_eq s 10
  rw [e]
  generalize s.data.toList = l
  induction l with
  | nil => simp [Lib.indexByte]
  | cons b l ih =>
    have hge := Lib.indexByte_ge l 10
    simp only [Lib.indexByte]
    by_cases hb : b = 10
    · subst hb
      simp only [beq_self_eq_true, if_true]
      exact ⟨fun _ => ⟨[], l, rfl, by simp, rfl⟩, fun h => absurd (by omega) h⟩
    · have hbf : (b == 10) = false := by simpa using hb
      rw [hbf]
      simp only [Bool.false_eq_true, if_false]
      by_cases h1 : Lib.indexByte l 10 = -1
      · rw [h1]
        simp only [beq_self_eq_true, if_true]
        refine ⟨fun h => absurd h (by omega), fun _ x hx => ?_⟩
        rcases List.mem_cons.1 hx with rfl | hx
        · exact hb
        · exact ih.2 (by omega) x hx
      · have h2 : (Lib.indexByte l 10 == -1) = false := by simpa using h1
        rw [h2]
        simp only [Bool.false_eq_true, if_false]
        refine ⟨fun _ => ?_, fun h => absurd (by omega) h⟩
        obtain ⟨p, r, e1, e2, e3⟩ := ih.1 (by omega)
        refine ⟨b :: p, r, by rw [e1]; rfl, ?_, by rw [e3]; simp⟩
        intro x hx
        rcases List.mem_cons.1 hx with rfl | hx
        · exact hb
        · exact e2 x hx
theorem ext_list (s : ByteArray) (a b : Nat) : (s.extract a b).data.toList = (s.data.toList.take b).drop a := by
  simp [ByteArray.data_extract, List.drop_take]
theorem ba_ext {s t : ByteArray} (h : s.data.toList = t.data.toList) : s = t := by
  cases s; cases t; congr 1; exact Array.toList_inj.1 h
theorem toL (s : ByteArray) : s.toList = s.data.toList := ByteArray.toList_eq s
theorem endsN_last (s : ByteArray) (p : List UInt8) (b : UInt8) (h : s.data.toList = p ++ [b]) : endsN s = (b == 10) ∧ (b = 10 → cutN s = ⟨p.toArray⟩) := by
  have hsz : s.size = p.length + 1 := by have := congrArg List.length h; simpa using this
  have h1 : endsN s = (b == 10) := by
    unfold endsN
    rw [if_pos (by omega), toL, ext_list, h, hsz]
    have : (List.take (p.length + 1) (p ++ [b])).drop (p.length + 1 - 1) = [b] := by rw [List.take_of_length_le (by simp), Nat.add_sub_cancel, List.drop_left]
    rw [this]
    rw [show bN.toList = [10] by kernel_rfl]
    simp
  refine ⟨h1, fun hb => ?_⟩
  unfold cutN
  rw [h1, hb]
  simp only [beq_self_eq_true, if_true]
  apply ba_ext
  rw [ext_list, h, hsz]
  simp
theorem round_fc {w0 : World} {l D m r2 r3 : Nat} {L : Loop} {T1 : TT} {cs seg : Seg} {s : ByteArray} {ls : List ByteArray} {v : Value} {S0 : SS} (hs : s.size ≤ 9223372036854775807) (hls : ls.length ≤ 1000000) (hv : SlV 9 1 v ls.length (strs ls) seg) (hLs : L.state = .ready) (hLp : L.pending = none) (hLa : L.assign = pA) (hLb : L.body = pB) (hLps : L.params = #[9])
    (hT : Sat 22 T1 { tmps := L.tmps, defers := [] }) (hT2 : Go.SL.look T1 2 = some (.pointer (some ⟨r2, 0, none⟩))) (hT3 : Go.SL.look T1 3 = some (.pointer (some ⟨r3, 0, none⟩))) (w : World) (hw : Rep w0 (LS l D L (cs :: OUT r2 v :: OKC r3 false :: seg :: S0)) w) :
    RoundIn (fen none) m Try.prog l L.fn ((L.params.zip [Value.string s].toArray).foldl (fun tmps (t, a) => tmps.setIfInBounds t a) L.tmps) L.assign L.body w (fun e w' => ∃ v' S', e = .returned v' ∧ Rep w0 S' w' ∧ partsK l D L cs r2 r3 s ls S0 v' S') := by
  have e : ((L.params.zip [Value.string s].toArray).foldl (fun tmps (t, a) => tmps.setIfInBounds t a) L.tmps) = L.tmps.setIfInBounds 9 (.string s) := by rw [hLps]; simp
  rw [e]
  refine round_of (T := [(9, .string s), (2, .pointer (some ⟨r2, 0, none⟩)), (3, .pointer (some ⟨r3, 0, none⟩))]) rfl (by rw [hLa]; exact pa_ok) (by rw [hLb]; exact pb_ok) hLs ?_ hw (parts_body_fc hs hls hv hLs hLp)
  exact (Sat.put hT (d := some 9) rfl (.string s)).keep (Within.spec (T := (9, .string s) :: T1) ⟨rfl, by rw [look_cons_ne _ _ (by decide)]; exact hT2, by rw [look_cons_ne _ _ (by decide)]; exact hT3, trivial⟩)
theorem iter_fc {w0 : World} {l D rs r2 r3 : Nat} {L : Loop} {T1 : TT} {tb : ByteArray} {S0 : SS} (htb : tb.size ≤ 100000) (hLs : L.state = .ready) (hLp : L.pending = none) (hLa : L.assign = pA) (hLb : L.body = pB) (hLps : L.params = #[9])
    (hT : Sat 22 T1 { tmps := L.tmps, defers := [] }) (hT2 : Go.SL.look T1 2 = some (.pointer (some ⟨r2, 0, none⟩))) (hT3 : Go.SL.look T1 3 = some (.pointer (some ⟨r3, 0, none⟩))) :
    FC Try.prog w0 37 [.func (.yield l) #[] #[], .pointer (some ⟨rs, 0, none⟩)] (LS l D L ([(rs, .cells [.string tb] 9 1)] :: OUT r2 (.slice none 0 0) :: OKC r3 false :: [] :: S0))
      (fun _ S' => ∃ (L' : Loop) (v2 : Value) (seg : Seg) (cs : Seg), S' = LS l D L' (cs :: OUT r2 v2 :: OKC r3 false :: seg :: S0) ∧ L'.state ≠ .busy ∧
        ((L'.pending = none ∧ ∃ ls, splB tb.data.toList = some ls ∧ SlV 9 1 v2 ls.length (strs ls) seg) ∨ (L'.pending = some .ret ∧ splB tb.data.toList = none ∧ v2 = .slice none 0 0))) := by
  refine FC.of Try.known37 (by simp) ?_
  unfold Try.pc37
  simp only [argT]
  refine PW.block ?_
  refine PW.keep (T' := [(0, _), (1, _)]) ⟨rfl, rfl, trivial⟩ ?_
  refine PW.loopK (I := fun m T S' => ∃ (s : ByteArray) (v : Value) (seg : Seg) (ls : List ByteArray), (m = s.size ∧ s.size + ls.length ≤ tb.size ∧ SlV 9 1 v ls.length (strs ls) seg ∧ splB tb.data.toList = (splB s.data.toList).map (ls ++ ·)) ∧ T = ([(0, .func (.yield l) #[] #[]), (1, .pointer (some ⟨rs, 0, none⟩))] : TT) ∧ S' = LS l D L ([(rs, .cells [.string s] 9 1)] :: OUT r2 v :: OKC r3 false :: seg :: S0)) (m := tb.size) ⟨tb, _, [], [], ⟨rfl, by simp, SlV.nil 9 1, by cases splB tb.data.toList <;> simp⟩, rfl, rfl⟩ ?_
  rintro m _ _ ⟨s, v, seg, ls, ⟨hm, hsl, hv, hspl⟩, rfl, rfl⟩
  have hsz : s.size = s.data.toList.length := by simp
  refine PW.seq fun K1 hK1 => ?_
  refine PW.seqOps ?_
  refine OL.det trivial (Yields.ld rfl (own_at (j := 0) (c := [.string s]) (E := 9) (tot := 1) (List.mem_flatten.2 ⟨_, List.mem_cons_of_mem _ (List.mem_cons_of_mem _ List.mem_cons_self), List.mem_singleton.2 rfl⟩) rfl)) ?_
  refine OL.det trivial (Yields.pure rfl) ?_
  refine OL.det trivial (Yields.pure rfl) ?_
  refine OL.nil ?_
  refine PW.keep (T' := [(0, _), (1, _), (7, _)]) ⟨rfl, rfl, rfl, trivial⟩ ?_
  refine PW.cond rfl (fun c7 => ?_) (fun c7 => ?_)
  · try simp only [decide_eq_true_eq, decide_eq_false_iff_not, beq_iff_eq, bne_iff_ne, beq_eq_false_iff_ne, bne_eq_false_iff_eq, Bool.not_eq_true', Bool.not_eq_false', Bool.not_eq_true, ne_eq, Decidable.not_not] at c7
    have hne : s.data.toList ≠ [] := by intro e; rw [e, List.length_nil] at hsz; omega
    refine PW.skip ?_
    refine hK1 _ _ ?_
    refine PW.keep (T' := [(0, _), (1, _)]) ⟨rfl, rfl, trivial⟩ ?_
    refine PW.block ?_
    refine PW.seqOps ?_
    refine OL.det trivial (Yields.pure rfl) ?_
    refine OL.nil ?_
    refine PW.keep (T' := [(0, _), (1, _)]) ⟨rfl, rfl, trivial⟩ ?_
    refine PW.seq fun K2 hK2 => ?_
    refine PW.seqOps ?_
    refine OL.det trivial (Yields.ld rfl (own_at (j := 0) (c := [.string s]) (E := 9) (tot := 1) (List.mem_flatten.2 ⟨_, List.mem_cons_of_mem _ (List.mem_cons_of_mem _ List.mem_cons_self), List.mem_singleton.2 rfl⟩) rfl)) ?_
    refine OL.call trivial rfl (index_fc) ?_
    rintro _ _ ⟨rfl, rfl⟩
    refine OL.det trivial (Yields.pure rfl) ?_
    refine OL.nil ?_
    refine PW.keep (T' := [(0, _), (1, _), (4, _)]) ⟨rfl, rfl, rfl, trivial⟩ ?_
    refine PW.seqOps ?_
    refine OL.det trivial (Yields.pure rfl) ?_
    refine OL.det trivial (Yields.pure rfl) ?_
    refine OL.nil ?_
    refine PW.keep (T' := [(0, _), (1, _), (4, _), (11, _)]) ⟨rfl, rfl, rfl, rfl, trivial⟩ ?_
    refine PW.cond rfl (fun c11 => ?_) (fun c11 => ?_)
    · try simp only [decide_eq_true_eq, decide_eq_false_iff_not, beq_iff_eq, bne_iff_ne, beq_eq_false_iff_ne, bne_eq_false_iff_eq, Bool.not_eq_true', Bool.not_eq_false', Bool.not_eq_true, ne_eq, Decidable.not_not] at c11
      obtain ⟨p, rr, hpr, hp, hpl⟩ := (idx_spec s).1 (by omega)
      have hplen : p.length + 1 ≤ s.size := by rw [hsz, hpr]; simp
      have hln := endsN_last (s.extract 0 (p.length + 1)) p 10 (by rw [ext_list, hpr, List.drop_zero, show p ++ 10 :: rr = (p ++ [10]) ++ rr by simp, List.take_left' (by simp)])
      have hlsz : (s.extract 0 (p.length + 1)).size ≤ s.size := by simp; omega
      have hrest : (s.extract (p.length + 1) s.size).data.toList = rr := by
        rw [ext_list, hsz, List.take_length, hpr, show p ++ 10 :: rr = (p ++ [10]) ++ rr by simp, List.drop_left' (by simp)]
      refine PW.quietK Try.mixed ?_
      refine QK.det trivial (Yields.ld rfl (own_at (j := 0) (c := [.string s]) (E := 9) (tot := 1) (List.mem_flatten.2 ⟨_, List.mem_cons_of_mem _ (List.mem_cons_of_mem _ List.mem_cons_self), List.mem_singleton.2 rfl⟩) rfl)) ?_
      refine QK.det trivial (Yields.pure rfl) ?_
      refine QK.det trivial (Yields.add64 rfl rfl (by omega) (by omega)) ?_
      refine QK.det trivial (Yields.slStr (s := s) (l := 0) (h := p.length + 1) rfl rfl rfl (.inr ⟨rfl, rfl⟩) (.inl (by rw [hpl]; rfl)) (by omega) (by omega)) ?_
      refine QK.det trivial (Yields.ld rfl (own_at (j := 0) (c := [.string s]) (E := 9) (tot := 1) (List.mem_flatten.2 ⟨_, List.mem_cons_of_mem _ (List.mem_cons_of_mem _ List.mem_cons_self), List.mem_singleton.2 rfl⟩) rfl)) ?_
      refine QK.det trivial (Yields.pure rfl) ?_
      refine QK.det trivial (Yields.add64 rfl rfl (by omega) (by omega)) ?_
      refine QK.det trivial (Yields.slStr (s := s) (l := p.length + 1) (h := s.size) rfl rfl rfl (.inl (by rw [hpl]; rfl)) (.inr ⟨rfl, rfl⟩) (by omega) (by omega)) ?_
      refine QK.det trivial (Yields.pure rfl) ?_
      refine QK.nil ?_
      change OL _ _ _ [_] _ _ _
      refine OL.cons trivial (OW.st (k := 2) rfl rfl rfl rfl (Nat.le_refl 1) rfl) ?_
      rintro _ _ rfl
      refine OL.nil ?_
      refine hK2 _ _ ?_
      refine PW.keep (T' := [(0, _), (1, _), (3, _)]) ⟨rfl, rfl, rfl, trivial⟩ ?_
      refine PW.seqOpsY (m := 1) ?_
      refine OLi.det (by simp) trivial (Yields.pure rfl) ?_
      refine OLi.det (by simp) trivial (Yields.pure rfl) ?_
      refine OLi.cons trivial (OWi.yield (L := L) rfl rfl (List.Mem.head _) (by rw [hLps]; rfl) (round_fc (by have := hlsz; omega) (by omega) hv hLs hLp hLa hLb hLps hT hT2 hT3)) ?_
      rintro _ _ ⟨L', v2, seg', rfl, rfl, hk1, hk2⟩
      refine OLi.det (by simp) trivial (Yields.pure rfl) ?_
      refine OLi.nil ?_
      refine PW.keep (T' := [(0, _), (1, _), (24, _)]) ⟨rfl, rfl, rfl, trivial⟩ ?_
      refine PW.cond rfl (fun c24 => ?_) (fun c24 => ?_)
      · try simp only [decide_eq_true_eq, decide_eq_false_iff_not, beq_iff_eq, bne_iff_ne, beq_eq_false_iff_ne, bne_eq_false_iff_eq, Bool.not_eq_true', Bool.not_eq_false', Bool.not_eq_true, ne_eq, Decidable.not_not] at c24
        refine PW.ret ?_
        change (Exit.ret = Exit.normal ∨ Exit.ret = Exit.ret) ∧ ∃ v, resV _ _ = some v ∧ _
        first
          | (exfalso; rw [hln.1] at c24; simp at c24; done)
          | (obtain ⟨rfl, rfl⟩ := hk2 hen; exact ⟨.inr rfl, _, rfl, _, _, seg', _, rfl, by simp, .inr ⟨rfl, by rw [hspl, spl_no hne hno]; rfl, rfl⟩⟩)
      · try simp only [decide_eq_true_eq, decide_eq_false_iff_not, beq_iff_eq, bne_iff_ne, beq_eq_false_iff_ne, bne_eq_false_iff_eq, Bool.not_eq_true', Bool.not_eq_false', Bool.not_eq_true, ne_eq, Decidable.not_not] at c24
        refine PW.skip ?_
        repeat rw [inBlk_n]
        rw [thenK_n]
        refine LoopEnd.mk (T'' := [(0, _), (1, _)]) ⟨rfl, rfl, trivial⟩ ?_
        first
          | (exfalso; rw [hen] at c24; simp at c24; done)
          | (obtain ⟨hL', hsl'⟩ := hk1 (by rw [hln.1]; rfl)
             subst hL'
             rw [hln.2 rfl] at hsl'
             refine ⟨(s.extract (p.length + 1) s.size).size, by simp; omega, s.extract (p.length + 1) s.size, v2, seg', ls ++ [⟨p.toArray⟩], ⟨rfl, by simp; omega, by simpa using hsl', ?_⟩, rfl, rfl⟩
             rw [hspl, hrest, hpr, spl_cut p rr hp]
             cases splB rr <;> simp)
    · try simp only [decide_eq_true_eq, decide_eq_false_iff_not, beq_iff_eq, bne_iff_ne, beq_eq_false_iff_ne, bne_eq_false_iff_eq, Bool.not_eq_true', Bool.not_eq_false', Bool.not_eq_true, ne_eq, Decidable.not_not] at c11
      have hno := (idx_spec s).2 (by omega)
      have hlsz : s.size ≤ s.size := Nat.le_refl _
      have hen : endsN s = false := by
        rw [(endsN_last s _ _ (List.dropLast_concat_getLast hne).symm).1]
        have := hno _ (List.getLast_mem hne)
        simpa using this
      refine PW.ops ?_
      refine OL.det trivial (Yields.ld rfl (own_at (j := 0) (c := [.string s]) (E := 9) (tot := 1) (List.mem_flatten.2 ⟨_, List.mem_cons_of_mem _ (List.mem_cons_of_mem _ List.mem_cons_self), List.mem_singleton.2 rfl⟩) rfl)) ?_
      refine OL.det trivial (Yields.pure rfl) ?_
      refine OL.cons trivial (OW.st (k := 2) rfl rfl rfl rfl (Nat.le_refl 1) rfl) ?_
      rintro _ _ rfl
      refine OL.nil ?_
      refine hK2 _ _ ?_
      refine PW.keep (T' := [(0, _), (1, _), (3, _)]) ⟨rfl, rfl, rfl, trivial⟩ ?_
      refine PW.seqOpsY (m := 1) ?_
      refine OLi.det (by simp) trivial (Yields.pure rfl) ?_
      refine OLi.det (by simp) trivial (Yields.pure rfl) ?_
      refine OLi.cons trivial (OWi.yield (L := L) rfl rfl (List.Mem.head _) (by rw [hLps]; rfl) (round_fc (by have := hlsz; omega) (by omega) hv hLs hLp hLa hLb hLps hT hT2 hT3)) ?_
      rintro _ _ ⟨L', v2, seg', rfl, rfl, hk1, hk2⟩
      refine OLi.det (by simp) trivial (Yields.pure rfl) ?_
      refine OLi.nil ?_
      refine PW.keep (T' := [(0, _), (1, _), (24, _)]) ⟨rfl, rfl, rfl, trivial⟩ ?_
      refine PW.cond rfl (fun c24 => ?_) (fun c24 => ?_)
      · try simp only [decide_eq_true_eq, decide_eq_false_iff_not, beq_iff_eq, bne_iff_ne, beq_eq_false_iff_ne, bne_eq_false_iff_eq, Bool.not_eq_true', Bool.not_eq_false', Bool.not_eq_true, ne_eq, Decidable.not_not] at c24
        refine PW.ret ?_
        change (Exit.ret = Exit.normal ∨ Exit.ret = Exit.ret) ∧ ∃ v, resV _ _ = some v ∧ _
        first
          | (exfalso; rw [hln.1] at c24; simp at c24; done)
          | (obtain ⟨rfl, rfl⟩ := hk2 hen; exact ⟨.inr rfl, _, rfl, _, _, seg', _, rfl, by simp, .inr ⟨rfl, by rw [hspl, spl_no hne hno]; rfl, rfl⟩⟩)
      · try simp only [decide_eq_true_eq, decide_eq_false_iff_not, beq_iff_eq, bne_iff_ne, beq_eq_false_iff_ne, bne_eq_false_iff_eq, Bool.not_eq_true', Bool.not_eq_false', Bool.not_eq_true, ne_eq, Decidable.not_not] at c24
        refine PW.skip ?_
        repeat rw [inBlk_n]
        rw [thenK_n]
        refine LoopEnd.mk (T'' := [(0, _), (1, _)]) ⟨rfl, rfl, trivial⟩ ?_
        first
          | (exfalso; rw [hen] at c24; simp at c24; done)
          | (obtain ⟨hL', hsl'⟩ := hk1 (by rw [hln.1]; rfl)
             subst hL'
             rw [hln.2 rfl] at hsl'
             refine ⟨(s.extract (p.length + 1) s.size).size, by simp; omega, s.extract (p.length + 1) s.size, v2, seg', ls ++ [⟨p.toArray⟩], ⟨rfl, by simp; omega, by simpa using hsl', ?_⟩, rfl, rfl⟩
             rw [hspl, hrest, hpr, spl_cut p rr hp]
             cases splB rr <;> simp)
  · try simp only [decide_eq_true_eq, decide_eq_false_iff_not, beq_iff_eq, bne_iff_ne, beq_eq_false_iff_ne, bne_eq_false_iff_eq, Bool.not_eq_true', Bool.not_eq_false', Bool.not_eq_true, ne_eq, Decidable.not_not] at c7
    refine PW.exit ?_
    change (Exit.normal = Exit.normal ∨ Exit.normal = Exit.ret) ∧ ∃ v, resV _ _ = some v ∧ _
    have h0 : s.data.toList = [] := List.eq_nil_of_length_eq_zero (by omega)
    rw [h0] at hspl
    exact ⟨.inl rfl, _, rfl, L, v, seg, _, rfl, by rw [hLs]; simp, .inl ⟨hLp, ls, by rw [hspl]; simp [splB], hv⟩⟩

end Go.Proofs
