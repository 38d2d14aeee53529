/- Operations on memory, one by one: what the evaluator tells is so. -/
import Derived.Test.YtbidjnjbiibdeaaDoorE7
import Derived.Lib.UnsafeStr
set_option linter.unusedVariables false
set_option linter.unusedSimpArgs false
namespace Go.SL
open Go.RowKit
section
variable {P : Program} {w0 : World} {n : Nat} {T Tc : TT} {S : SS} {ρ : Rho} {H : EH} {L : LL} {r : Value × EH}
theorem zeroCells_eq {z : Array Value} (h : 0 < z.size) (k : Nat) : (Builtin.zeroCells z k).toList = madeL z.toList (k * z.size) := by
  simp only [Builtin.zeroCells, madeL, Array.toList_map, Array.toList_range]
  apply List.map_congr_left
  intro i _
  have : i % z.size < z.size := Nat.mod_lt _ h
  rw [getElem!_pos z (i % z.size) this]
  simp [List.getD_eq_getElem?_getD, this]
theorem OW.clr {E E' sz b o l cp tot k : Nat} {z : Value} {x : PV} {c news : List Value} (hx : x.val T = some (.slice (some ⟨b, o, none⟩) l cp)) (hk : S[k]? = some [(b, .cells c E' tot)]) (hl : 0 < l) (hz : 0 < z.cells.size)
    (hn : news = madeL z.cells.toList (l * z.cells.size)) (hb : o + news.length ≤ c.length) (h1 : news.all (·.oneCell') = true) :
    OW P w0 n (.more (.clr E sz z x)) T S (fun v S' => v = .tuple #[] ∧ S' = S.set k [(b, .cells (setAt c o news) E' tot)]) := by
  intro op a w Q hco hs hr
  obtain ⟨t, y, cl, i, ho, hca, hat, har, rfl, hu, hi, hiz, hsz, hzs, hs0⟩ := cOp_spec P hco
  obtain ⟨hge, C, hC, htot, hpre⟩ := hr.own (b, .cells c E' tot) (List.mem_flatten.2 ⟨_, List.mem_of_getElem? hk, by simp⟩)
  simp only at hge hC
  have hlen : c.length ≤ C.size := by
    have := congrArg List.length hpre
    simp at this
    omega
  have hst := run_storeCells_at P b o E' news 0 C w hC (by omega) (fun v hv => (List.all_eq_true.1 h1) v hv)
  simp only [Nat.add_zero] at hst
  unfold Oper.wp
  have hrun : (execOp a.eval op).run P w = .ok (.value (.tuple #[])) (w.setRow b (C.toList.take o ++ news ++ C.toList.drop (o + news.length)).toArray) := by
    simp only [execOp, ho, resolve, hca, invoke, builtin, hat, har]
    obtain ⟨l', rfl⟩ : ∃ l', l = l' + 1 := ⟨l - 1, by omega⟩
    simp [Builtin.clear_, hs.eval hx, run_underlying hu, zeroValue, typeInfo, program, Sem.run, hi, hiz, zeroCells_eq hz, ← hn, hst]
  rw [hrun]
  refine ⟨_, _, rfl, ?_, rfl, rfl⟩
  have hheap := setRow_heap w b C (C.toList.take o ++ news ++ C.toList.drop (o + news.length)).toArray E' (0, 0) hC
  refine hr.replace hk (below_setRow w b _ hge) (fun i _ hne => setRow_heap_other w b i _ (by simpa using hne)) (by simp) ?_
  intro p hp
  simp only [List.mem_singleton] at hp
  subst hp
  refine ⟨hge, ⟨_, hheap, ?_, ?_⟩, .inl (by simp)⟩
  · simp only [List.size_toArray, List.length_append, List.length_take, List.length_drop, Array.length_toList]; omega
  · rw [setAt_length, setAt_eq c o _ (by omega)]
    have := take_lay C.toList o news c.length (by omega) (by simp; omega)
    simp only at this ⊢
    rw [hpre] at this
    simpa using this
theorem OW.uss {e b tot k : Nat} {x y : PV} {l : List UInt8} {r : List Value} (hx : x.val T = some (.pointer (some ⟨b, 0, none⟩))) (hy : y.val T = some (.int .i64 (l.length : Int))) (hk : S[k]? = some [(b, .cells (bytesC l ++ r) e tot)]) (h0 : l ≠ [])
    (h63 : l.length ≤ maxLen) : OW P w0 n (.more (.uss e x y)) T S (fun v S' => v = .string (mkStr l) ∧ S' = S.set k []) := by
  intro op a w Q hco hs hr
  obtain ⟨t, u, cl, p, q, ho, hca, hat, har, rfl, rfl, hu, hce⟩ := cOp_spec P hco
  obtain ⟨hge, C, hC, htot, hpre⟩ := hr.own (b, .cells (bytesC l ++ r) e tot) (List.mem_flatten.2 ⟨_, List.mem_of_getElem? hk, by simp⟩)
  simp only at hge hC
  have hlen : l.length ≤ C.size := by
    have := congrArg List.length hpre
    simp [bytesC_length] at this
    omega
  have hcell : ∀ (j : Nat) (x : UInt8), l[j]? = some x → w.cell? ((⟨b, 0, none⟩ : Addr).add j) = some (.int .u8 x.toNat) := by
    intro j x hj
    have h1 : (bytesC l)[j]? = some (.int .u8 x.toNat) := by simp [bytesC, hj]
    have := hr.cell (own_at (S := S) (w0 := w0) (List.mem_flatten.2 ⟨_, List.mem_of_getElem? hk, by simp⟩ : (b, AO.cells (bytesC l ++ r) e tot) ∈ S.flatten) (j := j) (v := .int .u8 x.toNat) (by
      rw [List.getElem?_append_left (by rw [bytesC_length]; exact (List.getElem?_eq_some_iff.1 hj).1)]; exact h1))
    rw [add_own]; exact this
  have hrun0 := Lib.run_unsafeString_row (P := P) w t u op.type e hu hce b C.size (by unfold World.shape?; rw [hC]) l h0 hlen (by simpa [maxLen] using h63) hcell
  have hrun : (execOp a.eval op).run P w = .ok (.value (.string (mkStr l))) (w.freeze ⟨b, 0, none⟩ l.length) := by
    simp only [execOp, ho, resolve, hca, invoke, builtin, hat, har]
    simp [hs.eval hx, hs.eval hy, hrun0, mkStr]
  unfold Oper.wp
  rw [hrun]
  refine ⟨_, _, rfl, ?_, rfl, rfl⟩
  refine hr.replace hk (Lib.below_freeze (Below.refl _ w) hge _) (fun i _ hne => ?_) (by simp) (fun p hp => by simp at hp)
  simp only [List.map_cons, List.map_nil, List.mem_singleton] at hne
  unfold World.freeze
  split
  · rfl
  · simp only [Array.getElem?_modify]
    rw [if_neg (by omega)]
theorem Yields.usd {x : PV} {A : Addr} {l c : Nat} (hx : x.val T = some (.slice (some A) l c)) (hc : c ≠ 0) : Yields P w0 n (.more (.usd x)) T S (.pointer (some A)) := by
  intro o a w hco hs hr
  obtain ⟨cl, p, ho, hca, har, rfl⟩ := cOp_spec P hco
  have := Lib.run_unsafeSliceData_row (P := P) w cl.argTypes o.type A l c hc
  simp only [execOp, ho, resolve, hca, invoke, builtin, har]
  simp [hs.eval hx, this]
theorem new_ptr {r t : Nat} (hH : HR w0 ρ H L) : VR (ρ ++ [(r, t)]) (ownP H) (.pointer (some ⟨r, 0, none⟩)) := .ptr (nx_get hH _)
theorem snd_ld {x : PV} (hT : TR ρ T Tc) (hH : HR w0 ρ H L) (h : evM (.ld x) T H = some r) : Snd P w0 n S (.ld x) Tc ρ L r := by
  simp only [evM] at h
  split at h
  · rename_i a hx
    split at h
    · rename_i v hv
      obtain rfl := Option.some.inj h
      obtain ⟨u, h1, h2⟩ := hT.ev hx
      obtain ⟨a', rfl, h3⟩ := h2.ptr_inv
      obtain ⟨u, h4, h5⟩ := hH.cell (S := S) h3 hv
      exact Snd.det (Yields.ld h1 h4) h5 hH
    · cases h
  · cases h
theorem snd_ldA {m : Nat} {x : PV} (hT : TR ρ T Tc) (hH : HR w0 ρ H L) (h : evM (.ldA m x) T H = some r) : Snd P w0 n S (.ldA m x) Tc ρ L r := by
  simp only [evM] at h
  split at h
  · rename_i a hx
    split at h
    · rename_i c hv
      obtain rfl := Option.some.inj h
      obtain ⟨u, h1, h2⟩ := hT.ev hx
      obtain ⟨a', rfl, h3⟩ := h2.ptr_inv
      obtain ⟨hl, us, h4, h5⟩ := hH.row (S := S) h3 hv
      exact Snd.det (Yields.ldA h1 (by rw [← h4.1]; exact hl) h5) (.agg h4.1 h4.2) hH
    · cases h
  · cases h
theorem snd_st {sz : Nat} {x v : PV} (hT : TR ρ T Tc) (hH : HR w0 ρ H L) (h : evM (.st sz x v) T H = some r) : Snd P w0 n S (.st sz x v) Tc ρ L r := by
  simp only [evM] at h
  split at h
  · rename_i a u hx hv
    split at h
    · rename_i c E ho
      obtain ⟨hc, h9⟩ := bif_some h
      clear h
      simp only [Bool.and_eq_true] at hc
      obtain ⟨⟨hs, hle⟩, h1c⟩ := hc
      have hs := Nat.eq_of_beq_eq_true hs
      have hle := Nat.le_of_ble_eq_true hle
      obtain rfl := Option.some.inj h9
      obtain ⟨ux, h1, h2⟩ := hT.ev hx
      obtain ⟨uv, h3, h4⟩ := hT.ev hv
      obtain ⟨a', rfl, ha⟩ := h2.ptr_inv
      obtain ⟨i, hi1, hi2, hi3⟩ := EH.obj_spec ho
      rw [hi2]
      obtain ⟨b, t, o', k, g1, ⟨c', g2, rfl⟩, g3, g4⟩ := hH.own hi3 (by simp) S
      obtain ⟨p1, p2, p3, p4⟩ := ha
      have hb : a'.block = b := by
        rcases p4 with ⟨p4, _⟩ | ⟨i', t', p4, p5⟩
        · omega
        · obtain rfl : i' = i := by omega
          rw [g1] at p5
          simp only [Option.some.injEq, Prod.mk.injEq] at p5
          exact p5.1.symm
      have ea : a' = ⟨b, a.off, none⟩ := by rw [← hb, p3, ← p2]
      rw [ea] at h1
      have hcv := h4.cells
      have hlt : k < L.length := (List.getElem?_eq_some_iff.1 g3).1
      refine (OW.stU h1 h3 g4 (by have := hcv.1; simp at this hs; omega) (by rw [← g2.1]; exact hle) (by rw [hcv.one]; exact h1c)).mono ?_
      rintro w S' ⟨rfl, rfl⟩
      exact ⟨ρ, L.set k (i, _), List.prefix_refl _, .tuple (cs := []) (cs' := []) rfl (fun j v u h => by simp at h), cs_set (x := (i, _)) hlt, hH.upd g1 g3 ⟨_, g2.setAt _ hcv, rfl⟩⟩
    · cases h
  · cases h
theorem snd_build {zero : List Value} {parts : List (Nat × Nat × PV)} (hT : TR ρ T Tc) (hH : HR w0 ρ H L) (h : evM (.build zero parts) T H = some r) : Snd P w0 n S (.build zero parts) Tc ρ L r := by
  simp only [evM] at h
  obtain ⟨hz, h⟩ := bif_some h
  split at h
  · rename_i c hc
    obtain rfl := Option.some.inj h
    obtain ⟨d, h1, h2⟩ := fillE_spec hT hc (VRL.flat hz)
    exact Snd.det (Yields.build h1) (.agg h2.1 h2.2) hH
  · cases h
theorem fillE_len : ∀ {parts : List (Nat × Nat × PV)} {c d : List Value}, fillE T c parts = some d → d.length = c.length
  | [], c, d, h => by simp [fillE] at h; rw [h]
  | (off, size, x) :: r, c, d, h => by
    simp only [fillE] at h
    split at h
    · obtain ⟨_, h⟩ := bif_some h
      rw [fillE_len h, setAt_length]
    · cases h
theorem snd_bsl {E : TypeId} {zero : List Value} {len : Nat} {parts : List (Nat × Nat × PV)} (hT : TR ρ T Tc) (hH : HR w0 ρ H L) (h : evM (.bsl E zero len parts) T H = some r) : Snd P w0 n S (.bsl E zero len parts) Tc ρ L r := by
  simp only [evM] at h
  obtain ⟨hz, h⟩ := bif_some h
  simp only [Bool.and_eq_true] at hz
  obtain ⟨⟨⟨⟨⟨hz, hr⟩, h0⟩, h1⟩, h2⟩, h3⟩ := hz
  rw [Nat.blt_eq] at h0 h1
  have h2 := Nat.eq_of_beq_eq_true h2
  have h3 := Nat.le_of_ble_eq_true h3
  split at h
  · rename_i c hc
    obtain rfl := Option.some.inj h
    obtain ⟨d, g1, g2⟩ := fillE_spec hT hc (VRL.flat hz)
    have hl : d.length = len * (zero.length / len) := by rw [← g2.1, fillE_len hc, h2]
    refine Snd.new (F := fun r u o' t => t = len * (zero.length / len) ∧ u = .slice (some ⟨r, 0, none⟩) len len ∧ o' = .cells d E (len * (zero.length / len))) (room_lt hr) hH ((OW.bsl g1).mono ?_) ?_
    · rintro u S' ⟨r, rfl, rfl⟩
      exact ⟨r, _, _, ⟨rfl, rfl, rfl⟩, by rw [hl]⟩
    · rintro r u o' t ⟨rfl, rfl, rfl⟩
      exact ⟨ownS_VR hH.nx.symm h1 (Nat.le_refl _) (by unfold maxLen; omega), d, g2.mono (List.prefix_append _ _), rfl⟩
  · cases h
theorem snd_bsl0 {E : TypeId} (hH : HR w0 ρ H L) (h : evM (.bsl0 E) T H = some r) : Snd P w0 n S (.bsl0 E) Tc ρ L r := by
  simp only [evM] at h
  obtain ⟨hr, h⟩ := bif_some h
  obtain rfl := Option.some.inj h
  refine Snd.new (F := fun r u o' t => t = 0 ∧ u = .slice (some ⟨r, 0, none⟩) 0 0 ∧ o' = .cells [] E 0) (room_lt hr) hH (OW.bsl0.mono ?_) ?_
  · rintro u S' ⟨r, rfl, rfl⟩
    exact ⟨r, _, _, ⟨rfl, rfl, rfl⟩, rfl⟩
  · rintro r u o' t ⟨rfl, rfl, rfl⟩
    refine ⟨?_, [], .nil, rfl⟩
    have := VR.slice (ρ := ρ ++ [(r, 0)]) (i := H.nx) (o := 0) (b := r) (t := 0) (l := 0) (e := 0) (nx_get hH _) ⟨by omega, fun _ => .inl ⟨rfl, rfl⟩⟩ (by simp [capOf])
    exact this
theorem snd_al {E : TypeId} {zero : List Value} (hH : HR w0 ρ H L) (h : evM (.al E zero) T H = some r) : Snd P w0 n S (.al E zero) Tc ρ L r := by
  simp only [evM] at h
  obtain ⟨hr, h⟩ := bif_some h
  simp only [Bool.and_eq_true] at hr
  obtain rfl := Option.some.inj h
  refine Snd.new (F := fun r u o' t => t = zero.length ∧ u = .pointer (some ⟨r, 0, none⟩) ∧ o' = .cells zero E zero.length) (room_lt hr.2) hH (OW.al.mono ?_) ?_
  · rintro u S' ⟨r, rfl, rfl⟩
    exact ⟨r, _, _, ⟨rfl, rfl, rfl⟩, rfl⟩
  · rintro r u o' t ⟨rfl, rfl, rfl⟩
    exact ⟨new_ptr hH, zero, VRL.flat hr.1, rfl⟩
theorem snd_bx {E : TypeId} {x : PV} (hT : TR ρ T Tc) (hH : HR w0 ρ H L) (h : evM (.bx E x) T H = some r) : Snd P w0 n S (.bx E x) Tc ρ L r := by
  simp only [evM] at h
  split at h
  · rename_i v hx
    obtain ⟨hr, h⟩ := bif_some h
    obtain rfl := Option.some.inj h
    obtain ⟨u, h1, h2⟩ := hT.ev hx
    refine Snd.new (F := fun r u' o' t => t = u.cells.toList.length ∧ u' = .pointer (some ⟨r, 0, none⟩) ∧ o' = .cells u.cells.toList E u.cells.toList.length) (room_lt hr) hH ((OW.bx h1).mono ?_) ?_
    · rintro u' S' ⟨r, rfl, rfl⟩
      exact ⟨r, _, _, ⟨rfl, rfl, rfl⟩, rfl⟩
    · rintro r u' o' t ⟨rfl, rfl, rfl⟩
      exact ⟨new_ptr hH, _, h2.cells.mono (List.prefix_append _ _), rfl⟩
  · cases h
theorem snd_mkM (hH : HR w0 ρ H L) (h : evM .mkM T H = some r) : Snd P w0 n S .mkM Tc ρ L r := by
  simp only [evM] at h
  obtain ⟨hr, h⟩ := bif_some h
  obtain rfl := Option.some.inj h
  refine Snd.new (F := fun r u o' t => t = 0 ∧ u = .map (some r) ∧ o' = .map []) (room_lt hr) hH (OW.mkM.mono ?_) ?_
  · rintro u S' ⟨r, rfl, rfl⟩
    exact ⟨r, _, _, ⟨rfl, rfl, rfl⟩, rfl⟩
  · rintro r u o' t ⟨rfl, rfl, rfl⟩
    exact ⟨.map (nx_get hH _), [], ⟨rfl, .nil⟩, rfl⟩
theorem all_flat_made {z : List Value} (h : z.all flatV = true) (h0 : 0 < z.length) (k : Nat) : (madeL z k).all flatV = true := by
  rw [List.all_eq_true] at h ⊢
  intro v hv
  obtain ⟨i, _, rfl⟩ := List.mem_map.1 hv
  have hlt : i % z.length < z.length := Nat.mod_lt _ h0
  rw [List.getD_eq_getElem?_getD, List.getElem?_eq_getElem hlt]
  exact h _ (List.getElem_mem hlt)
theorem snd_mkS {t E sz bytes : Nat} {z : Value} {l c : PV} (hT : TR ρ T Tc) (hH : HR w0 ρ H L) (h : evM (.mkS t E sz bytes z l c) T H = some r) : Snd P w0 n S (.mkS t E sz bytes z l c) Tc ρ L r := by
  simp only [evM] at h
  split at h
  · rename_i k a k' m hl hc
    obtain ⟨hb, h9⟩ := bif_some h
    clear h
    simp only [Bool.and_eq_true, decide_eq_true_eq] at hb
    obtain ⟨⟨⟨⟨⟨⟨hr, hz⟩, hzs⟩, h0⟩, h1⟩, h2⟩, h3⟩ := hb
    have hzs := Nat.eq_of_beq_eq_true hzs
    rw [Nat.blt_eq] at h0
    have h1 := Nat.le_of_ble_eq_true h1
    have h2 := Nat.le_of_ble_eq_true h2
    obtain ⟨u, g1, g2⟩ := hT.ev hl
    obtain ⟨u', g3, g4⟩ := hT.ev hc
    obtain rfl := g2.int_inv
    obtain rfl := g4.int_inv
    have hm : m = ((m.toNat : Nat) : Int) := by omega
    generalize m.toNat = q at *
    subst hm
    split at h9
    · rename_i e
      subst e
      obtain rfl := Option.some.inj h9
      refine Snd.new (F := fun r u o' t => t = q * sz ∧ u = .slice (some ⟨r, 0, none⟩) q q ∧ o' = .cells (madeCells z.cells (q * sz)).toList E (q * sz)) (room_lt hr) hH ((OW.mkS_full g1 g3 h1 (by unfold maxLen; omega)).mono ?_) ?_
      · rintro u S' ⟨r, rfl, rfl⟩
        exact ⟨r, _, _, ⟨rfl, rfl, rfl⟩, rfl⟩
      · rintro r u o' t ⟨rfl, rfl, rfl⟩
        refine ⟨ownS_VR hH.nx.symm h0 (Nat.le_refl _) (by unfold maxLen; omega), _, ?_, rfl⟩
        rw [madeL_eq (by simp at hzs; omega)]
        exact VRL.flat (all_flat_made hz (by omega) _)
    · split at h9
      · rename_i e1 e
        subst e
        obtain rfl := Option.some.inj h9
        refine Snd.new (F := fun r u o' t => t = q * sz ∧ u = .slice (some ⟨r, 0, none⟩) 0 q ∧ o' = .cells [] E (q * sz)) (room_lt hr) hH ((OW.mkS_cap g1 g3 h1 (by unfold maxLen; omega)).mono ?_) ?_
        · rintro u S' ⟨r, rfl, rfl⟩
          exact ⟨r, _, _, ⟨rfl, rfl, rfl⟩, rfl⟩
        · rintro r u o' t ⟨rfl, rfl, rfl⟩
          exact ⟨ownS_VR hH.nx.symm h0 (Nat.zero_le _) (by unfold maxLen; omega), [], .nil, rfl⟩
      · cases h9
  · cases h
theorem map_at (hH : HR w0 ρ H L) {b : Nat} {es : List (ByteArray × Value)} (ho : H.obj b = some (.map es)) {u : Value} (hv : VR ρ (.map (some b)) u) : ∃ (i b' t k : Nat) (es' : List (ByteArray × Value)), b - ownB = i ∧ u = .map (some b') ∧ ρ[i]? = some (b', t) ∧ mapR ρ es es' ∧ L[k]? = some (i, [(b', .map (skey es'))]) ∧ (cs L S)[k]? = some [(b', .map (skey es'))] := by
  obtain ⟨i, hi1, hi2, hi3⟩ := EH.obj_spec ho
  obtain ⟨i', b', t, hb, rfl, hi⟩ := hv.map_inv
  obtain rfl : i' = i := by omega
  obtain ⟨b2, t2, o', k, g1, ⟨es', g2, rfl⟩, g3, g4⟩ := hH.own hi3 (by simp) S
  rw [hi] at g1
  obtain ⟨rfl, rfl⟩ : b' = b2 ∧ t = t2 := by simpa using g1
  exact ⟨i', b', t, k, es', hi2, rfl, hi, g2, g3, g4⟩
theorem mapR.len {es es' : List (ByteArray × Value)} (h : mapR ρ es es') : es.length = es'.length := by have := congrArg List.length h.1; simpa using this
theorem snd_lenM {x : PV} (hT : TR ρ T Tc) (hH : HR w0 ρ H L) (h : evM (.lenM x) T H = some r) : Snd P w0 n S (.lenM x) Tc ρ L r := by
  simp only [evM] at h
  split at h
  · rename_i b hx
    split at h
    · rename_i es ho
      obtain rfl := Option.some.inj h
      obtain ⟨u, h1, h2⟩ := hT.ev hx
      obtain ⟨i, b', t, k, es', _, rfl, _, h4, _, h6⟩ := map_at (S := S) hH ho h2
      have := Yields.lenM (P := P) (w0 := w0) (n := n) h1 h6
      rw [show (skey es').length = es.length from by simp [skey, h4.len]] at this
      exact Snd.det this (.flat rfl) hH
    · cases h
  · cases h
theorem snd_lookS {zero : Value} {ok : Bool} {x y : PV} (hT : TR ρ T Tc) (hH : HR w0 ρ H L) (h : evM (.lookS zero ok x y) T H = some r) : Snd P w0 n S (.lookS zero ok x y) Tc ρ L r := by
  simp only [evM] at h
  split at h
  · rename_i b s hx hy
    obtain ⟨hz, h⟩ := bif_some h
    split at h
    · rename_i es ho
      obtain ⟨u, h1, h2⟩ := hT.ev hx
      obtain ⟨u', h3, h4⟩ := hT.ev hy
      obtain rfl := h4.str_inv
      obtain ⟨i, b', t, k, es', _, rfl, _, g4, _, g6⟩ := map_at (S := S) hH ho h2
      have hy := Yields.lookS (P := P) (w0 := w0) (n := n) (zero := zero) (ok := ok) h1 h3 g6
      have hg := mgetE_spec (s := s) g4
      have two : ∀ {a a' : Value} {c : Bool}, VR ρ a a' → VR ρ (.tuple #[a, .bool c]) (.tuple #[a', .bool c]) := fun {a a' c} h => VR.tuple (cs := [a, .bool c]) (cs' := [a', .bool c]) rfl (VRL.cons h (VRL.cons (.flat rfl) .nil)).2
      split at h
      · rename_i v hv
        obtain rfl := Option.some.inj h
        rw [hv] at hg
        obtain ⟨w, h5, h6⟩ := hg
        rw [h5] at hy
        refine Snd.det hy ?_ hH
        cases ok
        · exact h6
        · exact two h6
      · rename_i hv
        obtain rfl := Option.some.inj h
        rw [hv] at hg
        simp only at hg
        rw [hg] at hy
        refine Snd.det hy ?_ hH
        cases ok
        · exact VR.lit hz
        · exact two (VR.lit hz)
    · cases h
  · cases h
theorem snd_updS {x y z : PV} (hT : TR ρ T Tc) (hH : HR w0 ρ H L) (h : evM (.updS x y z) T H = some r) : Snd P w0 n S (.updS x y z) Tc ρ L r := by
  simp only [evM] at h
  split at h
  · rename_i b s v hx hy hz
    split at h
    · rename_i es ho
      obtain rfl := Option.some.inj h
      obtain ⟨u, h1, h2⟩ := hT.ev hx
      obtain ⟨u', h3, h4⟩ := hT.ev hy
      obtain ⟨u'', h5, h6⟩ := hT.ev hz
      obtain rfl := h4.str_inv
      obtain ⟨i, b', t, k, es', hi, rfl, g3, g4, g5, g6⟩ := map_at (S := S) hH ho h2
      rw [hi]
      have hlt : k < L.length := (List.getElem?_eq_some_iff.1 g5).1
      refine (OW.updSU h1 h3 h5 g6).mono ?_
      rintro w S' ⟨rfl, rfl⟩
      exact ⟨ρ, L.set k (i, _), List.prefix_refl _, .tuple (cs := []) (cs' := []) rfl (fun j v u h => by simp at h), cs_set (x := (i, _)) hlt, hH.upd g3 g5 ⟨_, mputE_spec h6 g4, rfl⟩⟩
    · cases h
  · cases h
theorem snd_slA {len : Nat} {x : PV} (hT : TR ρ T Tc) (hH : HR w0 ρ H L) (h : evM (.slA len x) T H = some r) : Snd P w0 n S (.slA len x) Tc ρ L r := by
  simp only [evM] at h
  split at h
  · rename_i a hx
    obtain ⟨hb, h⟩ := bif_some h
    have hb := Nat.le_of_ble_eq_true hb
    obtain rfl := Option.some.inj h
    obtain ⟨u, h1, h2⟩ := hT.ev hx
    obtain ⟨a', rfl, p1, p2, p3, p4⟩ := h2.ptr_inv
    rcases p4 with ⟨p4, _⟩ | ⟨i, t, p4, p5⟩
    · omega
    · have hcap : capOf t a.off (4 * len + 1) = len := by
        have h1 : (4 * len + 1) % 4 = 1 := by omega
        have h2 : (4 * len + 1) / 4 = len := by omega
        unfold capOf
        rw [h1]
        exact h2
      have hv := VR.slice (l := len) (o := a.off) p5 ⟨by omega, fun e => by omega⟩ (Nat.le_of_eq hcap.symm)
      rw [hcap] at hv
      have ea : a' = ⟨a'.block, a.off, none⟩ := by rw [p3, ← p2]
      rw [ea] at h1
      rw [p4]
      exact Snd.det (Yields.slA h1) hv hH
  · cases h
theorem bytesC_flat (l : List UInt8) : (bytesC l).all flatV = true := List.all_eq_true.2 fun v hv => by obtain ⟨b, _, rfl⟩ := List.mem_map.1 hv; rfl
theorem snd_strOf {x : PV} (hT : TR ρ T Tc) (hH : HR w0 ρ H L) (h : evM (.strOf x) T H = some r) : Snd P w0 n S (.strOf x) Tc ρ L r := by
  simp only [evM] at h
  split at h
  · rename_i v hx
    split at h
    · rename_i q c hc
      split at h
      · rename_i l hl
        obtain rfl := Option.some.inj h
        obtain ⟨u, h1, h2⟩ := hT.ev hx
        obtain ⟨A, cp, us, rfl, h3, h4, h5, _⟩ := shown_spec (S := S) hH h2 hc
        obtain rfl := toB_spec h4 hl
        have hlen : l.length = q := by have := h4.1; rw [bytesC_length] at this; omega
        exact Snd.det (Yields.strOf h1 hlen h5) (.flat rfl) hH
      · cases h
    · cases h
  · cases h
theorem snd_bytesOf {E : TypeId} {x : PV} (hT : TR ρ T Tc) (hH : HR w0 ρ H L) (h : evM (.bytesOf E x) T H = some r) : Snd P w0 n S (.bytesOf E x) Tc ρ L r := by
  simp only [evM] at h
  split at h
  · rename_i s hx
    obtain ⟨hr, h⟩ := bif_some h
    obtain rfl := Option.some.inj h
    obtain ⟨u, h1, h2⟩ := hT.ev hx
    obtain rfl := h2.str_inv
    refine Snd.new (F := fun r u o' t => s.size ≤ t ∧ u = .slice (some ⟨r, 0, none⟩) s.size t ∧ o' = .ro (bytesC s.data.toList)) (room_lt hr) hH ((OW.bytesOf h1).mono ?_) ?_
    · rintro u S' ⟨r, cap, rfl, hc, rfl⟩
      exact ⟨r, _, cap, ⟨hc, rfl, rfl⟩, rfl⟩
    · rintro r u o' t ⟨hc, rfl, rfl⟩
      have hcap : capOf t 0 2 = t := by simp [capOf]
      have := VR.slice (ρ := ρ ++ [(r, t)]) (l := s.size) (o := 0) (e := 2) (nx_get hH (r, t)) ⟨by omega, fun e => by omega⟩ (by rw [hcap]; exact hc)
      rw [hcap] at this
      exact ⟨by rw [strL_length]; exact this, _, VRL.flat (bytesC_flat _), rfl⟩
  · cases h
end
end Go.SL
