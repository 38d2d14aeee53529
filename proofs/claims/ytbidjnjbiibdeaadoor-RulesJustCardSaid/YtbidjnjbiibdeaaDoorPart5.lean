/- Walks and plain facts for the laws of this seat: what each function answers, for every input. -/
import Derived.Test.YtbidjnjbiibdeaaDoorPart4
import Derived.Lib.UnsafeStr

set_option linter.unusedVariables false
set_option linter.unusedSimpArgs false
namespace Go.SL
open Go.RowKit
section
variable {P : Program} {w0 : World} {n : Nat} {T Tc : TT} {S : SS} {ρ : Rho} {H : EH} {L : LL} {r : Value × EH}
theorem capFit_own {cap sz : Nat} (hs : 0 < sz) (hc : cap ≤ maxLen) : capFit (cap * sz) (4 * sz) ∧ capOf (cap * sz) 0 (4 * sz) = cap := by
  have h1 : 4 * sz % 4 = 0 := Nat.mul_mod_right 4 sz
  have h2 : 4 * sz / 4 = sz := Nat.mul_div_cancel_left sz (by omega)
  have h3 : cap * sz / sz = cap := Nat.mul_div_cancel cap hs
  refine ⟨⟨by omega, fun _ => .inr ⟨by omega, by rw [h2, h3], by rw [h2, h3]; exact hc⟩⟩, ?_⟩
  unfold capOf
  rw [h1]
  simp only [h2, Nat.sub_zero, h3]
theorem bif_some {α : Type} {b : Bool} {x : Option α} {y : α} (h : (bif b then x else none) = some y) : b = true ∧ x = some y := by
  cases b with
  | true => exact ⟨rfl, h⟩
  | false => cases h
theorem slv_new {E sz m : Nat} {v : Value} {xs : List Value} {seg : Seg} (h : SlV E sz v m xs seg) (hm : 0 < m) : ∃ r cap, v = .slice (some ⟨r, 0, none⟩) m cap ∧ seg = [(r, .cells xs E (cap * sz))] ∧ m ≤ cap ∧ cap ≤ maxLen := by
  rcases h.2 with ⟨_, h0, _⟩ | ⟨r, cap, h1, h2, h3, h4⟩
  · omega
  · exact ⟨r, cap, h1, h2, h3, h4⟩
theorem ownS_VR {nx r cap sz m : Nat} (hn : ρ.length = nx) (hs : 0 < sz) (h3 : m ≤ cap) (h4 : cap ≤ maxLen) : VR (ρ ++ [(r, cap * sz)]) (.slice (some ⟨ownB + nx, 0, none⟩) m (4 * sz)) (.slice (some ⟨r, 0, none⟩) m cap) := by
  obtain ⟨h5, h6⟩ := capFit_own hs h4
  have := VR.slice (ρ := ρ ++ [(r, cap * sz)]) (i := nx) (o := 0) (b := r) (t := cap * sz) (l := m) (e := 4 * sz) (by rw [← hn]; simp) h5 (by rw [h6]; exact h3)
  rwa [h6] at this
theorem grow_spec {po : PO} {E sz q : Nat} {s u : Value} {news news' : List Value} (hH : HR w0 ρ H L) (hv : VR ρ s u) (h : H.grow E sz s q news = some r) (hsz : 0 < sz) (hq : 0 < q) (hn : VRL ρ news news')
    (rule : ∀ (S0 : SS) (m k : Nat) (xs : List Value) (seg0 : Seg), OwnS S0 E sz u m xs k seg0 → evM.lenV s = m → (∀ p ∈ (cs L S).flatten, p ∈ S0.flatten) →
      OW P w0 n po Tc S0 (fun v' S' => ∃ seg', S' = S0.set k seg' ∧ SlV E sz v' (m + q) (xs ++ news') seg')) : Snd P w0 n S po Tc ρ L r := by
  unfold EH.grow at h
  split at h
  · obtain ⟨rfl, rfl, rfl⟩ := hv.slice_nil_inv
    cases hr : H.room with
    | false => rw [hr] at h; simp at h
    | true =>
      rw [hr] at h
      simp only [cond_true, Option.some.injEq] at h
      subst h
      have h0 := OW.nilseg (rule ([] :: cs L S) 0 0 [] [] ⟨SlV.nil E sz, .inl rfl⟩ rfl (fun p hp => by simpa using hp))
      refine Snd.new (F := fun r u o' t => ∃ cap, t = cap * sz ∧ u = .slice (some ⟨r, 0, none⟩) q cap ∧ o' = .cells news' E (cap * sz) ∧ q ≤ cap ∧ cap ≤ maxLen) (room_lt hr) hH (h0.mono ?_) ?_
      · rintro v' S' ⟨seg', rfl, hs⟩
        rw [Nat.zero_add, List.nil_append] at hs
        obtain ⟨r, cap, rfl, rfl, h3, h4⟩ := slv_new hs hq
        exact ⟨r, _, _, ⟨cap, rfl, rfl, rfl, h3, h4⟩, rfl⟩
      · rintro r u o' t ⟨cap, rfl, rfl, rfl, h3, h4⟩
        exact ⟨ownS_VR hH.nx.symm hsz h3 h4, news', hn.mono (List.prefix_append _ _), rfl⟩
  · rename_i a m e
    split at h
    · rename_i c E' ho
      obtain ⟨hc, h9⟩ := bif_some h
      clear h
      simp only [Bool.and_eq_true] at hc
      obtain ⟨⟨⟨⟨hroom, hE⟩, hoff⟩, hle⟩, he⟩ := hc
      obtain rfl := Nat.eq_of_beq_eq_true hE
      have hoff := Nat.eq_of_beq_eq_true hoff
      have hle := Nat.le_of_ble_eq_true hle
      obtain ⟨i, hi1, hi2, hi3⟩ := EH.obj_spec ho
      rw [hi2] at h9
      obtain rfl := Option.some.inj h9
      obtain ⟨b, t, o', k, h1, ⟨c', h2, rfl⟩, h3, h4⟩ := hH.own hi3 (by simp) S
      rcases hv.slice_inv with ⟨i', b', t', ha, rfl, hi', hf, hcap⟩ | ⟨rfl, _⟩
      · have hb := congrArg Addr.block ha
        simp only at hb
        obtain rfl : i' = i := by omega
        rw [h1] at hi'
        obtain ⟨rfl, rfl⟩ : b = b' ∧ t = t' := by simpa using hi'
        have hlt : k < L.length := (List.getElem?_eq_some_iff.1 h3).1
        have hfit : t = capOf t a.off e * sz ∧ capOf t a.off e ≤ maxLen := by
          rw [hoff]
          simp only [Bool.or_eq_true] at he
          rcases he with he | he
          · obtain rfl := Nat.eq_of_beq_eq_true he
            rcases hf.2 rfl with ⟨_, rfl⟩ | ⟨h0, _⟩
            · simp [capOf]
            · simp at h0
          · obtain rfl := Nat.eq_of_beq_eq_true he
            have h41 : 4 * sz % 4 = 0 := Nat.mul_mod_right 4 sz
            have h42 : 4 * sz / 4 = sz := Nat.mul_div_cancel_left sz (by omega)
            rcases hf.2 h41 with ⟨h0, _⟩ | ⟨_, h5, h6⟩
            · omega
            · rw [h42] at h5 h6
              unfold capOf
              rw [h41]
              simp only [h42, Nat.sub_zero]
              exact ⟨h5, h6⟩
        have hown : OwnS (cs L S) E sz (.slice (some ⟨b, a.off, none⟩) m (capOf t a.off e)) m (c'.take (m * sz)) k [(b, .cells (c'.take (m * sz)) E t)] := by
          refine ⟨⟨by rw [List.length_take, ← h2.1]; omega, .inr ⟨b, capOf t a.off e, by rw [hoff], ?_, hcap, hfit.2⟩⟩, .inr ⟨b, c', t, _, h4, rfl⟩⟩
          rw [← hfit.1]
        refine (rule (cs L S) m k _ _ hown rfl (fun p hp => hp)).mono ?_
        rintro v' S' ⟨seg', rfl, hs⟩
        obtain ⟨r, cap, rfl, rfl, h5, h6⟩ := slv_new hs (by omega)
        refine ⟨ρ ++ [(r, cap * sz)], L.set k (H.nx, [(r, .cells (c'.take (m * sz) ++ news') E (cap * sz))]), List.prefix_append _ _, ownS_VR hH.nx.symm hsz h5 h6, cs_set (x := (H.nx, _)) hlt, ?_⟩
        exact hH.swap (room_lt hroom) h3 ⟨_, ((h2.take _).append hn).mono (List.prefix_append _ _), rfl⟩
      · exfalso
        have : ownB = 1099511627776 := rfl
        simp only at hi1
        omega
    · cases h
  · cases h
end
end Go.SL

set_option linter.unusedVariables false
set_option linter.unusedSimpArgs false
namespace Go.SL
open Go.RowKit
section
variable {P : Program} {w0 : World} {n : Nat} {T Tc : TT} {S : SS} {ρ : Rho} {H : EH} {L : LL} {r : Value × EH}
theorem zeroCells_eq {z : Array Value} (h : 0 < z.size) (k : Nat) : (Builtin.zeroCells z k).toList = madeL z.toList (k * z.size) := by
  simp only [Builtin.zeroCells, madeL, Array.toList_map, Array.toList_range]
  apply List.map_congr_left
  intro i _
  have : i % z.size < z.size := Nat.mod_lt _ h
  rw [getElem!_pos z (i % z.size) this]
  simp [List.getD_eq_getElem?_getD, this]
theorem OW.clr {E E' sz b o l cp tot k : Nat} {z : Value} {x : PV} {c news : List Value} (hx : x.val T = some (.slice (some ⟨b, o, none⟩) l cp)) (hk : S[k]? = some [(b, .cells c E' tot)]) (hl : 0 < l) (hz : 0 < z.cells.size)
    (hn : news = madeL z.cells.toList (l * z.cells.size)) (hb : o + news.length ≤ c.length) (h1 : news.all (·.oneCell') = true) :
    OW P w0 n (.more (.clr E sz z x)) T S (fun v S' => v = .tuple #[] ∧ S' = S.set k [(b, .cells (setAt c o news) E' tot)]) := by
  intro op a w Q hco hs hr
  obtain ⟨t, y, cl, i, ho, hca, hat, har, rfl, hu, hi, hiz, hsz, hzs, hs0⟩ := cOp_spec P hco
  obtain ⟨hge, C, hC, htot, hpre⟩ := hr.own (b, .cells c E' tot) (List.mem_flatten.2 ⟨_, List.mem_of_getElem? hk, by simp⟩)
  simp only at hge hC
  have hlen : c.length ≤ C.size := by
    have := congrArg List.length hpre
    simp at this
    omega
  have hst := run_storeCells_at P b o E' news 0 C w hC (by omega) (fun v hv => (List.all_eq_true.1 h1) v hv)
  simp only [Nat.add_zero] at hst
  unfold Oper.wp
  have hrun : (execOp a.eval op).run P w = .ok (.value (.tuple #[])) (w.setRow b (C.toList.take o ++ news ++ C.toList.drop (o + news.length)).toArray) := by
    simp only [execOp, ho, resolve, hca, invoke, builtin, hat, har]
    obtain ⟨l', rfl⟩ : ∃ l', l = l' + 1 := ⟨l - 1, by omega⟩
    simp [Builtin.clear_, hs.eval hx, run_underlying hu, zeroValue, typeInfo, program, Sem.run, hi, hiz, zeroCells_eq hz, ← hn, hst]
  rw [hrun]
  refine ⟨_, _, rfl, ?_, rfl, rfl⟩
  have hheap := setRow_heap w b C (C.toList.take o ++ news ++ C.toList.drop (o + news.length)).toArray E' (0, 0) hC
  refine hr.replace hk (below_setRow w b _ hge) (fun i _ hne => setRow_heap_other w b i _ (by simpa using hne)) (by simp) ?_
  intro p hp
  simp only [List.mem_singleton] at hp
  subst hp
  refine ⟨hge, ⟨_, hheap, ?_, ?_⟩, .inl (by simp)⟩
  · simp only [List.size_toArray, List.length_append, List.length_take, List.length_drop, Array.length_toList]; omega
  · rw [setAt_length, setAt_eq c o _ (by omega)]
    have := take_lay C.toList o news c.length (by omega) (by simp; omega)
    simp only at this ⊢
    rw [hpre] at this
    simpa using this
theorem OW.uss {e b tot k : Nat} {x y : PV} {l : List UInt8} {r : List Value} (hx : x.val T = some (.pointer (some ⟨b, 0, none⟩))) (hy : y.val T = some (.int .i64 (l.length : Int))) (hk : S[k]? = some [(b, .cells (bytesC l ++ r) e tot)]) (h0 : l ≠ [])
    (h63 : l.length ≤ maxLen) : OW P w0 n (.more (.uss e x y)) T S (fun v S' => v = .string (mkStr l) ∧ S' = S.set k []) := by
  intro op a w Q hco hs hr
  obtain ⟨t, u, cl, p, q, ho, hca, hat, har, rfl, rfl, hu, hce⟩ := cOp_spec P hco
  obtain ⟨hge, C, hC, htot, hpre⟩ := hr.own (b, .cells (bytesC l ++ r) e tot) (List.mem_flatten.2 ⟨_, List.mem_of_getElem? hk, by simp⟩)
  simp only at hge hC
  have hlen : l.length ≤ C.size := by
    have := congrArg List.length hpre
    simp [bytesC_length] at this
    omega
  have hcell : ∀ (j : Nat) (x : UInt8), l[j]? = some x → w.cell? ((⟨b, 0, none⟩ : Addr).add j) = some (.int .u8 x.toNat) := by
    intro j x hj
    have h1 : (bytesC l)[j]? = some (.int .u8 x.toNat) := by simp [bytesC, hj]
    have := hr.cell (own_at (S := S) (w0 := w0) (List.mem_flatten.2 ⟨_, List.mem_of_getElem? hk, by simp⟩ : (b, AO.cells (bytesC l ++ r) e tot) ∈ S.flatten) (j := j) (v := .int .u8 x.toNat) (by
      rw [List.getElem?_append_left (by rw [bytesC_length]; exact (List.getElem?_eq_some_iff.1 hj).1)]; exact h1))
    rw [add_own]; exact this
  have hrun0 := Lib.run_unsafeString_row (P := P) w t u op.type e hu hce b C.size (by unfold World.shape?; rw [hC]) l h0 hlen (by simpa [maxLen] using h63) hcell
  have hrun : (execOp a.eval op).run P w = .ok (.value (.string (mkStr l))) (w.freeze ⟨b, 0, none⟩ l.length) := by
    simp only [execOp, ho, resolve, hca, invoke, builtin, hat, har]
    simp [hs.eval hx, hs.eval hy, hrun0, mkStr]
  unfold Oper.wp
  rw [hrun]
  refine ⟨_, _, rfl, ?_, rfl, rfl⟩
  refine hr.replace hk (Lib.below_freeze (Below.refl _ w) hge _) (fun i _ hne => ?_) (by simp) (fun p hp => by simp at hp)
  simp only [List.map_cons, List.map_nil, List.mem_singleton] at hne
  unfold World.freeze
  split
  · rfl
  · simp only [Array.getElem?_modify]
    rw [if_neg (by omega)]
theorem Yields.usd {x : PV} {A : Addr} {l c : Nat} (hx : x.val T = some (.slice (some A) l c)) (hc : c ≠ 0) : Yields P w0 n (.more (.usd x)) T S (.pointer (some A)) := by
  intro o a w hco hs hr
  obtain ⟨cl, p, ho, hca, har, rfl⟩ := cOp_spec P hco
  have := Lib.run_unsafeSliceData_row (P := P) w cl.argTypes o.type A l c hc
  simp only [execOp, ho, resolve, hca, invoke, builtin, har]
  simp [hs.eval hx, this]
theorem new_ptr {r t : Nat} (hH : HR w0 ρ H L) : VR (ρ ++ [(r, t)]) (ownP H) (.pointer (some ⟨r, 0, none⟩)) := .ptr (nx_get hH _)
theorem snd_ld {x : PV} (hT : TR ρ T Tc) (hH : HR w0 ρ H L) (h : evM (.ld x) T H = some r) : Snd P w0 n S (.ld x) Tc ρ L r := by
  simp only [evM] at h
  split at h
  · rename_i a hx
    split at h
    · rename_i v hv
      obtain rfl := Option.some.inj h
      obtain ⟨u, h1, h2⟩ := hT.ev hx
      obtain ⟨a', rfl, h3⟩ := h2.ptr_inv
      obtain ⟨u, h4, h5⟩ := hH.cell (S := S) h3 hv
      exact Snd.det (Yields.ld h1 h4) h5 hH
    · cases h
  · cases h
theorem snd_ldA {m : Nat} {x : PV} (hT : TR ρ T Tc) (hH : HR w0 ρ H L) (h : evM (.ldA m x) T H = some r) : Snd P w0 n S (.ldA m x) Tc ρ L r := by
  simp only [evM] at h
  split at h
  · rename_i a hx
    split at h
    · rename_i c hv
      obtain rfl := Option.some.inj h
      obtain ⟨u, h1, h2⟩ := hT.ev hx
      obtain ⟨a', rfl, h3⟩ := h2.ptr_inv
      obtain ⟨hl, us, h4, h5⟩ := hH.row (S := S) h3 hv
      exact Snd.det (Yields.ldA h1 (by rw [← h4.1]; exact hl) h5) (.agg h4.1 h4.2) hH
    · cases h
  · cases h
theorem snd_st {sz : Nat} {x v : PV} (hT : TR ρ T Tc) (hH : HR w0 ρ H L) (h : evM (.st sz x v) T H = some r) : Snd P w0 n S (.st sz x v) Tc ρ L r := by
  simp only [evM] at h
  split at h
  · rename_i a u hx hv
    split at h
    · rename_i c E ho
      obtain ⟨hc, h9⟩ := bif_some h
      clear h
      simp only [Bool.and_eq_true] at hc
      obtain ⟨⟨hs, hle⟩, h1c⟩ := hc
      have hs := Nat.eq_of_beq_eq_true hs
      have hle := Nat.le_of_ble_eq_true hle
      obtain rfl := Option.some.inj h9
      obtain ⟨ux, h1, h2⟩ := hT.ev hx
      obtain ⟨uv, h3, h4⟩ := hT.ev hv
      obtain ⟨a', rfl, ha⟩ := h2.ptr_inv
      obtain ⟨i, hi1, hi2, hi3⟩ := EH.obj_spec ho
      rw [hi2]
      obtain ⟨b, t, o', k, g1, ⟨c', g2, rfl⟩, g3, g4⟩ := hH.own hi3 (by simp) S
      obtain ⟨p1, p2, p3, p4⟩ := ha
      have hb : a'.block = b := by
        rcases p4 with ⟨p4, _⟩ | ⟨i', t', p4, p5⟩
        · omega
        · obtain rfl : i' = i := by omega
          rw [g1] at p5
          simp only [Option.some.injEq, Prod.mk.injEq] at p5
          exact p5.1.symm
      have ea : a' = ⟨b, a.off, none⟩ := by rw [← hb, p3, ← p2]
      rw [ea] at h1
      have hcv := h4.cells
      have hlt : k < L.length := (List.getElem?_eq_some_iff.1 g3).1
      refine (OW.stU h1 h3 g4 (by have := hcv.1; simp at this hs; omega) (by rw [← g2.1]; exact hle) (by rw [hcv.one]; exact h1c)).mono ?_
      rintro w S' ⟨rfl, rfl⟩
      exact ⟨ρ, L.set k (i, _), List.prefix_refl _, .tuple (cs := []) (cs' := []) rfl (fun j v u h => by simp at h), cs_set (x := (i, _)) hlt, hH.upd g1 g3 ⟨_, g2.setAt _ hcv, rfl⟩⟩
    · cases h
  · cases h
theorem snd_build {zero : List Value} {parts : List (Nat × Nat × PV)} (hT : TR ρ T Tc) (hH : HR w0 ρ H L) (h : evM (.build zero parts) T H = some r) : Snd P w0 n S (.build zero parts) Tc ρ L r := by
  simp only [evM] at h
  obtain ⟨hz, h⟩ := bif_some h
  split at h
  · rename_i c hc
    obtain rfl := Option.some.inj h
    obtain ⟨d, h1, h2⟩ := fillE_spec hT hc (VRL.flat hz)
    exact Snd.det (Yields.build h1) (.agg h2.1 h2.2) hH
  · cases h
theorem fillE_len : ∀ {parts : List (Nat × Nat × PV)} {c d : List Value}, fillE T c parts = some d → d.length = c.length
  | [], c, d, h => by simp [fillE] at h; rw [h]
  | (off, size, x) :: r, c, d, h => by
    simp only [fillE] at h
    split at h
    · obtain ⟨_, h⟩ := bif_some h
      rw [fillE_len h, setAt_length]
    · cases h
theorem snd_bsl {E : TypeId} {zero : List Value} {len : Nat} {parts : List (Nat × Nat × PV)} (hT : TR ρ T Tc) (hH : HR w0 ρ H L) (h : evM (.bsl E zero len parts) T H = some r) : Snd P w0 n S (.bsl E zero len parts) Tc ρ L r := by
  simp only [evM] at h
  obtain ⟨hz, h⟩ := bif_some h
  simp only [Bool.and_eq_true] at hz
  obtain ⟨⟨⟨⟨⟨hz, hr⟩, h0⟩, h1⟩, h2⟩, h3⟩ := hz
  rw [Nat.blt_eq] at h0 h1
  have h2 := Nat.eq_of_beq_eq_true h2
  have h3 := Nat.le_of_ble_eq_true h3
  split at h
  · rename_i c hc
    obtain rfl := Option.some.inj h
    obtain ⟨d, g1, g2⟩ := fillE_spec hT hc (VRL.flat hz)
    have hl : d.length = len * (zero.length / len) := by rw [← g2.1, fillE_len hc, h2]
    refine Snd.new (F := fun r u o' t => t = len * (zero.length / len) ∧ u = .slice (some ⟨r, 0, none⟩) len len ∧ o' = .cells d E (len * (zero.length / len))) (room_lt hr) hH ((OW.bsl g1).mono ?_) ?_
    · rintro u S' ⟨r, rfl, rfl⟩
      exact ⟨r, _, _, ⟨rfl, rfl, rfl⟩, by rw [hl]⟩
    · rintro r u o' t ⟨rfl, rfl, rfl⟩
      exact ⟨ownS_VR hH.nx.symm h1 (Nat.le_refl _) (by unfold maxLen; omega), d, g2.mono (List.prefix_append _ _), rfl⟩
  · cases h
theorem snd_bsl0 {E : TypeId} (hH : HR w0 ρ H L) (h : evM (.bsl0 E) T H = some r) : Snd P w0 n S (.bsl0 E) Tc ρ L r := by
  simp only [evM] at h
  obtain ⟨hr, h⟩ := bif_some h
  obtain rfl := Option.some.inj h
  refine Snd.new (F := fun r u o' t => t = 0 ∧ u = .slice (some ⟨r, 0, none⟩) 0 0 ∧ o' = .cells [] E 0) (room_lt hr) hH (OW.bsl0.mono ?_) ?_
  · rintro u S' ⟨r, rfl, rfl⟩
    exact ⟨r, _, _, ⟨rfl, rfl, rfl⟩, rfl⟩
  · rintro r u o' t ⟨rfl, rfl, rfl⟩
    refine ⟨?_, [], .nil, rfl⟩
    have := VR.slice (ρ := ρ ++ [(r, 0)]) (i := H.nx) (o := 0) (b := r) (t := 0) (l := 0) (e := 0) (nx_get hH _) ⟨by omega, fun _ => .inl ⟨rfl, rfl⟩⟩ (by simp [capOf])
    exact this
theorem snd_al {E : TypeId} {zero : List Value} (hH : HR w0 ρ H L) (h : evM (.al E zero) T H = some r) : Snd P w0 n S (.al E zero) Tc ρ L r := by
  simp only [evM] at h
  obtain ⟨hr, h⟩ := bif_some h
  simp only [Bool.and_eq_true] at hr
  obtain rfl := Option.some.inj h
  refine Snd.new (F := fun r u o' t => t = zero.length ∧ u = .pointer (some ⟨r, 0, none⟩) ∧ o' = .cells zero E zero.length) (room_lt hr.2) hH (OW.al.mono ?_) ?_
  · rintro u S' ⟨r, rfl, rfl⟩
    exact ⟨r, _, _, ⟨rfl, rfl, rfl⟩, rfl⟩
  · rintro r u o' t ⟨rfl, rfl, rfl⟩
    exact ⟨new_ptr hH, zero, VRL.flat hr.1, rfl⟩
theorem snd_bx {E : TypeId} {x : PV} (hT : TR ρ T Tc) (hH : HR w0 ρ H L) (h : evM (.bx E x) T H = some r) : Snd P w0 n S (.bx E x) Tc ρ L r := by
  simp only [evM] at h
  split at h
  · rename_i v hx
    obtain ⟨hr, h⟩ := bif_some h
    obtain rfl := Option.some.inj h
    obtain ⟨u, h1, h2⟩ := hT.ev hx
    refine Snd.new (F := fun r u' o' t => t = u.cells.toList.length ∧ u' = .pointer (some ⟨r, 0, none⟩) ∧ o' = .cells u.cells.toList E u.cells.toList.length) (room_lt hr) hH ((OW.bx h1).mono ?_) ?_
    · rintro u' S' ⟨r, rfl, rfl⟩
      exact ⟨r, _, _, ⟨rfl, rfl, rfl⟩, rfl⟩
    · rintro r u' o' t ⟨rfl, rfl, rfl⟩
      exact ⟨new_ptr hH, _, h2.cells.mono (List.prefix_append _ _), rfl⟩
  · cases h
theorem snd_mkM (hH : HR w0 ρ H L) (h : evM .mkM T H = some r) : Snd P w0 n S .mkM Tc ρ L r := by
  simp only [evM] at h
  obtain ⟨hr, h⟩ := bif_some h
  obtain rfl := Option.some.inj h
  refine Snd.new (F := fun r u o' t => t = 0 ∧ u = .map (some r) ∧ o' = .map []) (room_lt hr) hH (OW.mkM.mono ?_) ?_
  · rintro u S' ⟨r, rfl, rfl⟩
    exact ⟨r, _, _, ⟨rfl, rfl, rfl⟩, rfl⟩
  · rintro r u o' t ⟨rfl, rfl, rfl⟩
    exact ⟨.map (nx_get hH _), [], ⟨rfl, .nil⟩, rfl⟩
theorem all_flat_made {z : List Value} (h : z.all flatV = true) (h0 : 0 < z.length) (k : Nat) : (madeL z k).all flatV = true := by
  rw [List.all_eq_true] at h ⊢
  intro v hv
  obtain ⟨i, _, rfl⟩ := List.mem_map.1 hv
  have hlt : i % z.length < z.length := Nat.mod_lt _ h0
  rw [List.getD_eq_getElem?_getD, List.getElem?_eq_getElem hlt]
  exact h _ (List.getElem_mem hlt)
theorem snd_mkS {t E sz bytes : Nat} {z : Value} {l c : PV} (hT : TR ρ T Tc) (hH : HR w0 ρ H L) (h : evM (.mkS t E sz bytes z l c) T H = some r) : Snd P w0 n S (.mkS t E sz bytes z l c) Tc ρ L r := by
  simp only [evM] at h
  split at h
  · rename_i k a k' m hl hc
    obtain ⟨hb, h9⟩ := bif_some h
    clear h
    simp only [Bool.and_eq_true, decide_eq_true_eq] at hb
    obtain ⟨⟨⟨⟨⟨⟨hr, hz⟩, hzs⟩, h0⟩, h1⟩, h2⟩, h3⟩ := hb
    have hzs := Nat.eq_of_beq_eq_true hzs
    rw [Nat.blt_eq] at h0
    have h1 := Nat.le_of_ble_eq_true h1
    have h2 := Nat.le_of_ble_eq_true h2
    obtain ⟨u, g1, g2⟩ := hT.ev hl
    obtain ⟨u', g3, g4⟩ := hT.ev hc
    obtain rfl := g2.int_inv
    obtain rfl := g4.int_inv
    have hm : m = ((m.toNat : Nat) : Int) := by omega
    generalize m.toNat = q at *
    subst hm
    split at h9
    · rename_i e
      subst e
      obtain rfl := Option.some.inj h9
      refine Snd.new (F := fun r u o' t => t = q * sz ∧ u = .slice (some ⟨r, 0, none⟩) q q ∧ o' = .cells (madeCells z.cells (q * sz)).toList E (q * sz)) (room_lt hr) hH ((OW.mkS_full g1 g3 h1 (by unfold maxLen; omega)).mono ?_) ?_
      · rintro u S' ⟨r, rfl, rfl⟩
        exact ⟨r, _, _, ⟨rfl, rfl, rfl⟩, rfl⟩
      · rintro r u o' t ⟨rfl, rfl, rfl⟩
        refine ⟨ownS_VR hH.nx.symm h0 (Nat.le_refl _) (by unfold maxLen; omega), _, ?_, rfl⟩
        rw [madeL_eq (by simp at hzs; omega)]
        exact VRL.flat (all_flat_made hz (by omega) _)
    · split at h9
      · rename_i e1 e
        subst e
        obtain rfl := Option.some.inj h9
        refine Snd.new (F := fun r u o' t => t = q * sz ∧ u = .slice (some ⟨r, 0, none⟩) 0 q ∧ o' = .cells [] E (q * sz)) (room_lt hr) hH ((OW.mkS_cap g1 g3 h1 (by unfold maxLen; omega)).mono ?_) ?_
        · rintro u S' ⟨r, rfl, rfl⟩
          exact ⟨r, _, _, ⟨rfl, rfl, rfl⟩, rfl⟩
        · rintro r u o' t ⟨rfl, rfl, rfl⟩
          exact ⟨ownS_VR hH.nx.symm h0 (Nat.zero_le _) (by unfold maxLen; omega), [], .nil, rfl⟩
      · cases h9
  · cases h
theorem map_at (hH : HR w0 ρ H L) {b : Nat} {es : List (ByteArray × Value)} (ho : H.obj b = some (.map es)) {u : Value} (hv : VR ρ (.map (some b)) u) : ∃ (i b' t k : Nat) (es' : List (ByteArray × Value)), b - ownB = i ∧ u = .map (some b') ∧ ρ[i]? = some (b', t) ∧ mapR ρ es es' ∧ L[k]? = some (i, [(b', .map (skey es'))]) ∧ (cs L S)[k]? = some [(b', .map (skey es'))] := by
  obtain ⟨i, hi1, hi2, hi3⟩ := EH.obj_spec ho
  obtain ⟨i', b', t, hb, rfl, hi⟩ := hv.map_inv
  obtain rfl : i' = i := by omega
  obtain ⟨b2, t2, o', k, g1, ⟨es', g2, rfl⟩, g3, g4⟩ := hH.own hi3 (by simp) S
  rw [hi] at g1
  obtain ⟨rfl, rfl⟩ : b' = b2 ∧ t = t2 := by simpa using g1
  exact ⟨i', b', t, k, es', hi2, rfl, hi, g2, g3, g4⟩
theorem mapR.len {es es' : List (ByteArray × Value)} (h : mapR ρ es es') : es.length = es'.length := by have := congrArg List.length h.1; simpa using this
theorem snd_lenM {x : PV} (hT : TR ρ T Tc) (hH : HR w0 ρ H L) (h : evM (.lenM x) T H = some r) : Snd P w0 n S (.lenM x) Tc ρ L r := by
  simp only [evM] at h
  split at h
  · rename_i b hx
    split at h
    · rename_i es ho
      obtain rfl := Option.some.inj h
      obtain ⟨u, h1, h2⟩ := hT.ev hx
      obtain ⟨i, b', t, k, es', _, rfl, _, h4, _, h6⟩ := map_at (S := S) hH ho h2
      have := Yields.lenM (P := P) (w0 := w0) (n := n) h1 h6
      rw [show (skey es').length = es.length from by simp [skey, h4.len]] at this
      exact Snd.det this (.flat rfl) hH
    · cases h
  · cases h
theorem snd_lookS {zero : Value} {ok : Bool} {x y : PV} (hT : TR ρ T Tc) (hH : HR w0 ρ H L) (h : evM (.lookS zero ok x y) T H = some r) : Snd P w0 n S (.lookS zero ok x y) Tc ρ L r := by
  simp only [evM] at h
  split at h
  · rename_i b s hx hy
    obtain ⟨hz, h⟩ := bif_some h
    split at h
    · rename_i es ho
      obtain ⟨u, h1, h2⟩ := hT.ev hx
      obtain ⟨u', h3, h4⟩ := hT.ev hy
      obtain rfl := h4.str_inv
      obtain ⟨i, b', t, k, es', _, rfl, _, g4, _, g6⟩ := map_at (S := S) hH ho h2
      have hy := Yields.lookS (P := P) (w0 := w0) (n := n) (zero := zero) (ok := ok) h1 h3 g6
      have hg := mgetE_spec (s := s) g4
      have two : ∀ {a a' : Value} {c : Bool}, VR ρ a a' → VR ρ (.tuple #[a, .bool c]) (.tuple #[a', .bool c]) := fun {a a' c} h => VR.tuple (cs := [a, .bool c]) (cs' := [a', .bool c]) rfl (VRL.cons h (VRL.cons (.flat rfl) .nil)).2
      split at h
      · rename_i v hv
        obtain rfl := Option.some.inj h
        rw [hv] at hg
        obtain ⟨w, h5, h6⟩ := hg
        rw [h5] at hy
        refine Snd.det hy ?_ hH
        cases ok
        · exact h6
        · exact two h6
      · rename_i hv
        obtain rfl := Option.some.inj h
        rw [hv] at hg
        simp only at hg
        rw [hg] at hy
        refine Snd.det hy ?_ hH
        cases ok
        · exact VR.lit hz
        · exact two (VR.lit hz)
    · cases h
  · cases h
theorem snd_updS {x y z : PV} (hT : TR ρ T Tc) (hH : HR w0 ρ H L) (h : evM (.updS x y z) T H = some r) : Snd P w0 n S (.updS x y z) Tc ρ L r := by
  simp only [evM] at h
  split at h
  · rename_i b s v hx hy hz
    split at h
    · rename_i es ho
      obtain rfl := Option.some.inj h
      obtain ⟨u, h1, h2⟩ := hT.ev hx
      obtain ⟨u', h3, h4⟩ := hT.ev hy
      obtain ⟨u'', h5, h6⟩ := hT.ev hz
      obtain rfl := h4.str_inv
      obtain ⟨i, b', t, k, es', hi, rfl, g3, g4, g5, g6⟩ := map_at (S := S) hH ho h2
      rw [hi]
      have hlt : k < L.length := (List.getElem?_eq_some_iff.1 g5).1
      refine (OW.updSU h1 h3 h5 g6).mono ?_
      rintro w S' ⟨rfl, rfl⟩
      exact ⟨ρ, L.set k (i, _), List.prefix_refl _, .tuple (cs := []) (cs' := []) rfl (fun j v u h => by simp at h), cs_set (x := (i, _)) hlt, hH.upd g3 g5 ⟨_, mputE_spec h6 g4, rfl⟩⟩
    · cases h
  · cases h
theorem snd_slA {len : Nat} {x : PV} (hT : TR ρ T Tc) (hH : HR w0 ρ H L) (h : evM (.slA len x) T H = some r) : Snd P w0 n S (.slA len x) Tc ρ L r := by
  simp only [evM] at h
  split at h
  · rename_i a hx
    obtain ⟨hb, h⟩ := bif_some h
    have hb := Nat.le_of_ble_eq_true hb
    obtain rfl := Option.some.inj h
    obtain ⟨u, h1, h2⟩ := hT.ev hx
    obtain ⟨a', rfl, p1, p2, p3, p4⟩ := h2.ptr_inv
    rcases p4 with ⟨p4, _⟩ | ⟨i, t, p4, p5⟩
    · omega
    · have hcap : capOf t a.off (4 * len + 1) = len := by
        have h1 : (4 * len + 1) % 4 = 1 := by omega
        have h2 : (4 * len + 1) / 4 = len := by omega
        unfold capOf
        rw [h1]
        exact h2
      have hv := VR.slice (l := len) (o := a.off) p5 ⟨by omega, fun e => by omega⟩ (Nat.le_of_eq hcap.symm)
      rw [hcap] at hv
      have ea : a' = ⟨a'.block, a.off, none⟩ := by rw [p3, ← p2]
      rw [ea] at h1
      rw [p4]
      exact Snd.det (Yields.slA h1) hv hH
  · cases h
theorem bytesC_flat (l : List UInt8) : (bytesC l).all flatV = true := List.all_eq_true.2 fun v hv => by obtain ⟨b, _, rfl⟩ := List.mem_map.1 hv; rfl
theorem snd_strOf {x : PV} (hT : TR ρ T Tc) (hH : HR w0 ρ H L) (h : evM (.strOf x) T H = some r) : Snd P w0 n S (.strOf x) Tc ρ L r := by
  simp only [evM] at h
  split at h
  · rename_i v hx
    split at h
    · rename_i q c hc
      split at h
      · rename_i l hl
        obtain rfl := Option.some.inj h
        obtain ⟨u, h1, h2⟩ := hT.ev hx
        obtain ⟨A, cp, us, rfl, h3, h4, h5, _⟩ := shown_spec (S := S) hH h2 hc
        obtain rfl := toB_spec h4 hl
        have hlen : l.length = q := by have := h4.1; rw [bytesC_length] at this; omega
        exact Snd.det (Yields.strOf h1 hlen h5) (.flat rfl) hH
      · cases h
    · cases h
  · cases h
theorem snd_bytesOf {E : TypeId} {x : PV} (hT : TR ρ T Tc) (hH : HR w0 ρ H L) (h : evM (.bytesOf E x) T H = some r) : Snd P w0 n S (.bytesOf E x) Tc ρ L r := by
  simp only [evM] at h
  split at h
  · rename_i s hx
    obtain ⟨hr, h⟩ := bif_some h
    obtain rfl := Option.some.inj h
    obtain ⟨u, h1, h2⟩ := hT.ev hx
    obtain rfl := h2.str_inv
    refine Snd.new (F := fun r u o' t => s.size ≤ t ∧ u = .slice (some ⟨r, 0, none⟩) s.size t ∧ o' = .ro (bytesC s.data.toList)) (room_lt hr) hH ((OW.bytesOf h1).mono ?_) ?_
    · rintro u S' ⟨r, cap, rfl, hc, rfl⟩
      exact ⟨r, _, cap, ⟨hc, rfl, rfl⟩, rfl⟩
    · rintro r u o' t ⟨hc, rfl, rfl⟩
      have hcap : capOf t 0 2 = t := by simp [capOf]
      have := VR.slice (ρ := ρ ++ [(r, t)]) (l := s.size) (o := 0) (e := 2) (nx_get hH (r, t)) ⟨by omega, fun e => by omega⟩ (by rw [hcap]; exact hc)
      rw [hcap] at this
      exact ⟨by rw [strL_length]; exact this, _, VRL.flat (bytesC_flat _), rfl⟩
  · cases h
end
end Go.SL

set_option linter.unusedVariables false
set_option linter.unusedSimpArgs false
namespace Go.Proofs.Lb
open Go.SL Go.RowKit Go.Proofs
set_option maxHeartbeats 1000000
def ddS (acc : List LabB) (x : LabB) : List LabB := if acc.getLast? = some x then acc else acc ++ [x]
def dd (l : List LabB) : List LabB := l.foldl ddS []
def lab0 : LabB := (0, 0)
end Go.Proofs.Lb

set_option linter.unusedVariables false
set_option linter.unusedSimpArgs false
namespace Go.Proofs.Lb
open Go.SL Go.RowKit Go.Proofs
set_option maxHeartbeats 1000000
theorem slv_rdL {w0 : World} {E sz m : Nat} {v : Value} {xs : List Value} {seg : Seg} (hv : SlV E sz v m xs seg) : ∃ A cap, v = .slice A m cap ∧ (A = none → cap = 0) ∧ m ≤ cap ∧ ∀ S, Rd w0 (seg :: S) A xs := by
  obtain ⟨hl, ⟨rfl, rfl, rfl⟩ | ⟨r, cap, rfl, rfl, h1, h2⟩⟩ := hv
  · have : xs = [] := List.eq_nil_of_length_eq_zero (by simpa using hl)
    subst this
    exact ⟨none, 0, rfl, fun _ => rfl, Nat.le_refl _, fun _ => Rd.nil⟩
  · exact ⟨_, cap, rfl, (fun h => nomatch h), h1, fun S => Rd.own (List.mem_flatten.2 ⟨_, List.mem_cons_self .., List.mem_singleton.2 rfl⟩)⟩
end Go.Proofs.Lb

set_option linter.unusedVariables false
set_option linter.unusedSimpArgs false
namespace Go.Proofs.Rl
open Go.SL Go.RowKit Go.Proofs Go.Proofs.Lb
set_option maxHeartbeats 1000000
abbrev RuleB := ByteArray × LabB
def ruleC (r : RuleB) : List Value := [.string r.1, .int .i64 r.2.1, .int .u64 (r.2.2.toNat : Int)]
def ruls (l : List RuleB) : List Value := l.flatMap ruleC
def tabV (v : Int) (A : Option Addr) (n c : Nat) : Value := .agg #[.int .i64 v, .slice A n c]
abbrev tseg (r : Nat) (v : Int) (A : Option Addr) (n c : Nat) : Seg := [(r, .cells [.int .i64 v, .slice A n c] 45 2)]
abbrev rseg (r : Nat) (x : RuleB) : Seg := [(r, .cells [.string x.1, .int .i64 x.2.1, .int .u64 (x.2.2.toNat : Int)] 56 3)]
theorem ruleC_len (x : RuleB) : (ruleC x).length = 3 := rfl
instance : Inhabited RuleB := ⟨(⟨#[]⟩, lab0)⟩
theorem ruls_len (l : List RuleB) : (ruls l).length = l.length * 3 := by
  unfold ruls; rw [List.length_flatMap]; simp [ruleC_len, List.map_const']
theorem ruls_get {l : List RuleB} {k : Nat} (hk : k < l.length) {j : Nat} (hj : j < 3) : (ruls l)[k * 3 + j]? = (ruleC l[k])[j]? := by
  unfold ruls
  rw [flat_get ruleC_len l (k * 3 + j) (by omega), show (k * 3 + j) / 3 = k from by omega, show (k * 3 + j) % 3 = j from by omega, getElem!_pos l k hk]
theorem ruls_some {w0 : World} {S : SS} {A : Option Addr} {l : List RuleB} (h : Rd w0 S A (ruls l)) (hk : 0 < l.length) : ∃ a, A = some a :=
  h.some (fun e => by have := ruls_len l; rw [e] at this; simp at this; omega)
theorem rule_at {w0 : World} {S : SS} {a : Addr} {l : List RuleB} (h : Rd w0 S (some a) (ruls l)) {k : Nat} (hk : k < l.length) :
    ∀ (j : Nat) (v : Value), (ruleC l[k])[j]? = some v → Cell w0 S ((a.add (k * 3)).add j) v := by
  intro j v hj
  have hj2 : j < 3 := by have := (List.getElem?_eq_some_iff.1 hj).1; simpa [ruleC] using this
  rw [addr_add_add]
  exact h.at (by rw [ruls_get hk hj2]; exact hj)
theorem tab_at {w0 : World} {S : SS} {r : Nat} {tv : Int} {A : Option Addr} {n c : Nat} (hm : (r, AO.cells [.int .i64 tv, .slice A n c] 45 2) ∈ S.flatten) :
    ∀ (j : Nat) (v : Value), [Value.int .i64 tv, .slice A n c][j]? = some v → Cell w0 S ((⟨r, 0, none⟩ : Addr).add j) v := fun j v hj => (Rd.own hm).at hj
theorem rseg_at {w0 : World} {S : SS} {r : Nat} {x : RuleB} : ∀ (j : Nat) (v : Value), [Value.int .i64 x.2.1, .int .u64 (x.2.2.toNat : Int)][j]? = some v → Cell w0 (rseg r x :: S) ((⟨r, 1, none⟩ : Addr).add j) v := by
  intro j v hj
  have : (⟨r, 1, none⟩ : Addr).add j = (⟨r, 0, none⟩ : Addr).add (1 + j) := by rw [Addr.add_lit, Addr.add_lit]; congr 1; omega
  rw [this]
  refine (Rd.own (E := 56) (tot := 3) (List.mem_flatten.2 ⟨_, .head _, List.mem_singleton.2 rfl⟩)).at ?_
  rw [Nat.add_comm]
  exact hj
def overP (p s : ByteArray) : Bool := decide (p = s) || underP p s
def findS (l : List RuleB) (s : ByteArray) : Int × LabB := l.foldl (fun o r => if o.1 < (r.1.size : Int) ∧ overP r.1 s = true then ((r.1.size : Int), r.2) else o) (-1, lab0)
def findP (l : List RuleB) (s : ByteArray) : LabB := (findS l s).2
theorem rtake_snoc {l : List RuleB} {k : Nat} (hk : k < l.length) : l.take (k + 1) = l.take k ++ [l[k]] := by
  rw [List.take_add_one, List.getElem?_eq_getElem hk]; rfl
theorem findS_take {l : List RuleB} {s : ByteArray} {k : Nat} (hk : k < l.length) : findS (l.take (k + 1)) s = if (findS (l.take k) s).1 < (l[k].1.size : Int) ∧ overP l[k].1 s = true then ((l[k].1.size : Int), l[k].2) else findS (l.take k) s := by
  rw [rtake_snoc hk]; unfold findS; rw [List.foldl_append]; rfl
theorem findS_rng {l : List RuleB} {s : ByteArray} (hb : ∀ x ∈ l, x.1.size ≤ 1000000000) : ∀ k, k ≤ l.length → -1 ≤ (findS (l.take k) s).1 ∧ (findS (l.take k) s).1 ≤ 1000000000
  | 0, _ => by simp [findS]
  | k + 1, h => by
    rw [findS_take (by omega)]
    have := findS_rng (s := s) hb k (by omega)
    have h2 := hb l[k] (List.getElem_mem _)
    split
    · exact ⟨by show (-1 : Int) ≤ (l[k].1.size : Int); omega, by show (l[k].1.size : Int) ≤ 1000000000; omega⟩
    · exact this
theorem over_fc {w0 : World} {S : SS} {p s : ByteArray} (hp : p.size ≤ 1000000000) (hs : s.size ≤ 1000000000) : FC Tryd.prog w0 48 [.string p, .string s] S (fun v S' => v = .bool (overP p s) ∧ S' = S) := by
  refine FC.of Tryd.known48 (by simp) ?_
  unfold Tryd.pc48
  simp only [argT]
  refine PW.seqOps ?_
  refine OL.det trivial (Yields.pure rfl) ?_
  refine OL.nil ?_
  refine PW.keep (T' := [(0, _), (1, _)]) ⟨rfl, rfl, trivial⟩ ?_
  refine PW.seqOps ?_
  refine OL.det trivial (Yields.pure rfl) ?_
  refine OL.det trivial (Yields.pure rfl) ?_
  refine OL.det trivial (Yields.pure rfl) ?_
  refine OL.bool trivial (Yields.pure rfl) (fun g8 => ?_) (fun g8 => ?_)
  · try simp only [decide_eq_true_eq, decide_eq_false_iff_not, beq_iff_eq, bne_iff_ne, beq_eq_false_iff_ne, bne_eq_false_iff_eq, Bool.not_eq_true', Bool.not_eq_false', Bool.not_eq_true, ne_eq, Decidable.not_not] at g8
    rw [toL_inj] at g8
    refine OL.off rfl rfl ?_
    refine OL.off rfl rfl ?_
    refine OL.off rfl rfl ?_
    refine OL.det trivial (Yields.pure rfl) ?_
    refine OL.det trivial (Yields.pure rfl) ?_
    refine OL.nil ?_
    refine PW.keep (T' := [(4, _)]) ⟨rfl, trivial⟩ ?_
    refine PW.ret ?_
    change (Exit.ret = Exit.normal ∨ Exit.ret = Exit.ret) ∧ ∃ v, resV _ _ = some v ∧ _
    exact ⟨.inr rfl, _, rfl, by unfold overP; first | (rw [decide_eq_true g8]; rfl) | (rw [decide_eq_false g8]; rfl), rfl⟩
  · try simp only [decide_eq_true_eq, decide_eq_false_iff_not, beq_iff_eq, bne_iff_ne, beq_eq_false_iff_ne, bne_eq_false_iff_eq, Bool.not_eq_true', Bool.not_eq_false', Bool.not_eq_true, ne_eq, Decidable.not_not] at g8
    rw [toL_inj] at g8
    refine OL.det rfl (Yields.pure rfl) ?_
    refine OL.det rfl (Yields.pure rfl) ?_
    refine OL.call rfl rfl (under_fc hp hs) ?_
    rintro _ Sx ⟨rfl, hSx⟩
    rw [hSx]
    clear hSx
    refine OL.det trivial (Yields.pure rfl) ?_
    refine OL.det trivial (Yields.pure rfl) ?_
    refine OL.nil ?_
    refine PW.keep (T' := [(4, _)]) ⟨rfl, trivial⟩ ?_
    refine PW.ret ?_
    change (Exit.ret = Exit.normal ∨ Exit.ret = Exit.ret) ∧ ∃ v, resV _ _ = some v ∧ _
    exact ⟨.inr rfl, _, rfl, by unfold overP; first | (rw [decide_eq_true g8]; rfl) | (rw [decide_eq_false g8]; rfl), rfl⟩
theorem rover_fc {w0 : World} {S : SS} {p s : ByteArray} (hp : p.size ≤ 1000000000) (hs : s.size ≤ 1000000000) : FC Tryd.prog w0 77 [.string p, .string s] S (fun v S' => v = .bool (overP p s) ∧ S' = S) := by
  refine FC.of Tryd.known77 (by simp) ?_
  unfold Tryd.pc77
  simp only [argT]
  refine PW.seqOps ?_
  refine OL.det trivial (Yields.pure rfl) ?_
  refine OL.nil ?_
  refine PW.keep (T' := [(0, _), (1, _)]) ⟨rfl, rfl, trivial⟩ ?_
  refine PW.seqOps ?_
  refine OL.det trivial (Yields.pure rfl) ?_
  refine OL.det trivial (Yields.pure rfl) ?_
  refine OL.det trivial (Yields.pure rfl) ?_
  refine OL.bool trivial (Yields.pure rfl) (fun g8 => ?_) (fun g8 => ?_)
  · try simp only [decide_eq_true_eq, decide_eq_false_iff_not, beq_iff_eq, bne_iff_ne, beq_eq_false_iff_ne, bne_eq_false_iff_eq, Bool.not_eq_true', Bool.not_eq_false', Bool.not_eq_true, ne_eq, Decidable.not_not] at g8
    rw [toL_inj] at g8
    refine OL.off rfl rfl ?_
    refine OL.off rfl rfl ?_
    refine OL.off rfl rfl ?_
    refine OL.det trivial (Yields.pure rfl) ?_
    refine OL.det trivial (Yields.pure rfl) ?_
    refine OL.nil ?_
    refine PW.keep (T' := [(4, _)]) ⟨rfl, trivial⟩ ?_
    refine PW.ret ?_
    change (Exit.ret = Exit.normal ∨ Exit.ret = Exit.ret) ∧ ∃ v, resV _ _ = some v ∧ _
    exact ⟨.inr rfl, _, rfl, by unfold overP; first | (rw [decide_eq_true g8]; rfl) | (rw [decide_eq_false g8]; rfl), rfl⟩
  · try simp only [decide_eq_true_eq, decide_eq_false_iff_not, beq_iff_eq, bne_iff_ne, beq_eq_false_iff_ne, bne_eq_false_iff_eq, Bool.not_eq_true', Bool.not_eq_false', Bool.not_eq_true, ne_eq, Decidable.not_not] at g8
    rw [toL_inj] at g8
    refine OL.det rfl (Yields.pure rfl) ?_
    refine OL.det rfl (Yields.pure rfl) ?_
    refine OL.call rfl rfl (under_fc hp hs) ?_
    rintro _ Sx ⟨rfl, hSx⟩
    rw [hSx]
    clear hSx
    refine OL.det trivial (Yields.pure rfl) ?_
    refine OL.det trivial (Yields.pure rfl) ?_
    refine OL.nil ?_
    refine PW.keep (T' := [(4, _)]) ⟨rfl, trivial⟩ ?_
    refine PW.ret ?_
    change (Exit.ret = Exit.normal ∨ Exit.ret = Exit.ret) ∧ ∃ v, resV _ _ = some v ∧ _
    exact ⟨.inr rfl, _, rfl, by unfold overP; first | (rw [decide_eq_true g8]; rfl) | (rw [decide_eq_false g8]; rfl), rfl⟩
theorem large_fc {w0 : World} {S : SS} {A : Option Addr} {c : Nat} {tv : Int} {l : List RuleB} {s : ByteArray} (hx : Rd w0 S A (ruls l)) (hw : ∀ x ∈ l, x.1.size ≤ maxLen) (hs : s.size ≤ maxLen) (hl : l.length ≤ maxLen) :
    FC Tryd.prog w0 40 [tabV tv A l.length c, .string s] S (fun v S' => ∃ b, v = .bool b ∧ S' = S ∧ (b = false → l.length ≤ 60 ∧ s.size ≤ 200 ∧ (∀ x ∈ l, x.1.size ≤ 200) ∧ -999999999 ≤ tv ∧ tv ≤ 999999999)) := by
  refine FC.ofD Tryd.known40 (by simp) ?_
  unfold Tryd.pc40
  simp only [argT]
  refine PW.seqOps ?_
  refine OL.cons trivial (OW.bx rfl) ?_
  rintro _ _ ⟨r2, rfl, rfl⟩
  change OL _ _ _ _ _ (tseg r2 tv A l.length c :: S) _
  refine OL.det trivial (Yields.pure rfl) ?_
  refine OL.nil ?_
  refine PW.keep (T' := [(1, _), (2, _)]) ⟨rfl, rfl, trivial⟩ ?_
  refine PW.seq fun K1 hK1 => ?_
  refine PW.seqOps ?_
  refine OL.det trivial (Yields.pure rfl) ?_
  refine OL.nil ?_
  refine PW.keep (T' := [(1, _), (2, _), (5, _)]) ⟨rfl, rfl, rfl, trivial⟩ ?_
  refine PW.block ?_
  refine PW.keep (T' := [(1, _), (2, _), (5, _)]) ⟨rfl, rfl, rfl, trivial⟩ ?_
  refine PW.loopK (I := fun m T S' => ∃ (k : Nat), (k ≤ l.length ∧ k ≤ 70 ∧ m = 70 - k ∧ ∀ x ∈ l.take k, x.1.size ≤ 200) ∧ T = ([(1, .string s), (2, .pointer (some ⟨r2, 0, none⟩)), (5, .int .i64 k)] : TT) ∧ S' = tseg r2 tv A l.length c :: S) (m := 70) ⟨0, ⟨by omega, by omega, by omega, fun x h => by simp at h⟩, rfl, rfl⟩ ?_
  rintro m _ _ ⟨k, ⟨hk, hk70, hm, hall⟩, rfl, rfl⟩
  refine PW.seq fun K2 hK2 => ?_
  refine PW.seqOps ?_
  refine OL.det trivial (Yields.pure rfl) ?_
  refine OL.det trivial (Yields.pure rfl) ?_
  refine OL.det trivial (Yields.ld rfl (own_at (j := 1) (c := [.int .i64 tv, .slice A l.length c]) (E := 45) (tot := 2) (List.mem_flatten.2 ⟨_, .head _, List.mem_singleton.2 rfl⟩) rfl)) ?_
  refine OL.det trivial (Yields.pure rfl) ?_
  refine OL.det trivial (Yields.pure rfl) ?_
  refine OL.bool trivial (Yields.pure rfl) (fun g11 => ?_) (fun g11 => ?_)
  · try simp only [decide_eq_true_eq, decide_eq_false_iff_not, beq_iff_eq, bne_iff_ne, beq_eq_false_iff_ne, bne_eq_false_iff_eq, Bool.not_eq_true', Bool.not_eq_false', Bool.not_eq_true, ne_eq, Decidable.not_not] at g11
    refine OL.det rfl (Yields.pure rfl) ?_
    refine OL.det rfl (Yields.pure rfl) ?_
    refine OL.det trivial (Yields.pure rfl) ?_
    refine OL.nil ?_
    refine PW.keep (T' := [(1, _), (2, _), (5, _), (14, _)]) ⟨rfl, rfl, rfl, rfl, trivial⟩ ?_
    refine PW.cond rfl (fun c14 => ?_) (fun c14 => ?_)
    · try simp only [decide_eq_true_eq, decide_eq_false_iff_not, beq_iff_eq, bne_iff_ne, beq_eq_false_iff_ne, bne_eq_false_iff_eq, Bool.not_eq_true', Bool.not_eq_false', Bool.not_eq_true, ne_eq, Decidable.not_not] at c14
      have hkl : k < l.length := by omega
      obtain ⟨a0, rfl⟩ := ruls_some hx (by omega)
      have hwk := hw _ (List.getElem_mem hkl)
      refine PW.skip ?_
      refine hK2 _ _ ?_
      refine PW.keep (T' := [(1, _), (2, _), (5, _)]) ⟨rfl, rfl, rfl, trivial⟩ ?_
      refine PW.seq fun K3 hK3 => ?_
      refine PW.block ?_
      refine PW.seqOps ?_
      refine OL.det trivial (Yields.pure rfl) ?_
      refine OL.det trivial (Yields.ld rfl (own_at (j := 1) (c := [.int .i64 tv, .slice (some a0) l.length c]) (E := 45) (tot := 2) (List.mem_flatten.2 ⟨_, .head _, List.mem_singleton.2 rfl⟩) rfl)) ?_
      refine OL.det trivial (Yields.pure rfl) ?_
      refine OL.det trivial (Yields.ixN rfl rfl rfl (by omega)) ?_
      refine OL.det trivial (Yields.pure rfl) ?_
      refine OL.det trivial (Yields.ld rfl (rule_at hx.cons hkl 0 _ rfl)) ?_
      refine OL.det trivial (Yields.pure rfl) ?_
      refine OL.det trivial (Yields.pure rfl) ?_
      refine OL.nil ?_
      refine PW.keep (T' := [(1, _), (2, _), (5, _), (24, _)]) ⟨rfl, rfl, rfl, rfl, trivial⟩ ?_
      refine PW.cond rfl (fun c24 => ?_) (fun c24 => ?_)
      · try simp only [decide_eq_true_eq, decide_eq_false_iff_not, beq_iff_eq, bne_iff_ne, beq_eq_false_iff_ne, bne_eq_false_iff_eq, Bool.not_eq_true', Bool.not_eq_false', Bool.not_eq_true, ne_eq, Decidable.not_not] at c24
        refine PW.seqOps ?_
        refine OL.det trivial (Yields.pure rfl) ?_
        refine OL.nil ?_
        refine PW.keep (T' := [(4, _)]) ⟨rfl, trivial⟩ ?_
        refine PW.ret ?_
        change (Exit.ret = Exit.normal ∨ Exit.ret = Exit.ret) ∧ ∃ v, resV _ _ = some v ∧ _
        exact ⟨.inr rfl, _, rfl, _, Sub.drop (Sub.refl _), _, rfl, rfl, fun h => by cases h⟩
      · try simp only [decide_eq_true_eq, decide_eq_false_iff_not, beq_iff_eq, bne_iff_ne, beq_eq_false_iff_ne, bne_eq_false_iff_eq, Bool.not_eq_true', Bool.not_eq_false', Bool.not_eq_true, ne_eq, Decidable.not_not] at c24
        refine PW.skip ?_
        refine hK3 _ _ ?_
        refine PW.keep (T' := [(1, _), (2, _), (5, _)]) ⟨rfl, rfl, rfl, trivial⟩ ?_
        refine PW.ops ?_
        refine OL.det trivial (Yields.pure rfl) ?_
        refine OL.det trivial (Yields.add64 rfl rfl (by omega) (by omega)) ?_
        refine OL.det trivial (Yields.pure rfl) ?_
        refine OL.nil ?_
        repeat rw [inBlk_n]
        rw [thenK_n]
        refine LoopEnd.mk (T'' := [(1, _), (2, _), (5, _)]) ⟨rfl, rfl, rfl, trivial⟩ ?_
        refine ⟨70 - (k + 1), by omega, k + 1, ⟨by omega, by omega, rfl, fun x hx => ?_⟩, rfl, rfl⟩
        rw [rtake_snoc hkl, List.mem_append, List.mem_singleton] at hx
        rcases hx with hx | rfl
        · exact hall x hx
        · omega
    · try simp only [decide_eq_true_eq, decide_eq_false_iff_not, beq_iff_eq, bne_iff_ne, beq_eq_false_iff_ne, bne_eq_false_iff_eq, Bool.not_eq_true', Bool.not_eq_false', Bool.not_eq_true, ne_eq, Decidable.not_not] at c14
      refine PW.exit ?_
      refine hK1 _ _ ?_
      refine PW.keep (T' := [(1, _), (2, _)]) ⟨rfl, rfl, trivial⟩ ?_
      refine PW.seqOps ?_
      refine OL.det trivial (Yields.pure rfl) ?_
      refine OL.det trivial (Yields.ld rfl (own_at (j := 1) (c := [.int .i64 tv, .slice A l.length c]) (E := 45) (tot := 2) (List.mem_flatten.2 ⟨_, .head _, List.mem_singleton.2 rfl⟩) rfl)) ?_
      refine OL.det trivial (Yields.pure rfl) ?_
      refine OL.det trivial (Yields.pure rfl) ?_
      refine OL.bool trivial (Yields.pure rfl) (fun g29 => ?_) (fun g29 => ?_)
      · try simp only [decide_eq_true_eq, decide_eq_false_iff_not, beq_iff_eq, bne_iff_ne, beq_eq_false_iff_ne, bne_eq_false_iff_eq, Bool.not_eq_true', Bool.not_eq_false', Bool.not_eq_true, ne_eq, Decidable.not_not] at g29
        refine OL.off rfl rfl ?_
        refine OL.off rfl rfl ?_
        refine OL.off rfl rfl ?_
        refine OL.det trivial (Yields.pure rfl) ?_
        refine OL.det trivial (Yields.pure rfl) ?_
        refine OL.off rfl rfl ?_
        refine OL.off rfl rfl ?_
        refine OL.off rfl rfl ?_
        refine OL.det trivial (Yields.pure rfl) ?_
        refine OL.det trivial (Yields.pure rfl) ?_
        refine OL.off rfl rfl ?_
        refine OL.off rfl rfl ?_
        refine OL.off rfl rfl ?_
        refine OL.det trivial (Yields.pure rfl) ?_
        refine OL.det trivial (Yields.pure rfl) ?_
        refine OL.nil ?_
        refine PW.keep (T' := [(4, _)]) ⟨rfl, trivial⟩ ?_
        refine PW.ret ?_
        change (Exit.ret = Exit.normal ∨ Exit.ret = Exit.ret) ∧ ∃ v, resV _ _ = some v ∧ _
        refine ⟨.inr rfl, _, rfl, _, Sub.drop (Sub.refl _), _, rfl, rfl, fun hb => ?_⟩
        first
          | (cases hb; done)
          | (simp only [decide_eq_false_iff_not, Int.not_lt] at hb
             obtain rfl : k = l.length := by omega
             rw [List.take_length] at hall
             exact ⟨by omega, by omega, hall, by omega, by omega⟩)
      · try simp only [decide_eq_true_eq, decide_eq_false_iff_not, beq_iff_eq, bne_iff_ne, beq_eq_false_iff_ne, bne_eq_false_iff_eq, Bool.not_eq_true', Bool.not_eq_false', Bool.not_eq_true, ne_eq, Decidable.not_not] at g29
        refine OL.det rfl (Yields.pure rfl) ?_
        refine OL.det rfl (Yields.pure rfl) ?_
        refine OL.det rfl (Yields.pure rfl) ?_
        refine OL.det trivial (Yields.pure rfl) ?_
        refine OL.bool trivial (Yields.pure rfl) (fun g34 => ?_) (fun g34 => ?_)
        · try simp only [decide_eq_true_eq, decide_eq_false_iff_not, beq_iff_eq, bne_iff_ne, beq_eq_false_iff_ne, bne_eq_false_iff_eq, Bool.not_eq_true', Bool.not_eq_false', Bool.not_eq_true, ne_eq, Decidable.not_not] at g34
          refine OL.off rfl rfl ?_
          refine OL.off rfl rfl ?_
          refine OL.off rfl rfl ?_
          refine OL.det trivial (Yields.pure rfl) ?_
          refine OL.det trivial (Yields.pure rfl) ?_
          refine OL.off rfl rfl ?_
          refine OL.off rfl rfl ?_
          refine OL.off rfl rfl ?_
          refine OL.det trivial (Yields.pure rfl) ?_
          refine OL.det trivial (Yields.pure rfl) ?_
          refine OL.nil ?_
          refine PW.keep (T' := [(4, _)]) ⟨rfl, trivial⟩ ?_
          refine PW.ret ?_
          change (Exit.ret = Exit.normal ∨ Exit.ret = Exit.ret) ∧ ∃ v, resV _ _ = some v ∧ _
          refine ⟨.inr rfl, _, rfl, _, Sub.drop (Sub.refl _), _, rfl, rfl, fun hb => ?_⟩
          first
            | (cases hb; done)
            | (simp only [decide_eq_false_iff_not, Int.not_lt] at hb
               obtain rfl : k = l.length := by omega
               rw [List.take_length] at hall
               exact ⟨by omega, by omega, hall, by omega, by omega⟩)
        · try simp only [decide_eq_true_eq, decide_eq_false_iff_not, beq_iff_eq, bne_iff_ne, beq_eq_false_iff_ne, bne_eq_false_iff_eq, Bool.not_eq_true', Bool.not_eq_false', Bool.not_eq_true, ne_eq, Decidable.not_not] at g34
          refine OL.det rfl (Yields.pure rfl) ?_
          refine OL.det rfl (Yields.ld rfl (own_at (j := 0) (c := [.int .i64 tv, .slice A l.length c]) (E := 45) (tot := 2) (List.mem_flatten.2 ⟨_, .head _, List.mem_singleton.2 rfl⟩) rfl)) ?_
          refine OL.det rfl (Yields.pure rfl) ?_
          refine OL.det trivial (Yields.pure rfl) ?_
          refine OL.bool trivial (Yields.pure rfl) (fun g39 => ?_) (fun g39 => ?_)
          · try simp only [decide_eq_true_eq, decide_eq_false_iff_not, beq_iff_eq, bne_iff_ne, beq_eq_false_iff_ne, bne_eq_false_iff_eq, Bool.not_eq_true', Bool.not_eq_false', Bool.not_eq_true, ne_eq, Decidable.not_not] at g39
            refine OL.off rfl rfl ?_
            refine OL.off rfl rfl ?_
            refine OL.off rfl rfl ?_
            refine OL.det trivial (Yields.pure rfl) ?_
            refine OL.det trivial (Yields.pure rfl) ?_
            refine OL.nil ?_
            refine PW.keep (T' := [(4, _)]) ⟨rfl, trivial⟩ ?_
            refine PW.ret ?_
            change (Exit.ret = Exit.normal ∨ Exit.ret = Exit.ret) ∧ ∃ v, resV _ _ = some v ∧ _
            refine ⟨.inr rfl, _, rfl, _, Sub.drop (Sub.refl _), _, rfl, rfl, fun hb => ?_⟩
            first
              | (cases hb; done)
              | (simp only [decide_eq_false_iff_not, Int.not_lt] at hb
                 obtain rfl : k = l.length := by omega
                 rw [List.take_length] at hall
                 exact ⟨by omega, by omega, hall, by omega, by omega⟩)
          · try simp only [decide_eq_true_eq, decide_eq_false_iff_not, beq_iff_eq, bne_iff_ne, beq_eq_false_iff_ne, bne_eq_false_iff_eq, Bool.not_eq_true', Bool.not_eq_false', Bool.not_eq_true, ne_eq, Decidable.not_not] at g39
            refine OL.det rfl (Yields.pure rfl) ?_
            refine OL.det rfl (Yields.ld rfl (own_at (j := 0) (c := [.int .i64 tv, .slice A l.length c]) (E := 45) (tot := 2) (List.mem_flatten.2 ⟨_, .head _, List.mem_singleton.2 rfl⟩) rfl)) ?_
            refine OL.det rfl (Yields.pure rfl) ?_
            refine OL.det trivial (Yields.pure rfl) ?_
            refine OL.det trivial (Yields.pure rfl) ?_
            refine OL.nil ?_
            refine PW.keep (T' := [(4, _)]) ⟨rfl, trivial⟩ ?_
            refine PW.ret ?_
            change (Exit.ret = Exit.normal ∨ Exit.ret = Exit.ret) ∧ ∃ v, resV _ _ = some v ∧ _
            refine ⟨.inr rfl, _, rfl, _, Sub.drop (Sub.refl _), _, rfl, rfl, fun hb => ?_⟩
            first
              | (cases hb; done)
              | (simp only [decide_eq_false_iff_not, Int.not_lt] at hb
                 obtain rfl : k = l.length := by omega
                 rw [List.take_length] at hall
                 exact ⟨by omega, by omega, hall, by omega, by omega⟩)
  · try simp only [decide_eq_true_eq, decide_eq_false_iff_not, beq_iff_eq, bne_iff_ne, beq_eq_false_iff_ne, bne_eq_false_iff_eq, Bool.not_eq_true', Bool.not_eq_false', Bool.not_eq_true, ne_eq, Decidable.not_not] at g11
    refine OL.off rfl rfl ?_
    refine OL.off rfl rfl ?_
    refine OL.det trivial (Yields.pure rfl) ?_
    refine OL.nil ?_
    refine PW.keep (T' := [(1, _), (2, _), (5, _), (14, _)]) ⟨rfl, rfl, rfl, rfl, trivial⟩ ?_
    refine PW.ite (b := false) rfl ?_
    rw [if_neg Bool.false_ne_true]
    refine PW.exit ?_
    refine hK1 _ _ ?_
    refine PW.keep (T' := [(1, _), (2, _)]) ⟨rfl, rfl, trivial⟩ ?_
    refine PW.seqOps ?_
    refine OL.det trivial (Yields.pure rfl) ?_
    refine OL.det trivial (Yields.ld rfl (own_at (j := 1) (c := [.int .i64 tv, .slice A l.length c]) (E := 45) (tot := 2) (List.mem_flatten.2 ⟨_, .head _, List.mem_singleton.2 rfl⟩) rfl)) ?_
    refine OL.det trivial (Yields.pure rfl) ?_
    refine OL.det trivial (Yields.pure rfl) ?_
    refine OL.bool trivial (Yields.pure rfl) (fun g29 => ?_) (fun g29 => ?_)
    · try simp only [decide_eq_true_eq, decide_eq_false_iff_not, beq_iff_eq, bne_iff_ne, beq_eq_false_iff_ne, bne_eq_false_iff_eq, Bool.not_eq_true', Bool.not_eq_false', Bool.not_eq_true, ne_eq, Decidable.not_not] at g29
      refine OL.off rfl rfl ?_
      refine OL.off rfl rfl ?_
      refine OL.off rfl rfl ?_
      refine OL.det trivial (Yields.pure rfl) ?_
      refine OL.det trivial (Yields.pure rfl) ?_
      refine OL.off rfl rfl ?_
      refine OL.off rfl rfl ?_
      refine OL.off rfl rfl ?_
      refine OL.det trivial (Yields.pure rfl) ?_
      refine OL.det trivial (Yields.pure rfl) ?_
      refine OL.off rfl rfl ?_
      refine OL.off rfl rfl ?_
      refine OL.off rfl rfl ?_
      refine OL.det trivial (Yields.pure rfl) ?_
      refine OL.det trivial (Yields.pure rfl) ?_
      refine OL.nil ?_
      refine PW.keep (T' := [(4, _)]) ⟨rfl, trivial⟩ ?_
      refine PW.ret ?_
      change (Exit.ret = Exit.normal ∨ Exit.ret = Exit.ret) ∧ ∃ v, resV _ _ = some v ∧ _
      refine ⟨.inr rfl, _, rfl, _, Sub.drop (Sub.refl _), _, rfl, rfl, fun hb => ?_⟩
      first
        | (cases hb; done)
        | (simp only [decide_eq_false_iff_not, Int.not_lt] at hb
           obtain rfl : k = l.length := by omega
           rw [List.take_length] at hall
           exact ⟨by omega, by omega, hall, by omega, by omega⟩)
    · try simp only [decide_eq_true_eq, decide_eq_false_iff_not, beq_iff_eq, bne_iff_ne, beq_eq_false_iff_ne, bne_eq_false_iff_eq, Bool.not_eq_true', Bool.not_eq_false', Bool.not_eq_true, ne_eq, Decidable.not_not] at g29
      refine OL.det rfl (Yields.pure rfl) ?_
      refine OL.det rfl (Yields.pure rfl) ?_
      refine OL.det rfl (Yields.pure rfl) ?_
      refine OL.det trivial (Yields.pure rfl) ?_
      refine OL.bool trivial (Yields.pure rfl) (fun g34 => ?_) (fun g34 => ?_)
      · try simp only [decide_eq_true_eq, decide_eq_false_iff_not, beq_iff_eq, bne_iff_ne, beq_eq_false_iff_ne, bne_eq_false_iff_eq, Bool.not_eq_true', Bool.not_eq_false', Bool.not_eq_true, ne_eq, Decidable.not_not] at g34
        refine OL.off rfl rfl ?_
        refine OL.off rfl rfl ?_
        refine OL.off rfl rfl ?_
        refine OL.det trivial (Yields.pure rfl) ?_
        refine OL.det trivial (Yields.pure rfl) ?_
        refine OL.off rfl rfl ?_
        refine OL.off rfl rfl ?_
        refine OL.off rfl rfl ?_
        refine OL.det trivial (Yields.pure rfl) ?_
        refine OL.det trivial (Yields.pure rfl) ?_
        refine OL.nil ?_
        refine PW.keep (T' := [(4, _)]) ⟨rfl, trivial⟩ ?_
        refine PW.ret ?_
        change (Exit.ret = Exit.normal ∨ Exit.ret = Exit.ret) ∧ ∃ v, resV _ _ = some v ∧ _
        refine ⟨.inr rfl, _, rfl, _, Sub.drop (Sub.refl _), _, rfl, rfl, fun hb => ?_⟩
        first
          | (cases hb; done)
          | (simp only [decide_eq_false_iff_not, Int.not_lt] at hb
             obtain rfl : k = l.length := by omega
             rw [List.take_length] at hall
             exact ⟨by omega, by omega, hall, by omega, by omega⟩)
      · try simp only [decide_eq_true_eq, decide_eq_false_iff_not, beq_iff_eq, bne_iff_ne, beq_eq_false_iff_ne, bne_eq_false_iff_eq, Bool.not_eq_true', Bool.not_eq_false', Bool.not_eq_true, ne_eq, Decidable.not_not] at g34
        refine OL.det rfl (Yields.pure rfl) ?_
        refine OL.det rfl (Yields.ld rfl (own_at (j := 0) (c := [.int .i64 tv, .slice A l.length c]) (E := 45) (tot := 2) (List.mem_flatten.2 ⟨_, .head _, List.mem_singleton.2 rfl⟩) rfl)) ?_
        refine OL.det rfl (Yields.pure rfl) ?_
        refine OL.det trivial (Yields.pure rfl) ?_
        refine OL.bool trivial (Yields.pure rfl) (fun g39 => ?_) (fun g39 => ?_)
        · try simp only [decide_eq_true_eq, decide_eq_false_iff_not, beq_iff_eq, bne_iff_ne, beq_eq_false_iff_ne, bne_eq_false_iff_eq, Bool.not_eq_true', Bool.not_eq_false', Bool.not_eq_true, ne_eq, Decidable.not_not] at g39
          refine OL.off rfl rfl ?_
          refine OL.off rfl rfl ?_
          refine OL.off rfl rfl ?_
          refine OL.det trivial (Yields.pure rfl) ?_
          refine OL.det trivial (Yields.pure rfl) ?_
          refine OL.nil ?_
          refine PW.keep (T' := [(4, _)]) ⟨rfl, trivial⟩ ?_
          refine PW.ret ?_
          change (Exit.ret = Exit.normal ∨ Exit.ret = Exit.ret) ∧ ∃ v, resV _ _ = some v ∧ _
          refine ⟨.inr rfl, _, rfl, _, Sub.drop (Sub.refl _), _, rfl, rfl, fun hb => ?_⟩
          first
            | (cases hb; done)
            | (simp only [decide_eq_false_iff_not, Int.not_lt] at hb
               obtain rfl : k = l.length := by omega
               rw [List.take_length] at hall
               exact ⟨by omega, by omega, hall, by omega, by omega⟩)
        · try simp only [decide_eq_true_eq, decide_eq_false_iff_not, beq_iff_eq, bne_iff_ne, beq_eq_false_iff_ne, bne_eq_false_iff_eq, Bool.not_eq_true', Bool.not_eq_false', Bool.not_eq_true, ne_eq, Decidable.not_not] at g39
          refine OL.det rfl (Yields.pure rfl) ?_
          refine OL.det rfl (Yields.ld rfl (own_at (j := 0) (c := [.int .i64 tv, .slice A l.length c]) (E := 45) (tot := 2) (List.mem_flatten.2 ⟨_, .head _, List.mem_singleton.2 rfl⟩) rfl)) ?_
          refine OL.det rfl (Yields.pure rfl) ?_
          refine OL.det trivial (Yields.pure rfl) ?_
          refine OL.det trivial (Yields.pure rfl) ?_
          refine OL.nil ?_
          refine PW.keep (T' := [(4, _)]) ⟨rfl, trivial⟩ ?_
          refine PW.ret ?_
          change (Exit.ret = Exit.normal ∨ Exit.ret = Exit.ret) ∧ ∃ v, resV _ _ = some v ∧ _
          refine ⟨.inr rfl, _, rfl, _, Sub.drop (Sub.refl _), _, rfl, rfl, fun hb => ?_⟩
          first
            | (cases hb; done)
            | (simp only [decide_eq_false_iff_not, Int.not_lt] at hb
               obtain rfl : k = l.length := by omega
               rw [List.take_length] at hall
               exact ⟨by omega, by omega, hall, by omega, by omega⟩)
theorem find_fc {w0 : World} {S : SS} {A : Option Addr} {c : Nat} {tv : Int} {l : List RuleB} {s : ByteArray} (hx : Rd w0 S A (ruls l)) (hw : ∀ x ∈ l, x.1.size ≤ 1000000000) (hs : s.size ≤ 1000000000) (hl : l.length ≤ 1000000000) :
    FC Tryd.prog w0 49 [tabV tv A l.length c, .string s] S (fun v S' => v = labB (findP l s) ∧ S' = S) := by
  refine FC.ofC Tryd.known49 (by simp) ?_
  unfold Tryd.pc49
  simp only [argT]
  refine PW.seqOps ?_
  refine OL.cons trivial (OW.bx rfl) ?_
  rintro _ _ ⟨r2, rfl, rfl⟩
  change OL _ _ _ _ _ (tseg r2 tv A l.length c :: S) _
  refine OL.cons trivial OW.al ?_
  rintro _ _ ⟨r4, rfl, rfl⟩
  refine OL.nil ?_
  refine PW.keep (T' := [(1, _), (2, _), (4, _)]) ⟨rfl, rfl, rfl, trivial⟩ ?_
  refine PW.seqOps ?_
  refine OL.det trivial (Yields.pure rfl) ?_
  refine OL.nil ?_
  refine PW.keep (T' := [(1, _), (2, _), (4, _), (5, _)]) ⟨rfl, rfl, rfl, rfl, trivial⟩ ?_
  refine PW.seq fun K1 hK1 => ?_
  refine PW.seqOps ?_
  refine OL.det trivial (Yields.pure rfl) ?_
  refine OL.det trivial (Yields.ld rfl (own_at (j := 1) (c := [.int .i64 tv, .slice A l.length c]) (E := 45) (tot := 2) (List.mem_flatten.2 ⟨_, .tail _ (.head _), List.mem_singleton.2 rfl⟩) rfl)) ?_
  refine OL.det trivial (Yields.pure rfl) ?_
  refine OL.det trivial (Yields.pure rfl) ?_
  refine OL.nil ?_
  refine PW.keep (T' := [(1, _), (4, _), (5, _), (9, _), (10, _), (11, _)]) ⟨rfl, rfl, rfl, rfl, rfl, rfl, trivial⟩ ?_
  refine PW.block ?_
  refine PW.keep (T' := [(1, _), (4, _), (5, _), (9, _), (10, _), (11, _)]) ⟨rfl, rfl, rfl, rfl, rfl, rfl, trivial⟩ ?_
  refine PW.loopK (I := fun m T S' => ∃ (k : Nat), (k ≤ l.length ∧ m = l.length - k) ∧ T = ([(1, .string s), (4, .pointer (some ⟨r4, 0, none⟩)), (5, .int .i64 (findS (l.take k) s).1), (9, .slice A l.length c), (10, .int .i64 (l.length : Int)), (11, .int .i64 k)] : TT) ∧ S' = lseg r4 (findS (l.take k) s).2 :: tseg r2 tv A l.length c :: S) (m := l.length) ⟨0, ⟨by omega, by omega⟩, rfl, rfl⟩ ?_
  rintro m _ _ ⟨k, ⟨hk, hm⟩, rfl, rfl⟩
  have hrg := findS_rng (s := s) hw k hk
  refine PW.seqOps ?_
  refine OL.det trivial (Yields.pure rfl) ?_
  refine OL.nil ?_
  refine PW.keep (T' := [(1, _), (4, _), (5, _), (9, _), (10, _), (11, _), (12, _)]) ⟨rfl, rfl, rfl, rfl, rfl, rfl, rfl, trivial⟩ ?_
  refine PW.seq fun K2 hK2 => ?_
  refine PW.cond rfl (fun c12 => ?_) (fun c12 => ?_)
  · try simp only [decide_eq_true_eq, decide_eq_false_iff_not, beq_iff_eq, bne_iff_ne, beq_eq_false_iff_ne, bne_eq_false_iff_eq, Bool.not_eq_true', Bool.not_eq_false', Bool.not_eq_true, ne_eq, Decidable.not_not] at c12
    have hkl : k < l.length := by omega
    obtain ⟨a0, rfl⟩ := ruls_some hx (by omega)
    have hwk := hw _ (List.getElem_mem hkl)
    refine PW.skip ?_
    refine hK2 _ _ ?_
    refine PW.keep (T' := [(1, _), (4, _), (5, _), (9, _), (10, _), (11, _)]) ⟨rfl, rfl, rfl, rfl, rfl, rfl, trivial⟩ ?_
    refine PW.seq fun K3 hK3 => ?_
    refine PW.block ?_
    refine PW.seqOps ?_
    refine OL.det trivial (Yields.ixN rfl rfl rfl (by omega)) ?_
    refine OL.det trivial (Yields.ldA rfl (cs := ruleC l[k]) rfl (rule_at hx.cons.cons hkl)) ?_
    refine OL.cons trivial OW.al ?_
    rintro _ _ ⟨r7, rfl, rfl⟩
    refine OL.cons trivial (OW.st (k := 0) rfl rfl rfl rfl (by decide) rfl) ?_
    rintro _ _ rfl
    change OL _ _ _ _ _ (rseg r7 l[k] :: lseg r4 (findS (l.take k) s).2 :: tseg r2 tv (some a0) l.length c :: S) _
    refine OL.nil ?_
    refine PW.keep (T' := [(1, _), (4, _), (5, _), (7, _), (9, _), (10, _), (11, _)]) ⟨rfl, rfl, rfl, rfl, rfl, rfl, rfl, trivial⟩ ?_
    refine PW.seqOps ?_
    refine OL.det trivial (Yields.pure rfl) ?_
    refine OL.det trivial (Yields.ld rfl (own_at (j := 0) (c := ruleC l[k]) (E := 56) (tot := 3) (List.mem_flatten.2 ⟨_, .head _, List.mem_singleton.2 rfl⟩) rfl)) ?_
    refine OL.det trivial (Yields.pure rfl) ?_
    refine OL.det trivial (Yields.pure rfl) ?_
    refine OL.det trivial (Yields.pure rfl) ?_
    refine OL.bool trivial (Yields.pure rfl) (fun g20 => ?_) (fun g20 => ?_)
    · try simp only [decide_eq_true_eq, decide_eq_false_iff_not, beq_iff_eq, bne_iff_ne, beq_eq_false_iff_ne, bne_eq_false_iff_eq, Bool.not_eq_true', Bool.not_eq_false', Bool.not_eq_true, ne_eq, Decidable.not_not] at g20
      refine OL.det rfl (Yields.pure rfl) ?_
      refine OL.det rfl (Yields.ld rfl (own_at (j := 0) (c := ruleC l[k]) (E := 56) (tot := 3) (List.mem_flatten.2 ⟨_, .head _, List.mem_singleton.2 rfl⟩) rfl)) ?_
      refine OL.det rfl (Yields.pure rfl) ?_
      refine OL.call rfl rfl (rover_fc hwk hs) ?_
      rintro _ Sx ⟨rfl, hSx⟩
      rw [hSx]
      clear hSx
      refine OL.det trivial (Yields.pure rfl) ?_
      refine OL.nil ?_
      refine PW.keep (T' := [(1, _), (4, _), (5, _), (7, _), (9, _), (10, _), (11, _), (25, _)]) ⟨rfl, rfl, rfl, rfl, rfl, rfl, rfl, rfl, trivial⟩ ?_
      refine PW.cond rfl (fun c25 => ?_) (fun c25 => ?_)
      · try simp only [decide_eq_true_eq, decide_eq_false_iff_not, beq_iff_eq, bne_iff_ne, beq_eq_false_iff_ne, bne_eq_false_iff_eq, Bool.not_eq_true', Bool.not_eq_false', Bool.not_eq_true, ne_eq, Decidable.not_not] at c25
        refine PW.quietK Tryd.mixed ?_
        refine QK.det trivial (Yields.pure rfl) ?_
        refine QK.det trivial (Yields.ld rfl (own_at (j := 0) (c := ruleC l[k]) (E := 56) (tot := 3) (List.mem_flatten.2 ⟨_, .head _, List.mem_singleton.2 rfl⟩) rfl)) ?_
        refine QK.det trivial (Yields.pure rfl) ?_
        refine QK.det trivial (Yields.pure rfl) ?_
        refine QK.det trivial (Yields.ldA rfl rfl (rseg_at (x := l[k]))) ?_
        refine QK.det trivial (Yields.pure rfl) ?_
        refine QK.nil ?_
        change OL _ _ _ [_] _ _ _
        refine OL.cons trivial (OW.st (k := 1) (u := labB l[k].2) rfl rfl rfl rfl (Nat.le_refl 2) rfl) ?_
        rintro _ _ rfl
        change OL _ _ _ _ _ (rseg r7 l[k] :: lseg r4 l[k].2 :: tseg r2 tv (some a0) l.length c :: S) _
        refine OL.nil ?_
        refine hK3 _ _ ?_
        refine PW.keep (T' := [(1, _), (4, _), (5, _), (9, _), (10, _), (11, _)]) ⟨rfl, rfl, rfl, rfl, rfl, rfl, trivial⟩ ?_
        refine PW.ops ?_
        refine OL.det trivial (Yields.add64 rfl rfl (by omega) (by omega)) ?_
        refine OL.det trivial (Yields.pure rfl) ?_
        refine OL.nil ?_
        repeat rw [inBlk_n]
        rw [thenK_n]
        refine LoopEnd.mkS ((Sub.drop (Sub.refl _))) (T'' := [(1, _), (4, _), (5, _), (9, _), (10, _), (11, _)]) ⟨rfl, rfl, rfl, rfl, rfl, rfl, trivial⟩ ?_
        refine ⟨l.length - (k + 1), by omega, k + 1, ⟨by omega, rfl⟩, ?_, ?_⟩
        · rw [findS_take hkl, if_pos ⟨by omega, c25⟩] <;> rfl
        · rw [findS_take hkl, if_pos ⟨by omega, c25⟩] <;> rfl
      · try simp only [decide_eq_true_eq, decide_eq_false_iff_not, beq_iff_eq, bne_iff_ne, beq_eq_false_iff_ne, bne_eq_false_iff_eq, Bool.not_eq_true', Bool.not_eq_false', Bool.not_eq_true, ne_eq, Decidable.not_not] at c25
        refine PW.skip ?_
        refine hK3 _ _ ?_
        refine PW.keep (T' := [(1, _), (4, _), (5, _), (9, _), (10, _), (11, _)]) ⟨rfl, rfl, rfl, rfl, rfl, rfl, trivial⟩ ?_
        refine PW.ops ?_
        refine OL.det trivial (Yields.add64 rfl rfl (by omega) (by omega)) ?_
        refine OL.det trivial (Yields.pure rfl) ?_
        refine OL.nil ?_
        repeat rw [inBlk_n]
        rw [thenK_n]
        refine LoopEnd.mkS ((Sub.drop (Sub.refl _))) (T'' := [(1, _), (4, _), (5, _), (9, _), (10, _), (11, _)]) ⟨rfl, rfl, rfl, rfl, rfl, rfl, trivial⟩ ?_
        refine ⟨l.length - (k + 1), by omega, k + 1, ⟨by omega, rfl⟩, ?_, ?_⟩
        · rw [findS_take hkl, if_neg (fun h => by rw [h.2] at c25; cases c25)] <;> rfl
        · rw [findS_take hkl, if_neg (fun h => by rw [h.2] at c25; cases c25)]
    · try simp only [decide_eq_true_eq, decide_eq_false_iff_not, beq_iff_eq, bne_iff_ne, beq_eq_false_iff_ne, bne_eq_false_iff_eq, Bool.not_eq_true', Bool.not_eq_false', Bool.not_eq_true, ne_eq, Decidable.not_not] at g20
      refine OL.off rfl rfl ?_
      refine OL.off rfl rfl ?_
      refine OL.off rfl rfl ?_
      refine OL.off rfl rfl ?_
      refine OL.det trivial (Yields.pure rfl) ?_
      refine OL.nil ?_
      refine PW.keep (T' := [(1, _), (4, _), (5, _), (7, _), (9, _), (10, _), (11, _), (25, _)]) ⟨rfl, rfl, rfl, rfl, rfl, rfl, rfl, rfl, trivial⟩ ?_
      refine PW.ite (b := false) rfl ?_
      rw [if_neg Bool.false_ne_true]
      refine PW.skip ?_
      refine hK3 _ _ ?_
      refine PW.keep (T' := [(1, _), (4, _), (5, _), (9, _), (10, _), (11, _)]) ⟨rfl, rfl, rfl, rfl, rfl, rfl, trivial⟩ ?_
      refine PW.ops ?_
      refine OL.det trivial (Yields.add64 rfl rfl (by omega) (by omega)) ?_
      refine OL.det trivial (Yields.pure rfl) ?_
      refine OL.nil ?_
      repeat rw [inBlk_n]
      rw [thenK_n]
      refine LoopEnd.mkS ((Sub.drop (Sub.refl _))) (T'' := [(1, _), (4, _), (5, _), (9, _), (10, _), (11, _)]) ⟨rfl, rfl, rfl, rfl, rfl, rfl, trivial⟩ ?_
      refine ⟨l.length - (k + 1), by omega, k + 1, ⟨by omega, rfl⟩, ?_, ?_⟩
      · rw [findS_take hkl, if_neg (fun h => by omega)] <;> rfl
      · rw [findS_take hkl, if_neg (fun h => by omega)]
  · try simp only [decide_eq_true_eq, decide_eq_false_iff_not, beq_iff_eq, bne_iff_ne, beq_eq_false_iff_ne, bne_eq_false_iff_eq, Bool.not_eq_true', Bool.not_eq_false', Bool.not_eq_true, ne_eq, Decidable.not_not] at c12
    refine PW.exit ?_
    refine hK1 _ _ ?_
    refine PW.keep (T' := [(4, _)]) ⟨rfl, trivial⟩ ?_
    refine PW.seqOps ?_
    refine OL.det trivial (Yields.ldA rfl rfl (lab_at (a := (findS (l.take k) s).2) (r := r4) (List.mem_flatten.2 ⟨_, .head _, List.mem_singleton.2 rfl⟩))) ?_
    refine OL.cons trivial (OW.st (k := 0) (u := labB (findS (l.take k) s).2) rfl rfl rfl rfl (Nat.le_refl 2) rfl) ?_
    rintro _ _ rfl
    change OL _ _ _ _ _ (lseg r4 (findS (l.take k) s).2 :: tseg r2 tv A l.length c :: S) _
    refine OL.nil ?_
    refine PW.keep (T' := [(4, _)]) ⟨rfl, trivial⟩ ?_
    refine PW.ret ?_
    change (Exit.ret = Exit.normal ∨ Exit.ret = Exit.ret) ∧ ∃ a v, Go.SL.look _ _ = some (.pointer (some a)) ∧ ReadsAs _ _ _ _ _ ∧ _
    obtain rfl : k = l.length := by omega
    rw [List.take_length]
    exact ⟨.inr rfl, _, labB (findP l s), rfl, lab_read (r := r4) (l := (findS l s).2.1) (c := ((findS l s).2.2.toNat : Int)) (List.mem_flatten.2 ⟨_, .head _, List.mem_singleton.2 rfl⟩), _, Sub.drop (Sub.drop (Sub.refl _)), rfl, rfl⟩
end Go.Proofs.Rl

set_option linter.unusedVariables false
set_option linter.unusedSimpArgs false
namespace Go.Proofs.Rl
open Go.SL Go.RowKit Go.Proofs Go.Proofs.Lb
set_option maxHeartbeats 1000000
theorem ruls_app (a b : List RuleB) : ruls (a ++ b) = ruls a ++ ruls b := by unfold ruls; rw [List.flatMap_append]
theorem ruls_one (l : List RuleB) : (ruls l).all (·.oneCell') = true := by
  rw [List.all_eq_true]
  intro v hv
  obtain ⟨a, _, h⟩ := List.mem_flatMap.1 hv
  simp [ruleC] at h
  rcases h with rfl | rfl | rfl <;> rfl
theorem slv_nil_len {E sz m : Nat} {v : Value} {xs : List Value} {seg : Seg} (hv : SlV E sz v m xs seg) (h : 0 < m) : ∃ r cap, v = .slice (some ⟨r, 0, none⟩) m cap ∧ seg = [(r, .cells xs E (cap * sz))] ∧ m ≤ cap ∧ cap ≤ maxLen := by
  obtain ⟨hl, ⟨rfl, rfl, rfl⟩ | h2⟩ := hv
  · omega
  · exact h2
def insL (l : List RuleB) (i : Nat) (x : RuleB) : List RuleB := l.take i ++ x :: l.drop i
theorem insL_len {l : List RuleB} {i : Nat} (h : i ≤ l.length) (x : RuleB) : (insL l i x).length = l.length + 1 := by unfold insL; simp; omega
theorem insL_ruls (l : List RuleB) (i : Nat) (x : RuleB) : ruls (insL l i x) = ruls (l.take i) ++ ruleC x ++ ruls (l.drop i) := by
  unfold insL
  rw [ruls_app, List.append_assoc]
  rfl
theorem lay2 {A Z X B : List Value} {i p q : Nat} (hi : A.length = i) (hX : X.length = p) (hB : B.length = q) (hZ : p + q ≤ Z.length) : (setAt (setAt (A ++ Z) i X) (i + p) B).take (i + p + q) = A ++ X ++ B ∧ i + p + q ≤ (setAt (setAt (A ++ Z) i X) (i + p) B).length := by
  have h1 : i + X.length ≤ (A ++ Z).length := by simp; omega
  have e1 := setAt_eq (A ++ Z) i X h1
  have e2 : (A ++ Z).take i = A := by rw [← hi]; simp
  have h2 : i + p + B.length ≤ (setAt (A ++ Z) i X).length := by rw [setAt_length]; simp; omega
  refine ⟨?_, by rw [setAt_length, setAt_length]; simp; omega⟩
  rw [setAt_eq _ _ _ h2, e1, e2]
  have e3 : (A ++ X ++ (A ++ Z).drop (i + X.length)).take (i + p) = A ++ X := by
    rw [List.take_append_of_le_length (by simp; omega), List.take_of_length_le (by simp; omega)]
  rw [e3, List.take_append_of_le_length (by simp; omega), List.take_of_length_le (by simp; omega)]
theorem lay3 {A Z X B : List Value} {i p q : Nat} (hi : A.length = i) (hX : X.length = p) (hB : B.length = q) (hZ : p + q ≤ Z.length) : (setAt (setAt (A ++ Z) (i + p) B) i X).take (i + p + q) = A ++ X ++ B ∧ i + p + q ≤ (setAt (setAt (A ++ Z) (i + p) B) i X).length := by
  have h2 : i + p + B.length ≤ (A ++ Z).length := by simp; omega
  have h1 : i + X.length ≤ (setAt (A ++ Z) (i + p) B).length := by rw [setAt_length]; simp; omega
  refine ⟨?_, by rw [setAt_length, setAt_length]; simp; omega⟩
  rw [setAt_eq _ _ _ h1, setAt_eq _ _ _ h2]
  have e2 : ((A ++ Z).take (i + p) ++ B ++ (A ++ Z).drop (i + p + B.length)).take i = A := by
    rw [List.append_assoc, List.take_append_of_le_length (by simp; omega), List.take_take, Nat.min_eq_left (by omega), ← hi]; simp
  have e3 : ((A ++ Z).take (i + p) ++ B ++ (A ++ Z).drop (i + p + B.length)).drop (i + X.length) = B ++ (A ++ Z).drop (i + p + B.length) := by
    rw [List.append_assoc, hX]
    have : ((A ++ Z).take (i + p)).length = i + p := by simp; omega
    exact List.drop_left' this
  rw [e2, e3, ← List.append_assoc, List.take_append_of_le_length (by simp; omega), List.take_of_length_le (by simp; omega)]
theorem owns_take {w : World} {b E tot : Nat} {c : List Value} (m : Nat) (h : Owns w b (.cells c E tot)) : Owns w b (.cells (c.take m) E tot) := by
  obtain ⟨C, h1, h2, h3⟩ := h
  refine ⟨C, h1, h2, ?_⟩
  rw [← h3]
  simp [List.take_take]
theorem OL_neq {P : Program} {w0 : World} {n : Nat} {T : TT} {S : SS} {l : List PI} {K : TT → SS → Prop} {i j a b : Nat} {x y : AO} (h1 : S[i]? = some [(a, x)]) (h2 : S[j]? = some [(b, y)]) (hij : i < j) (h : a ≠ b → OL P w0 n l T S K) : OL P w0 n l T S K := by
  intro ops is ac w Q hc hs hr hq
  refine h ?_ ops is ac w Q hc hs hr hq
  have := nodup_disj hr.nodup hij (p := (a, x)) (q := (b, y)) (by rw [List.getD_eq_getElem?_getD, h1]; simp) (by rw [List.getD_eq_getElem?_getD, h2]; simp)
  exact this
theorem callOver (vs : Array Value) (w : World) : (callFunc 95 vs).run Tryd.prog w = ((Extern.SlicesOverlaps.overlaps #[43, 43] #[4] vs).run Tryd.prog w).andThen fun v w => .ok (.value v) w :=
  run_callFunc_extern Tryd.func95 (by kernel_rfl) (by kernel_rfl) (by kernel_rfl) (e := Extern.SlicesOverlaps.overlaps #[43, 43] #[4]) (by kernel_rfl) vs w
theorem size56 (w : World) : (Go.sizeOf 56).run Tryd.prog w = .ok 3 w := by
  obtain ⟨i, hi⟩ := info_of_underlying Tryd.underlying56
  rw [run_sizeOf w hi, show Tryd.prog.cellsOf 56 = 3 by kernel_rfl]
def ltB (a b : ByteArray) : Bool := Op.bytesLess a.toList b.toList
def idxZ (q : RuleB → Bool) (l : List RuleB) : Int := match l.findIdx? q with | some k => (k : Int) | none => -1
theorem idx_take {q : RuleB → Bool} {l : List RuleB} {k : Nat} (hk : k < l.length) (h : ∀ x ∈ l.take k, q x = false) (hq : q l[k] = true) : idxZ q l = (k : Int) := by
  unfold idxZ
  have : l.findIdx? q = some k := by
    rw [List.findIdx?_eq_some_iff_getElem]
    refine ⟨hk, hq, fun j hj => ?_⟩
    have := h l[j] (List.mem_take_iff_getElem.2 ⟨j, by omega, rfl⟩)
    simp [this]
  rw [this]
theorem idx_no {q : RuleB → Bool} {l : List RuleB} (h : ∀ x ∈ l, q x = false) : idxZ q l = -1 := by
  unfold idxZ
  have : l.findIdx? q = none := by rw [List.findIdx?_eq_none_iff]; exact h
  rw [this]
theorem rclone_fc {w0 : World} {S : SS} {A : Option Addr} {c : Nat} {l : List RuleB} (hx : Rd w0 S A (ruls l)) (hb : l.length ≤ 1000000000000) :
    FC Tryd.prog w0 71 [.slice A l.length c] S (fun v S' => ∃ seg, S' = seg :: S ∧ SlV 56 3 v l.length (ruls l) seg) := by
  refine FC.ofD Tryd.known71 (by simp) ?_
  unfold Tryd.pc71
  simp only [argT]
  refine PW.seqOps ?_
  refine OL.det trivial (Yields.pure rfl) ?_
  refine OL.nil ?_
  refine PW.keep (T' := [(0, _)]) ⟨rfl, trivial⟩ ?_
  refine PW.seq fun K1 hK1 => ?_
  refine PW.seqOps ?_
  refine OL.det trivial (Yields.pure rfl) ?_
  refine OL.det trivial (Yields.slNil rfl) ?_
  refine OL.nil ?_
  refine PW.keep (T' := [(0, _), (4, _)]) ⟨rfl, rfl, trivial⟩ ?_
  refine PW.cond rfl (fun c4 => ?_) (fun c4 => ?_)
  · try simp only [decide_eq_true_eq, decide_eq_false_iff_not, beq_iff_eq, bne_iff_ne, beq_eq_false_iff_ne, bne_eq_false_iff_eq, Bool.not_eq_true', Bool.not_eq_false', Bool.not_eq_true, ne_eq, Decidable.not_not] at c4
    refine PW.seqOps ?_
    refine OL.det trivial (Yields.pure rfl) ?_
    refine OL.nil ?_
    refine PW.keep (T' := [(2, _)]) ⟨rfl, trivial⟩ ?_
    refine PW.ret ?_
    change (Exit.ret = Exit.normal ∨ Exit.ret = Exit.ret) ∧ ∃ v, resV _ _ = some v ∧ _
    obtain rfl : A = none := by cases A with
      | none => rfl
      | some a => simp at c4
    have hl : l = [] := by
      cases l with
      | nil => rfl
      | cons x l => obtain ⟨a, e⟩ := ruls_some hx (by simp); cases e
    subst hl
    exact ⟨.inr rfl, _, rfl, _, Sub.nilL (Sub.refl _), [], rfl, SlV.nil 56 3⟩
  · try simp only [decide_eq_true_eq, decide_eq_false_iff_not, beq_iff_eq, bne_iff_ne, beq_eq_false_iff_ne, bne_eq_false_iff_eq, Bool.not_eq_true', Bool.not_eq_false', Bool.not_eq_true, ne_eq, Decidable.not_not] at c4
    refine PW.skip ?_
    refine hK1 _ _ ?_
    refine PW.keep (T' := [(0, _)]) ⟨rfl, trivial⟩ ?_
    refine PW.seqOps ?_
    refine OL.cons trivial OW.bsl0 ?_
    rintro _ _ ⟨r5, rfl, rfl⟩
    refine OL.det trivial (Yields.pure rfl) ?_
    obtain ⟨a0, rfl⟩ : ∃ a, A = some a := by cases A with
      | none => simp at c4
      | some a => exact ⟨a, rfl⟩
    refine OL.cons trivial (OW.app (k := 0) (m := 0) (xs := []) rfl rfl (SlV.mk' (cap := 0) rfl (Nat.le_refl 0) (by decide)) rfl (ruls_len l) (fun j u hj => hx.cons.at hj) (ruls_one l) (by omega) (by unfold maxLen; omega)) ?_
    rintro v7 _ ⟨seg7, rfl, hsl7⟩
    change OL _ _ _ _ _ (seg7 :: S) _
    rw [Nat.zero_add, List.nil_append] at hsl7
    refine OL.det trivial (Yields.pure rfl) ?_
    refine OL.nil ?_
    refine PW.keep (T' := [(2, _)]) ⟨rfl, trivial⟩ ?_
    refine PW.ret ?_
    change (Exit.ret = Exit.normal ∨ Exit.ret = Exit.ret) ∧ ∃ v, resV _ _ = some v ∧ _
    exact ⟨.inr rfl, _, rfl, _, Sub.refl _, _, rfl, hsl7⟩
theorem geq_fc {w0 : World} {S : SS} {x : RuleB} {rp : Nat} {at_ : ByteArray} (h : Cell w0 S ⟨rp, 0, none⟩ (.string at_)) :
    FC Tryd.prog w0 73 [.agg #[.string x.1, .int .i64 x.2.1, .int .u64 (x.2.2.toNat : Int)], .pointer (some ⟨rp, 0, none⟩)] S (fun v S' => v = .bool (!ltB x.1 at_) ∧ S' = S) := by
  refine FC.ofD Tryd.known73 (by simp) ?_
  unfold Tryd.pc73
  simp only [argT]
  refine PW.seqOps ?_
  refine OL.cons trivial (OW.bx rfl) ?_
  rintro _ _ ⟨r2, rfl, rfl⟩
  change OL _ _ _ _ _ (rseg r2 x :: S) _
  refine OL.det trivial (Yields.pure rfl) ?_
  refine OL.nil ?_
  refine PW.keep (T' := [(1, _), (2, _)]) ⟨rfl, rfl, trivial⟩ ?_
  refine PW.seqOps ?_
  refine OL.det trivial (Yields.pure rfl) ?_
  refine OL.det trivial (Yields.ld rfl (own_at (j := 0) (c := ruleC x) (E := 56) (tot := 3) (List.mem_flatten.2 ⟨_, .head _, List.mem_singleton.2 rfl⟩) rfl)) ?_
  refine OL.det trivial (Yields.ld rfl (h.mono (fun p hp => by simp [hp]))) ?_
  refine OL.det trivial (Yields.pure rfl) ?_
  refine OL.det trivial (Yields.pure rfl) ?_
  refine OL.nil ?_
  refine PW.keep (T' := [(3, _)]) ⟨rfl, trivial⟩ ?_
  refine PW.ret ?_
  change (Exit.ret = Exit.normal ∨ Exit.ret = Exit.ret) ∧ ∃ v, resV _ _ = some v ∧ _
  exact ⟨.inr rfl, _, rfl, _, Sub.drop (Sub.refl _), rfl, rfl⟩
theorem indexR_fc {w0 : World} {S : SS} {A : Option Addr} {cap g : Nat} {ca : List Value} {l : List RuleB} {q : RuleB → Bool} (hx : Rd w0 S A (ruls l)) (hb : l.length ≤ 1000000000) (hok : fnOk Tryd.prog g = true) (hq : ∀ x ∈ l, FC Tryd.prog w0 g (.agg #[.string x.1, .int .i64 x.2.1, .int .u64 (x.2.2.toNat : Int)] :: ca) S (fun v S' => v = .bool (q x) ∧ S' = S)) :
    FC Tryd.prog w0 72 [.slice A l.length cap, .func (.func g) #[] ca.toArray] S (fun v S' => v = .int .i64 (idxZ q l) ∧ S' = S) := by
  refine FC.of Tryd.known72 (by simp) ?_
  unfold Tryd.pc72
  simp only [argT]
  refine PW.seqOps ?_
  refine OL.det trivial (Yields.pure rfl) ?_
  refine OL.nil ?_
  refine PW.keep (T' := [(0, _), (1, _)]) ⟨rfl, rfl, trivial⟩ ?_
  refine PW.seq fun K1 hK1 => ?_
  refine PW.seqOps ?_
  refine OL.det trivial (Yields.pure rfl) ?_
  refine OL.det trivial (Yields.pure rfl) ?_
  refine OL.det trivial (Yields.pure rfl) ?_
  refine OL.nil ?_
  refine PW.keep (T' := [(0, _), (1, _), (7, _), (8, _)]) ⟨rfl, rfl, rfl, rfl, trivial⟩ ?_
  refine PW.block ?_
  refine PW.keep (T' := [(0, _), (1, _), (7, _), (8, _)]) ⟨rfl, rfl, rfl, rfl, trivial⟩ ?_
  refine PW.loopK (I := fun m T S' => ∃ (k : Nat), (k ≤ l.length ∧ m = l.length - k ∧ ∀ x ∈ l.take k, q x = false) ∧ T = ([(0, .slice A l.length cap), (1, .func (.func g) #[] ca.toArray), (7, .int .i64 (l.length : Int)), (8, .int .i64 k)] : TT) ∧ S' = S) (m := l.length) ⟨0, ⟨by omega, by omega, by simp⟩, rfl, rfl⟩ ?_
  rintro m _ _ ⟨k, ⟨hk, hm, hall⟩, rfl, rfl⟩
  refine PW.seqOps ?_
  refine OL.det trivial (Yields.pure rfl) ?_
  refine OL.nil ?_
  refine PW.keep (T' := [(0, _), (1, _), (7, _), (8, _), (9, _)]) ⟨rfl, rfl, rfl, rfl, rfl, trivial⟩ ?_
  refine PW.seq fun K2 hK2 => ?_
  refine PW.cond rfl (fun c9 => ?_) (fun c9 => ?_)
  · try simp only [decide_eq_true_eq, decide_eq_false_iff_not, beq_iff_eq, bne_iff_ne, beq_eq_false_iff_ne, bne_eq_false_iff_eq, Bool.not_eq_true', Bool.not_eq_false', Bool.not_eq_true, ne_eq, Decidable.not_not] at c9
    have hkl : k < l.length := by omega
    obtain ⟨b0, rfl⟩ := ruls_some hx (by omega)
    refine PW.skip ?_
    refine hK2 _ _ ?_
    refine PW.keep (T' := [(0, _), (1, _), (7, _), (8, _)]) ⟨rfl, rfl, rfl, rfl, trivial⟩ ?_
    refine PW.seq fun K3 hK3 => ?_
    refine PW.block ?_
    refine PW.seqOps ?_
    refine OL.det trivial (Yields.pure rfl) ?_
    refine OL.det trivial (Yields.pure rfl) ?_
    refine OL.nil ?_
    refine PW.keep (T' := [(0, _), (1, _), (5, _), (7, _), (8, _)]) ⟨rfl, rfl, rfl, rfl, rfl, trivial⟩ ?_
    refine PW.seqOps ?_
    refine OL.det trivial (Yields.pure rfl) ?_
    refine OL.det trivial (Yields.pure rfl) ?_
    refine OL.det trivial (Yields.pure rfl) ?_
    refine OL.det trivial (Yields.ixN rfl rfl rfl (by omega)) ?_
    refine OL.det trivial (Yields.ldA rfl (cs := ruleC l[k]) rfl (rule_at hx hkl)) ?_
    refine OL.cons trivial (OW.callv (fi := []) (ca := ca) rfl hok rfl (hq _ (List.getElem_mem hkl))) ?_
    rintro _ Sx ⟨rfl, hSx⟩
    rw [hSx]
    clear hSx
    refine OL.nil ?_
    refine PW.keep (T' := [(0, _), (1, _), (5, _), (7, _), (8, _), (16, _)]) ⟨rfl, rfl, rfl, rfl, rfl, rfl, trivial⟩ ?_
    refine PW.cond rfl (fun c16 => ?_) (fun c16 => ?_)
    · try simp only [decide_eq_true_eq, decide_eq_false_iff_not, beq_iff_eq, bne_iff_ne, beq_eq_false_iff_ne, bne_eq_false_iff_eq, Bool.not_eq_true', Bool.not_eq_false', Bool.not_eq_true, ne_eq, Decidable.not_not] at c16
      refine PW.seqOps ?_
      refine OL.det trivial (Yields.pure rfl) ?_
      refine OL.det trivial (Yields.pure rfl) ?_
      refine OL.nil ?_
      refine PW.keep (T' := [(4, _)]) ⟨rfl, trivial⟩ ?_
      refine PW.ret ?_
      change (Exit.ret = Exit.normal ∨ Exit.ret = Exit.ret) ∧ ∃ v, resV _ _ = some v ∧ _
      exact ⟨.inr rfl, _, rfl, by rw [idx_take hkl hall c16], rfl⟩
    · try simp only [decide_eq_true_eq, decide_eq_false_iff_not, beq_iff_eq, bne_iff_ne, beq_eq_false_iff_ne, bne_eq_false_iff_eq, Bool.not_eq_true', Bool.not_eq_false', Bool.not_eq_true, ne_eq, Decidable.not_not] at c16
      refine PW.skip ?_
      refine hK3 _ _ ?_
      refine PW.keep (T' := [(0, _), (1, _), (7, _), (8, _)]) ⟨rfl, rfl, rfl, rfl, trivial⟩ ?_
      refine PW.ops ?_
      refine OL.det trivial (Yields.add64 rfl rfl (by omega) (by omega)) ?_
      refine OL.det trivial (Yields.pure rfl) ?_
      refine OL.nil ?_
      repeat rw [inBlk_n]
      rw [thenK_n]
      refine LoopEnd.mk (T'' := [(0, _), (1, _), (7, _), (8, _)]) ⟨rfl, rfl, rfl, rfl, trivial⟩ ?_
      refine ⟨l.length - (k + 1), by omega, k + 1, ⟨by omega, rfl, fun x hx => ?_⟩, by simp, rfl⟩
      rw [rtake_snoc hkl, List.mem_append, List.mem_singleton] at hx
      rcases hx with hx | rfl
      · exact hall x hx
      · exact c16
  · try simp only [decide_eq_true_eq, decide_eq_false_iff_not, beq_iff_eq, bne_iff_ne, beq_eq_false_iff_ne, bne_eq_false_iff_eq, Bool.not_eq_true', Bool.not_eq_false', Bool.not_eq_true, ne_eq, Decidable.not_not] at c9
    refine PW.exit ?_
    refine hK1 _ _ ?_
    refine PW.keep (T' := []) trivial ?_
    refine PW.seqOps ?_
    refine OL.det trivial (Yields.pure rfl) ?_
    refine OL.nil ?_
    refine PW.keep (T' := [(4, _)]) ⟨rfl, trivial⟩ ?_
    refine PW.ret ?_
    change (Exit.ret = Exit.normal ∨ Exit.ret = Exit.ret) ∧ ∃ v, resV _ _ = some v ∧ _
    obtain rfl : k = l.length := by omega
    rw [List.take_length] at hall
    exact ⟨.inr rfl, _, rfl, by rw [idx_no hall], rfl⟩
theorem insert_nil {w0 : World} {S : SS} {rv : Nat} {x : RuleB} :
    FC Tryd.prog w0 74 [.slice none 0 0, .int .i64 0, .slice (some ⟨rv, 0, none⟩) 1 1] ([(rv, .cells (ruleC x) 56 3)] :: S) (fun v S' => ∃ seg, S' = seg :: S ∧ SlV 56 3 v 1 (ruls [x]) seg) := by
  refine FC.ofD Tryd.known74 (by simp) ?_
  unfold Tryd.pc74
  simp only [argT]
  refine PW.seqOps ?_
  refine OL.det trivial (Yields.pure rfl) ?_
  refine OL.nil ?_
  refine PW.keep (T' := [(0, _), (1, _), (2, _)]) ⟨rfl, rfl, rfl, trivial⟩ ?_
  refine PW.seqOps ?_
  refine OL.det trivial (Yields.pure rfl) ?_
  refine OL.det trivial (Yields.pure rfl) ?_
  refine OL.det trivial (Yields.slS (l := 0) (h := 0) rfl rfl rfl (.inl rfl) (.inr ⟨rfl, rfl⟩) (by omega) (by omega)) ?_
  refine OL.nil ?_
  refine PW.keep (T' := [(0, _), (1, _), (2, _)]) ⟨rfl, rfl, rfl, trivial⟩ ?_
  refine PW.seqOps ?_
  refine OL.det trivial (Yields.pure rfl) ?_
  refine OL.det trivial (Yields.pure rfl) ?_
  refine OL.det trivial (Yields.pure rfl) ?_
  refine OL.nil ?_
  refine PW.keep (T' := [(0, _), (1, _), (2, _), (7, _)]) ⟨rfl, rfl, rfl, rfl, trivial⟩ ?_
  refine PW.seq fun K1 hK1 => ?_
  refine PW.seqOps ?_
  refine OL.det trivial (Yields.pure rfl) ?_
  refine OL.det trivial (Yields.pure rfl) ?_
  refine OL.nil ?_
  refine PW.keep (T' := [(0, _), (1, _), (2, _), (7, _), (16, _)]) ⟨rfl, rfl, rfl, rfl, rfl, trivial⟩ ?_
  refine PW.cond rfl (fun c16 => ?_) (fun c16 => ?_)
  · try simp only [decide_eq_true_eq, decide_eq_false_iff_not, beq_iff_eq, bne_iff_ne, beq_eq_false_iff_ne, bne_eq_false_iff_eq, Bool.not_eq_true', Bool.not_eq_false', Bool.not_eq_true, ne_eq, Decidable.not_not] at c16
    exfalso; revert c16; decide
    -- done
  · try simp only [decide_eq_true_eq, decide_eq_false_iff_not, beq_iff_eq, bne_iff_ne, beq_eq_false_iff_ne, bne_eq_false_iff_eq, Bool.not_eq_true', Bool.not_eq_false', Bool.not_eq_true, ne_eq, Decidable.not_not] at c16
    refine PW.skip ?_
    refine hK1 _ _ ?_
    refine PW.keep (T' := [(0, _), (1, _), (2, _), (7, _)]) ⟨rfl, rfl, rfl, rfl, trivial⟩ ?_
    refine PW.seqOps ?_
    refine OL.det trivial (Yields.pure rfl) ?_
    refine OL.det trivial (Yields.pure rfl) ?_
    refine OL.det trivial (Yields.pure rfl) ?_
    refine OL.nil ?_
    refine PW.keep (T' := [(0, _), (1, _), (2, _), (7, _), (8, _)]) ⟨rfl, rfl, rfl, rfl, rfl, trivial⟩ ?_
    refine PW.seq fun K2 hK2 => ?_
    refine PW.seqOps ?_
    refine OL.det trivial (Yields.pure rfl) ?_
    refine OL.det trivial (Yields.pure rfl) ?_
    refine OL.det trivial (Yields.pure rfl) ?_
    refine OL.nil ?_
    refine PW.keep (T' := [(0, _), (1, _), (2, _), (7, _), (8, _), (22, _)]) ⟨rfl, rfl, rfl, rfl, rfl, rfl, trivial⟩ ?_
    refine PW.cond rfl (fun c22 => ?_) (fun c22 => ?_)
    · try simp only [decide_eq_true_eq, decide_eq_false_iff_not, beq_iff_eq, bne_iff_ne, beq_eq_false_iff_ne, bne_eq_false_iff_eq, Bool.not_eq_true', Bool.not_eq_false', Bool.not_eq_true, ne_eq, Decidable.not_not] at c22
      refine PW.seqOps ?_
      refine OL.det trivial (Yields.pure rfl) ?_
      refine OL.det trivial (Yields.pure rfl) ?_
      refine OL.nilseg ?_
      refine OL.cons trivial (OW.app (k := 0) (m := 0) (q := 1) (xs := []) (news := ruleC x) rfl rfl (SlV.nil 56 3) rfl rfl (fun j u hj => (Rd.own (E := 56) (tot := 3) (List.mem_flatten.2 ⟨_, .tail _ (.head _), List.mem_singleton.2 rfl⟩)).at hj) rfl (by omega) (by unfold maxLen; omega)) ?_
      rintro v25 _ ⟨seg25, rfl, hsl25⟩
      rw [Nat.zero_add, List.nil_append] at hsl25
      change OL _ _ _ _ _ (seg25 :: [(rv, .cells (ruleC x) 56 3)] :: S) _
      refine OL.det trivial (Yields.pure rfl) ?_
      refine OL.nil ?_
      refine PW.keep (T' := [(6, _)]) ⟨rfl, trivial⟩ ?_
      refine PW.ret ?_
      change (Exit.ret = Exit.normal ∨ Exit.ret = Exit.ret) ∧ ∃ v, resV _ _ = some v ∧ _
      exact ⟨.inr rfl, _, rfl, _, Sub.cons (Sub.drop (Sub.refl _)), _, rfl, hsl25⟩
    · try simp only [decide_eq_true_eq, decide_eq_false_iff_not, beq_iff_eq, bne_iff_ne, beq_eq_false_iff_ne, bne_eq_false_iff_eq, Bool.not_eq_true', Bool.not_eq_false', Bool.not_eq_true, ne_eq, Decidable.not_not] at c22
      exfalso; revert c22; decide
      -- done
theorem insert_own {w0 : World} {S : SS} {rv r cap i : Nat} {x : RuleB} {l : List RuleB} (hi : i ≤ l.length) (hc : l.length ≤ cap) (hcm : cap ≤ maxLen) (hb : l.length ≤ 1000000000) :
    FC Tryd.prog w0 74 [.slice (some ⟨r, 0, none⟩) l.length cap, .int .i64 i, .slice (some ⟨rv, 0, none⟩) 1 1] ([(rv, .cells (ruleC x) 56 3)] :: [(r, .cells (ruls l) 56 (cap * 3))] :: S) (fun v S' => ∃ seg, S' = seg :: S ∧ SlV 56 3 v (l.length + 1) (ruls (insL l i x)) seg) := by
  refine FC.ofD Tryd.known74 (by simp) ?_
  unfold Tryd.pc74
  simp only [argT]
  refine PW.seqOps ?_
  refine OL.det trivial (Yields.pure rfl) ?_
  refine OL.nil ?_
  refine PW.keep (T' := [(0, _), (1, _), (2, _)]) ⟨rfl, rfl, rfl, trivial⟩ ?_
  refine PW.seqOps ?_
  refine OL.det trivial (Yields.pure rfl) ?_
  refine OL.det trivial (Yields.pure rfl) ?_
  refine OL.det trivial (Yields.slS (l := i) (h := l.length) rfl rfl rfl (.inl rfl) (.inr ⟨rfl, rfl⟩) (by omega) (by omega)) ?_
  refine OL.nil ?_
  refine PW.keep (T' := [(0, _), (1, _), (2, _)]) ⟨rfl, rfl, rfl, trivial⟩ ?_
  refine PW.seqOps ?_
  refine OL.det trivial (Yields.pure rfl) ?_
  refine OL.det trivial (Yields.pure rfl) ?_
  refine OL.det trivial (Yields.pure rfl) ?_
  refine OL.nil ?_
  refine PW.keep (T' := [(0, _), (1, _), (2, _), (7, _)]) ⟨rfl, rfl, rfl, rfl, trivial⟩ ?_
  refine PW.seq fun K1 hK1 => ?_
  refine PW.seqOps ?_
  refine OL.det trivial (Yields.pure rfl) ?_
  refine OL.det trivial (Yields.pure rfl) ?_
  refine OL.nil ?_
  refine PW.keep (T' := [(0, _), (1, _), (2, _), (7, _), (16, _)]) ⟨rfl, rfl, rfl, rfl, rfl, trivial⟩ ?_
  refine PW.cond rfl (fun c16 => ?_) (fun c16 => ?_)
  · try simp only [decide_eq_true_eq, decide_eq_false_iff_not, beq_iff_eq, bne_iff_ne, beq_eq_false_iff_ne, bne_eq_false_iff_eq, Bool.not_eq_true', Bool.not_eq_false', Bool.not_eq_true, ne_eq, Decidable.not_not] at c16
    exfalso; revert c16; decide
    -- done
  · try simp only [decide_eq_true_eq, decide_eq_false_iff_not, beq_iff_eq, bne_iff_ne, beq_eq_false_iff_ne, bne_eq_false_iff_eq, Bool.not_eq_true', Bool.not_eq_false', Bool.not_eq_true, ne_eq, Decidable.not_not] at c16
    refine PW.skip ?_
    refine hK1 _ _ ?_
    refine PW.keep (T' := [(0, _), (1, _), (2, _), (7, _)]) ⟨rfl, rfl, rfl, rfl, trivial⟩ ?_
    refine PW.seqOps ?_
    refine OL.det trivial (Yields.pure rfl) ?_
    refine OL.det trivial (Yields.pure rfl) ?_
    refine OL.det trivial (Yields.pure rfl) ?_
    refine OL.nil ?_
    refine PW.keep (T' := [(0, _), (1, _), (2, _), (7, _), (8, _)]) ⟨rfl, rfl, rfl, rfl, rfl, trivial⟩ ?_
    refine PW.seq fun K2 hK2 => ?_
    refine PW.seqOps ?_
    refine OL.det trivial (Yields.pure rfl) ?_
    refine OL.det trivial (Yields.pure rfl) ?_
    refine OL.det trivial (Yields.pure rfl) ?_
    refine OL.nil ?_
    refine PW.keep (T' := [(0, _), (1, _), (2, _), (7, _), (8, _), (22, _)]) ⟨rfl, rfl, rfl, rfl, rfl, rfl, trivial⟩ ?_
    refine PW.cond rfl (fun c22 => ?_) (fun c22 => ?_)
    · try simp only [decide_eq_true_eq, decide_eq_false_iff_not, beq_iff_eq, bne_iff_ne, beq_eq_false_iff_ne, bne_eq_false_iff_eq, Bool.not_eq_true', Bool.not_eq_false', Bool.not_eq_true, ne_eq, Decidable.not_not] at c22
      refine PW.seqOps ?_
      refine OL.det trivial (Yields.pure rfl) ?_
      refine OL.det trivial (Yields.pure rfl) ?_
      refine OL.cons trivial (OW.app (k := 1) (m := l.length) (q := 1) (xs := ruls l) (news := ruleC x) rfl rfl (SlV.mk' (ruls_len l) hc hcm) rfl rfl (fun j u hj => (Rd.own (E := 56) (tot := 3) (List.mem_flatten.2 ⟨_, .head _, List.mem_singleton.2 rfl⟩)).at hj) rfl (by omega) (by unfold maxLen; omega)) ?_
      rintro v25 _ ⟨seg25, rfl, hsl25⟩
      change OL _ _ _ _ _ ([(rv, .cells (ruleC x) 56 3)] :: seg25 :: S) _
      refine OL.det trivial (Yields.pure rfl) ?_
      refine OL.nil ?_
      refine PW.keep (T' := [(6, _)]) ⟨rfl, trivial⟩ ?_
      refine PW.ret ?_
      change (Exit.ret = Exit.normal ∨ Exit.ret = Exit.ret) ∧ ∃ v, resV _ _ = some v ∧ _
      obtain rfl : i = l.length := by omega
      refine ⟨.inr rfl, _, rfl, _, Sub.drop (Sub.refl _), _, rfl, ?_⟩
      have e : ruls (insL l l.length x) = ruls l ++ ruleC x := by rw [insL_ruls, List.take_length, List.drop_length]; simp [ruls]
      rw [e]
      exact hsl25
    · try simp only [decide_eq_true_eq, decide_eq_false_iff_not, beq_iff_eq, bne_iff_ne, beq_eq_false_iff_ne, bne_eq_false_iff_eq, Bool.not_eq_true', Bool.not_eq_false', Bool.not_eq_true, ne_eq, Decidable.not_not] at c22
      refine PW.skip ?_
      refine hK2 _ _ ?_
      refine PW.keep (T' := [(0, _), (1, _), (2, _), (7, _), (8, _)]) ⟨rfl, rfl, rfl, rfl, rfl, trivial⟩ ?_
      refine PW.seq fun K3 hK3 => ?_
      refine PW.seqOps ?_
      refine OL.det trivial (Yields.pure rfl) ?_
      refine OL.det trivial (Yields.pure rfl) ?_
      refine OL.det trivial (Yields.add64 rfl rfl (by omega) (by omega)) ?_
      refine OL.det trivial (Yields.pure rfl) ?_
      refine OL.det trivial (Yields.cap rfl) ?_
      refine OL.det trivial (Yields.pure rfl) ?_
      refine OL.nil ?_
      refine PW.keep (T' := [(0, _), (1, _), (2, _), (7, _), (8, _), (31, _)]) ⟨rfl, rfl, rfl, rfl, rfl, rfl, trivial⟩ ?_
      refine PW.cond rfl (fun c31 => ?_) (fun c31 => ?_)
      · try simp only [decide_eq_true_eq, decide_eq_false_iff_not, beq_iff_eq, bne_iff_ne, beq_eq_false_iff_ne, bne_eq_false_iff_eq, Bool.not_eq_true', Bool.not_eq_false', Bool.not_eq_true, ne_eq, Decidable.not_not] at c31
        refine PW.seqOps ?_
        refine OL.det trivial (Yields.pure rfl) ?_
        refine OL.det trivial (Yields.pure rfl) ?_
        refine OL.det trivial (Yields.to (v' := .slice (some ⟨r, 0, none⟩) i cap) (Yields.slS (l := 0) (h := i) rfl rfl rfl (.inr ⟨rfl, rfl⟩) (.inl rfl) (by omega) (by omega)) (by rw [cutV0])) ?_
        refine OL.det trivial (Yields.pure rfl) ?_
        refine OL.det trivial (Yields.pure rfl) ?_
        refine OL.det trivial (Yields.add64 rfl rfl (by omega) (by omega)) ?_
        refine OL.det trivial (Yields.pure rfl) ?_
        refine OL.det trivial (Yields.to (v' := .int .i64 ((l.length + 1 - i : Nat) : Int)) (Yields.sub64 rfl rfl (by omega) (by omega)) (by congr 1; omega)) ?_
        refine OL.cons trivial (OW.appM (m := i) (q := l.length + 1 - i) (olds := ruls (l.take i)) rfl rfl ((Rd.own (E := 56) (tot := cap * 3) (List.mem_flatten.2 ⟨_, .tail _ (.head _), List.mem_singleton.2 rfl⟩)).pre (by rw [← List.take_append_drop i l, ruls_app, List.take_append_drop]; exact List.prefix_append _ _)) (by rw [ruls_len, List.length_take]; omega) (by omega) (by omega) (by unfold maxLen; omega) (by omega)) ?_
        rintro _ _ ⟨r40, c40, rfl, hc40, hm40, rfl⟩
        rw [show i + (l.length + 1 - i) = l.length + 1 from by omega] at *
        rw [List.append_assoc]
        generalize hZ : (Builtin.zeroCells _ (l.length + 1 - i)).toList ++ (Builtin.zeroCells _ (c40 - (l.length + 1))).toList = Z
        have hZl : 3 + (l.length - i) * 3 ≤ Z.length := by rw [← hZ]; simp [Builtin.zeroCells, Value.cells]; omega
        clear hZ
        refine OL.det trivial (Yields.pure rfl) ?_
        refine OL.nil ?_
        refine PW.keep (T' := [(0, _), (1, _), (2, _), (7, _), (9, _)]) ⟨rfl, rfl, rfl, rfl, rfl, trivial⟩ ?_
        refine PW.seqOps ?_
        refine OL.det trivial (Yields.pure rfl) ?_
        refine OL.det trivial (Yields.pure rfl) ?_
        refine OL.det trivial (Yields.to (v' := .slice (some ⟨r40, i * 3, none⟩) (l.length + 1 - i) (c40 - i)) (Yields.slS (l := i) (h := l.length + 1) rfl rfl rfl (.inl rfl) (.inr ⟨rfl, rfl⟩) (by omega) (by omega)) (by unfold cutV; rw [if_neg (by omega)]; simp [Addr.add_lit])) ?_
        refine OL.det trivial (Yields.pure rfl) ?_
        refine OL.cons trivial (OW.cpyN (k := 0) (news := ruleC x) rfl rfl rfl (by rw [show Nat.min 1 (l.length + 1 - i) = 1 from Nat.min_eq_left (by omega)]; rfl) (Rd.own (E := 56) (tot := 3) (List.mem_flatten.2 ⟨_, .tail _ (.head _), List.mem_singleton.2 rfl⟩)) (by simp [ruls_len, ruleC_len]; omega) rfl) ?_
        rintro _ _ ⟨rfl, rfl⟩
        change OL _ _ _ _ _ ([(r40, .cells (setAt (ruls (l.take i) ++ Z) (i * 3) (ruleC x)) 56 (c40 * 3))] :: [(rv, .cells (ruleC x) 56 3)] :: [(r, .cells (ruls l) 56 (cap * 3))] :: S) _
        refine OL.nil ?_
        refine PW.keep (T' := [(0, _), (1, _), (7, _), (9, _)]) ⟨rfl, rfl, rfl, rfl, trivial⟩ ?_
        refine PW.seq fun K4 hK4 => ?_
        refine PW.quietK Tryd.mixed ?_
        refine QK.det trivial (Yields.pure rfl) ?_
        refine QK.det trivial (Yields.pure rfl) ?_
        refine QK.det trivial (Yields.pure rfl) ?_
        refine QK.det trivial (Yields.add64 rfl rfl (by omega) (by omega)) ?_
        refine QK.det trivial (Yields.to (v' := .slice (some ⟨r40, (i + 1) * 3, none⟩) (l.length - i) (c40 - (i + 1))) (Yields.slS (l := i + 1) (h := l.length + 1) rfl rfl rfl (.inl (by first | (congr 1; done) | (congr 1; omega))) (.inr ⟨rfl, rfl⟩) (by omega) (by omega)) (by unfold cutV; rw [if_neg (by omega)]; simp [Addr.add_lit])) ?_
        refine QK.det trivial (Yields.pure rfl) ?_
        refine QK.det trivial (Yields.pure rfl) ?_
        refine QK.det trivial (Yields.slS (l := i) (h := l.length) rfl rfl rfl (.inl rfl) (.inr ⟨rfl, rfl⟩) (by omega) (by omega)) ?_
        refine QK.nil ?_
        change OL _ _ _ [_] _ _ _
        have hsrc : ∀ S', (r, AO.cells (ruls l) 56 (cap * 3)) ∈ S'.flatten → ∃ A c, cutV (some ⟨r, 0, none⟩) cap 3 i l.length = .slice A (l.length - i) c ∧ Rd w0 S' A (ruls (l.drop i)) := by
          intro S' hm
          have hrd := Rd.own (w0 := w0) hm
          unfold cutV
          split
          · refine ⟨_, _, rfl, ?_⟩
            rw [List.drop_of_length_le (by omega)]
            exact Rd.nil
          · refine ⟨_, _, rfl, ?_⟩
            intro j v hj
            refine ⟨_, rfl, ?_⟩
            rw [addr_add_add]
            refine hrd.at ?_
            have hd : ruls l = ruls (l.take i) ++ ruls (l.drop i) := by rw [← ruls_app, List.take_append_drop]
            rw [hd, List.getElem?_append_right (by rw [ruls_len, List.length_take]; omega), ruls_len, List.length_take, show i * 3 + j - min i l.length * 3 = j from by omega]
            exact hj
        obtain ⟨Ac, cc, ec, hrc⟩ := hsrc ([(r40, .cells (setAt (ruls (l.take i) ++ Z) (i * 3) (ruleC x)) 56 (c40 * 3))] :: [(rv, .cells (ruleC x) 56 3)] :: [(r, .cells (ruls l) 56 (cap * 3))] :: S) (List.mem_flatten.2 ⟨_, .tail _ (.tail _ (.head _)), List.mem_singleton.2 rfl⟩)
        rw [ec]
        have hlc : (ruls (l.drop i)).length = (l.length - i) * 3 := by rw [ruls_len, List.length_drop]
        refine OL.cons trivial (OW.cpyN (k := 0) (news := ruls (l.drop i)) rfl rfl rfl (by rw [hlc, show Nat.min (l.length - i) (l.length - i) = l.length - i from Nat.min_self _]) hrc (by rw [setAt_length, hlc, List.length_append, ruls_len, List.length_take]; omega) (ruls_one _)) ?_
        rintro _ _ ⟨rfl, rfl⟩
        have hlay := lay2 (A := ruls (l.take i)) (Z := Z) (X := ruleC x) (B := ruls (l.drop i)) (i := i * 3) (p := 3) (q := (l.length - i) * 3) (by rw [ruls_len, List.length_take]; omega) rfl hlc hZl
        rw [show i * 3 + 3 = (i + 1) * 3 from by omega, ← insL_ruls] at hlay
        refine OL.tell (k := 0) (o' := .cells (ruls (insL l i x)) 56 (c40 * 3)) rfl (fun w h => by have h2 := owns_take ((i + 1) * 3 + (l.length - i) * 3) h; rw [hlay.1] at h2; exact h2) ?_
        change OL _ _ _ _ _ ([(r40, .cells (ruls (insL l i x)) 56 (c40 * 3))] :: [(rv, .cells (ruleC x) 56 3)] :: [(r, .cells (ruls l) 56 (cap * 3))] :: S) _
        refine OL.nil ?_
        refine hK4 _ _ ?_
        refine PW.keep (T' := [(9, _)]) ⟨rfl, trivial⟩ ?_
        refine PW.seqOps ?_
        refine OL.det trivial (Yields.pure rfl) ?_
        refine OL.det trivial (Yields.pure rfl) ?_
        refine OL.nil ?_
        refine PW.keep (T' := [(6, _)]) ⟨rfl, trivial⟩ ?_
        refine PW.ret ?_
        change (Exit.ret = Exit.normal ∨ Exit.ret = Exit.ret) ∧ ∃ v, resV _ _ = some v ∧ _
        refine ⟨.inr rfl, _, rfl, _, Sub.cons (Sub.drop (Sub.drop (Sub.refl _))), _, rfl, ?_⟩
        exact SlV.mk' (by rw [ruls_len, insL_len hi]) hc40 hm40
      · try simp only [decide_eq_true_eq, decide_eq_false_iff_not, beq_iff_eq, bne_iff_ne, beq_eq_false_iff_ne, bne_eq_false_iff_eq, Bool.not_eq_true', Bool.not_eq_false', Bool.not_eq_true, ne_eq, Decidable.not_not] at c31
        refine PW.skip ?_
        refine hK3 _ _ ?_
        refine PW.keep (T' := [(0, _), (1, _), (2, _), (7, _), (8, _)]) ⟨rfl, rfl, rfl, rfl, rfl, trivial⟩ ?_
        refine PW.seqOps ?_
        refine OL.det trivial (Yields.pure rfl) ?_
        refine OL.det trivial (Yields.pure rfl) ?_
        refine OL.det trivial (Yields.pure rfl) ?_
        refine OL.det trivial (Yields.add64 rfl rfl (by omega) (by omega)) ?_
        refine OL.det trivial (Yields.to (v' := .slice (some ⟨r, 0, none⟩) (l.length + 1) cap) (Yields.slS (l := 0) (h := l.length + 1) rfl rfl rfl (.inr ⟨rfl, rfl⟩) (.inl (by first | (congr 1; done) | (congr 1; omega))) (by omega) (by omega)) (by rw [cutV0])) ?_
        refine OL.det trivial (Yields.pure rfl) ?_
        refine OL.nil ?_
        refine PW.keep (T' := [(0, _), (1, _), (2, _), (7, _), (8, _)]) ⟨rfl, rfl, rfl, rfl, rfl, trivial⟩ ?_
        refine PW.seq fun K5 hK5 => ?_
        refine PW.seqOps ?_
        refine OL.det trivial (Yields.pure rfl) ?_
        refine OL.det trivial (Yields.pure rfl) ?_
        refine OL.det trivial (Yields.pure rfl) ?_
        refine OL.det trivial (Yields.pure rfl) ?_
        refine OL.det trivial (Yields.add64 rfl rfl (by omega) (by omega)) ?_
        refine OL.det trivial (Yields.to (v' := .slice (some ⟨r, (i + 1) * 3, none⟩) (l.length - i) (cap - (i + 1))) (Yields.slS (l := i + 1) (h := l.length + 1) rfl rfl rfl (.inl (by first | (congr 1; done) | (congr 1; omega))) (.inr ⟨rfl, rfl⟩) (by omega) (by omega)) (by unfold cutV; rw [if_neg (by omega)]; simp [Addr.add_lit])) ?_
        refine OL_neq (i := 0) (j := 1) rfl rfl (by omega) fun hne => ?_
        refine OL.cons trivial (OW.xf rfl (overlaps_no (sz := 3) (i := default) Tryd.func95 callOver Tryd.underlying43 size56 (List.mem_flatten.2 ⟨_, .head _, List.mem_singleton.2 rfl⟩) (List.mem_flatten.2 ⟨_, .tail _ (.head _), List.mem_singleton.2 rfl⟩) hne (by omega))) ?_
        rintro _ _ ⟨rfl, rfl⟩
        refine OL.det trivial (Yields.pure rfl) ?_
        refine OL.nil ?_
        refine PW.keep (T' := [(0, _), (1, _), (2, _), (7, _), (8, _), (68, _)]) ⟨rfl, rfl, rfl, rfl, rfl, rfl, trivial⟩ ?_
        refine PW.cond rfl (fun c68 => ?_) (fun c68 => ?_)
        · try simp only [decide_eq_true_eq, decide_eq_false_iff_not, beq_iff_eq, bne_iff_ne, beq_eq_false_iff_ne, bne_eq_false_iff_eq, Bool.not_eq_true', Bool.not_eq_false', Bool.not_eq_true, ne_eq, Decidable.not_not] at c68
          refine PW.seq fun K6 hK6 => ?_
          refine PW.quietK Tryd.mixed ?_
          refine QK.det trivial (Yields.pure rfl) ?_
          refine QK.det trivial (Yields.pure rfl) ?_
          refine QK.det trivial (Yields.pure rfl) ?_
          refine QK.det trivial (Yields.add64 rfl rfl (by omega) (by omega)) ?_
          refine QK.det trivial (Yields.to (v' := .slice (some ⟨r, (i + 1) * 3, none⟩) (l.length - i) (cap - (i + 1))) (Yields.slS (l := i + 1) (h := l.length + 1) rfl rfl rfl (.inl (by first | (congr 1; done) | (congr 1; omega))) (.inr ⟨rfl, rfl⟩) (by omega) (by omega)) (by unfold cutV; rw [if_neg (by omega)]; simp [Addr.add_lit])) ?_
          refine QK.det trivial (Yields.pure rfl) ?_
          refine QK.det trivial (Yields.pure rfl) ?_
          refine QK.det trivial (Yields.to (v' := .slice (some ⟨r, i * 3, none⟩) (l.length + 1 - i) (cap - i)) (Yields.slS (l := i) (h := l.length + 1) rfl rfl rfl (.inl rfl) (.inr ⟨rfl, rfl⟩) (by omega) (by omega)) (by unfold cutV; rw [if_neg (by omega)]; simp [Addr.add_lit])) ?_
          refine QK.nil ?_
          change OL _ _ _ [_] _ _ _
          refine OL.full (k := 1) rfl fun d hd => ?_
          change OL _ _ _ _ _ ([(rv, .cells (ruleC x) 56 3)] :: [(r, .cells (ruls l ++ d) 56 (cap * 3))] :: S) _
          rw [List.length_append, ruls_len] at hd
          have hlc : (ruls (l.drop i)).length = (l.length - i) * 3 := by rw [ruls_len, List.length_drop]
          have hsp : ruls l = ruls (l.take i) ++ ruls (l.drop i) := by rw [← ruls_app, List.take_append_drop]
          have hrc : Rd w0 ([(rv, .cells (ruleC x) 56 3)] :: [(r, .cells (ruls l ++ d) 56 (cap * 3))] :: S) (some ⟨r, i * 3, none⟩) (ruls (l.drop i)) := by
            intro j v hj
            have hlt := (List.getElem?_eq_some_iff.1 hj).1
            refine ⟨_, rfl, ?_⟩
            have e : (⟨r, i * 3, none⟩ : Addr).add j = (⟨r, 0, none⟩ : Addr).add (i * 3 + j) := by rw [Addr.add_lit, Addr.add_lit]; congr 1; omega
            rw [e]
            refine (Rd.own (E := 56) (tot := cap * 3) (List.mem_flatten.2 ⟨_, .tail _ (.head _), List.mem_singleton.2 rfl⟩)).at (cs := ruls l ++ d) ?_
            rw [List.getElem?_append_left (by rw [ruls_len]; omega), hsp, List.getElem?_append_right (by rw [ruls_len, List.length_take]; omega), ruls_len, List.length_take, show i * 3 + j - min i l.length * 3 = j from by omega]
            exact hj
          refine OL.cons trivial (OW.cpyN (k := 1) (news := ruls (l.drop i)) rfl rfl rfl (by rw [hlc, show Nat.min (l.length + 1 - i) (l.length - i) = l.length - i from Nat.min_eq_right (by omega)]) hrc (by rw [hlc, List.length_append, ruls_len]; omega) (ruls_one _)) ?_
          rintro _ _ ⟨rfl, rfl⟩
          change OL _ _ _ _ _ ([(rv, .cells (ruleC x) 56 3)] :: [(r, .cells (setAt (ruls l ++ d) ((i + 1) * 3) (ruls (l.drop i))) 56 (cap * 3))] :: S) _
          refine OL.nil ?_
          refine hK6 _ _ ?_
          refine PW.keep (T' := [(0, _), (1, _), (2, _)]) ⟨rfl, rfl, rfl, trivial⟩ ?_
          refine PW.seqOps ?_
          refine OL.det trivial (Yields.pure rfl) ?_
          refine OL.det trivial (Yields.pure rfl) ?_
          refine OL.det trivial (Yields.to (v' := .slice (some ⟨r, i * 3, none⟩) (l.length + 1 - i) (cap - i)) (Yields.slS (l := i) (h := l.length + 1) rfl rfl rfl (.inl rfl) (.inr ⟨rfl, rfl⟩) (by omega) (by omega)) (by unfold cutV; rw [if_neg (by omega)]; simp [Addr.add_lit])) ?_
          refine OL.det trivial (Yields.pure rfl) ?_
          refine OL.cons trivial (OW.cpyN (k := 1) (news := ruleC x) rfl rfl rfl (by rw [show Nat.min 1 (l.length + 1 - i) = 1 from Nat.min_eq_left (by omega)]; rfl) (Rd.own (E := 56) (tot := 3) (List.mem_flatten.2 ⟨_, .head _, List.mem_singleton.2 rfl⟩)) (by rw [setAt_length, List.length_append, ruls_len, ruleC_len]; omega) rfl) ?_
          rintro _ _ ⟨rfl, rfl⟩
          have hlay := lay3 (A := ruls (l.take i)) (Z := ruls (l.drop i) ++ d) (X := ruleC x) (B := ruls (l.drop i)) (i := i * 3) (p := 3) (q := (l.length - i) * 3) (by rw [ruls_len, List.length_take]; omega) rfl hlc (by rw [List.length_append, hlc]; omega)
          rw [show i * 3 + 3 = (i + 1) * 3 from by omega, ← insL_ruls, ← List.append_assoc, ← hsp] at hlay
          refine OL.tell (k := 1) (o' := .cells (ruls (insL l i x)) 56 (cap * 3)) rfl (fun w h => by have h2 := owns_take ((i + 1) * 3 + (l.length - i) * 3) h; rw [hlay.1] at h2; exact h2) ?_
          change OL _ _ _ _ _ ([(rv, .cells (ruleC x) 56 3)] :: [(r, .cells (ruls (insL l i x)) 56 (cap * 3))] :: S) _
          refine OL.nil ?_
          refine PW.keep (T' := [(0, _)]) ⟨rfl, trivial⟩ ?_
          refine PW.seqOps ?_
          refine OL.det trivial (Yields.pure rfl) ?_
          refine OL.det trivial (Yields.pure rfl) ?_
          refine OL.nil ?_
          refine PW.keep (T' := [(6, _)]) ⟨rfl, trivial⟩ ?_
          refine PW.ret ?_
          change (Exit.ret = Exit.normal ∨ Exit.ret = Exit.ret) ∧ ∃ v, resV _ _ = some v ∧ _
          refine ⟨.inr rfl, _, rfl, _, Sub.drop (Sub.refl _), _, rfl, ?_⟩
          exact SlV.mk' (by rw [ruls_len, insL_len hi]) (by omega) hcm
        · try simp only [decide_eq_true_eq, decide_eq_false_iff_not, beq_iff_eq, bne_iff_ne, beq_eq_false_iff_ne, bne_eq_false_iff_eq, Bool.not_eq_true', Bool.not_eq_false', Bool.not_eq_true, ne_eq, Decidable.not_not] at c68
          exfalso; revert c68; decide
          -- done
end Go.Proofs.Rl

set_option linter.unusedVariables false
set_option linter.unusedSimpArgs false
namespace Go.Proofs.Rl
open Go.SL Go.RowKit Go.Proofs Go.Proofs.Lb
set_option maxHeartbeats 1000000
theorem bl_irrefl : ∀ a : List UInt8, Op.bytesLess a a = false
  | [] => rfl
  | x :: a => by simp [Op.bytesLess, bl_irrefl a]
theorem bl_trans : ∀ a b c : List UInt8, Op.bytesLess a b = true → Op.bytesLess b c = true → Op.bytesLess a c = true
  | a, b, [], _, h => by cases b <;> simp [Op.bytesLess] at h
  | [], b, x :: c, _, _ => rfl
  | y :: a, [], x :: c, h, _ => by simp [Op.bytesLess] at h
  | y :: a, z :: b, x :: c, h, k => by
    simp only [Op.bytesLess, Bool.or_eq_true, decide_eq_true_eq, Bool.and_eq_true, beq_iff_eq] at h k ⊢
    rcases h with h | ⟨rfl, h⟩ <;> rcases k with k | ⟨rfl, k⟩
    · exact .inl (UInt8.lt_trans h k)
    · exact .inl h
    · exact .inl k
    · exact .inr ⟨rfl, bl_trans a b c h k⟩
theorem bl_total : ∀ a b : List UInt8, Op.bytesLess a b = false → a = b ∨ Op.bytesLess b a = true
  | [], [], _ => .inl rfl
  | [], _ :: _, h => by simp [Op.bytesLess] at h
  | _ :: _, [], _ => .inr rfl
  | x :: a, y :: b, h => by
    simp only [Op.bytesLess, Bool.or_eq_false_iff, decide_eq_false_iff_not] at h ⊢
    obtain ⟨h1, h2⟩ := h
    by_cases e : x = y
    · subst e
      simp only [beq_self_eq_true, Bool.true_and] at h2
      rcases bl_total a b h2 with rfl | h3
      · exact .inl rfl
      · right; simp [h3]
    · right
      have : y < x := by
        rcases UInt8.lt_or_lt_of_ne e with h | h
        · exact absurd h h1
        · exact h
      simp [this]
theorem lt_irrefl (a : ByteArray) : ltB a a = false := bl_irrefl _
theorem lt_trans {a b c : ByteArray} (h : ltB a b = true) (k : ltB b c = true) : ltB a c = true := bl_trans _ _ _ h k
theorem lt_total {a b : ByteArray} (h : ltB a b = false) : a = b ∨ ltB b a = true := by
  rcases bl_total _ _ h with h | h
  · exact .inl (toL_inj.1 h)
  · exact .inr h
def prefB (s : ByteArray) : Bool := decide (s = ⟨#[]⟩) || isP s
theorem pref_chk (s : ByteArray) : (Go.Proofs.chkP s == 0) = isP s := by
  unfold Go.Proofs.chkP
  cases isP s <;> simp
def okL (a : LabB) : Bool := decide (0 ≤ a.1) && decide (a.1 ≤ 15)
theorem okL_chk (a : LabB) : Go.Proofs.Lb.chkP a.1 = 0 ↔ okL a = true := by
  unfold Go.Proofs.Lb.chkP okL
  split <;> simp <;> omega
def okAt (l : List RuleB) (i : Nat) : Bool := (decide (i = 0) || ltB l[i - 1]!.1 l[i]!.1) && prefB l[i]!.1 && okL l[i]!.2
def chkT (l : List RuleB) (tv : Int) : Int := if 32 < l.length ∨ tv < (l.length : Int) then 2 else if (List.range l.length).all (okAt l) = true then 0 else 2
theorem all_bad {f : Nat → Bool} {n k : Nat} (hk : k < n) (h : f k = false) : ¬ (List.range n).all f = true := by
  intro h2
  have := List.all_eq_true.1 h2 k (List.mem_range.2 hk)
  rw [h] at this; cases this
theorem all_succ {f : Nat → Bool} {k : Nat} (h : (List.range k).all f = true) (h2 : f k = true) : (List.range (k + 1)).all f = true := by
  rw [List.range_succ, List.all_append, h]; simp [h2]
theorem prefB_fc {w0 : World} {S : SS} {s : ByteArray} (hs : s.size ≤ 1000000000) : FC Tryd.prog w0 70 [.string s] S (fun v S' => v = .bool (prefB s) ∧ S' = S) := by
  refine FC.of Tryd.known70 (by simp) ?_
  unfold Tryd.pc70
  simp only [argT]
  refine PW.seqOps ?_
  refine OL.det trivial (Yields.pure rfl) ?_
  refine OL.nil ?_
  refine PW.keep (T' := [(0, _)]) ⟨rfl, trivial⟩ ?_
  refine PW.seqOps ?_
  refine OL.det trivial (Yields.pure rfl) ?_
  refine OL.det trivial (Yields.pure rfl) ?_
  refine OL.bool trivial (Yields.pure rfl) (fun g5 => ?_) (fun g5 => ?_)
  · try simp only [decide_eq_true_eq, decide_eq_false_iff_not, beq_iff_eq, bne_iff_ne, beq_eq_false_iff_ne, bne_eq_false_iff_eq, Bool.not_eq_true', Bool.not_eq_false', Bool.not_eq_true, ne_eq, Decidable.not_not] at g5
    rw [toL_inj] at g5
    refine OL.off rfl rfl ?_
    refine OL.off rfl rfl ?_
    refine OL.off rfl rfl ?_
    refine OL.det trivial (Yields.pure rfl) ?_
    refine OL.det trivial (Yields.pure rfl) ?_
    refine OL.nil ?_
    refine PW.keep (T' := [(2, _)]) ⟨rfl, trivial⟩ ?_
    refine PW.ret ?_
    change (Exit.ret = Exit.normal ∨ Exit.ret = Exit.ret) ∧ ∃ v, resV _ _ = some v ∧ _
    exact ⟨.inr rfl, _, rfl, by unfold prefB; first | (rw [decide_eq_true g5]; rfl) | (rw [decide_eq_false g5, ← pref_chk]; rfl), rfl⟩
  · try simp only [decide_eq_true_eq, decide_eq_false_iff_not, beq_iff_eq, bne_iff_ne, beq_eq_false_iff_ne, bne_eq_false_iff_eq, Bool.not_eq_true', Bool.not_eq_false', Bool.not_eq_true, ne_eq, Decidable.not_not] at g5
    rw [toL_inj] at g5
    refine OL.det rfl (Yields.pure rfl) ?_
    refine OL.call rfl rfl (check_fc hs) ?_
    rintro _ Sx ⟨rfl, hSx⟩
    rw [hSx]
    clear hSx
    refine OL.det rfl (Yields.pure rfl) ?_
    refine OL.det trivial (Yields.pure rfl) ?_
    refine OL.det trivial (Yields.pure rfl) ?_
    refine OL.nil ?_
    refine PW.keep (T' := [(2, _)]) ⟨rfl, trivial⟩ ?_
    refine PW.ret ?_
    change (Exit.ret = Exit.normal ∨ Exit.ret = Exit.ret) ∧ ∃ v, resV _ _ = some v ∧ _
    exact ⟨.inr rfl, _, rfl, by unfold prefB; first | (rw [decide_eq_true g5]; rfl) | (rw [decide_eq_false g5, ← pref_chk]; rfl), rfl⟩
theorem chkT_fc {w0 : World} {S : SS} {A : Option Addr} {c : Nat} {tv : Int} {l : List RuleB} (hx : Rd w0 S A (ruls l)) (hw : ∀ x ∈ l, x.1.size ≤ 1000000000) (hl : l.length ≤ 1000000000) :
    FC Tryd.prog w0 47 [tabV tv A l.length c] S (fun v S' => v = .int .i64 (chkT l tv) ∧ S' = S) := by
  refine FC.ofD Tryd.known47 (by simp) ?_
  unfold Tryd.pc47
  simp only [argT]
  refine PW.seqOps ?_
  refine OL.cons trivial (OW.bx rfl) ?_
  rintro _ _ ⟨r1, rfl, rfl⟩
  change OL _ _ _ _ _ (tseg r1 tv A l.length c :: S) _
  refine OL.det trivial (Yields.pure rfl) ?_
  refine OL.nil ?_
  refine PW.keep (T' := [(1, _)]) ⟨rfl, trivial⟩ ?_
  refine PW.seq fun K1 hK1 => ?_
  refine PW.seqOps ?_
  refine OL.det trivial (Yields.pure rfl) ?_
  refine OL.det trivial (Yields.ld rfl (own_at (j := 1) (c := [.int .i64 tv, .slice A l.length c]) (E := 45) (tot := 2) (List.mem_flatten.2 ⟨_, .head _, List.mem_singleton.2 rfl⟩) rfl)) ?_
  refine OL.det trivial (Yields.pure rfl) ?_
  refine OL.det trivial (Yields.pure rfl) ?_
  refine OL.bool trivial (Yields.pure rfl) (fun g9 => ?_) (fun g9 => ?_)
  · try simp only [decide_eq_true_eq, decide_eq_false_iff_not, beq_iff_eq, bne_iff_ne, beq_eq_false_iff_ne, bne_eq_false_iff_eq, Bool.not_eq_true', Bool.not_eq_false', Bool.not_eq_true, ne_eq, Decidable.not_not] at g9
    refine OL.off rfl rfl ?_
    refine OL.off rfl rfl ?_
    refine OL.off rfl rfl ?_
    refine OL.off rfl rfl ?_
    refine OL.off rfl rfl ?_
    refine OL.off rfl rfl ?_
    refine OL.det trivial (Yields.pure rfl) ?_
    refine OL.nil ?_
    refine PW.keep (T' := [(1, _), (16, _)]) ⟨rfl, rfl, trivial⟩ ?_
    refine PW.ite (b := true) rfl ?_
    rw [if_pos rfl]
    refine PW.seqOps ?_
    refine OL.det trivial (Yields.pure rfl) ?_
    refine OL.nil ?_
    refine PW.keep (T' := [(2, _)]) ⟨rfl, trivial⟩ ?_
    refine PW.ret ?_
    change (Exit.ret = Exit.normal ∨ Exit.ret = Exit.ret) ∧ ∃ v, resV _ _ = some v ∧ _
    exact ⟨.inr rfl, _, rfl, _, Sub.drop (Sub.refl _), by unfold chkT; rw [if_pos (by omega)], rfl⟩
  · try simp only [decide_eq_true_eq, decide_eq_false_iff_not, beq_iff_eq, bne_iff_ne, beq_eq_false_iff_ne, bne_eq_false_iff_eq, Bool.not_eq_true', Bool.not_eq_false', Bool.not_eq_true, ne_eq, Decidable.not_not] at g9
    refine OL.det rfl (Yields.pure rfl) ?_
    refine OL.det rfl (Yields.ld rfl (own_at (j := 0) (c := [.int .i64 tv, .slice A l.length c]) (E := 45) (tot := 2) (List.mem_flatten.2 ⟨_, .head _, List.mem_singleton.2 rfl⟩) rfl)) ?_
    refine OL.det rfl (Yields.pure rfl) ?_
    refine OL.det rfl (Yields.ld rfl (own_at (j := 1) (c := [.int .i64 tv, .slice A l.length c]) (E := 45) (tot := 2) (List.mem_flatten.2 ⟨_, .head _, List.mem_singleton.2 rfl⟩) rfl)) ?_
    refine OL.det rfl (Yields.pure rfl) ?_
    refine OL.det rfl (Yields.pure rfl) ?_
    refine OL.det trivial (Yields.pure rfl) ?_
    refine OL.nil ?_
    refine PW.keep (T' := [(1, _), (16, _)]) ⟨rfl, rfl, trivial⟩ ?_
    refine PW.cond rfl (fun c16 => ?_) (fun c16 => ?_)
    · try simp only [decide_eq_true_eq, decide_eq_false_iff_not, beq_iff_eq, bne_iff_ne, beq_eq_false_iff_ne, bne_eq_false_iff_eq, Bool.not_eq_true', Bool.not_eq_false', Bool.not_eq_true, ne_eq, Decidable.not_not] at c16
      refine PW.seqOps ?_
      refine OL.det trivial (Yields.pure rfl) ?_
      refine OL.nil ?_
      refine PW.keep (T' := [(2, _)]) ⟨rfl, trivial⟩ ?_
      refine PW.ret ?_
      change (Exit.ret = Exit.normal ∨ Exit.ret = Exit.ret) ∧ ∃ v, resV _ _ = some v ∧ _
      exact ⟨.inr rfl, _, rfl, _, Sub.drop (Sub.refl _), by unfold chkT; rw [if_pos (by omega)], rfl⟩
    · try simp only [decide_eq_true_eq, decide_eq_false_iff_not, beq_iff_eq, bne_iff_ne, beq_eq_false_iff_ne, bne_eq_false_iff_eq, Bool.not_eq_true', Bool.not_eq_false', Bool.not_eq_true, ne_eq, Decidable.not_not] at c16
      refine PW.skip ?_
      refine hK1 _ _ ?_
      refine PW.keep (T' := [(1, _)]) ⟨rfl, trivial⟩ ?_
      refine PW.seq fun K2 hK2 => ?_
      refine PW.seqOps ?_
      refine OL.det trivial (Yields.pure rfl) ?_
      refine OL.det trivial (Yields.ld rfl (own_at (j := 1) (c := [.int .i64 tv, .slice A l.length c]) (E := 45) (tot := 2) (List.mem_flatten.2 ⟨_, .head _, List.mem_singleton.2 rfl⟩) rfl)) ?_
      refine OL.det trivial (Yields.pure rfl) ?_
      refine OL.det trivial (Yields.pure rfl) ?_
      refine OL.nil ?_
      refine PW.keep (T' := [(1, _), (18, _), (19, _), (20, _)]) ⟨rfl, rfl, rfl, rfl, trivial⟩ ?_
      refine PW.block ?_
      refine PW.keep (T' := [(1, _), (18, _), (19, _), (20, _)]) ⟨rfl, rfl, rfl, rfl, trivial⟩ ?_
      refine PW.loopK (I := fun m T S' => ∃ (k : Nat), (k ≤ l.length ∧ m = l.length - k ∧ (List.range k).all (okAt l) = true) ∧ T = ([(1, .pointer (some ⟨r1, 0, none⟩)), (18, .slice A l.length c), (19, .int .i64 (l.length : Int)), (20, .int .i64 k)] : TT) ∧ S' = tseg r1 tv A l.length c :: S) (m := l.length) ⟨0, ⟨by omega, by omega, rfl⟩, rfl, rfl⟩ ?_
      rintro m _ _ ⟨k, ⟨hk, hm, hall⟩, rfl, rfl⟩
      refine PW.seqOps ?_
      refine OL.det trivial (Yields.pure rfl) ?_
      refine OL.nil ?_
      refine PW.keep (T' := [(1, _), (18, _), (19, _), (20, _), (21, _)]) ⟨rfl, rfl, rfl, rfl, rfl, trivial⟩ ?_
      refine PW.seq fun K3 hK3 => ?_
      refine PW.cond rfl (fun c21 => ?_) (fun c21 => ?_)
      · try simp only [decide_eq_true_eq, decide_eq_false_iff_not, beq_iff_eq, bne_iff_ne, beq_eq_false_iff_ne, bne_eq_false_iff_eq, Bool.not_eq_true', Bool.not_eq_false', Bool.not_eq_true, ne_eq, Decidable.not_not] at c21
        have hkl : k < l.length := by omega
        obtain ⟨a0, rfl⟩ := ruls_some hx (by omega)
        have hwk := hw _ (List.getElem_mem hkl)
        refine PW.skip ?_
        refine hK3 _ _ ?_
        refine PW.keep (T' := [(1, _), (18, _), (19, _), (20, _)]) ⟨rfl, rfl, rfl, rfl, trivial⟩ ?_
        refine PW.seq fun K4 hK4 => ?_
        refine PW.block ?_
        refine PW.seqOps ?_
        refine OL.det trivial (Yields.pure rfl) ?_
        refine OL.det trivial (Yields.ixN rfl rfl rfl (by omega)) ?_
        refine OL.det trivial (Yields.ldA rfl (cs := ruleC l[k]) rfl (rule_at hx.cons hkl)) ?_
        refine OL.cons trivial OW.al ?_
        rintro _ _ ⟨r4, rfl, rfl⟩
        refine OL.det trivial (Yields.pure rfl) ?_
        refine OL.cons trivial (OW.st (k := 0) rfl rfl rfl rfl (by decide) rfl) ?_
        rintro _ _ rfl
        change OL _ _ _ _ _ (rseg r4 l[k] :: tseg r1 tv (some a0) l.length c :: S) _
        refine OL.nil ?_
        refine PW.keep (T' := [(1, _), (3, _), (4, _), (18, _), (19, _), (20, _)]) ⟨rfl, rfl, rfl, rfl, rfl, rfl, trivial⟩ ?_
        refine PW.seq fun K5 hK5 => ?_
        refine PW.quietK Tryd.mixed ?_
        refine QK.det trivial (Yields.pure rfl) ?_
        refine QK.det trivial (Yields.pure rfl) ?_
        refine QK.bool trivial (Yields.pure rfl) (fun g27 => ?_) (fun g27 => ?_)
        · try simp only [decide_eq_true_eq, decide_eq_false_iff_not, beq_iff_eq, bne_iff_ne, beq_eq_false_iff_ne, bne_eq_false_iff_eq, Bool.not_eq_true', Bool.not_eq_false', Bool.not_eq_true, ne_eq, Decidable.not_not] at g27
          refine QK.det rfl (Yields.pure rfl) ?_
          refine QK.det rfl (Yields.ld rfl (own_at (j := 1) (c := [.int .i64 tv, .slice (some a0) l.length c]) (E := 45) (tot := 2) (List.mem_flatten.2 ⟨_, .tail _ (.head _), List.mem_singleton.2 rfl⟩) rfl)) ?_
          refine QK.det rfl (Yields.pure rfl) ?_
          refine QK.det rfl (Yields.sub64 rfl rfl (by omega) (by omega)) ?_
          refine QK.det rfl (Yields.ixN rfl rfl (show (k : Int) - 1 = ((k - 1 : Nat) : Int) from by omega) (by omega)) ?_
          refine QK.det rfl (Yields.pure rfl) ?_
          refine QK.det rfl (Yields.ld rfl (rule_at hx.cons.cons (show k - 1 < l.length from by omega) 0 _ rfl)) ?_
          refine QK.det rfl (Yields.pure rfl) ?_
          refine QK.det rfl (Yields.ld rfl (own_at (j := 0) (c := ruleC l[k]) (E := 56) (tot := 3) (List.mem_flatten.2 ⟨_, .head _, List.mem_singleton.2 rfl⟩) rfl)) ?_
          refine QK.nil ?_
          change OL _ _ _ [_, _, _, _, _, _, _, _, _, _, _, _, _, _] _ _ _
          refine OL.det rfl (Yields.pure rfl) ?_
          refine OL.det trivial (Yields.pure rfl) ?_
          refine OL.bool trivial (Yields.pure rfl) (fun g39 => ?_) (fun g39 => ?_)
          · try simp only [decide_eq_true_eq, decide_eq_false_iff_not, beq_iff_eq, bne_iff_ne, beq_eq_false_iff_ne, bne_eq_false_iff_eq, Bool.not_eq_true', Bool.not_eq_false', Bool.not_eq_true, ne_eq, Decidable.not_not] at g39
            have hbad : okAt l k = false := by
              unfold okAt
              rw [(getElem!_pos l k hkl), getElem!_pos l (k - 1) (by omega), decide_eq_false (by omega : ¬ k = 0)]
              have e : ltB l[k - 1].1 l[k].1 = false := by simpa [ltB] using g39
              rw [e]; rfl
            refine OL.off rfl rfl ?_
            refine OL.off rfl rfl ?_
            refine OL.off rfl rfl ?_
            refine OL.off rfl rfl ?_
            refine OL.det trivial (Yields.pure rfl) ?_
            refine OL.det trivial (Yields.pure rfl) ?_
            refine OL.off rfl rfl ?_
            refine OL.off rfl rfl ?_
            refine OL.off rfl rfl ?_
            refine OL.off rfl rfl ?_
            refine OL.det trivial (Yields.pure rfl) ?_
            refine OL.nil ?_
            refine hK5 _ _ ?_
            refine PW.keep (T' := [(1, _), (18, _), (19, _), (20, _), (50, _)]) ⟨rfl, rfl, rfl, rfl, rfl, trivial⟩ ?_
            refine PW.ite (b := true) rfl ?_
            rw [if_pos rfl]
            refine PW.seqOps ?_
            refine OL.det trivial (Yields.pure rfl) ?_
            refine OL.nil ?_
            refine PW.keep (T' := [(2, _)]) ⟨rfl, trivial⟩ ?_
            refine PW.ret ?_
            change (Exit.ret = Exit.normal ∨ Exit.ret = Exit.ret) ∧ ∃ v, resV _ _ = some v ∧ _
            exact ⟨.inr rfl, _, rfl, _, Sub.drop (Sub.drop (Sub.refl _)), by unfold chkT; rw [if_neg (by omega), if_neg (all_bad hkl hbad)], rfl⟩
          · try simp only [decide_eq_true_eq, decide_eq_false_iff_not, beq_iff_eq, bne_iff_ne, beq_eq_false_iff_ne, bne_eq_false_iff_eq, Bool.not_eq_true', Bool.not_eq_false', Bool.not_eq_true, ne_eq, Decidable.not_not] at g39
            have hs1 : (decide (k = 0) || ltB l[k - 1]!.1 l[k].1) = true := by
              rw [getElem!_pos l (k - 1) (by omega)]
              have e : ltB l[k - 1].1 l[k].1 = true := by simpa [ltB] using g39
              rw [e, Bool.or_true]
            refine OL.det rfl (Yields.pure rfl) ?_
            refine OL.det rfl (Yields.ld rfl (own_at (j := 0) (c := ruleC l[k]) (E := 56) (tot := 3) (List.mem_flatten.2 ⟨_, .head _, List.mem_singleton.2 rfl⟩) rfl)) ?_
            refine OL.call rfl rfl (prefB_fc hwk) ?_
            rintro _ Sx ⟨rfl, hSx⟩
            rw [hSx]
            clear hSx
            refine OL.det rfl (Yields.pure rfl) ?_
            refine OL.det trivial (Yields.pure rfl) ?_
            refine OL.bool trivial (Yields.pure rfl) (fun g45 => ?_) (fun g45 => ?_)
            · try simp only [decide_eq_true_eq, decide_eq_false_iff_not, beq_iff_eq, bne_iff_ne, beq_eq_false_iff_ne, bne_eq_false_iff_eq, Bool.not_eq_true', Bool.not_eq_false', Bool.not_eq_true, ne_eq, Decidable.not_not] at g45
              have hbad : okAt l k = false := by
                unfold okAt
                rw [(getElem!_pos l k hkl), show prefB l[k].1 = false by simpa using g45]
                simp
              refine OL.off rfl rfl ?_
              refine OL.off rfl rfl ?_
              refine OL.off rfl rfl ?_
              refine OL.off rfl rfl ?_
              refine OL.det trivial (Yields.pure rfl) ?_
              refine OL.nil ?_
              refine hK5 _ _ ?_
              refine PW.keep (T' := [(1, _), (18, _), (19, _), (20, _), (50, _)]) ⟨rfl, rfl, rfl, rfl, rfl, trivial⟩ ?_
              refine PW.ite (b := true) rfl ?_
              rw [if_pos rfl]
              refine PW.seqOps ?_
              refine OL.det trivial (Yields.pure rfl) ?_
              refine OL.nil ?_
              refine PW.keep (T' := [(2, _)]) ⟨rfl, trivial⟩ ?_
              refine PW.ret ?_
              change (Exit.ret = Exit.normal ∨ Exit.ret = Exit.ret) ∧ ∃ v, resV _ _ = some v ∧ _
              exact ⟨.inr rfl, _, rfl, _, Sub.drop (Sub.drop (Sub.refl _)), by unfold chkT; rw [if_neg (by omega), if_neg (all_bad hkl hbad)], rfl⟩
            · try simp only [decide_eq_true_eq, decide_eq_false_iff_not, beq_iff_eq, bne_iff_ne, beq_eq_false_iff_ne, bne_eq_false_iff_eq, Bool.not_eq_true', Bool.not_eq_false', Bool.not_eq_true, ne_eq, Decidable.not_not] at g45
              have hs2 : prefB l[k].1 = true := by simpa using g45
              refine OL.det rfl (Yields.pure rfl) ?_
              refine OL.det rfl (Yields.ldA rfl rfl (rseg_at (x := l[k]))) ?_
              refine OL.call rfl rfl (check_lab (a := (l[k].2.1, (l[k].2.2.toNat)))) ?_
              rintro _ Sx ⟨rfl, hSx⟩
              rw [hSx]
              clear hSx
              refine OL.det rfl (Yields.pure rfl) ?_
              refine OL.det trivial (Yields.pure rfl) ?_
              refine OL.nil ?_
              refine hK5 _ _ ?_
              refine PW.keep (T' := [(1, _), (18, _), (19, _), (20, _), (50, _)]) ⟨rfl, rfl, rfl, rfl, rfl, trivial⟩ ?_
              refine PW.cond rfl (fun c50 => ?_) (fun c50 => ?_)
              · try simp only [decide_eq_true_eq, decide_eq_false_iff_not, beq_iff_eq, bne_iff_ne, beq_eq_false_iff_ne, bne_eq_false_iff_eq, Bool.not_eq_true', Bool.not_eq_false', Bool.not_eq_true, ne_eq, Decidable.not_not] at c50
                have hbad : okAt l k = false := by
                  have h0 : okL l[k].2 = false := by rw [Bool.eq_false_iff, Ne, ← okL_chk]; exact c50
                  unfold okAt; rw [(getElem!_pos l k hkl), h0, Bool.and_false]
                refine PW.seqOps ?_
                refine OL.det trivial (Yields.pure rfl) ?_
                refine OL.nil ?_
                refine PW.keep (T' := [(2, _)]) ⟨rfl, trivial⟩ ?_
                refine PW.ret ?_
                change (Exit.ret = Exit.normal ∨ Exit.ret = Exit.ret) ∧ ∃ v, resV _ _ = some v ∧ _
                exact ⟨.inr rfl, _, rfl, _, Sub.drop (Sub.drop (Sub.refl _)), by unfold chkT; rw [if_neg (by omega), if_neg (all_bad hkl hbad)], rfl⟩
              · try simp only [decide_eq_true_eq, decide_eq_false_iff_not, beq_iff_eq, bne_iff_ne, beq_eq_false_iff_ne, bne_eq_false_iff_eq, Bool.not_eq_true', Bool.not_eq_false', Bool.not_eq_true, ne_eq, Decidable.not_not] at c50
                have hs3 : okL l[k].2 = true := (okL_chk _).1 (by simpa using c50)
                refine PW.skip ?_
                refine hK4 _ _ ?_
                refine PW.keep (T' := [(1, _), (18, _), (19, _), (20, _)]) ⟨rfl, rfl, rfl, rfl, trivial⟩ ?_
                refine PW.ops ?_
                refine OL.det trivial (Yields.add64 rfl rfl (by omega) (by omega)) ?_
                refine OL.det trivial (Yields.pure rfl) ?_
                refine OL.nil ?_
                repeat rw [inBlk_n]
                rw [thenK_n]
                refine LoopEnd.mkS ((Sub.drop (Sub.refl _))) (T'' := [(1, _), (18, _), (19, _), (20, _)]) ⟨rfl, rfl, rfl, rfl, trivial⟩ ?_
                refine ⟨l.length - (k + 1), by omega, k + 1, ⟨by omega, rfl, all_succ hall ?_⟩, rfl, rfl⟩
                unfold okAt
                rw [(getElem!_pos l k hkl), hs1, hs2, hs3]; rfl
        · try simp only [decide_eq_true_eq, decide_eq_false_iff_not, beq_iff_eq, bne_iff_ne, beq_eq_false_iff_ne, bne_eq_false_iff_eq, Bool.not_eq_true', Bool.not_eq_false', Bool.not_eq_true, ne_eq, Decidable.not_not] at g27
          have hs1 : (decide (k = 0) || ltB l[k - 1]!.1 l[k].1) = true := by
            obtain rfl : k = 0 := by omega
            rfl
          refine QK.off rfl rfl ?_
          refine QK.off rfl rfl ?_
          refine QK.off rfl rfl ?_
          refine QK.off rfl rfl ?_
          refine QK.off rfl rfl ?_
          refine QK.off rfl rfl ?_
          refine QK.off rfl rfl ?_
          refine QK.off rfl rfl ?_
          refine QK.off rfl rfl ?_
          refine QK.nil ?_
          change OL _ _ _ [_, _, _, _, _, _, _, _, _, _, _, _, _, _] _ _ _
          refine OL.off rfl rfl ?_
          refine OL.det trivial (Yields.pure rfl) ?_
          refine OL.det trivial (Yields.pure rfl) ?_
          refine OL.det rfl (Yields.pure rfl) ?_
          refine OL.det rfl (Yields.ld rfl (own_at (j := 0) (c := ruleC l[k]) (E := 56) (tot := 3) (List.mem_flatten.2 ⟨_, .head _, List.mem_singleton.2 rfl⟩) rfl)) ?_
          refine OL.call rfl rfl (prefB_fc hwk) ?_
          rintro _ Sx ⟨rfl, hSx⟩
          rw [hSx]
          clear hSx
          refine OL.det rfl (Yields.pure rfl) ?_
          refine OL.det trivial (Yields.pure rfl) ?_
          refine OL.bool trivial (Yields.pure rfl) (fun g45 => ?_) (fun g45 => ?_)
          · try simp only [decide_eq_true_eq, decide_eq_false_iff_not, beq_iff_eq, bne_iff_ne, beq_eq_false_iff_ne, bne_eq_false_iff_eq, Bool.not_eq_true', Bool.not_eq_false', Bool.not_eq_true, ne_eq, Decidable.not_not] at g45
            have hbad : okAt l k = false := by
              unfold okAt
              rw [(getElem!_pos l k hkl), show prefB l[k].1 = false by simpa using g45]
              simp
            refine OL.off rfl rfl ?_
            refine OL.off rfl rfl ?_
            refine OL.off rfl rfl ?_
            refine OL.off rfl rfl ?_
            refine OL.det trivial (Yields.pure rfl) ?_
            refine OL.nil ?_
            refine hK5 _ _ ?_
            refine PW.keep (T' := [(1, _), (18, _), (19, _), (20, _), (50, _)]) ⟨rfl, rfl, rfl, rfl, rfl, trivial⟩ ?_
            refine PW.ite (b := true) rfl ?_
            rw [if_pos rfl]
            refine PW.seqOps ?_
            refine OL.det trivial (Yields.pure rfl) ?_
            refine OL.nil ?_
            refine PW.keep (T' := [(2, _)]) ⟨rfl, trivial⟩ ?_
            refine PW.ret ?_
            change (Exit.ret = Exit.normal ∨ Exit.ret = Exit.ret) ∧ ∃ v, resV _ _ = some v ∧ _
            exact ⟨.inr rfl, _, rfl, _, Sub.drop (Sub.drop (Sub.refl _)), by unfold chkT; rw [if_neg (by omega), if_neg (all_bad hkl hbad)], rfl⟩
          · try simp only [decide_eq_true_eq, decide_eq_false_iff_not, beq_iff_eq, bne_iff_ne, beq_eq_false_iff_ne, bne_eq_false_iff_eq, Bool.not_eq_true', Bool.not_eq_false', Bool.not_eq_true, ne_eq, Decidable.not_not] at g45
            have hs2 : prefB l[k].1 = true := by simpa using g45
            refine OL.det rfl (Yields.pure rfl) ?_
            refine OL.det rfl (Yields.ldA rfl rfl (rseg_at (x := l[k]))) ?_
            refine OL.call rfl rfl (check_lab (a := (l[k].2.1, (l[k].2.2.toNat)))) ?_
            rintro _ Sx ⟨rfl, hSx⟩
            rw [hSx]
            clear hSx
            refine OL.det rfl (Yields.pure rfl) ?_
            refine OL.det trivial (Yields.pure rfl) ?_
            refine OL.nil ?_
            refine hK5 _ _ ?_
            refine PW.keep (T' := [(1, _), (18, _), (19, _), (20, _), (50, _)]) ⟨rfl, rfl, rfl, rfl, rfl, trivial⟩ ?_
            refine PW.cond rfl (fun c50 => ?_) (fun c50 => ?_)
            · try simp only [decide_eq_true_eq, decide_eq_false_iff_not, beq_iff_eq, bne_iff_ne, beq_eq_false_iff_ne, bne_eq_false_iff_eq, Bool.not_eq_true', Bool.not_eq_false', Bool.not_eq_true, ne_eq, Decidable.not_not] at c50
              have hbad : okAt l k = false := by
                have h0 : okL l[k].2 = false := by rw [Bool.eq_false_iff, Ne, ← okL_chk]; exact c50
                unfold okAt; rw [(getElem!_pos l k hkl), h0, Bool.and_false]
              refine PW.seqOps ?_
              refine OL.det trivial (Yields.pure rfl) ?_
              refine OL.nil ?_
              refine PW.keep (T' := [(2, _)]) ⟨rfl, trivial⟩ ?_
              refine PW.ret ?_
              change (Exit.ret = Exit.normal ∨ Exit.ret = Exit.ret) ∧ ∃ v, resV _ _ = some v ∧ _
              exact ⟨.inr rfl, _, rfl, _, Sub.drop (Sub.drop (Sub.refl _)), by unfold chkT; rw [if_neg (by omega), if_neg (all_bad hkl hbad)], rfl⟩
            · try simp only [decide_eq_true_eq, decide_eq_false_iff_not, beq_iff_eq, bne_iff_ne, beq_eq_false_iff_ne, bne_eq_false_iff_eq, Bool.not_eq_true', Bool.not_eq_false', Bool.not_eq_true, ne_eq, Decidable.not_not] at c50
              have hs3 : okL l[k].2 = true := (okL_chk _).1 (by simpa using c50)
              refine PW.skip ?_
              refine hK4 _ _ ?_
              refine PW.keep (T' := [(1, _), (18, _), (19, _), (20, _)]) ⟨rfl, rfl, rfl, rfl, trivial⟩ ?_
              refine PW.ops ?_
              refine OL.det trivial (Yields.add64 rfl rfl (by omega) (by omega)) ?_
              refine OL.det trivial (Yields.pure rfl) ?_
              refine OL.nil ?_
              repeat rw [inBlk_n]
              rw [thenK_n]
              refine LoopEnd.mkS ((Sub.drop (Sub.refl _))) (T'' := [(1, _), (18, _), (19, _), (20, _)]) ⟨rfl, rfl, rfl, rfl, trivial⟩ ?_
              refine ⟨l.length - (k + 1), by omega, k + 1, ⟨by omega, rfl, all_succ hall ?_⟩, rfl, rfl⟩
              unfold okAt
              rw [(getElem!_pos l k hkl), hs1, hs2, hs3]; rfl
      · try simp only [decide_eq_true_eq, decide_eq_false_iff_not, beq_iff_eq, bne_iff_ne, beq_eq_false_iff_ne, bne_eq_false_iff_eq, Bool.not_eq_true', Bool.not_eq_false', Bool.not_eq_true, ne_eq, Decidable.not_not] at c21
        refine PW.exit ?_
        refine hK2 _ _ ?_
        refine PW.keep (T' := []) trivial ?_
        refine PW.seqOps ?_
        refine OL.det trivial (Yields.pure rfl) ?_
        refine OL.nil ?_
        refine PW.keep (T' := [(2, _)]) ⟨rfl, trivial⟩ ?_
        refine PW.ret ?_
        change (Exit.ret = Exit.normal ∨ Exit.ret = Exit.ret) ∧ ∃ v, resV _ _ = some v ∧ _
        obtain rfl : k = l.length := by omega
        exact ⟨.inr rfl, _, rfl, _, Sub.drop (Sub.refl _), by unfold chkT; rw [if_neg (by omega), if_pos hall], rfl⟩
end Go.Proofs.Rl

set_option linter.unusedVariables false
set_option linter.unusedSimpArgs false
namespace Go.Proofs.Rl
open Go.SL Go.RowKit Go.Proofs Go.Proofs.Lb
set_option maxHeartbeats 1000000
theorem tab_read {w0 : World} {S : SS} {r E : Nat} {tv : Int} {A : Option Addr} {n c : Nat} (hm : (r, AO.cells [.int .i64 tv, .slice A n c] E 2) ∈ S.flatten) : ReadsAs w0 S (some 2) ⟨r, 0, none⟩ (tabV tv A n c) :=
  ⟨[.int .i64 tv, .slice A n c], rfl, rfl, fun j u hj => (Rd.own hm).at hj⟩
end Go.Proofs.Rl

set_option linter.unusedVariables false
set_option linter.unusedSimpArgs false
namespace Go.Proofs.Rl
open Go.SL Go.RowKit Go.Proofs Go.Proofs.Lb
set_option maxHeartbeats 1000000
theorem insert_fc {w0 : World} {S : SS} {rv i : Nat} {x : RuleB} {v : Value} {l : List RuleB} {seg : Seg} (hv : SlV 56 3 v l.length (ruls l) seg) (hi : i ≤ l.length) (hb : l.length ≤ 1000000000) :
    FC Tryd.prog w0 74 [v, .int .i64 i, .slice (some ⟨rv, 0, none⟩) 1 1] ([(rv, .cells (ruleC x) 56 3)] :: seg :: S) (fun v S' => ∃ seg, S' = seg :: S ∧ SlV 56 3 v (l.length + 1) (ruls (insL l i x)) seg) := by
  obtain ⟨hl, ⟨rfl, h0, rfl⟩ | ⟨r, cap, rfl, rfl, h1, h2⟩⟩ := hv
  · have e : l = [] := List.eq_nil_of_length_eq_zero h0
    subst e
    obtain rfl : i = 0 := by simpa using hi
    exact FC.subS (Sub.cons (Sub.drop (Sub.refl _))) insert_nil
  · exact insert_own hi h1 h2 hb
theorem idx_at (q : RuleB → Bool) (l : List RuleB) : ∃ k, k ≤ l.length ∧ (∀ x ∈ l.take k, q x = false) ∧ (∀ h : k < l.length, q l[k] = true) ∧ ((idxZ q l = (k : Int) ∧ k < l.length) ∨ (idxZ q l = -1 ∧ k = l.length)) := by
  unfold idxZ
  cases h : l.findIdx? q with
  | none =>
    refine ⟨l.length, Nat.le_refl _, fun x hx => ?_, fun h => by omega, .inr ⟨rfl, rfl⟩⟩
    rw [List.take_length] at hx
    exact List.findIdx?_eq_none_iff.1 h x hx
  | some k =>
    obtain ⟨hk, h1, h2⟩ := List.findIdx?_eq_some_iff_getElem.1 h
    refine ⟨k, by omega, fun x hx => ?_, fun _ => h1, .inl ⟨rfl, hk⟩⟩
    obtain ⟨j, hj, rfl⟩ := List.mem_take_iff_getElem.1 hx
    have := h2 j (by omega)
    simpa using this
theorem ruls_setlab {l : List RuleB} {k : Nat} (hk : k < l.length) (x : LabB) : setAt (ruls l) (k * 3 + 1) [.int .i64 x.1, .int .u64 (x.2.toNat : Int)] = ruls (l.set k (l[k].1, x)) := by
  rw [setAt_eq _ _ _ (by rw [ruls_len]; simp; omega)]
  have h1 : l = l.take k ++ l[k] :: l.drop (k + 1) := by simp
  have h2 : l.set k (l[k].1, x) = l.take k ++ (l[k].1, x) :: l.drop (k + 1) := by rw [List.set_eq_take_append_cons_drop, if_pos hk]
  have e : ∀ y : RuleB, ruls (l.take k ++ y :: l.drop (k + 1)) = ruls (l.take k) ++ ruleC y ++ ruls (l.drop (k + 1)) := fun y => by rw [ruls_app, List.append_assoc]; rfl
  have hl : (ruls (l.take k)).length = k * 3 := by rw [ruls_len, List.length_take]; omega
  rw [h2, e]
  conv => lhs; rw [h1]
  rw [e]
  have e1 : (ruls (l.take k) ++ ruleC l[k] ++ ruls (l.drop (k + 1))).take (k * 3 + 1) = ruls (l.take k) ++ [.string l[k].1] := by
    rw [List.append_assoc, List.take_append, hl, List.take_of_length_le (by omega), show k * 3 + 1 - k * 3 = 1 from by omega]
    rfl
  have e2 : (ruls (l.take k) ++ ruleC l[k] ++ ruls (l.drop (k + 1))).drop (k * 3 + 1 + 2) = ruls (l.drop (k + 1)) := by
    exact List.drop_left' (by simp [hl, ruleC_len])
  show _ ++ _ ++ List.drop (k * 3 + 1 + 2) _ = _
  rw [e1, e2]
  simp [ruleC]
def geL (a : ByteArray) (x : RuleB) : Bool := !ltB x.1 a
/-- what With answers -/
def withT (l : List RuleB) (tv : Int) (a : ByteArray) (x : LabB) : Int × Int × List RuleB :=
  if prefB a = false then (15, 0, []) else if okL x = false ∨ chkT l tv ≠ 0 then (2, 0, []) else
    match l.findIdx? (geL a) with
    | some k => if l[k]!.1 = a then (0, tv + 1, l.set k (a, x)) else if l.length = 32 then (7, 0, []) else (0, tv + 1, insL l k (a, x))
    | none => if l.length = 32 then (7, 0, []) else (0, tv + 1, insL l l.length (a, x))
theorem withT_bad {l : List RuleB} {tv : Int} {a : ByteArray} {x : LabB} (h : prefB a = false) : withT l tv a x = (15, 0, []) := by unfold withT; rw [if_pos h]
theorem withT_arg {l : List RuleB} {tv : Int} {a : ByteArray} {x : LabB} (h : prefB a = true) (h2 : okL x = false ∨ chkT l tv ≠ 0) : withT l tv a x = (2, 0, []) := by unfold withT; rw [if_neg (by rw [h]; simp), if_pos h2]
theorem withT_at {l : List RuleB} {tv : Int} {a : ByteArray} {x : LabB} {k : Nat} (h : prefB a = true) (h2 : okL x = true) (h3 : chkT l tv = 0) (hz : (idxZ (geL a) l = (k : Int) ∧ k < l.length) ∨ (idxZ (geL a) l = -1 ∧ k = l.length)) :
    withT l tv a x = if h : k < l.length ∧ l[k]!.1 = a then (0, tv + 1, l.set k (a, x)) else if l.length = 32 then (7, 0, []) else (0, tv + 1, insL l k (a, x)) := by
  unfold withT
  rw [if_neg (by rw [h]; simp), if_neg (by rw [h2, h3]; simp)]
  unfold idxZ at hz
  cases hf : l.findIdx? (geL a) with
  | none =>
    rw [hf] at hz
    rcases hz with ⟨hz, _⟩ | ⟨_, rfl⟩
    · exact absurd hz (by show ¬ ((-1 : Int) = _); omega)
    · rw [dif_neg (fun h => by omega)]
  | some j =>
    rw [hf] at hz
    rcases hz with ⟨hz, hk⟩ | ⟨hz, _⟩
    · obtain rfl : j = k := by have : (j : Int) = (k : Int) := hz; omega
      by_cases e : l[j]!.1 = a
      · simp only [if_pos e]; rw [dif_pos ⟨hk, e⟩]
      · simp only [if_neg e]; rw [dif_neg (fun h => e h.2)]
    · exact absurd hz (by show ¬ ((j : Int) = -1); omega)
theorem with_fc {w0 : World} {S : SS} {A : Option Addr} {c : Nat} {tv : Int} {l : List RuleB} {at_ : ByteArray} {x : LabB} (hx : Rd w0 S A (ruls l)) (hw : ∀ x ∈ l, x.1.size ≤ 1000000000) (hs : at_.size ≤ 1000000000) (hl : l.length ≤ 1000000000) (htv0 : -1000000000 ≤ tv) (htv : tv ≤ 1000000000) :
    FC Tryd.prog w0 43 [tabV tv A l.length c, .string at_, labB x] S (fun v S' => ∃ A' c' seg, v = .tuple #[tabV (withT l tv at_ x).2.1 A' (withT l tv at_ x).2.2.length c', .int .i64 (withT l tv at_ x).1] ∧ S' = seg :: S ∧ SlV 56 3 (.slice A' (withT l tv at_ x).2.2.length c') (withT l tv at_ x).2.2.length (ruls (withT l tv at_ x).2.2) seg) := by
  refine FC.ofCT Tryd.known43 (by simp) ?_
  unfold Tryd.pc43
  simp only [argT]
  refine PW.seqOps ?_
  refine OL.cons trivial (OW.bx rfl) ?_
  rintro _ _ ⟨r3, rfl, rfl⟩
  change OL _ _ _ _ _ (tseg r3 tv A l.length c :: S) _
  refine OL.cons trivial (OW.bx rfl) ?_
  rintro _ _ ⟨r4, rfl, rfl⟩
  change OL _ _ _ _ _ ([(r4, .cells [.string at_] 9 1)] :: tseg r3 tv A l.length c :: S) _
  refine OL.cons trivial (OW.bx rfl) ?_
  rintro _ _ ⟨r5, rfl, rfl⟩
  change OL _ _ _ _ _ (lseg r5 x :: [(r4, .cells [.string at_] 9 1)] :: tseg r3 tv A l.length c :: S) _
  refine OL.cons trivial OW.al ?_
  rintro _ _ ⟨r6, rfl, rfl⟩
  change OL _ _ _ _ _ ([(r6, .cells [.int .i64 0, .slice none 0 0] 45 2)] :: lseg r5 x :: [(r4, .cells [.string at_] 9 1)] :: tseg r3 tv A l.length c :: S) _
  refine OL.det trivial (Yields.pure rfl) ?_
  refine OL.nil ?_
  refine PW.keep (T' := [(3, _), (4, _), (5, _), (6, _)]) ⟨rfl, rfl, rfl, rfl, trivial⟩ ?_
  refine PW.seq fun K1 hK1 => ?_
  refine PW.block ?_
  refine PW.seqOps ?_
  refine OL.det trivial (Yields.ld rfl (own_at (j := 0) (c := [.string at_]) (E := 9) (tot := 1) (List.mem_flatten.2 ⟨_, .tail _ (.tail _ (.head _)), List.mem_singleton.2 rfl⟩) rfl)) ?_
  refine OL.call trivial rfl (prefB_fc hs) ?_
  rintro _ Sx ⟨rfl, hSx⟩
  rw [hSx]
  clear hSx
  refine OL.det trivial (Yields.pure rfl) ?_
  refine OL.det trivial (Yields.pure rfl) ?_
  refine OL.nil ?_
  refine PW.keep (T' := [(3, _), (4, _), (5, _), (6, _), (10, _)]) ⟨rfl, rfl, rfl, rfl, rfl, trivial⟩ ?_
  refine PW.cond rfl (fun c10 => ?_) (fun c10 => ?_)
  · try simp only [decide_eq_true_eq, decide_eq_false_iff_not, beq_iff_eq, bne_iff_ne, beq_eq_false_iff_ne, bne_eq_false_iff_eq, Bool.not_eq_true', Bool.not_eq_false', Bool.not_eq_true, ne_eq, Decidable.not_not] at c10
    refine PW.seqOps ?_
    refine OL.det trivial (Yields.build rfl) ?_
    refine OL.cons trivial (OW.st (k := 0) (u := tabV 0 none 0 0) rfl rfl rfl rfl (Nat.le_refl 2) rfl) ?_
    rintro _ _ rfl
    change OL _ _ _ _ _ ([(r6, .cells [.int .i64 0, .slice none 0 0] 45 2)] :: lseg r5 x :: [(r4, .cells [.string at_] 9 1)] :: tseg r3 tv A l.length c :: S) _
    refine OL.det trivial (Yields.pure rfl) ?_
    refine OL.nil ?_
    refine PW.keep (T' := [(6, _), (7, _)]) ⟨rfl, rfl, trivial⟩ ?_
    refine PW.ret ?_
    change (Exit.ret = Exit.normal ∨ Exit.ret = Exit.ret) ∧ ∃ a v x, Go.SL.look _ _ = some (.pointer (some a)) ∧ ReadsAs _ _ _ _ _ ∧ Go.SL.look _ _ = some x ∧ _
    have hres := withT_bad (l := l) (tv := tv) (x := x) c10
    rw [hres]
    refine ⟨.inr rfl, _, tabV 0 none 0 0, .int .i64 15, rfl, tab_read (E := 45) (List.mem_flatten.2 ⟨_, .head _, List.mem_singleton.2 rfl⟩), rfl, _, Sub.nilL (Sub.drop (Sub.drop (Sub.drop (Sub.drop (Sub.refl _))))), none, 0, [], rfl, rfl, SlV.nil 56 3⟩
  · try simp only [decide_eq_true_eq, decide_eq_false_iff_not, beq_iff_eq, bne_iff_ne, beq_eq_false_iff_ne, bne_eq_false_iff_eq, Bool.not_eq_true', Bool.not_eq_false', Bool.not_eq_true, ne_eq, Decidable.not_not] at c10
    have hp0 : prefB at_ = true := by simpa using c10
    refine PW.seqOps ?_
    refine OL.det trivial (Yields.ldA rfl rfl (lab_at (a := x) (r := r5) (List.mem_flatten.2 ⟨_, .tail _ (.head _), List.mem_singleton.2 rfl⟩))) ?_
    refine OL.call trivial rfl (check_lab (a := (x.1, (x.2.toNat)))) ?_
    rintro _ Sx ⟨rfl, hSx⟩
    rw [hSx]
    clear hSx
    refine OL.det trivial (Yields.pure rfl) ?_
    refine OL.bool trivial (Yields.pure rfl) (fun g19 => ?_) (fun g19 => ?_)
    · try simp only [decide_eq_true_eq, decide_eq_false_iff_not, beq_iff_eq, bne_iff_ne, beq_eq_false_iff_ne, bne_eq_false_iff_eq, Bool.not_eq_true', Bool.not_eq_false', Bool.not_eq_true, ne_eq, Decidable.not_not] at g19
      have harg : okL x = false ∨ chkT l tv ≠ 0 := .inl (by rw [Bool.eq_false_iff, Ne, ← okL_chk]; exact g19)
      refine OL.off rfl rfl ?_
      refine OL.off rfl rfl ?_
      refine OL.off rfl rfl ?_
      refine OL.det trivial (Yields.pure rfl) ?_
      refine OL.det trivial (Yields.pure rfl) ?_
      refine OL.nil ?_
      refine PW.keep (T' := [(3, _), (4, _), (5, _), (6, _), (15, _)]) ⟨rfl, rfl, rfl, rfl, rfl, trivial⟩ ?_
      refine PW.ite (b := true) rfl ?_
      rw [if_pos rfl]
      refine PW.seqOps ?_
      refine OL.det trivial (Yields.build rfl) ?_
      refine OL.cons trivial (OW.st (k := 0) (u := tabV 0 none 0 0) rfl rfl rfl rfl (Nat.le_refl 2) rfl) ?_
      rintro _ _ rfl
      change OL _ _ _ _ _ ([(r6, .cells [.int .i64 0, .slice none 0 0] 45 2)] :: lseg r5 x :: [(r4, .cells [.string at_] 9 1)] :: tseg r3 tv A l.length c :: S) _
      refine OL.det trivial (Yields.pure rfl) ?_
      refine OL.nil ?_
      refine PW.keep (T' := [(6, _), (7, _)]) ⟨rfl, rfl, trivial⟩ ?_
      refine PW.ret ?_
      change (Exit.ret = Exit.normal ∨ Exit.ret = Exit.ret) ∧ ∃ a v x, Go.SL.look _ _ = some (.pointer (some a)) ∧ ReadsAs _ _ _ _ _ ∧ Go.SL.look _ _ = some x ∧ _
      have hres := withT_arg hp0 harg
      rw [hres]
      refine ⟨.inr rfl, _, tabV 0 none 0 0, .int .i64 2, rfl, tab_read (E := 45) (List.mem_flatten.2 ⟨_, .head _, List.mem_singleton.2 rfl⟩), rfl, _, Sub.nilL (Sub.drop (Sub.drop (Sub.drop (Sub.drop (Sub.refl _))))), none, 0, [], rfl, rfl, SlV.nil 56 3⟩
    · try simp only [decide_eq_true_eq, decide_eq_false_iff_not, beq_iff_eq, bne_iff_ne, beq_eq_false_iff_ne, bne_eq_false_iff_eq, Bool.not_eq_true', Bool.not_eq_false', Bool.not_eq_true, ne_eq, Decidable.not_not] at g19
      have hok : okL x = true := (okL_chk _).1 (by simpa using g19)
      refine OL.det rfl (Yields.ldA rfl (cs := [.int .i64 tv, .slice A l.length c]) rfl (tab_at (tv := tv) (A := A) (n := l.length) (c := c) (r := r3) (List.mem_flatten.2 ⟨_, .tail _ (.tail _ (.tail _ (.head _))), List.mem_singleton.2 rfl⟩))) ?_
      refine OL.call rfl rfl (chkT_fc hx.cons.cons.cons.cons hw hl) ?_
      rintro _ Sx ⟨rfl, hSx⟩
      rw [hSx]
      clear hSx
      refine OL.det rfl (Yields.pure rfl) ?_
      refine OL.det trivial (Yields.pure rfl) ?_
      refine OL.det trivial (Yields.pure rfl) ?_
      refine OL.nil ?_
      refine PW.keep (T' := [(3, _), (4, _), (5, _), (6, _), (15, _)]) ⟨rfl, rfl, rfl, rfl, rfl, trivial⟩ ?_
      refine PW.cond rfl (fun c15 => ?_) (fun c15 => ?_)
      · try simp only [decide_eq_true_eq, decide_eq_false_iff_not, beq_iff_eq, bne_iff_ne, beq_eq_false_iff_ne, bne_eq_false_iff_eq, Bool.not_eq_true', Bool.not_eq_false', Bool.not_eq_true, ne_eq, Decidable.not_not] at c15
        have harg : okL x = false ∨ chkT l tv ≠ 0 := .inr c15
        refine PW.seqOps ?_
        refine OL.det trivial (Yields.build rfl) ?_
        refine OL.cons trivial (OW.st (k := 0) (u := tabV 0 none 0 0) rfl rfl rfl rfl (Nat.le_refl 2) rfl) ?_
        rintro _ _ rfl
        change OL _ _ _ _ _ ([(r6, .cells [.int .i64 0, .slice none 0 0] 45 2)] :: lseg r5 x :: [(r4, .cells [.string at_] 9 1)] :: tseg r3 tv A l.length c :: S) _
        refine OL.det trivial (Yields.pure rfl) ?_
        refine OL.nil ?_
        refine PW.keep (T' := [(6, _), (7, _)]) ⟨rfl, rfl, trivial⟩ ?_
        refine PW.ret ?_
        change (Exit.ret = Exit.normal ∨ Exit.ret = Exit.ret) ∧ ∃ a v x, Go.SL.look _ _ = some (.pointer (some a)) ∧ ReadsAs _ _ _ _ _ ∧ Go.SL.look _ _ = some x ∧ _
        have hres := withT_arg hp0 harg
        rw [hres]
        refine ⟨.inr rfl, _, tabV 0 none 0 0, .int .i64 2, rfl, tab_read (E := 45) (List.mem_flatten.2 ⟨_, .head _, List.mem_singleton.2 rfl⟩), rfl, _, Sub.nilL (Sub.drop (Sub.drop (Sub.drop (Sub.drop (Sub.refl _))))), none, 0, [], rfl, rfl, SlV.nil 56 3⟩
      · try simp only [decide_eq_true_eq, decide_eq_false_iff_not, beq_iff_eq, bne_iff_ne, beq_eq_false_iff_ne, bne_eq_false_iff_eq, Bool.not_eq_true', Bool.not_eq_false', Bool.not_eq_true, ne_eq, Decidable.not_not] at c15
        have hch : chkT l tv = 0 := by simpa using c15
        refine PW.skip ?_
        refine hK1 _ _ ?_
        refine PW.keep (T' := [(3, _), (4, _), (5, _), (6, _)]) ⟨rfl, rfl, rfl, rfl, trivial⟩ ?_
        refine PW.seqOps ?_
        refine OL.det trivial (Yields.pure rfl) ?_
        refine OL.det trivial (Yields.ld rfl (own_at (j := 1) (c := [.int .i64 tv, .slice A l.length c]) (E := 45) (tot := 2) (List.mem_flatten.2 ⟨_, .tail _ (.tail _ (.tail _ (.head _))), List.mem_singleton.2 rfl⟩) rfl)) ?_
        refine OL.call trivial rfl (rclone_fc hx.cons.cons.cons.cons (by omega)) ?_
        rintro v8 _ ⟨seg8, rfl, hsl8⟩
        obtain ⟨A8, c8, rfl, hc8, _, hrd8⟩ := slv_rdL (w0 := w0) hsl8
        refine OL.det trivial (Yields.pure rfl) ?_
        refine OL.nil ?_
        refine PW.keep (T' := [(3, _), (4, _), (5, _), (6, _), (8, _)]) ⟨rfl, rfl, rfl, rfl, rfl, trivial⟩ ?_
        refine PW.seqOps ?_
        refine OL.det trivial (Yields.pure rfl) ?_
        refine OL.det trivial (Yields.mkF rfl) ?_
        refine OL.call trivial rfl (indexR_fc (q := geL at_) (ca := [.pointer (some ⟨r4, 0, none⟩)]) (hrd8 _) hl (by kernel_rfl) (fun y hy => geq_fc (own_at (j := 0) (c := [.string at_]) (E := 9) (tot := 1) (List.mem_flatten.2 ⟨_, .tail _ (.tail _ (.tail _ (.head _))), List.mem_singleton.2 rfl⟩) rfl))) ?_
        rintro _ Sx ⟨rfl, hSx⟩
        rw [hSx]
        clear hSx
        obtain ⟨kf, hkle, hkt, hkq, hkz⟩ := idx_at (geL at_) l
        refine OL.det trivial (Yields.pure rfl) ?_
        refine OL.nil ?_
        refine PW.keep (T' := [(3, _), (4, _), (5, _), (6, _), (8, _), (9, _)]) ⟨rfl, rfl, rfl, rfl, rfl, rfl, trivial⟩ ?_
        refine PW.seq fun K2 hK2 => ?_
        refine PW.seqOps ?_
        refine OL.det trivial (Yields.pure rfl) ?_
        refine OL.det trivial (Yields.pure rfl) ?_
        refine OL.nil ?_
        refine PW.keep (T' := [(3, _), (4, _), (5, _), (6, _), (8, _), (9, _), (32, _)]) ⟨rfl, rfl, rfl, rfl, rfl, rfl, rfl, trivial⟩ ?_
        refine PW.cond rfl (fun c32 => ?_) (fun c32 => ?_)
        · try simp only [decide_eq_true_eq, decide_eq_false_iff_not, beq_iff_eq, bne_iff_ne, beq_eq_false_iff_ne, bne_eq_false_iff_eq, Bool.not_eq_true', Bool.not_eq_false', Bool.not_eq_true, ne_eq, Decidable.not_not] at c32
          have hkz2 : kf = l.length := by rcases hkz with h | h <;> omega
          refine PW.ops ?_
          refine OL.det trivial (Yields.pure rfl) ?_
          refine OL.det trivial (Yields.to (v' := .int .i64 (kf : Int)) (Yields.pure rfl) (by rw [hkz2])) ?_
          refine OL.det trivial (Yields.pure rfl) ?_
          refine OL.nil ?_
          refine hK2 _ _ ?_
          refine PW.keep (T' := [(3, _), (4, _), (5, _), (6, _), (8, _), (9, _)]) ⟨rfl, rfl, rfl, rfl, rfl, rfl, trivial⟩ ?_
          refine PW.seq fun K3 hK3 => ?_
          refine PW.seq fun K4 hK4 => ?_
          refine PW.quietK Tryd.mixed ?_
          refine QK.det trivial (Yields.pure rfl) ?_
          refine QK.det trivial (Yields.pure rfl) ?_
          refine QK.det trivial (Yields.pure rfl) ?_
          refine QK.det trivial (Yields.pure rfl) ?_
          refine QK.bool trivial (Yields.pure rfl) (fun g39 => ?_) (fun g39 => ?_)
          · try simp only [decide_eq_true_eq, decide_eq_false_iff_not, beq_iff_eq, bne_iff_ne, beq_eq_false_iff_ne, bne_eq_false_iff_eq, Bool.not_eq_true', Bool.not_eq_false', Bool.not_eq_true, ne_eq, Decidable.not_not] at g39
            have hkl : kf < l.length := by omega
            obtain ⟨a8, rfl⟩ := ruls_some (hrd8 []) (by omega)
            refine QK.det rfl (Yields.pure rfl) ?_
            refine QK.det rfl (Yields.pure rfl) ?_
            refine QK.det rfl (Yields.ixN rfl rfl rfl (by omega)) ?_
            refine QK.det rfl (Yields.pure rfl) ?_
            refine QK.det rfl (Yields.ld rfl (rule_at (hrd8 _) hkl 0 _ rfl)) ?_
            refine QK.det rfl (Yields.ld rfl (own_at (j := 0) (c := [.string at_]) (E := 9) (tot := 1) (List.mem_flatten.2 ⟨_, .tail _ (.tail _ (.tail _ (.head _))), List.mem_singleton.2 rfl⟩) rfl)) ?_
            refine QK.nil ?_
            change OL _ _ _ [_, _] _ _ _
            refine OL.det rfl (Yields.pure rfl) ?_
            refine OL.det trivial (Yields.pure rfl) ?_
            refine OL.nil ?_
            refine hK4 _ _ ?_
            refine PW.keep (T' := [(3, _), (4, _), (5, _), (6, _), (8, _), (9, _), (47, _)]) ⟨rfl, rfl, rfl, rfl, rfl, rfl, rfl, trivial⟩ ?_
            refine PW.cond rfl (fun c47 => ?_) (fun c47 => ?_)
            · try simp only [decide_eq_true_eq, decide_eq_false_iff_not, beq_iff_eq, bne_iff_ne, beq_eq_false_iff_ne, bne_eq_false_iff_eq, Bool.not_eq_true', Bool.not_eq_false', Bool.not_eq_true, ne_eq, Decidable.not_not] at c47
              rw [toL_inj] at c47
              obtain ⟨r8, c8n, e8, rfl, hc8, hm8⟩ := slv_nil_len hsl8 (by omega)
              obtain ⟨rfl, rfl⟩ : a8 = ⟨r8, 0, none⟩ ∧ c8 = c8n := by cases e8; exact ⟨rfl, rfl⟩
              refine PW.seqOps ?_
              refine OL.det trivial (Yields.pure rfl) ?_
              refine OL.det trivial (Yields.pure rfl) ?_
              refine OL.det trivial (Yields.ldA rfl rfl (lab_at (a := x) (r := r5) (List.mem_flatten.2 ⟨_, .tail _ (.tail _ (.head _)), List.mem_singleton.2 rfl⟩))) ?_
              refine OL.det trivial (Yields.ixO rfl rfl rfl (by omega)) ?_
              refine OL.det trivial (Yields.pure rfl) ?_
              refine OL.cons trivial (OW.st (k := 0) (c := ruls l) (u := labB x) rfl rfl rfl rfl (by rw [ruls_len]; show kf * 3 + 1 + 2 ≤ _; omega) rfl) ?_
              rintro _ _ rfl
              change OL _ _ _ _ _ ([(r8, .cells (setAt (ruls l) (kf * 3 + 1) [.int .i64 x.1, .int .u64 (x.2.toNat : Int)]) 56 (c8 * 3))] :: [(r6, .cells [.int .i64 0, .slice none 0 0] 45 2)] :: lseg r5 x :: [(r4, .cells [.string at_] 9 1)] :: tseg r3 tv A l.length c :: S) _
              rw [ruls_setlab hkl, c47]
              have hsl9 : SlV 56 3 (.slice (some ⟨r8, 0, none⟩) l.length c8) l.length (ruls (l.set kf (at_, x))) [(r8, .cells (ruls (l.set kf (at_, x))) 56 (c8 * 3))] := SlV.mk' (by rw [ruls_len]; simp) hc8 hm8
              refine OL.nil ?_
              refine PW.keep (T' := [(3, _), (6, _), (8, _)]) ⟨rfl, rfl, rfl, trivial⟩ ?_
              refine PW.seqOps ?_
              refine OL.det trivial (Yields.pure rfl) ?_
              refine OL.det trivial (Yields.ld rfl (own_at (j := 0) (c := [.int .i64 tv, .slice A l.length c]) (E := 45) (tot := 2) (List.mem_flatten.2 ⟨_, .tail _ (.tail _ (.tail _ (.tail _ (.head _)))), List.mem_singleton.2 rfl⟩) rfl)) ?_
              refine OL.det trivial (Yields.add64 rfl rfl (by omega) (by omega)) ?_
              refine OL.det trivial (Yields.pure rfl) ?_
              refine OL.det trivial (Yields.build rfl) ?_
              refine OL.cons trivial (OW.st (k := 1) (u := tabV (tv + 1) (some ⟨r8, 0, none⟩) l.length c8) rfl rfl rfl rfl (Nat.le_refl 2) rfl) ?_
              rintro _ _ rfl
              change OL _ _ _ _ _ ([(r8, .cells (ruls (l.set kf (at_, x))) 56 (c8 * 3))] :: [(r6, .cells [.int .i64 (tv + 1), .slice (some ⟨r8, 0, none⟩) l.length c8] 45 2)] :: lseg r5 x :: [(r4, .cells [.string at_] 9 1)] :: tseg r3 tv A l.length c :: S) _
              refine OL.det trivial (Yields.pure rfl) ?_
              refine OL.nil ?_
              refine PW.keep (T' := [(6, _), (7, _)]) ⟨rfl, rfl, trivial⟩ ?_
              refine PW.ret ?_
              change (Exit.ret = Exit.normal ∨ Exit.ret = Exit.ret) ∧ ∃ a v x, Go.SL.look _ _ = some (.pointer (some a)) ∧ ReadsAs _ _ _ _ _ ∧ Go.SL.look _ _ = some x ∧ _
              have hres := withT_at (x := x) hp0 hok hch hkz
              rw [dif_pos ⟨hkl, by rw [getElem!_pos l kf hkl]; exact c47⟩] at hres
              rw [hres]
              have hls : (l.set kf (at_, x)).length = l.length := by simp
              refine ⟨.inr rfl, _, tabV (tv + 1) (some ⟨r8, 0, none⟩) l.length c8, .int .i64 0, rfl, tab_read (E := 45) (List.mem_flatten.2 ⟨_, .tail _ (.head _), List.mem_singleton.2 rfl⟩), rfl, _, Sub.cons (Sub.drop (Sub.drop (Sub.drop (Sub.drop (Sub.refl _))))), some ⟨r8, 0, none⟩, c8, _, by simp only [hls], rfl, ?_⟩
              simp only [hls]
              exact hsl9
            · try simp only [decide_eq_true_eq, decide_eq_false_iff_not, beq_iff_eq, bne_iff_ne, beq_eq_false_iff_ne, bne_eq_false_iff_eq, Bool.not_eq_true', Bool.not_eq_false', Bool.not_eq_true, ne_eq, Decidable.not_not] at c47
              have hnat : ¬ (kf < l.length ∧ l[kf]!.1 = at_) := fun h => c47 (toL_inj.2 (by rw [← getElem!_pos l kf hkl]; exact h.2))
              refine PW.skip ?_
              refine hK3 _ _ ?_
              refine PW.keep (T' := [(3, _), (4, _), (5, _), (6, _), (8, _), (9, _)]) ⟨rfl, rfl, rfl, rfl, rfl, rfl, trivial⟩ ?_
              refine PW.seq fun K5 hK5 => ?_
              refine PW.seqOps ?_
              refine OL.det trivial (Yields.pure rfl) ?_
              refine OL.det trivial (Yields.pure rfl) ?_
              refine OL.det trivial (Yields.pure rfl) ?_
              refine OL.nil ?_
              refine PW.keep (T' := [(3, _), (4, _), (5, _), (6, _), (8, _), (9, _), (60, _)]) ⟨rfl, rfl, rfl, rfl, rfl, rfl, rfl, trivial⟩ ?_
              refine PW.cond rfl (fun c60 => ?_) (fun c60 => ?_)
              · try simp only [decide_eq_true_eq, decide_eq_false_iff_not, beq_iff_eq, bne_iff_ne, beq_eq_false_iff_ne, bne_eq_false_iff_eq, Bool.not_eq_true', Bool.not_eq_false', Bool.not_eq_true, ne_eq, Decidable.not_not] at c60
                refine PW.seqOps ?_
                refine OL.det trivial (Yields.build rfl) ?_
                refine OL.cons trivial (OW.st (k := 1) (u := tabV 0 none 0 0) rfl rfl rfl rfl (Nat.le_refl 2) rfl) ?_
                rintro _ _ rfl
                change OL _ _ _ _ _ (seg8 :: [(r6, .cells [.int .i64 0, .slice none 0 0] 45 2)] :: lseg r5 x :: [(r4, .cells [.string at_] 9 1)] :: tseg r3 tv A l.length c :: S) _
                refine OL.det trivial (Yields.pure rfl) ?_
                refine OL.nil ?_
                refine PW.keep (T' := [(6, _), (7, _)]) ⟨rfl, rfl, trivial⟩ ?_
                refine PW.ret ?_
                change (Exit.ret = Exit.normal ∨ Exit.ret = Exit.ret) ∧ ∃ a v x, Go.SL.look _ _ = some (.pointer (some a)) ∧ ReadsAs _ _ _ _ _ ∧ Go.SL.look _ _ = some x ∧ _
                have hres := withT_at (x := x) hp0 hok hch hkz
                rw [dif_neg hnat, if_pos (by omega)] at hres
                rw [hres]
                refine ⟨.inr rfl, _, tabV 0 none 0 0, .int .i64 7, rfl, tab_read (E := 45) (List.mem_flatten.2 ⟨_, .tail _ (.head _), List.mem_singleton.2 rfl⟩), rfl, _, Sub.nilL (Sub.drop (Sub.drop (Sub.drop (Sub.drop (Sub.drop (Sub.refl _)))))), none, 0, [], rfl, rfl, SlV.nil 56 3⟩
              · try simp only [decide_eq_true_eq, decide_eq_false_iff_not, beq_iff_eq, bne_iff_ne, beq_eq_false_iff_ne, bne_eq_false_iff_eq, Bool.not_eq_true', Bool.not_eq_false', Bool.not_eq_true, ne_eq, Decidable.not_not] at c60
                refine PW.skip ?_
                refine hK5 _ _ ?_
                refine PW.keep (T' := [(3, _), (4, _), (5, _), (6, _), (8, _), (9, _)]) ⟨rfl, rfl, rfl, rfl, rfl, rfl, trivial⟩ ?_
                refine PW.seq fun K6 hK6 => ?_
                refine PW.quietRNK (base := [(r6, .cells [.int .i64 0, .slice none 0 0] 45 2)] :: lseg r5 x :: [(r4, .cells [.string at_] 9 1)] :: tseg r3 tv A l.length c :: S) Tryd.mixed (Over.refl _).cons ?_
                refine QN.det trivial (fun Sx hSx => Yields.pure rfl) ?_
                refine QN.det trivial (fun Sx hSx => Yields.ld rfl (own_at (j := 0) (c := [.int .i64 tv, .slice A l.length c]) (E := 45) (tot := 2) (hSx _ (List.mem_flatten.2 ⟨_, .tail _ (.tail _ (.tail _ (.head _))), List.mem_singleton.2 rfl⟩)) rfl)) ?_
                refine QN.det trivial (fun Sx hSx => Yields.add64 rfl rfl (by omega) (by omega)) ?_
                refine QN.det trivial (fun Sx hSx => Yields.pure rfl) ?_
                refine QN.det trivial (fun Sx hSx => Yields.pure rfl) ?_
                refine QN.det trivial (fun Sx hSx => Yields.ld rfl (own_at (j := 0) (c := [.string at_]) (E := 9) (tot := 1) (hSx _ (List.mem_flatten.2 ⟨_, .tail _ (.tail _ (.head _)), List.mem_singleton.2 rfl⟩)) rfl)) ?_
                refine QN.det trivial (fun Sx hSx => Yields.ldA rfl rfl (lab_at (a := x) (r := r5) (hSx _ (List.mem_flatten.2 ⟨_, .tail _ (.head _), List.mem_singleton.2 rfl⟩)))) ?_
                refine QN.det trivial (fun Sx hSx => Yields.build rfl) ?_
                refine QN.hole ?_
                refine QN.hole ?_
                refine QN.nil ⟨rfl, rfl, ordB_of (hp := [8, 9]) rfl (by decide), ?_⟩
                refine ⟨rfl, OW.mono (OW.bsl rfl) ?_⟩
                rintro _ _ ⟨r70, rfl, rfl⟩
                refine ⟨(Over.refl _).cons.cons, ?_⟩
                refine ⟨rfl, OW.mono (OW.call rfl (insert_fc (x := (at_, x)) hsl8 hkle hl)) ?_⟩
                rintro v71 _ ⟨seg71, rfl, hsl71⟩
                obtain ⟨A71, c71, rfl, hc71, _⟩ := slv_rdL (w0 := w0) hsl71
                refine ⟨(Over.refl _).cons, ?_⟩
                change OL _ _ _ [_, _, _] _ _ _
                refine OL.det trivial (Yields.build rfl) ?_
                refine OL.cons trivial (OW.st (k := 1) (u := tabV (tv + 1) A71 (l.length + 1) c71) rfl rfl rfl rfl (Nat.le_refl 2) rfl) ?_
                rintro _ _ rfl
                change OL _ _ _ _ _ (seg71 :: [(r6, .cells [.int .i64 (tv + 1), .slice A71 (l.length + 1) c71] 45 2)] :: lseg r5 x :: [(r4, .cells [.string at_] 9 1)] :: tseg r3 tv A l.length c :: S) _
                refine OL.det trivial (Yields.pure rfl) ?_
                refine OL.nil ?_
                refine hK6 _ _ ?_
                refine PW.keep (T' := [(6, _), (7, _)]) ⟨rfl, rfl, trivial⟩ ?_
                refine PW.ret ?_
                change (Exit.ret = Exit.normal ∨ Exit.ret = Exit.ret) ∧ ∃ a v x, Go.SL.look _ _ = some (.pointer (some a)) ∧ ReadsAs _ _ _ _ _ ∧ Go.SL.look _ _ = some x ∧ _
                have hres := withT_at (x := x) hp0 hok hch hkz
                rw [dif_neg hnat, if_neg (by omega)] at hres
                rw [hres]
                have hls := insL_len hkle (at_, x)
                refine ⟨.inr rfl, _, tabV (tv + 1) A71 (l.length + 1) c71, .int .i64 0, rfl, tab_read (E := 45) (List.mem_flatten.2 ⟨_, .tail _ (.head _), List.mem_singleton.2 rfl⟩), rfl, _, Sub.cons (Sub.drop (Sub.drop (Sub.drop (Sub.drop (Sub.refl _))))), A71, c71, seg71, by simp only [hls], rfl, ?_⟩
                simp only [hls]
                exact hsl71
          · try simp only [decide_eq_true_eq, decide_eq_false_iff_not, beq_iff_eq, bne_iff_ne, beq_eq_false_iff_ne, bne_eq_false_iff_eq, Bool.not_eq_true', Bool.not_eq_false', Bool.not_eq_true, ne_eq, Decidable.not_not] at g39
            have hnat : ¬ (kf < l.length ∧ l[kf]!.1 = at_) := fun h => by omega
            refine QK.off rfl rfl ?_
            refine QK.off rfl rfl ?_
            refine QK.off rfl rfl ?_
            refine QK.off rfl rfl ?_
            refine QK.off rfl rfl ?_
            refine QK.off rfl rfl ?_
            refine QK.nil ?_
            change OL _ _ _ [_, _] _ _ _
            refine OL.off rfl rfl ?_
            refine OL.det trivial (Yields.pure rfl) ?_
            refine OL.nil ?_
            refine hK4 _ _ ?_
            refine PW.keep (T' := [(3, _), (4, _), (5, _), (6, _), (8, _), (9, _), (47, _)]) ⟨rfl, rfl, rfl, rfl, rfl, rfl, rfl, trivial⟩ ?_
            refine PW.ite (b := false) rfl ?_
            rw [if_neg Bool.false_ne_true]
            refine PW.skip ?_
            refine hK3 _ _ ?_
            refine PW.keep (T' := [(3, _), (4, _), (5, _), (6, _), (8, _), (9, _)]) ⟨rfl, rfl, rfl, rfl, rfl, rfl, trivial⟩ ?_
            refine PW.seq fun K7 hK7 => ?_
            refine PW.seqOps ?_
            refine OL.det trivial (Yields.pure rfl) ?_
            refine OL.det trivial (Yields.pure rfl) ?_
            refine OL.det trivial (Yields.pure rfl) ?_
            refine OL.nil ?_
            refine PW.keep (T' := [(3, _), (4, _), (5, _), (6, _), (8, _), (9, _), (60, _)]) ⟨rfl, rfl, rfl, rfl, rfl, rfl, rfl, trivial⟩ ?_
            refine PW.cond rfl (fun c60 => ?_) (fun c60 => ?_)
            · try simp only [decide_eq_true_eq, decide_eq_false_iff_not, beq_iff_eq, bne_iff_ne, beq_eq_false_iff_ne, bne_eq_false_iff_eq, Bool.not_eq_true', Bool.not_eq_false', Bool.not_eq_true, ne_eq, Decidable.not_not] at c60
              refine PW.seqOps ?_
              refine OL.det trivial (Yields.build rfl) ?_
              refine OL.cons trivial (OW.st (k := 1) (u := tabV 0 none 0 0) rfl rfl rfl rfl (Nat.le_refl 2) rfl) ?_
              rintro _ _ rfl
              change OL _ _ _ _ _ (seg8 :: [(r6, .cells [.int .i64 0, .slice none 0 0] 45 2)] :: lseg r5 x :: [(r4, .cells [.string at_] 9 1)] :: tseg r3 tv A l.length c :: S) _
              refine OL.det trivial (Yields.pure rfl) ?_
              refine OL.nil ?_
              refine PW.keep (T' := [(6, _), (7, _)]) ⟨rfl, rfl, trivial⟩ ?_
              refine PW.ret ?_
              change (Exit.ret = Exit.normal ∨ Exit.ret = Exit.ret) ∧ ∃ a v x, Go.SL.look _ _ = some (.pointer (some a)) ∧ ReadsAs _ _ _ _ _ ∧ Go.SL.look _ _ = some x ∧ _
              have hres := withT_at (x := x) hp0 hok hch hkz
              rw [dif_neg hnat, if_pos (by omega)] at hres
              rw [hres]
              refine ⟨.inr rfl, _, tabV 0 none 0 0, .int .i64 7, rfl, tab_read (E := 45) (List.mem_flatten.2 ⟨_, .tail _ (.head _), List.mem_singleton.2 rfl⟩), rfl, _, Sub.nilL (Sub.drop (Sub.drop (Sub.drop (Sub.drop (Sub.drop (Sub.refl _)))))), none, 0, [], rfl, rfl, SlV.nil 56 3⟩
            · try simp only [decide_eq_true_eq, decide_eq_false_iff_not, beq_iff_eq, bne_iff_ne, beq_eq_false_iff_ne, bne_eq_false_iff_eq, Bool.not_eq_true', Bool.not_eq_false', Bool.not_eq_true, ne_eq, Decidable.not_not] at c60
              refine PW.skip ?_
              refine hK7 _ _ ?_
              refine PW.keep (T' := [(3, _), (4, _), (5, _), (6, _), (8, _), (9, _)]) ⟨rfl, rfl, rfl, rfl, rfl, rfl, trivial⟩ ?_
              refine PW.seq fun K8 hK8 => ?_
              refine PW.quietRNK (base := [(r6, .cells [.int .i64 0, .slice none 0 0] 45 2)] :: lseg r5 x :: [(r4, .cells [.string at_] 9 1)] :: tseg r3 tv A l.length c :: S) Tryd.mixed (Over.refl _).cons ?_
              refine QN.det trivial (fun Sx hSx => Yields.pure rfl) ?_
              refine QN.det trivial (fun Sx hSx => Yields.ld rfl (own_at (j := 0) (c := [.int .i64 tv, .slice A l.length c]) (E := 45) (tot := 2) (hSx _ (List.mem_flatten.2 ⟨_, .tail _ (.tail _ (.tail _ (.head _))), List.mem_singleton.2 rfl⟩)) rfl)) ?_
              refine QN.det trivial (fun Sx hSx => Yields.add64 rfl rfl (by omega) (by omega)) ?_
              refine QN.det trivial (fun Sx hSx => Yields.pure rfl) ?_
              refine QN.det trivial (fun Sx hSx => Yields.pure rfl) ?_
              refine QN.det trivial (fun Sx hSx => Yields.ld rfl (own_at (j := 0) (c := [.string at_]) (E := 9) (tot := 1) (hSx _ (List.mem_flatten.2 ⟨_, .tail _ (.tail _ (.head _)), List.mem_singleton.2 rfl⟩)) rfl)) ?_
              refine QN.det trivial (fun Sx hSx => Yields.ldA rfl rfl (lab_at (a := x) (r := r5) (hSx _ (List.mem_flatten.2 ⟨_, .tail _ (.head _), List.mem_singleton.2 rfl⟩)))) ?_
              refine QN.det trivial (fun Sx hSx => Yields.build rfl) ?_
              refine QN.hole ?_
              refine QN.hole ?_
              refine QN.nil ⟨rfl, rfl, ordB_of (hp := [8, 9]) rfl (by decide), ?_⟩
              refine ⟨rfl, OW.mono (OW.bsl rfl) ?_⟩
              rintro _ _ ⟨r70, rfl, rfl⟩
              refine ⟨(Over.refl _).cons.cons, ?_⟩
              refine ⟨rfl, OW.mono (OW.call rfl (insert_fc (x := (at_, x)) hsl8 hkle hl)) ?_⟩
              rintro v71 _ ⟨seg71, rfl, hsl71⟩
              obtain ⟨A71, c71, rfl, hc71, _⟩ := slv_rdL (w0 := w0) hsl71
              refine ⟨(Over.refl _).cons, ?_⟩
              change OL _ _ _ [_, _, _] _ _ _
              refine OL.det trivial (Yields.build rfl) ?_
              refine OL.cons trivial (OW.st (k := 1) (u := tabV (tv + 1) A71 (l.length + 1) c71) rfl rfl rfl rfl (Nat.le_refl 2) rfl) ?_
              rintro _ _ rfl
              change OL _ _ _ _ _ (seg71 :: [(r6, .cells [.int .i64 (tv + 1), .slice A71 (l.length + 1) c71] 45 2)] :: lseg r5 x :: [(r4, .cells [.string at_] 9 1)] :: tseg r3 tv A l.length c :: S) _
              refine OL.det trivial (Yields.pure rfl) ?_
              refine OL.nil ?_
              refine hK8 _ _ ?_
              refine PW.keep (T' := [(6, _), (7, _)]) ⟨rfl, rfl, trivial⟩ ?_
              refine PW.ret ?_
              change (Exit.ret = Exit.normal ∨ Exit.ret = Exit.ret) ∧ ∃ a v x, Go.SL.look _ _ = some (.pointer (some a)) ∧ ReadsAs _ _ _ _ _ ∧ Go.SL.look _ _ = some x ∧ _
              have hres := withT_at (x := x) hp0 hok hch hkz
              rw [dif_neg hnat, if_neg (by omega)] at hres
              rw [hres]
              have hls := insL_len hkle (at_, x)
              refine ⟨.inr rfl, _, tabV (tv + 1) A71 (l.length + 1) c71, .int .i64 0, rfl, tab_read (E := 45) (List.mem_flatten.2 ⟨_, .tail _ (.head _), List.mem_singleton.2 rfl⟩), rfl, _, Sub.cons (Sub.drop (Sub.drop (Sub.drop (Sub.drop (Sub.refl _))))), A71, c71, seg71, by simp only [hls], rfl, ?_⟩
              simp only [hls]
              exact hsl71
        · try simp only [decide_eq_true_eq, decide_eq_false_iff_not, beq_iff_eq, bne_iff_ne, beq_eq_false_iff_ne, bne_eq_false_iff_eq, Bool.not_eq_true', Bool.not_eq_false', Bool.not_eq_true, ne_eq, Decidable.not_not] at c32
          rw [show idxZ (geL at_) l = (kf : Int) from by rcases hkz with h | h <;> omega]
          refine PW.skip ?_
          refine hK2 _ _ ?_
          refine PW.keep (T' := [(3, _), (4, _), (5, _), (6, _), (8, _), (9, _)]) ⟨rfl, rfl, rfl, rfl, rfl, rfl, trivial⟩ ?_
          refine PW.seq fun K9 hK9 => ?_
          refine PW.seq fun K10 hK10 => ?_
          refine PW.quietK Tryd.mixed ?_
          refine QK.det trivial (Yields.pure rfl) ?_
          refine QK.det trivial (Yields.pure rfl) ?_
          refine QK.det trivial (Yields.pure rfl) ?_
          refine QK.det trivial (Yields.pure rfl) ?_
          refine QK.bool trivial (Yields.pure rfl) (fun g39 => ?_) (fun g39 => ?_)
          · try simp only [decide_eq_true_eq, decide_eq_false_iff_not, beq_iff_eq, bne_iff_ne, beq_eq_false_iff_ne, bne_eq_false_iff_eq, Bool.not_eq_true', Bool.not_eq_false', Bool.not_eq_true, ne_eq, Decidable.not_not] at g39
            have hkl : kf < l.length := by omega
            obtain ⟨a8, rfl⟩ := ruls_some (hrd8 []) (by omega)
            refine QK.det rfl (Yields.pure rfl) ?_
            refine QK.det rfl (Yields.pure rfl) ?_
            refine QK.det rfl (Yields.ixN rfl rfl rfl (by omega)) ?_
            refine QK.det rfl (Yields.pure rfl) ?_
            refine QK.det rfl (Yields.ld rfl (rule_at (hrd8 _) hkl 0 _ rfl)) ?_
            refine QK.det rfl (Yields.ld rfl (own_at (j := 0) (c := [.string at_]) (E := 9) (tot := 1) (List.mem_flatten.2 ⟨_, .tail _ (.tail _ (.tail _ (.head _))), List.mem_singleton.2 rfl⟩) rfl)) ?_
            refine QK.nil ?_
            change OL _ _ _ [_, _] _ _ _
            refine OL.det rfl (Yields.pure rfl) ?_
            refine OL.det trivial (Yields.pure rfl) ?_
            refine OL.nil ?_
            refine hK10 _ _ ?_
            refine PW.keep (T' := [(3, _), (4, _), (5, _), (6, _), (8, _), (9, _), (47, _)]) ⟨rfl, rfl, rfl, rfl, rfl, rfl, rfl, trivial⟩ ?_
            refine PW.cond rfl (fun c47 => ?_) (fun c47 => ?_)
            · try simp only [decide_eq_true_eq, decide_eq_false_iff_not, beq_iff_eq, bne_iff_ne, beq_eq_false_iff_ne, bne_eq_false_iff_eq, Bool.not_eq_true', Bool.not_eq_false', Bool.not_eq_true, ne_eq, Decidable.not_not] at c47
              rw [toL_inj] at c47
              obtain ⟨r8, c8n, e8, rfl, hc8, hm8⟩ := slv_nil_len hsl8 (by omega)
              obtain ⟨rfl, rfl⟩ : a8 = ⟨r8, 0, none⟩ ∧ c8 = c8n := by cases e8; exact ⟨rfl, rfl⟩
              refine PW.seqOps ?_
              refine OL.det trivial (Yields.pure rfl) ?_
              refine OL.det trivial (Yields.pure rfl) ?_
              refine OL.det trivial (Yields.ldA rfl rfl (lab_at (a := x) (r := r5) (List.mem_flatten.2 ⟨_, .tail _ (.tail _ (.head _)), List.mem_singleton.2 rfl⟩))) ?_
              refine OL.det trivial (Yields.ixO rfl rfl rfl (by omega)) ?_
              refine OL.det trivial (Yields.pure rfl) ?_
              refine OL.cons trivial (OW.st (k := 0) (c := ruls l) (u := labB x) rfl rfl rfl rfl (by rw [ruls_len]; show kf * 3 + 1 + 2 ≤ _; omega) rfl) ?_
              rintro _ _ rfl
              change OL _ _ _ _ _ ([(r8, .cells (setAt (ruls l) (kf * 3 + 1) [.int .i64 x.1, .int .u64 (x.2.toNat : Int)]) 56 (c8 * 3))] :: [(r6, .cells [.int .i64 0, .slice none 0 0] 45 2)] :: lseg r5 x :: [(r4, .cells [.string at_] 9 1)] :: tseg r3 tv A l.length c :: S) _
              rw [ruls_setlab hkl, c47]
              have hsl9 : SlV 56 3 (.slice (some ⟨r8, 0, none⟩) l.length c8) l.length (ruls (l.set kf (at_, x))) [(r8, .cells (ruls (l.set kf (at_, x))) 56 (c8 * 3))] := SlV.mk' (by rw [ruls_len]; simp) hc8 hm8
              refine OL.nil ?_
              refine PW.keep (T' := [(3, _), (6, _), (8, _)]) ⟨rfl, rfl, rfl, trivial⟩ ?_
              refine PW.seqOps ?_
              refine OL.det trivial (Yields.pure rfl) ?_
              refine OL.det trivial (Yields.ld rfl (own_at (j := 0) (c := [.int .i64 tv, .slice A l.length c]) (E := 45) (tot := 2) (List.mem_flatten.2 ⟨_, .tail _ (.tail _ (.tail _ (.tail _ (.head _)))), List.mem_singleton.2 rfl⟩) rfl)) ?_
              refine OL.det trivial (Yields.add64 rfl rfl (by omega) (by omega)) ?_
              refine OL.det trivial (Yields.pure rfl) ?_
              refine OL.det trivial (Yields.build rfl) ?_
              refine OL.cons trivial (OW.st (k := 1) (u := tabV (tv + 1) (some ⟨r8, 0, none⟩) l.length c8) rfl rfl rfl rfl (Nat.le_refl 2) rfl) ?_
              rintro _ _ rfl
              change OL _ _ _ _ _ ([(r8, .cells (ruls (l.set kf (at_, x))) 56 (c8 * 3))] :: [(r6, .cells [.int .i64 (tv + 1), .slice (some ⟨r8, 0, none⟩) l.length c8] 45 2)] :: lseg r5 x :: [(r4, .cells [.string at_] 9 1)] :: tseg r3 tv A l.length c :: S) _
              refine OL.det trivial (Yields.pure rfl) ?_
              refine OL.nil ?_
              refine PW.keep (T' := [(6, _), (7, _)]) ⟨rfl, rfl, trivial⟩ ?_
              refine PW.ret ?_
              change (Exit.ret = Exit.normal ∨ Exit.ret = Exit.ret) ∧ ∃ a v x, Go.SL.look _ _ = some (.pointer (some a)) ∧ ReadsAs _ _ _ _ _ ∧ Go.SL.look _ _ = some x ∧ _
              have hres := withT_at (x := x) hp0 hok hch hkz
              rw [dif_pos ⟨hkl, by rw [getElem!_pos l kf hkl]; exact c47⟩] at hres
              rw [hres]
              have hls : (l.set kf (at_, x)).length = l.length := by simp
              refine ⟨.inr rfl, _, tabV (tv + 1) (some ⟨r8, 0, none⟩) l.length c8, .int .i64 0, rfl, tab_read (E := 45) (List.mem_flatten.2 ⟨_, .tail _ (.head _), List.mem_singleton.2 rfl⟩), rfl, _, Sub.cons (Sub.drop (Sub.drop (Sub.drop (Sub.drop (Sub.refl _))))), some ⟨r8, 0, none⟩, c8, _, by simp only [hls], rfl, ?_⟩
              simp only [hls]
              exact hsl9
            · try simp only [decide_eq_true_eq, decide_eq_false_iff_not, beq_iff_eq, bne_iff_ne, beq_eq_false_iff_ne, bne_eq_false_iff_eq, Bool.not_eq_true', Bool.not_eq_false', Bool.not_eq_true, ne_eq, Decidable.not_not] at c47
              have hnat : ¬ (kf < l.length ∧ l[kf]!.1 = at_) := fun h => c47 (toL_inj.2 (by rw [← getElem!_pos l kf hkl]; exact h.2))
              refine PW.skip ?_
              refine hK9 _ _ ?_
              refine PW.keep (T' := [(3, _), (4, _), (5, _), (6, _), (8, _), (9, _)]) ⟨rfl, rfl, rfl, rfl, rfl, rfl, trivial⟩ ?_
              refine PW.seq fun K11 hK11 => ?_
              refine PW.seqOps ?_
              refine OL.det trivial (Yields.pure rfl) ?_
              refine OL.det trivial (Yields.pure rfl) ?_
              refine OL.det trivial (Yields.pure rfl) ?_
              refine OL.nil ?_
              refine PW.keep (T' := [(3, _), (4, _), (5, _), (6, _), (8, _), (9, _), (60, _)]) ⟨rfl, rfl, rfl, rfl, rfl, rfl, rfl, trivial⟩ ?_
              refine PW.cond rfl (fun c60 => ?_) (fun c60 => ?_)
              · try simp only [decide_eq_true_eq, decide_eq_false_iff_not, beq_iff_eq, bne_iff_ne, beq_eq_false_iff_ne, bne_eq_false_iff_eq, Bool.not_eq_true', Bool.not_eq_false', Bool.not_eq_true, ne_eq, Decidable.not_not] at c60
                refine PW.seqOps ?_
                refine OL.det trivial (Yields.build rfl) ?_
                refine OL.cons trivial (OW.st (k := 1) (u := tabV 0 none 0 0) rfl rfl rfl rfl (Nat.le_refl 2) rfl) ?_
                rintro _ _ rfl
                change OL _ _ _ _ _ (seg8 :: [(r6, .cells [.int .i64 0, .slice none 0 0] 45 2)] :: lseg r5 x :: [(r4, .cells [.string at_] 9 1)] :: tseg r3 tv A l.length c :: S) _
                refine OL.det trivial (Yields.pure rfl) ?_
                refine OL.nil ?_
                refine PW.keep (T' := [(6, _), (7, _)]) ⟨rfl, rfl, trivial⟩ ?_
                refine PW.ret ?_
                change (Exit.ret = Exit.normal ∨ Exit.ret = Exit.ret) ∧ ∃ a v x, Go.SL.look _ _ = some (.pointer (some a)) ∧ ReadsAs _ _ _ _ _ ∧ Go.SL.look _ _ = some x ∧ _
                have hres := withT_at (x := x) hp0 hok hch hkz
                rw [dif_neg hnat, if_pos (by omega)] at hres
                rw [hres]
                refine ⟨.inr rfl, _, tabV 0 none 0 0, .int .i64 7, rfl, tab_read (E := 45) (List.mem_flatten.2 ⟨_, .tail _ (.head _), List.mem_singleton.2 rfl⟩), rfl, _, Sub.nilL (Sub.drop (Sub.drop (Sub.drop (Sub.drop (Sub.drop (Sub.refl _)))))), none, 0, [], rfl, rfl, SlV.nil 56 3⟩
              · try simp only [decide_eq_true_eq, decide_eq_false_iff_not, beq_iff_eq, bne_iff_ne, beq_eq_false_iff_ne, bne_eq_false_iff_eq, Bool.not_eq_true', Bool.not_eq_false', Bool.not_eq_true, ne_eq, Decidable.not_not] at c60
                refine PW.skip ?_
                refine hK11 _ _ ?_
                refine PW.keep (T' := [(3, _), (4, _), (5, _), (6, _), (8, _), (9, _)]) ⟨rfl, rfl, rfl, rfl, rfl, rfl, trivial⟩ ?_
                refine PW.seq fun K12 hK12 => ?_
                refine PW.quietRNK (base := [(r6, .cells [.int .i64 0, .slice none 0 0] 45 2)] :: lseg r5 x :: [(r4, .cells [.string at_] 9 1)] :: tseg r3 tv A l.length c :: S) Tryd.mixed (Over.refl _).cons ?_
                refine QN.det trivial (fun Sx hSx => Yields.pure rfl) ?_
                refine QN.det trivial (fun Sx hSx => Yields.ld rfl (own_at (j := 0) (c := [.int .i64 tv, .slice A l.length c]) (E := 45) (tot := 2) (hSx _ (List.mem_flatten.2 ⟨_, .tail _ (.tail _ (.tail _ (.head _))), List.mem_singleton.2 rfl⟩)) rfl)) ?_
                refine QN.det trivial (fun Sx hSx => Yields.add64 rfl rfl (by omega) (by omega)) ?_
                refine QN.det trivial (fun Sx hSx => Yields.pure rfl) ?_
                refine QN.det trivial (fun Sx hSx => Yields.pure rfl) ?_
                refine QN.det trivial (fun Sx hSx => Yields.ld rfl (own_at (j := 0) (c := [.string at_]) (E := 9) (tot := 1) (hSx _ (List.mem_flatten.2 ⟨_, .tail _ (.tail _ (.head _)), List.mem_singleton.2 rfl⟩)) rfl)) ?_
                refine QN.det trivial (fun Sx hSx => Yields.ldA rfl rfl (lab_at (a := x) (r := r5) (hSx _ (List.mem_flatten.2 ⟨_, .tail _ (.head _), List.mem_singleton.2 rfl⟩)))) ?_
                refine QN.det trivial (fun Sx hSx => Yields.build rfl) ?_
                refine QN.hole ?_
                refine QN.hole ?_
                refine QN.nil ⟨rfl, rfl, ordB_of (hp := [8, 9]) rfl (by decide), ?_⟩
                refine ⟨rfl, OW.mono (OW.bsl rfl) ?_⟩
                rintro _ _ ⟨r70, rfl, rfl⟩
                refine ⟨(Over.refl _).cons.cons, ?_⟩
                refine ⟨rfl, OW.mono (OW.call rfl (insert_fc (x := (at_, x)) hsl8 hkle hl)) ?_⟩
                rintro v71 _ ⟨seg71, rfl, hsl71⟩
                obtain ⟨A71, c71, rfl, hc71, _⟩ := slv_rdL (w0 := w0) hsl71
                refine ⟨(Over.refl _).cons, ?_⟩
                change OL _ _ _ [_, _, _] _ _ _
                refine OL.det trivial (Yields.build rfl) ?_
                refine OL.cons trivial (OW.st (k := 1) (u := tabV (tv + 1) A71 (l.length + 1) c71) rfl rfl rfl rfl (Nat.le_refl 2) rfl) ?_
                rintro _ _ rfl
                change OL _ _ _ _ _ (seg71 :: [(r6, .cells [.int .i64 (tv + 1), .slice A71 (l.length + 1) c71] 45 2)] :: lseg r5 x :: [(r4, .cells [.string at_] 9 1)] :: tseg r3 tv A l.length c :: S) _
                refine OL.det trivial (Yields.pure rfl) ?_
                refine OL.nil ?_
                refine hK12 _ _ ?_
                refine PW.keep (T' := [(6, _), (7, _)]) ⟨rfl, rfl, trivial⟩ ?_
                refine PW.ret ?_
                change (Exit.ret = Exit.normal ∨ Exit.ret = Exit.ret) ∧ ∃ a v x, Go.SL.look _ _ = some (.pointer (some a)) ∧ ReadsAs _ _ _ _ _ ∧ Go.SL.look _ _ = some x ∧ _
                have hres := withT_at (x := x) hp0 hok hch hkz
                rw [dif_neg hnat, if_neg (by omega)] at hres
                rw [hres]
                have hls := insL_len hkle (at_, x)
                refine ⟨.inr rfl, _, tabV (tv + 1) A71 (l.length + 1) c71, .int .i64 0, rfl, tab_read (E := 45) (List.mem_flatten.2 ⟨_, .tail _ (.head _), List.mem_singleton.2 rfl⟩), rfl, _, Sub.cons (Sub.drop (Sub.drop (Sub.drop (Sub.drop (Sub.refl _))))), A71, c71, seg71, by simp only [hls], rfl, ?_⟩
                simp only [hls]
                exact hsl71
          · try simp only [decide_eq_true_eq, decide_eq_false_iff_not, beq_iff_eq, bne_iff_ne, beq_eq_false_iff_ne, bne_eq_false_iff_eq, Bool.not_eq_true', Bool.not_eq_false', Bool.not_eq_true, ne_eq, Decidable.not_not] at g39
            have hnat : ¬ (kf < l.length ∧ l[kf]!.1 = at_) := fun h => by omega
            refine QK.off rfl rfl ?_
            refine QK.off rfl rfl ?_
            refine QK.off rfl rfl ?_
            refine QK.off rfl rfl ?_
            refine QK.off rfl rfl ?_
            refine QK.off rfl rfl ?_
            refine QK.nil ?_
            change OL _ _ _ [_, _] _ _ _
            refine OL.off rfl rfl ?_
            refine OL.det trivial (Yields.pure rfl) ?_
            refine OL.nil ?_
            refine hK10 _ _ ?_
            refine PW.keep (T' := [(3, _), (4, _), (5, _), (6, _), (8, _), (9, _), (47, _)]) ⟨rfl, rfl, rfl, rfl, rfl, rfl, rfl, trivial⟩ ?_
            refine PW.ite (b := false) rfl ?_
            rw [if_neg Bool.false_ne_true]
            refine PW.skip ?_
            refine hK9 _ _ ?_
            refine PW.keep (T' := [(3, _), (4, _), (5, _), (6, _), (8, _), (9, _)]) ⟨rfl, rfl, rfl, rfl, rfl, rfl, trivial⟩ ?_
            refine PW.seq fun K13 hK13 => ?_
            refine PW.seqOps ?_
            refine OL.det trivial (Yields.pure rfl) ?_
            refine OL.det trivial (Yields.pure rfl) ?_
            refine OL.det trivial (Yields.pure rfl) ?_
            refine OL.nil ?_
            refine PW.keep (T' := [(3, _), (4, _), (5, _), (6, _), (8, _), (9, _), (60, _)]) ⟨rfl, rfl, rfl, rfl, rfl, rfl, rfl, trivial⟩ ?_
            refine PW.cond rfl (fun c60 => ?_) (fun c60 => ?_)
            · try simp only [decide_eq_true_eq, decide_eq_false_iff_not, beq_iff_eq, bne_iff_ne, beq_eq_false_iff_ne, bne_eq_false_iff_eq, Bool.not_eq_true', Bool.not_eq_false', Bool.not_eq_true, ne_eq, Decidable.not_not] at c60
              refine PW.seqOps ?_
              refine OL.det trivial (Yields.build rfl) ?_
              refine OL.cons trivial (OW.st (k := 1) (u := tabV 0 none 0 0) rfl rfl rfl rfl (Nat.le_refl 2) rfl) ?_
              rintro _ _ rfl
              change OL _ _ _ _ _ (seg8 :: [(r6, .cells [.int .i64 0, .slice none 0 0] 45 2)] :: lseg r5 x :: [(r4, .cells [.string at_] 9 1)] :: tseg r3 tv A l.length c :: S) _
              refine OL.det trivial (Yields.pure rfl) ?_
              refine OL.nil ?_
              refine PW.keep (T' := [(6, _), (7, _)]) ⟨rfl, rfl, trivial⟩ ?_
              refine PW.ret ?_
              change (Exit.ret = Exit.normal ∨ Exit.ret = Exit.ret) ∧ ∃ a v x, Go.SL.look _ _ = some (.pointer (some a)) ∧ ReadsAs _ _ _ _ _ ∧ Go.SL.look _ _ = some x ∧ _
              have hres := withT_at (x := x) hp0 hok hch hkz
              rw [dif_neg hnat, if_pos (by omega)] at hres
              rw [hres]
              refine ⟨.inr rfl, _, tabV 0 none 0 0, .int .i64 7, rfl, tab_read (E := 45) (List.mem_flatten.2 ⟨_, .tail _ (.head _), List.mem_singleton.2 rfl⟩), rfl, _, Sub.nilL (Sub.drop (Sub.drop (Sub.drop (Sub.drop (Sub.drop (Sub.refl _)))))), none, 0, [], rfl, rfl, SlV.nil 56 3⟩
            · try simp only [decide_eq_true_eq, decide_eq_false_iff_not, beq_iff_eq, bne_iff_ne, beq_eq_false_iff_ne, bne_eq_false_iff_eq, Bool.not_eq_true', Bool.not_eq_false', Bool.not_eq_true, ne_eq, Decidable.not_not] at c60
              refine PW.skip ?_
              refine hK13 _ _ ?_
              refine PW.keep (T' := [(3, _), (4, _), (5, _), (6, _), (8, _), (9, _)]) ⟨rfl, rfl, rfl, rfl, rfl, rfl, trivial⟩ ?_
              refine PW.seq fun K14 hK14 => ?_
              refine PW.quietRNK (base := [(r6, .cells [.int .i64 0, .slice none 0 0] 45 2)] :: lseg r5 x :: [(r4, .cells [.string at_] 9 1)] :: tseg r3 tv A l.length c :: S) Tryd.mixed (Over.refl _).cons ?_
              refine QN.det trivial (fun Sx hSx => Yields.pure rfl) ?_
              refine QN.det trivial (fun Sx hSx => Yields.ld rfl (own_at (j := 0) (c := [.int .i64 tv, .slice A l.length c]) (E := 45) (tot := 2) (hSx _ (List.mem_flatten.2 ⟨_, .tail _ (.tail _ (.tail _ (.head _))), List.mem_singleton.2 rfl⟩)) rfl)) ?_
              refine QN.det trivial (fun Sx hSx => Yields.add64 rfl rfl (by omega) (by omega)) ?_
              refine QN.det trivial (fun Sx hSx => Yields.pure rfl) ?_
              refine QN.det trivial (fun Sx hSx => Yields.pure rfl) ?_
              refine QN.det trivial (fun Sx hSx => Yields.ld rfl (own_at (j := 0) (c := [.string at_]) (E := 9) (tot := 1) (hSx _ (List.mem_flatten.2 ⟨_, .tail _ (.tail _ (.head _)), List.mem_singleton.2 rfl⟩)) rfl)) ?_
              refine QN.det trivial (fun Sx hSx => Yields.ldA rfl rfl (lab_at (a := x) (r := r5) (hSx _ (List.mem_flatten.2 ⟨_, .tail _ (.head _), List.mem_singleton.2 rfl⟩)))) ?_
              refine QN.det trivial (fun Sx hSx => Yields.build rfl) ?_
              refine QN.hole ?_
              refine QN.hole ?_
              refine QN.nil ⟨rfl, rfl, ordB_of (hp := [8, 9]) rfl (by decide), ?_⟩
              refine ⟨rfl, OW.mono (OW.bsl rfl) ?_⟩
              rintro _ _ ⟨r70, rfl, rfl⟩
              refine ⟨(Over.refl _).cons.cons, ?_⟩
              refine ⟨rfl, OW.mono (OW.call rfl (insert_fc (x := (at_, x)) hsl8 hkle hl)) ?_⟩
              rintro v71 _ ⟨seg71, rfl, hsl71⟩
              obtain ⟨A71, c71, rfl, hc71, _⟩ := slv_rdL (w0 := w0) hsl71
              refine ⟨(Over.refl _).cons, ?_⟩
              change OL _ _ _ [_, _, _] _ _ _
              refine OL.det trivial (Yields.build rfl) ?_
              refine OL.cons trivial (OW.st (k := 1) (u := tabV (tv + 1) A71 (l.length + 1) c71) rfl rfl rfl rfl (Nat.le_refl 2) rfl) ?_
              rintro _ _ rfl
              change OL _ _ _ _ _ (seg71 :: [(r6, .cells [.int .i64 (tv + 1), .slice A71 (l.length + 1) c71] 45 2)] :: lseg r5 x :: [(r4, .cells [.string at_] 9 1)] :: tseg r3 tv A l.length c :: S) _
              refine OL.det trivial (Yields.pure rfl) ?_
              refine OL.nil ?_
              refine hK14 _ _ ?_
              refine PW.keep (T' := [(6, _), (7, _)]) ⟨rfl, rfl, trivial⟩ ?_
              refine PW.ret ?_
              change (Exit.ret = Exit.normal ∨ Exit.ret = Exit.ret) ∧ ∃ a v x, Go.SL.look _ _ = some (.pointer (some a)) ∧ ReadsAs _ _ _ _ _ ∧ Go.SL.look _ _ = some x ∧ _
              have hres := withT_at (x := x) hp0 hok hch hkz
              rw [dif_neg hnat, if_neg (by omega)] at hres
              rw [hres]
              have hls := insL_len hkle (at_, x)
              refine ⟨.inr rfl, _, tabV (tv + 1) A71 (l.length + 1) c71, .int .i64 0, rfl, tab_read (E := 45) (List.mem_flatten.2 ⟨_, .tail _ (.head _), List.mem_singleton.2 rfl⟩), rfl, _, Sub.cons (Sub.drop (Sub.drop (Sub.drop (Sub.drop (Sub.refl _))))), A71, c71, seg71, by simp only [hls], rfl, ?_⟩
              simp only [hls]
              exact hsl71
end Go.Proofs.Rl

set_option linter.unusedVariables false
set_option linter.unusedSimpArgs false
namespace Go.Proofs.Rl
open Go.SL Go.RowKit Go.Proofs Go.Proofs.Lb
set_option maxHeartbeats 1000000
end Go.Proofs.Rl

set_option linter.unusedVariables false
set_option linter.unusedSimpArgs false
namespace Go.Proofs.Rl
open Go.SL Go.RowKit Go.Proofs Go.Proofs.Lb
set_option maxHeartbeats 1000000
def Srt (l : List RuleB) : Prop := ∀ i j, i < j → (hj : j < l.length) → (hi : i < l.length) → ltB l[i].1 l[j].1 = true
theorem okAt_iff {l : List RuleB} : (List.range l.length).all (okAt l) = true ↔ Srt l ∧ ∀ i (h : i < l.length), prefB l[i].1 = true ∧ okL l[i].2 = true := by
  constructor
  · intro h
    have hi : ∀ i (h : i < l.length), (i = 0 ∨ ltB l[i - 1]!.1 l[i].1 = true) ∧ prefB l[i].1 = true ∧ okL l[i].2 = true := by
      intro i hlt
      have := List.all_eq_true.1 h i (List.mem_range.2 hlt)
      unfold okAt at this
      rw [getElem!_pos l i hlt] at this
      simp only [Bool.and_eq_true, Bool.or_eq_true, decide_eq_true_eq] at this
      exact ⟨this.1.1, this.1.2, this.2⟩
    refine ⟨?_, fun i h => (hi i h).2⟩
    intro i j hij hj hil
    induction j with
    | zero => omega
    | succ j ih =>
      have h1 := (hi (j + 1) hj).1.resolve_left (by omega)
      rw [show j + 1 - 1 = j from rfl, getElem!_pos l j (by omega)] at h1
      by_cases e : i = j
      · subst e; exact h1
      · exact lt_trans (ih (by omega) (by omega)) h1
  · rintro ⟨h1, h2⟩
    rw [List.all_eq_true]
    intro i hi
    have hlt := List.mem_range.1 hi
    unfold okAt
    rw [getElem!_pos l i hlt, (h2 i hlt).1, (h2 i hlt).2]
    by_cases e : i = 0
    · subst e; rfl
    · rw [getElem!_pos l (i - 1) (by omega), h1 (i - 1) i (by omega) hlt (by omega)]; simp
theorem chkT_ok {l : List RuleB} {tv : Int} (h : chkT l tv = 0) : l.length ≤ 32 ∧ (l.length : Int) ≤ tv ∧ Srt l ∧ ∀ i (h : i < l.length), prefB l[i].1 = true ∧ okL l[i].2 = true := by
  unfold chkT at h
  split at h
  · cases h
  · split at h
    · rename_i h1 h2
      obtain ⟨a, b⟩ := okAt_iff.1 h2
      exact ⟨by omega, by omega, a, b⟩
    · cases h
theorem with_len (l : List RuleB) (tv : Int) (a : ByteArray) (x : LabB) : (withT l tv a x).2.2.length ≤ l.length + 1 := by
  unfold withT
  split
  · simp
  · split
    · simp
    · split
      · rename_i k hk
        have hkl := (List.findIdx?_eq_some_iff_getElem.1 hk).1
        split
        · simp
        · split
          · simp
          · simp only []; rw [insL_len (by omega)]; omega
      · split
        · simp
        · simp only []; rw [insL_len (Nat.le_refl _)]; omega
end Go.Proofs.Rl
