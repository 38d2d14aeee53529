/- Operations on memory: slices, append, copy; all of them. -/
import Derived.Test.YtbidjnjbiibdeaaDoorE8
set_option linter.unusedVariables false
set_option linter.unusedSimpArgs false
namespace Go.SL
open Go.RowKit
section
variable {P : Program} {w0 : World} {n : Nat} {T Tc : TT} {S : SS} {ρ : Rho} {H : EH} {L : LL} {r : Value × EH}
theorem capOf_cut {t o e l sz : Nat} (h : e % 4 = 1 ∨ (e = 4 * sz ∧ 0 < sz) ∨ (e = 2 ∧ sz = 1)) : capOf t (o + l * sz) (if e % 4 = 1 then 4 * (e / 4 - l) + 1 else e) = capOf t o e - l := by
  rcases h with h | ⟨rfl, hs⟩ | ⟨rfl, rfl⟩
  · rw [if_pos h]
    have h1 : (4 * (e / 4 - l) + 1) % 4 = 1 := by omega
    have h2 : (4 * (e / 4 - l) + 1) / 4 = e / 4 - l := by omega
    unfold capOf
    rw [h1, h]
    exact h2
  · have h1 : 4 * sz % 4 = 0 := Nat.mul_mod_right 4 sz
    have h2 : 4 * sz / 4 = sz := Nat.mul_div_cancel_left sz (by omega)
    rw [if_neg (by omega)]
    unfold capOf
    rw [h1]
    simp only [h2]
    rw [show t - (o + l * sz) = t - o - sz * l by rw [Nat.mul_comm sz l]; omega, Nat.sub_mul_div]
  · simp [capOf]; omega
theorem capFit_cut {t e l : Nat} (h : capFit t e) : capFit t (if e % 4 = 1 then 4 * (e / 4 - l) + 1 else e) := by
  split
  · exact ⟨by omega, fun e => by omega⟩
  · exact h
theorem snd_slS {sz : Nat} {x : PV} {lo hi : Option PV} (hT : TR ρ T Tc) (hH : HR w0 ρ H L) (h : evM (.slS sz x lo hi) T H = some r) : Snd P w0 n S (.slS sz x lo hi) Tc ρ L r := by
  simp only [evM] at h
  split at h
  · rename_i A len e l hh hx hl hh'
    split at h
    · rename_i v hv
      obtain rfl := Option.some.inj h
      obtain ⟨u, h1, h2⟩ := hT.ev hx
      have h3 := ovE_spec hT hl
      have h4 := ovE_spec hT hh'
      unfold evM.slE at hv
      split at hv
      · rename_i hc
        obtain ⟨c1, c2, c3⟩ := hc
        have el : l = some (((l.getD 0).toNat : Nat) : Int) ∨ (l = none ∧ (l.getD 0).toNat = 0) := by
          cases l with
          | none => exact .inr ⟨rfl, rfl⟩
          | some z => left; simp at c1 ⊢; omega
        have eh : hh = some (((hh.getD len).toNat : Nat) : Int) ∨ (hh = none ∧ (hh.getD len).toNat = len) := by
          cases hh with
          | none => right; simp
          | some z => left; simp at c1 c2 ⊢; omega
        generalize hlz : l.getD 0 = lz at *
        generalize hhz : hh.getD len = hz at *
        have cut : ∀ {A' : Option Addr} {cap : Nat}, x.val Tc = some (.slice A' len cap) → hz.toNat ≤ cap → Yields P w0 n (.slS sz x lo hi) Tc (cs L S) (cutV A' cap sz lz.toNat hz.toNat) := fun hx' hle => Yields.slS hx' h3 h4 el eh (by omega) hle
        split at hv
        · obtain ⟨rfl, rfl, rfl⟩ := h2.slice_nil_inv
          obtain rfl := Option.some.inj hv
          have := cut h1 (by omega)
          rw [show lz.toNat = 0 by omega, show hz.toNat = 0 by omega, cutV0] at this
          exact Snd.det this (.flat rfl) hH
        · rename_i a
          rcases h2.slice_inv with ⟨i, b, t, ha, rfl, hi, hf, hc⟩ | ⟨rfl, rfl, rfl, a', cp, rfl⟩
          · rcases beq_cases e 3 with ⟨rfl, e3⟩ | ⟨_, e3⟩
            · exact absurd rfl hf.1
            · rw [e3] at hv
              simp only [cond_false] at hv
              have hy := cut h1 (by omega)
              split at hv
              · rename_i hl0
                obtain rfl := Option.some.inj hv
                rw [show lz.toNat = 0 by omega, cutV0] at hy
                rw [ha]
                exact Snd.det hy (VR.slice hi hf (by omega)) hH
              · split at hv
                · rename_i hne hlh
                  obtain rfl := Option.some.inj hv
                  unfold cutV at hy
                  rw [show hz.toNat - lz.toNat = 0 by omega] at hy
                  split at hy
                  · exact Snd.det hy .empty hH
                  · exact Snd.det hy .empty hH
                · rename_i hne hlh
                  have hcl : ¬ capOf t a.off e = lz.toNat := by omega
                  unfold cutV at hy
                  rw [if_neg hcl] at hy
                  simp only [Option.map_some] at hy
                  rw [Addr.add_lit] at hy
                  have fin : (e % 4 = 1 ∨ (e = 4 * sz ∧ 0 < sz) ∨ (e = 2 ∧ sz = 1)) → VR ρ (.slice (some ⟨a.block, a.off + lz.toNat * sz, none⟩) (hz.toNat - lz.toNat) (if e % 4 = 1 then 4 * (e / 4 - lz.toNat) + 1 else e)) (.slice (some ⟨b, a.off + lz.toNat * sz, none⟩) (hz.toNat - lz.toNat) (capOf t a.off e - lz.toNat)) := by
                    intro hk
                    have hb := congrArg Addr.block ha
                    simp only at hb
                    rw [hb, ← capOf_cut hk]
                    exact VR.slice hi (capFit_cut hf) (by rw [capOf_cut hk]; omega)
                  rcases beq_cases (e % 4) 1 with ⟨e4, e4'⟩ | ⟨e4, e4'⟩
                  · rw [e4'] at hv
                    simp only [cond_true, Option.some.injEq] at hv
                    subst hv
                    have := fin (.inl e4)
                    rw [if_pos e4] at this
                    exact Snd.det hy this hH
                  · rw [e4'] at hv
                    simp only [cond_false] at hv
                    obtain ⟨hk, hv⟩ := bif_some hv
                    obtain rfl := Option.some.inj hv
                    have hk' : e % 4 = 1 ∨ (e = 4 * sz ∧ 0 < sz) ∨ (e = 2 ∧ sz = 1) := by
                      simp only [Bool.or_eq_true, Bool.and_eq_true] at hk
                      rcases hk with ⟨k1, k2⟩ | ⟨k1, k2⟩
                      · exact .inr (.inl ⟨Nat.eq_of_beq_eq_true k1, by rwa [Nat.blt_eq] at k2⟩)
                      · exact .inr (.inr ⟨Nat.eq_of_beq_eq_true k1, Nat.eq_of_beq_eq_true k2⟩)
                    have := fin hk'
                    rw [if_neg e4] at this
                    exact Snd.det hy this hH
          · simp only [show Nat.beq 3 3 = true from rfl, cond_true, Option.some.injEq] at hv
            subst hv
            have hy := cut h1 (by omega)
            rw [show lz.toNat = 0 by omega, show hz.toNat = 0 by omega, cutV0] at hy
            exact Snd.det hy .empty hH
      · cases hv
    · cases h
  · cases h
theorem slice_cap {v u : Value} (h : VR ρ v u) {A : Option Addr} {m e : Nat} (hv : v = .slice A m e) : ∃ A' c, u = .slice A' m c ∧ m ≤ c := by
  subst hv
  cases A with
  | none => obtain ⟨rfl, rfl, rfl⟩ := h.slice_nil_inv; exact ⟨_, _, rfl, Nat.le_refl _⟩
  | some a =>
    rcases h.slice_inv with ⟨i, b, t, ha, rfl, hi, hf, hc⟩ | ⟨rfl, rfl, rfl, a', cp, rfl⟩
    · exact ⟨_, _, rfl, hc⟩
    · exact ⟨_, _, rfl, Nat.zero_le _⟩
theorem snd_app {t E sz bytes : Nat} {z : Value} {s x : PV} (hT : TR ρ T Tc) (hH : HR w0 ρ H L) (h : evM (.app t E sz bytes z s x) T H = some r) : Snd P w0 n S (.app t E sz bytes z s x) Tc ρ L r := by
  simp only [evM] at h
  split at h
  · rename_i sv y hs hx
    obtain ⟨u, h1, h2⟩ := hT.ev hs
    obtain ⟨u', h3, h4⟩ := hT.ev hx
    split at h
    · rename_i q news hn
      obtain ⟨A, cp, us, rfl, g1, g2, g3, g4⟩ := shown_spec (S := S) hH h4 hn
      rcases beq_cases q 0 with ⟨rfl, e0⟩ | ⟨hq, e0⟩
      · rw [e0] at h
        simp only [cond_true] at h
        split at h
        · rename_i A' m e
          obtain rfl := Option.some.inj h
          obtain ⟨A2, c2, rfl, hle⟩ := slice_cap h2 rfl
          exact Snd.det (Yields.app0 h1 h3 hle) h2 hH
        · cases h
      · rw [e0] at h
        simp only [cond_false] at h
        obtain ⟨hc, h⟩ := bif_some h
        simp only [Bool.and_eq_true] at hc
        obtain ⟨⟨⟨k1, k2⟩, k3⟩, k4⟩ := hc
        rw [Nat.blt_eq] at k2
        have k3 := Nat.le_of_ble_eq_true k3
        have k4 := Nat.le_of_ble_eq_true k4
        cases A with
        | none => exact absurd (g4 rfl).1 hq
        | some a =>
          refine grow_spec hH h2 h k2 (by omega) g2 fun S0 m k xs seg0 hown hm hsub => ?_
          subst hm
          exact OW.appG h1 hown h3 (by rw [← g2.1]; exact g1) (fun j v hj => (g3.at hj).mono hsub) (by rw [g2.one]; exact k1) k3 (by unfold maxLen; omega)
    · cases h
  · cases h
theorem snd_appStr {t u E bytes : Nat} {z : Value} {s x : PV} (hT : TR ρ T Tc) (hH : HR w0 ρ H L) (h : evM (.appStr t u E bytes z s x) T H = some r) : Snd P w0 n S (.appStr t u E bytes z s x) Tc ρ L r := by
  simp only [evM] at h
  split at h
  · rename_i sv y hs hx
    obtain ⟨v, h1, h2⟩ := hT.ev hs
    obtain ⟨u', h3, h4⟩ := hT.ev hx
    obtain rfl := h4.str_inv
    obtain ⟨hc, h9⟩ := bif_some h
    clear h
    simp only [Bool.and_eq_true] at hc
    obtain ⟨⟨k1, k2⟩, k3⟩ := hc
    rw [Nat.blt_eq] at k1
    obtain rfl := Nat.eq_of_beq_eq_true k2
    have k3 := Nat.le_of_ble_eq_true k3
    split at h9
    · refine grow_spec hH h2 h9 (by omega) k1 (VRL.flat (bytesC_flat _)) fun S0 m k xs seg0 hown hm hsub => ?_
      subst hm
      have := OW.appStrG (t := t) (u := u) (x := x) h1 hown h3 (by rw [strL_length] at k3; omega) (P := P) (w0 := w0) (n := n)
      rw [strL_length]
      exact this
    · cases h9
  · cases h
theorem snd_cpy {E sz : Nat} {d s : PV} (hT : TR ρ T Tc) (hH : HR w0 ρ H L) (h : evM (.cpy E sz d s) T H = some r) : Snd P w0 n S (.cpy E sz d s) Tc ρ L r := by
  simp only [evM] at h
  split at h
  · rename_i a dl e y hd hs
    obtain ⟨hb, h8⟩ := bif_some h
    clear h
    simp only [Bool.and_eq_true, Bool.not_eq_true'] at hb
    obtain ⟨b1, b2⟩ := hb
    obtain rfl := Nat.eq_of_beq_eq_true b1
    obtain ⟨u, h1, h2⟩ := hT.ev hd
    obtain ⟨u', h3, h4⟩ := hT.ev hs
    split at h8
    · rename_i q c dd E' hsh ho
      obtain ⟨hc, h9⟩ := bif_some h8
      clear h8
      simp only [Bool.and_eq_true] at hc
      obtain ⟨hle0, h1c⟩ := hc
      have hle := Nat.le_of_ble_eq_true hle0
      obtain rfl := Option.some.inj h9
      obtain ⟨A, cp, us, rfl, g1, g2, g3, g4⟩ := shown_spec (S := S) hH h4 hsh
      obtain ⟨i, hi1, hi2, hi3⟩ := EH.obj_spec ho
      rw [hi2]
      obtain ⟨b, t, o', k, p1, ⟨c', p2, rfl⟩, p3, p4⟩ := hH.own hi3 (by simp) S
      rcases h2.slice_inv with ⟨i', b', t', ha, rfl, hi', hf, hcap⟩ | ⟨rfl, _⟩
      · have hbl := congrArg Addr.block ha
        simp only at hbl
        obtain rfl : i' = i := by omega
        rw [p1] at hi'
        obtain ⟨rfl, rfl⟩ : b = b' ∧ t = t' := by simpa using hi'
        have hlt : k < L.length := (List.getElem?_eq_some_iff.1 p3).1
        have hmin : Nat.min q dl ≤ q := Nat.min_le_left _ _
        have hul : us.length = q := by rw [← g2.1]; omega
        have hnl : (us.take (Nat.min q dl)).length = Nat.min q dl := by rw [List.length_take]; omega
        have hw := OW.cpy (P := P) (w0 := w0) (n := n) (E := E) h1 h3 p4 hnl (g3.pre (List.take_prefix _ _)) (by rw [hnl, ← p2.1]; exact hle) (by rw [(g2.take _).one]; exact h1c)
        rw [hnl] at hw
        refine hw.mono ?_
        rintro w S' ⟨rfl, rfl⟩
        exact ⟨ρ, L.set k (i', _), List.prefix_refl _, .flat rfl, cs_set (x := (i', _)) hlt, hH.upd p1 p3 ⟨_, p2.setAt _ (g2.take _), rfl⟩⟩
      · exfalso
        have : ownB = 1099511627776 := rfl
        simp only at hi1
        omega
    · cases h8
  · cases h
theorem eqL_VR : ∀ {sh : List CK} {a b a' b' : List Value} {r : Bool}, eqL sh a b = some r → VRL ρ a a' → VRL ρ b b' → eqL sh a' b' = some r
  | [], a, b, a', b', r, h, ha, hb => by
    obtain ⟨l1, l2⟩ := eqL_len h
    have e1 : a = [] := List.eq_nil_of_length_eq_zero l1
    have e2 : b = [] := List.eq_nil_of_length_eq_zero l2
    subst e1; subst e2
    obtain rfl := ha.nil_left
    obtain rfl := hb.nil_left
    exact h
  | c :: sh, a, b, a', b', r, h, ha, hb => by
    obtain ⟨x, xs', y, ys', p, q, rfl, rfl, h1, h2, rfl⟩ := eqL_cons h
    obtain ⟨x', a', rfl, hx, ha⟩ := ha.cons_left
    obtain ⟨y', b', rfl, hy, hb⟩ := hb.cons_left
    simp only [eqL]
    rw [eqCell_VR h1 hx hy, eqL_VR h2 ha hb]
theorem snd_X {m : MO} (hT : TR ρ T Tc) (hH : HR w0 ρ H L) (h : evX m T H = some r) : Snd P w0 n S (.more m) Tc ρ L r := by
  cases m <;> simp only [evX] at h
  case neg x =>
    split at h
    · rename_i k z hx
      obtain ⟨u, h1, h2⟩ := hT.ev hx
      obtain rfl := h2.int_inv
      obtain rfl := Option.some.inj h
      exact Snd.det (Yields.neg h1) (.flat rfl) hH
    · cases h
  case mkI t x =>
    split at h
    · rename_i v hx
      obtain ⟨u, h1, h2⟩ := hT.ev hx
      obtain rfl := Option.some.inj h
      exact Snd.det (Yields.mkI h1) (.iface h2) hH
    · cases h
  case eqI neg x =>
    split at h
    · rename_i v hx
      split at h
      · rename_i b hb
        obtain ⟨u, h1, h2⟩ := hT.ev hx
        obtain rfl := Option.some.inj h
        have hb' : isNilI u = some b := by cases h2 <;> exact hb
        exact Snd.det (Yields.eqI h1 hb') (.flat rfl) hH
      · cases h
    · cases h
  case slNil neg x =>
    split at h
    · rename_i A l e hx
      obtain ⟨u, h1, h2⟩ := hT.ev hx
      obtain rfl := Option.some.inj h
      have : ∃ A' c, u = .slice A' l c ∧ A'.isSome = A.isSome ∧ A'.isNone = A.isNone := by
        cases A with
        | none => obtain ⟨rfl, rfl, rfl⟩ := h2.slice_nil_inv; exact ⟨none, 0, rfl, rfl, rfl⟩
        | some a =>
          rcases h2.slice_inv with ⟨i, b, t, ha, rfl, _⟩ | ⟨_, rfl, _, a', c, rfl⟩
          · exact ⟨_, _, rfl, rfl, rfl⟩
          · exact ⟨_, _, rfl, rfl, rfl⟩
      obtain ⟨A', c, rfl, e1, e2⟩ := this
      have := Yields.slNil (P := P) (w0 := w0) (n := n) (S := cs L S) (neg := neg) h1
      rw [e1, e2] at this
      exact Snd.det this (.flat rfl) hH
    · cases h
  case slAr len sz x lo hi =>
    split at h
    · rename_i a l hh hx hl hh'
      obtain ⟨hb, h⟩ := bif_some h
      have hb := Nat.le_of_ble_eq_true hb
      split at h
      · rename_i v hv
        obtain rfl := Option.some.inj h
        obtain ⟨u, h1, h2⟩ := hT.ev hx
        have h3 := ovE_spec hT hl
        have h4 := ovE_spec hT hh'
        unfold evX.slArE at hv
        split at hv
        · rename_i hc
          obtain ⟨c1, c2, c3⟩ := hc
          obtain rfl := Option.some.inj hv
          have el : l = some (((l.getD 0).toNat : Nat) : Int) ∨ (l = none ∧ (l.getD 0).toNat = 0) := by
            cases l with
            | none => exact .inr ⟨rfl, rfl⟩
            | some z => left; simp at c1 ⊢; omega
          have eh : hh = some (((hh.getD len).toNat : Nat) : Int) ∨ (hh = none ∧ (hh.getD len).toNat = len) := by
            cases hh with
            | none => right; simp
            | some z => left; simp at c1 c2 ⊢; omega
          generalize l.getD 0 = lz at *
          generalize hh.getD len = hz at *
          obtain ⟨a', rfl, p1, p2, p3, p4⟩ := h2.ptr_inv
          rcases p4 with ⟨p4, _⟩ | ⟨i, t, p4, p5⟩
          · omega
          · have ea : a' = ⟨a'.block, a.off, none⟩ := by rw [p3, ← p2]
            have hy := Yields.slAr (P := P) (w0 := w0) (n := n) (S := cs L S) (sz := sz) h1 h3 h4 el eh (by omega) (by omega)
            have hcap : ∀ o, capOf t o (4 * (len - lz.toNat) + 1) = len - lz.toNat := by
              intro o
              have h1 : (4 * (len - lz.toNat) + 1) % 4 = 1 := by omega
              have h2 : (4 * (len - lz.toNat) + 1) / 4 = len - lz.toNat := by omega
              unfold capOf
              rw [h1]
              exact h2
            have hv : ∀ o, VR ρ (.slice (some ⟨a.block, o, none⟩) (hz.toNat - lz.toNat) (4 * (len - lz.toNat) + 1)) (.slice (some ⟨a'.block, o, none⟩) (hz.toNat - lz.toNat) (len - lz.toNat)) := by
              intro o
              have := VR.slice (l := hz.toNat - lz.toNat) (o := o) (e := 4 * (len - lz.toNat) + 1) p5 ⟨by omega, fun e => by omega⟩ (by rw [hcap]; omega)
              rw [hcap] at this
              rw [p4]
              exact this
            by_cases e : lz = len
            · rw [if_pos (by omega)] at hy
              rw [if_pos e]
              rw [ea] at hy
              exact Snd.det hy (hv _) hH
            · rw [if_neg (by omega)] at hy
              rw [if_neg e]
              rw [ea, Addr.add_lit] at hy
              exact Snd.det hy (hv _) hH
        · cases hv
      · cases h
    · cases h
  case cvS x =>
    split at h
    · rename_i a l e hx
      rcases beq_cases e 3 with ⟨_, e3⟩ | ⟨hne, e3⟩
      · rw [e3] at h; cases h
      · rw [e3] at h
        simp only [cond_false] at h
        split at h
        · rename_i c E ho
          obtain rfl := Option.some.inj h
          obtain ⟨u, h1, h2⟩ := hT.ev hx
          obtain ⟨i, hi1, hi2, hi3⟩ := EH.obj_spec ho
          rw [hi2]
          obtain ⟨b, t, o', k, p1, ⟨c', p2, rfl⟩, p3, p4⟩ := hH.own hi3 (by simp) S
          rcases h2.slice_inv with ⟨i', b', t', ha, rfl, hi', hf, hcap⟩ | ⟨_, _, rfl, _⟩
          · have hbl := congrArg Addr.block ha
            simp only at hbl
            obtain rfl : i' = i := by omega
            rw [p1] at hi'
            obtain ⟨rfl, rfl⟩ : b = b' ∧ t = t' := by simpa using hi'
            have hlt : k < L.length := (List.getElem?_eq_some_iff.1 p3).1
            refine (OW.cvS h1 p4).mono ?_
            rintro w S' ⟨rfl, rfl⟩
            exact ⟨ρ, L.set k (i', _), List.prefix_refl _, h2, cs_set (x := (i', _)) hlt, hH.upd p1 p3 ⟨c', p2, rfl⟩⟩
          · exact absurd rfl hne
        · cases h
    · cases h
  case rngS x =>
    split at h
    · rename_i s hx
      obtain ⟨hr, h⟩ := bif_some h
      obtain rfl := Option.some.inj h
      obtain ⟨u, h1, h2⟩ := hT.ev hx
      obtain rfl := h2.str_inv
      refine Snd.new (F := fun r u o' t => t = 0 ∧ u = .pointer (some ⟨r, 0, none⟩) ∧ o' = .obj (.stringIter s 0)) (room_lt hr) hH ((OW.rngS h1).mono ?_) ?_
      · rintro u S' ⟨r, rfl, rfl⟩
        exact ⟨r, _, _, ⟨rfl, rfl, rfl⟩, rfl⟩
      · rintro r u o' t ⟨rfl, rfl, rfl⟩
        exact ⟨new_ptr hH, rfl⟩
    · cases h
  case nxtS x =>
    split at h
    · rename_i a hx
      split at h
      · rename_i s p ho
        obtain ⟨hoff, h⟩ := bif_some h
        have hoff := Nat.eq_of_beq_eq_true hoff
        obtain ⟨u, h1, h2⟩ := hT.ev hx
        obtain ⟨a', rfl, q1, q2, q3, q4⟩ := h2.ptr_inv
        obtain ⟨i, hi1, hi2, hi3⟩ := EH.obj_spec ho
        rw [hi2] at h
        obtain ⟨b, t, o', k, p1, p2, p3, p4⟩ := hH.own hi3 (by simp) S
        obtain rfl : o' = .obj (.stringIter s p) := p2
        have hb : a'.block = b := by
          rcases q4 with ⟨q4, _⟩ | ⟨i', t', q4, q5⟩
          · omega
          · obtain rfl : i' = i := by omega
            rw [p1] at q5
            simp only [Option.some.injEq, Prod.mk.injEq] at q5
            exact q5.1.symm
        have ea : a' = ⟨b, 0, none⟩ := by rw [← hb, ← hoff, q3, ← q2]
        rw [ea] at h1
        cases hp : Nat.blt p (strL s).length with
        | true =>
          rw [hp] at h
          simp only [cond_true, Option.some.injEq] at h
          subst h
          rw [Nat.blt_eq, strL_length] at hp
          have hlt : k < L.length := (List.getElem?_eq_some_iff.1 p3).1
          refine (OW.nxtS h1 p4 hp).mono ?_
          rintro w S' ⟨rfl, rfl⟩
          exact ⟨ρ, L.set k (i, _), List.prefix_refl _, .tuple (cs := [_, _, _]) (cs' := [_, _, _]) rfl (VRL.cons (.flat rfl) (VRL.cons (.flat rfl) (VRL.cons (.flat rfl) .nil))).2, cs_set (x := (i, _)) hlt, hH.upd p1 p3 rfl⟩
        | false =>
          rw [hp] at h
          simp only [cond_false, Option.some.injEq] at h
          subst h
          have hp' : ¬ p < s.size := fun hc => by
            rw [← strL_length] at hc
            have : Nat.blt p (strL s).length = true := by rw [Nat.blt_eq]; exact hc
            rw [hp] at this; cases this
          exact Snd.det (OW.nxtS_end h1 p4 hp') (.tuple (cs := [_]) (cs' := [_]) rfl (VRL.cons (.flat rfl) .nil).2) hH
      · cases h
    · cases h
  case bldA zero parts =>
    obtain ⟨hz, h⟩ := bif_some h
    split at h
    · rename_i c hc
      obtain rfl := Option.some.inj h
      obtain ⟨d, h1, h2⟩ := fillE_spec hT hc (VRL.flat hz)
      exact Snd.det (Yields.bldA h1) (.agg h2.1 h2.2) hH
    · cases h
  case eqD neg t sh x y =>
    split at h
    · rename_i a b hx hy
      split at h
      · rename_i r hr
        obtain ⟨u, h1, h2⟩ := hT.ev hx
        obtain ⟨u', h3, h4⟩ := hT.ev hy
        obtain ⟨us, rfl, h5⟩ := h2.agg_inv
        obtain ⟨us', rfl, h6⟩ := h4.agg_inv
        obtain rfl := Option.some.inj h
        exact Snd.det (Yields.eqD h1 h3 (by simpa using eqL_VR hr h5 h6)) (.flat rfl) hH
      · cases h
    · cases h
  case eqJ neg tys x y =>
    split at h
    · rename_i tx k a ty k' b hx hy
      obtain ⟨u, h1, h2⟩ := hT.ev hx
      obtain ⟨u', h3, h4⟩ := hT.ev hy
      have e2 : u = .iface tx (.int k a) := by
        cases h2 with
        | flat h => simp [flatV] at h
        | iface h => obtain rfl := h.int_inv; rfl
      have e4 : u' = .iface ty (.int k' b) := by
        cases h4 with
        | flat h => simp [flatV] at h
        | iface h => obtain rfl := h.int_inv; rfl
      subst e2; subst e4
      rcases beq_cases tx ty with ⟨e, e0⟩ | ⟨e, e0⟩
      · rw [e0] at h
        simp only [cond_true] at h
        split at h
        · rename_i hc
          obtain rfl := Option.some.inj h
          obtain ⟨hk, hm⟩ := hc
          obtain ⟨p, hp, hq⟩ := List.any_eq_true.1 hm
          simp only [Bool.and_eq_true, decide_eq_true_eq] at hq
          have hp' : (tx, k) ∈ tys := by
            have e1 := Nat.eq_of_beq_eq_true hq.1
            obtain ⟨p1, p2⟩ := p
            simp only at e1 hq
            rw [← e1, ← hq.2]; exact hp
          exact Snd.det (Yields.eqJ h1 h3 (.inr ⟨e, hk, hp', rfl⟩)) (.flat rfl) hH
        · cases h
      · rw [e0] at h
        simp only [cond_false, Option.some.injEq] at h
        subst h
        have := Yields.eqJ (P := P) (w0 := w0) (n := n) (S := cs L S) (neg := neg) (tys := tys) h1 h3 (.inl ⟨e, rfl⟩)
        have e5 : (if neg then !false else false) = neg := by cases neg <;> rfl
        rw [e5] at this
        exact Snd.det this (.flat rfl) hH
    · cases h
  case usd x =>
    split at h
    · rename_i a l e hx
      obtain ⟨hc, h9⟩ := bif_some h
      simp only [Bool.and_eq_true] at hc
      obtain ⟨⟨b1, b2⟩, b3⟩ := hc
      rw [Nat.blt_eq] at b1
      have b2 := Nat.le_of_ble_eq_true b2
      obtain rfl := Option.some.inj h9
      obtain ⟨u, h1, h2⟩ := hT.ev hx
      rcases h2.slice_inv with ⟨i', b', t', ha, rfl, hi', hf, hcap⟩ | ⟨ha, _⟩
      · refine Snd.det (Yields.usd h1 (by omega)) ?_ hH
        rw [ha]
        exact .ptr hi'
      · exfalso
        have : ownB = 1099511627776 := rfl
        simp only [ha] at b2
        omega
    · cases h
  case uss e x y =>
    split at h
    · rename_i a m hx hy
      split at h
      · rename_i c E ho
        obtain ⟨hc, h9⟩ := bif_some h
        clear h
        simp only [Bool.and_eq_true, decide_eq_true_eq] at hc
        obtain ⟨⟨⟨⟨b1, b2⟩, b3⟩, b4⟩, b5⟩ := hc
        obtain rfl := Nat.eq_of_beq_eq_true b1
        have b2 := Nat.eq_of_beq_eq_true b2
        have b4 := Nat.le_of_ble_eq_true b4
        have b5 := Nat.le_of_ble_eq_true b5
        split at h9
        · rename_i l hl
          obtain rfl := Option.some.inj h9
          obtain ⟨u, h1, h2⟩ := hT.ev hx
          obtain ⟨u', h3, h4⟩ := hT.ev hy
          obtain rfl := h4.int_inv
          obtain ⟨a', rfl, q1, q2, q3, q4⟩ := h2.ptr_inv
          obtain ⟨i, hi1, hi2, hi3⟩ := EH.obj_spec ho
          rw [hi2]
          obtain ⟨b, t, o', k, p1, ⟨c', p2, rfl⟩, p3, p4⟩ := hH.own hi3 (by simp) S
          have hb : a'.block = b := by
            rcases q4 with ⟨q4, _⟩ | ⟨i', t', q4, q5⟩
            · omega
            · obtain rfl : i' = i := by omega
              rw [p1] at q5
              simp only [Option.some.injEq, Prod.mk.injEq] at q5
              exact q5.1.symm
          have ea : a' = ⟨b, 0, none⟩ := by rw [← hb, ← b2, q3, ← q2]
          rw [ea] at h1
          have hcl : c'.length = c.length := p2.1.symm
          have hbs := toB_spec (p2.take m.toNat) hl
          have hlen : l.length = m.toNat := by
            have := congrArg List.length hbs
            rw [bytesC_length, List.length_take] at this
            omega
          have hsplit : c' = bytesC l ++ c'.drop m.toNat := by rw [← hbs, List.take_append_drop]
          have hlt : k < L.length := (List.getElem?_eq_some_iff.1 p3).1
          rw [hsplit] at p4
          have em : m = (l.length : Int) := by rw [hlen]; exact (Int.toNat_of_nonneg (Int.le_of_lt b3)).symm
          rw [em] at h3
          refine (OW.uss (P := P) (w0 := w0) (n := n) h1 (l := l) h3 p4 (by intro e; subst e; simp at hlen; omega) (by unfold maxLen; omega)).mono ?_
          rintro w S' ⟨rfl, rfl⟩
          exact ⟨ρ, L.set k (i, []), List.prefix_refl _, .flat rfl, cs_set (x := (i, [])) hlt, hH.drop p3⟩
        · cases h9
      · cases h
    · cases h
  case clr E sz z x =>
    split at h
    · rename_i a l e hx
      split at h
      · rename_i c E' ho
        obtain ⟨hc, h9⟩ := bif_some h
        clear h
        simp only [Bool.and_eq_true, Bool.not_eq_true'] at hc
        obtain ⟨⟨⟨⟨⟨⟨b1, b2⟩, b3⟩, b4⟩, b5⟩, b6⟩, b7⟩ := hc
        rw [Nat.blt_eq] at b1 b4
        have b3 := Nat.eq_of_beq_eq_true b3
        have b5 := Nat.le_of_ble_eq_true b5
        obtain rfl := Option.some.inj h9
        obtain ⟨u, h1, h2⟩ := hT.ev hx
        obtain ⟨i, hi1, hi2, hi3⟩ := EH.obj_spec ho
        rw [hi2]
        obtain ⟨b, t, o', k, p1, ⟨c', p2, rfl⟩, p3, p4⟩ := hH.own hi3 (by simp) S
        rcases h2.slice_inv with ⟨i', b', t', ha, rfl, hi', hf, hcap⟩ | ⟨rfl, _⟩
        · have hbl := congrArg Addr.block ha
          simp only at hbl
          obtain rfl : i' = i := by omega
          rw [p1] at hi'
          obtain ⟨rfl, rfl⟩ : b = b' ∧ t = t' := by simpa using hi'
          have hlt : k < L.length := (List.getElem?_eq_some_iff.1 p3).1
          have hzs : z.cells.size = sz := by simpa using b3
          have hnl : (madeL z.cells.toList (l * sz)).length = l * sz := by simp [madeL]
          have hfl : VRL ρ (madeL z.cells.toList (l * sz)) (madeL z.cells.toList (l * sz)) := VRL.flat (all_flat_made b6 (by rw [b3]; exact b4) _)
          refine (OW.clr (P := P) (w0 := w0) (n := n) (E := E) (z := z) h1 p4 b1 (by omega) (by rw [hzs]) (by rw [hnl, ← p2.1]; exact b5) b7).mono ?_
          rintro w S' ⟨rfl, rfl⟩
          exact ⟨ρ, L.set k (i', _), List.prefix_refl _, .tuple (cs := []) (cs' := []) rfl (fun j v u h => by simp at h), cs_set (x := (i', _)) hlt, hH.upd p1 p3 ⟨_, p2.setAt _ hfl, rfl⟩⟩
        · exfalso
          have : ownB = 1099511627776 := rfl
          simp only at hi1
          omega
      · cases h
    · cases h
  case xc row xs =>
    split at h
    · rename_i vs hv
      split at h
      · rename_i v hx
        obtain rfl := Option.some.inj h
        obtain ⟨us, h1, h2⟩ := evs_spec hT hv
        have h0 : (Extern.allNextRows.lookup "").isNone = true := by kernel_rfl
        unfold evX.xcE at hx
        split at hx
        · rename_i s c
          obtain rfl := Option.some.inj hx
          obtain ⟨_, _, rfl, e1, h2⟩ := h2.cons_left
          obtain ⟨_, _, rfl, e2, h2⟩ := h2.cons_left
          obtain rfl := h2.nil_left
          obtain rfl := e1.str_inv
          obtain rfl := e2.int_inv
          exact Snd.det (Yields.xc (e := Extern.BytealgIndexByte.indexByte) h1 (by kernel_rfl) h0 (fun fn hn => by unfold Extern.find; rw [hn]; kernel_rfl) (fun w => run_indexByte_string s c w)) (.flat rfl) hH
        · rename_i s c
          obtain rfl := Option.some.inj hx
          obtain ⟨_, _, rfl, e1, h2⟩ := h2.cons_left
          obtain ⟨_, _, rfl, e2, h2⟩ := h2.cons_left
          obtain rfl := h2.nil_left
          obtain rfl := e1.str_inv
          obtain rfl := e2.int_inv
          exact Snd.det (Yields.xc (e := Extern.BytealgCount.count) h1 (by kernel_rfl) h0 (fun fn hn => by unfold Extern.find; rw [hn]; kernel_rfl) (fun w => rfl)) (.flat rfl) hH
        · rename_i s t
          obtain rfl := Option.some.inj hx
          obtain ⟨_, _, rfl, e1, h2⟩ := h2.cons_left
          obtain ⟨_, _, rfl, e2, h2⟩ := h2.cons_left
          obtain rfl := h2.nil_left
          obtain rfl := e1.str_inv
          obtain rfl := e2.str_inv
          exact Snd.det (Yields.xc (e := Extern.BytealgCompare.compare) h1 (by kernel_rfl) h0 (fun fn hn => by unfold Extern.find; rw [hn]; kernel_rfl) (fun w => rfl)) (.flat rfl) hH
        · cases hx
      · cases h
    · cases h
  all_goals cases h
theorem snd_pure {po : PO} {v : Value} (hT : TR ρ T Tc) (hH : HR w0 ρ H L) (h : evP po T = some v) : Snd P w0 n S po Tc ρ L (v, H) := by
  obtain ⟨u, h1, h2⟩ := evP_snd (P := P) (w0 := w0) (n := n) (S := cs L S) hT h
  exact Snd.det h1 h2 hH
/-- what the evaluator tells of an operation is so -/
theorem evM_snd {po : PO} (hT : TR ρ T Tc) (hH : HR w0 ρ H L) (h : evM po T H = some r) : Snd P w0 n S po Tc ρ L r := by
  cases po
  case ld => exact snd_ld hT hH h
  case ldA => exact snd_ldA hT hH h
  case st => exact snd_st hT hH h
  case build => exact snd_build hT hH h
  case bsl => exact snd_bsl hT hH h
  case bsl0 => exact snd_bsl0 hH h
  case al => exact snd_al hH h
  case bx => exact snd_bx hT hH h
  case mkM => exact snd_mkM hH h
  case mkS => exact snd_mkS hT hH h
  case lenM => exact snd_lenM hT hH h
  case lookS => exact snd_lookS hT hH h
  case updS => exact snd_updS hT hH h
  case slS => exact snd_slS hT hH h
  case slA => exact snd_slA hT hH h
  case app => exact snd_app hT hH h
  case appStr => exact snd_appStr hT hH h
  case strOf => exact snd_strOf hT hH h
  case bytesOf => exact snd_bytesOf hT hH h
  case cpy => exact snd_cpy hT hH h
  case more => exact snd_X hT hH (by simpa only [evM] using h)
  all_goals
    simp only [evM] at h
    split at h
    · rename_i v hv
      obtain rfl := Option.some.inj h
      exact snd_pure hT hH hv
    · cases h
end
end Go.SL
