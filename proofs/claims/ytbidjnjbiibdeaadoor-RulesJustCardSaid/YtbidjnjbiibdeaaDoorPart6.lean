/- Walks and plain facts for the laws of this seat: what each function answers, for every input. -/
import Derived.Test.YtbidjnjbiibdeaaDoorPart5
import Derived.Test.YtbidjnjbiibdeaaDoorProg

set_option linter.unusedVariables false
set_option linter.unusedSimpArgs false
namespace Go.SL
open Go.RowKit
section
variable {P : Program} {w0 : World} {n : Nat} {T Tc : TT} {S : SS} {ρ : Rho} {H : EH} {L : LL} {r : Value × EH}
theorem capOf_cut {t o e l sz : Nat} (h : e % 4 = 1 ∨ (e = 4 * sz ∧ 0 < sz) ∨ (e = 2 ∧ sz = 1)) : capOf t (o + l * sz) (if e % 4 = 1 then 4 * (e / 4 - l) + 1 else e) = capOf t o e - l := by
  rcases h with h | ⟨rfl, hs⟩ | ⟨rfl, rfl⟩
  · rw [if_pos h]
    have h1 : (4 * (e / 4 - l) + 1) % 4 = 1 := by omega
    have h2 : (4 * (e / 4 - l) + 1) / 4 = e / 4 - l := by omega
    unfold capOf
    rw [h1, h]
    exact h2
  · have h1 : 4 * sz % 4 = 0 := Nat.mul_mod_right 4 sz
    have h2 : 4 * sz / 4 = sz := Nat.mul_div_cancel_left sz (by omega)
    rw [if_neg (by omega)]
    unfold capOf
    rw [h1]
    simp only [h2]
    rw [show t - (o + l * sz) = t - o - sz * l by rw [Nat.mul_comm sz l]; omega, Nat.sub_mul_div]
  · simp [capOf]; omega
theorem capFit_cut {t e l : Nat} (h : capFit t e) : capFit t (if e % 4 = 1 then 4 * (e / 4 - l) + 1 else e) := by
  split
  · exact ⟨by omega, fun e => by omega⟩
  · exact h
theorem snd_slS {sz : Nat} {x : PV} {lo hi : Option PV} (hT : TR ρ T Tc) (hH : HR w0 ρ H L) (h : evM (.slS sz x lo hi) T H = some r) : Snd P w0 n S (.slS sz x lo hi) Tc ρ L r := by
  simp only [evM] at h
  split at h
  · rename_i A len e l hh hx hl hh'
    split at h
    · rename_i v hv
      obtain rfl := Option.some.inj h
      obtain ⟨u, h1, h2⟩ := hT.ev hx
      have h3 := ovE_spec hT hl
      have h4 := ovE_spec hT hh'
      unfold evM.slE at hv
      split at hv
      · rename_i hc
        obtain ⟨c1, c2, c3⟩ := hc
        have el : l = some (((l.getD 0).toNat : Nat) : Int) ∨ (l = none ∧ (l.getD 0).toNat = 0) := by
          cases l with
          | none => exact .inr ⟨rfl, rfl⟩
          | some z => left; simp at c1 ⊢; omega
        have eh : hh = some (((hh.getD len).toNat : Nat) : Int) ∨ (hh = none ∧ (hh.getD len).toNat = len) := by
          cases hh with
          | none => right; simp
          | some z => left; simp at c1 c2 ⊢; omega
        generalize hlz : l.getD 0 = lz at *
        generalize hhz : hh.getD len = hz at *
        have cut : ∀ {A' : Option Addr} {cap : Nat}, x.val Tc = some (.slice A' len cap) → hz.toNat ≤ cap → Yields P w0 n (.slS sz x lo hi) Tc (cs L S) (cutV A' cap sz lz.toNat hz.toNat) := fun hx' hle => Yields.slS hx' h3 h4 el eh (by omega) hle
        split at hv
        · obtain ⟨rfl, rfl, rfl⟩ := h2.slice_nil_inv
          obtain rfl := Option.some.inj hv
          have := cut h1 (by omega)
          rw [show lz.toNat = 0 by omega, show hz.toNat = 0 by omega, cutV0] at this
          exact Snd.det this (.flat rfl) hH
        · rename_i a
          rcases h2.slice_inv with ⟨i, b, t, ha, rfl, hi, hf, hc⟩ | ⟨rfl, rfl, rfl, a', cp, rfl⟩
          · rcases beq_cases e 3 with ⟨rfl, e3⟩ | ⟨_, e3⟩
            · exact absurd rfl hf.1
            · rw [e3] at hv
              simp only [cond_false] at hv
              have hy := cut h1 (by omega)
              split at hv
              · rename_i hl0
                obtain rfl := Option.some.inj hv
                rw [show lz.toNat = 0 by omega, cutV0] at hy
                rw [ha]
                exact Snd.det hy (VR.slice hi hf (by omega)) hH
              · split at hv
                · rename_i hne hlh
                  obtain rfl := Option.some.inj hv
                  unfold cutV at hy
                  rw [show hz.toNat - lz.toNat = 0 by omega] at hy
                  split at hy
                  · exact Snd.det hy .empty hH
                  · exact Snd.det hy .empty hH
                · rename_i hne hlh
                  have hcl : ¬ capOf t a.off e = lz.toNat := by omega
                  unfold cutV at hy
                  rw [if_neg hcl] at hy
                  simp only [Option.map_some] at hy
                  rw [Addr.add_lit] at hy
                  have fin : (e % 4 = 1 ∨ (e = 4 * sz ∧ 0 < sz) ∨ (e = 2 ∧ sz = 1)) → VR ρ (.slice (some ⟨a.block, a.off + lz.toNat * sz, none⟩) (hz.toNat - lz.toNat) (if e % 4 = 1 then 4 * (e / 4 - lz.toNat) + 1 else e)) (.slice (some ⟨b, a.off + lz.toNat * sz, none⟩) (hz.toNat - lz.toNat) (capOf t a.off e - lz.toNat)) := by
                    intro hk
                    have hb := congrArg Addr.block ha
                    simp only at hb
                    rw [hb, ← capOf_cut hk]
                    exact VR.slice hi (capFit_cut hf) (by rw [capOf_cut hk]; omega)
                  rcases beq_cases (e % 4) 1 with ⟨e4, e4'⟩ | ⟨e4, e4'⟩
                  · rw [e4'] at hv
                    simp only [cond_true, Option.some.injEq] at hv
                    subst hv
                    have := fin (.inl e4)
                    rw [if_pos e4] at this
                    exact Snd.det hy this hH
                  · rw [e4'] at hv
                    simp only [cond_false] at hv
                    obtain ⟨hk, hv⟩ := bif_some hv
                    obtain rfl := Option.some.inj hv
                    have hk' : e % 4 = 1 ∨ (e = 4 * sz ∧ 0 < sz) ∨ (e = 2 ∧ sz = 1) := by
                      simp only [Bool.or_eq_true, Bool.and_eq_true] at hk
                      rcases hk with ⟨k1, k2⟩ | ⟨k1, k2⟩
                      · exact .inr (.inl ⟨Nat.eq_of_beq_eq_true k1, by rwa [Nat.blt_eq] at k2⟩)
                      · exact .inr (.inr ⟨Nat.eq_of_beq_eq_true k1, Nat.eq_of_beq_eq_true k2⟩)
                    have := fin hk'
                    rw [if_neg e4] at this
                    exact Snd.det hy this hH
          · simp only [show Nat.beq 3 3 = true from rfl, cond_true, Option.some.injEq] at hv
            subst hv
            have hy := cut h1 (by omega)
            rw [show lz.toNat = 0 by omega, show hz.toNat = 0 by omega, cutV0] at hy
            exact Snd.det hy .empty hH
      · cases hv
    · cases h
  · cases h
theorem slice_cap {v u : Value} (h : VR ρ v u) {A : Option Addr} {m e : Nat} (hv : v = .slice A m e) : ∃ A' c, u = .slice A' m c ∧ m ≤ c := by
  subst hv
  cases A with
  | none => obtain ⟨rfl, rfl, rfl⟩ := h.slice_nil_inv; exact ⟨_, _, rfl, Nat.le_refl _⟩
  | some a =>
    rcases h.slice_inv with ⟨i, b, t, ha, rfl, hi, hf, hc⟩ | ⟨rfl, rfl, rfl, a', cp, rfl⟩
    · exact ⟨_, _, rfl, hc⟩
    · exact ⟨_, _, rfl, Nat.zero_le _⟩
theorem snd_app {t E sz bytes : Nat} {z : Value} {s x : PV} (hT : TR ρ T Tc) (hH : HR w0 ρ H L) (h : evM (.app t E sz bytes z s x) T H = some r) : Snd P w0 n S (.app t E sz bytes z s x) Tc ρ L r := by
  simp only [evM] at h
  split at h
  · rename_i sv y hs hx
    obtain ⟨u, h1, h2⟩ := hT.ev hs
    obtain ⟨u', h3, h4⟩ := hT.ev hx
    split at h
    · rename_i q news hn
      obtain ⟨A, cp, us, rfl, g1, g2, g3, g4⟩ := shown_spec (S := S) hH h4 hn
      rcases beq_cases q 0 with ⟨rfl, e0⟩ | ⟨hq, e0⟩
      · rw [e0] at h
        simp only [cond_true] at h
        split at h
        · rename_i A' m e
          obtain rfl := Option.some.inj h
          obtain ⟨A2, c2, rfl, hle⟩ := slice_cap h2 rfl
          exact Snd.det (Yields.app0 h1 h3 hle) h2 hH
        · cases h
      · rw [e0] at h
        simp only [cond_false] at h
        obtain ⟨hc, h⟩ := bif_some h
        simp only [Bool.and_eq_true] at hc
        obtain ⟨⟨⟨k1, k2⟩, k3⟩, k4⟩ := hc
        rw [Nat.blt_eq] at k2
        have k3 := Nat.le_of_ble_eq_true k3
        have k4 := Nat.le_of_ble_eq_true k4
        cases A with
        | none => exact absurd (g4 rfl).1 hq
        | some a =>
          refine grow_spec hH h2 h k2 (by omega) g2 fun S0 m k xs seg0 hown hm hsub => ?_
          subst hm
          exact OW.appG h1 hown h3 (by rw [← g2.1]; exact g1) (fun j v hj => (g3.at hj).mono hsub) (by rw [g2.one]; exact k1) k3 (by unfold maxLen; omega)
    · cases h
  · cases h
theorem snd_appStr {t u E bytes : Nat} {z : Value} {s x : PV} (hT : TR ρ T Tc) (hH : HR w0 ρ H L) (h : evM (.appStr t u E bytes z s x) T H = some r) : Snd P w0 n S (.appStr t u E bytes z s x) Tc ρ L r := by
  simp only [evM] at h
  split at h
  · rename_i sv y hs hx
    obtain ⟨v, h1, h2⟩ := hT.ev hs
    obtain ⟨u', h3, h4⟩ := hT.ev hx
    obtain rfl := h4.str_inv
    obtain ⟨hc, h9⟩ := bif_some h
    clear h
    simp only [Bool.and_eq_true] at hc
    obtain ⟨⟨k1, k2⟩, k3⟩ := hc
    rw [Nat.blt_eq] at k1
    obtain rfl := Nat.eq_of_beq_eq_true k2
    have k3 := Nat.le_of_ble_eq_true k3
    split at h9
    · refine grow_spec hH h2 h9 (by omega) k1 (VRL.flat (bytesC_flat _)) fun S0 m k xs seg0 hown hm hsub => ?_
      subst hm
      have := OW.appStrG (t := t) (u := u) (x := x) h1 hown h3 (by rw [strL_length] at k3; omega) (P := P) (w0 := w0) (n := n)
      rw [strL_length]
      exact this
    · cases h9
  · cases h
theorem snd_cpy {E sz : Nat} {d s : PV} (hT : TR ρ T Tc) (hH : HR w0 ρ H L) (h : evM (.cpy E sz d s) T H = some r) : Snd P w0 n S (.cpy E sz d s) Tc ρ L r := by
  simp only [evM] at h
  split at h
  · rename_i a dl e y hd hs
    obtain ⟨hb, h8⟩ := bif_some h
    clear h
    simp only [Bool.and_eq_true, Bool.not_eq_true'] at hb
    obtain ⟨b1, b2⟩ := hb
    obtain rfl := Nat.eq_of_beq_eq_true b1
    obtain ⟨u, h1, h2⟩ := hT.ev hd
    obtain ⟨u', h3, h4⟩ := hT.ev hs
    split at h8
    · rename_i q c dd E' hsh ho
      obtain ⟨hc, h9⟩ := bif_some h8
      clear h8
      simp only [Bool.and_eq_true] at hc
      obtain ⟨hle0, h1c⟩ := hc
      have hle := Nat.le_of_ble_eq_true hle0
      obtain rfl := Option.some.inj h9
      obtain ⟨A, cp, us, rfl, g1, g2, g3, g4⟩ := shown_spec (S := S) hH h4 hsh
      obtain ⟨i, hi1, hi2, hi3⟩ := EH.obj_spec ho
      rw [hi2]
      obtain ⟨b, t, o', k, p1, ⟨c', p2, rfl⟩, p3, p4⟩ := hH.own hi3 (by simp) S
      rcases h2.slice_inv with ⟨i', b', t', ha, rfl, hi', hf, hcap⟩ | ⟨rfl, _⟩
      · have hbl := congrArg Addr.block ha
        simp only at hbl
        obtain rfl : i' = i := by omega
        rw [p1] at hi'
        obtain ⟨rfl, rfl⟩ : b = b' ∧ t = t' := by simpa using hi'
        have hlt : k < L.length := (List.getElem?_eq_some_iff.1 p3).1
        have hmin : Nat.min q dl ≤ q := Nat.min_le_left _ _
        have hul : us.length = q := by rw [← g2.1]; omega
        have hnl : (us.take (Nat.min q dl)).length = Nat.min q dl := by rw [List.length_take]; omega
        have hw := OW.cpy (P := P) (w0 := w0) (n := n) (E := E) h1 h3 p4 hnl (g3.pre (List.take_prefix _ _)) (by rw [hnl, ← p2.1]; exact hle) (by rw [(g2.take _).one]; exact h1c)
        rw [hnl] at hw
        refine hw.mono ?_
        rintro w S' ⟨rfl, rfl⟩
        exact ⟨ρ, L.set k (i', _), List.prefix_refl _, .flat rfl, cs_set (x := (i', _)) hlt, hH.upd p1 p3 ⟨_, p2.setAt _ (g2.take _), rfl⟩⟩
      · exfalso
        have : ownB = 1099511627776 := rfl
        simp only at hi1
        omega
    · cases h8
  · cases h
theorem eqL_VR : ∀ {sh : List CK} {a b a' b' : List Value} {r : Bool}, eqL sh a b = some r → VRL ρ a a' → VRL ρ b b' → eqL sh a' b' = some r
  | [], a, b, a', b', r, h, ha, hb => by
    obtain ⟨l1, l2⟩ := eqL_len h
    have e1 : a = [] := List.eq_nil_of_length_eq_zero l1
    have e2 : b = [] := List.eq_nil_of_length_eq_zero l2
    subst e1; subst e2
    obtain rfl := ha.nil_left
    obtain rfl := hb.nil_left
    exact h
  | c :: sh, a, b, a', b', r, h, ha, hb => by
    obtain ⟨x, xs', y, ys', p, q, rfl, rfl, h1, h2, rfl⟩ := eqL_cons h
    obtain ⟨x', a', rfl, hx, ha⟩ := ha.cons_left
    obtain ⟨y', b', rfl, hy, hb⟩ := hb.cons_left
    simp only [eqL]
    rw [eqCell_VR h1 hx hy, eqL_VR h2 ha hb]
theorem snd_X {m : MO} (hT : TR ρ T Tc) (hH : HR w0 ρ H L) (h : evX m T H = some r) : Snd P w0 n S (.more m) Tc ρ L r := by
  cases m <;> simp only [evX] at h
  case neg x =>
    split at h
    · rename_i k z hx
      obtain ⟨u, h1, h2⟩ := hT.ev hx
      obtain rfl := h2.int_inv
      obtain rfl := Option.some.inj h
      exact Snd.det (Yields.neg h1) (.flat rfl) hH
    · cases h
  case mkI t x =>
    split at h
    · rename_i v hx
      obtain ⟨u, h1, h2⟩ := hT.ev hx
      obtain rfl := Option.some.inj h
      exact Snd.det (Yields.mkI h1) (.iface h2) hH
    · cases h
  case eqI neg x =>
    split at h
    · rename_i v hx
      split at h
      · rename_i b hb
        obtain ⟨u, h1, h2⟩ := hT.ev hx
        obtain rfl := Option.some.inj h
        have hb' : isNilI u = some b := by cases h2 <;> exact hb
        exact Snd.det (Yields.eqI h1 hb') (.flat rfl) hH
      · cases h
    · cases h
  case slNil neg x =>
    split at h
    · rename_i A l e hx
      obtain ⟨u, h1, h2⟩ := hT.ev hx
      obtain rfl := Option.some.inj h
      have : ∃ A' c, u = .slice A' l c ∧ A'.isSome = A.isSome ∧ A'.isNone = A.isNone := by
        cases A with
        | none => obtain ⟨rfl, rfl, rfl⟩ := h2.slice_nil_inv; exact ⟨none, 0, rfl, rfl, rfl⟩
        | some a =>
          rcases h2.slice_inv with ⟨i, b, t, ha, rfl, _⟩ | ⟨_, rfl, _, a', c, rfl⟩
          · exact ⟨_, _, rfl, rfl, rfl⟩
          · exact ⟨_, _, rfl, rfl, rfl⟩
      obtain ⟨A', c, rfl, e1, e2⟩ := this
      have := Yields.slNil (P := P) (w0 := w0) (n := n) (S := cs L S) (neg := neg) h1
      rw [e1, e2] at this
      exact Snd.det this (.flat rfl) hH
    · cases h
  case slAr len sz x lo hi =>
    split at h
    · rename_i a l hh hx hl hh'
      obtain ⟨hb, h⟩ := bif_some h
      have hb := Nat.le_of_ble_eq_true hb
      split at h
      · rename_i v hv
        obtain rfl := Option.some.inj h
        obtain ⟨u, h1, h2⟩ := hT.ev hx
        have h3 := ovE_spec hT hl
        have h4 := ovE_spec hT hh'
        unfold evX.slArE at hv
        split at hv
        · rename_i hc
          obtain ⟨c1, c2, c3⟩ := hc
          obtain rfl := Option.some.inj hv
          have el : l = some (((l.getD 0).toNat : Nat) : Int) ∨ (l = none ∧ (l.getD 0).toNat = 0) := by
            cases l with
            | none => exact .inr ⟨rfl, rfl⟩
            | some z => left; simp at c1 ⊢; omega
          have eh : hh = some (((hh.getD len).toNat : Nat) : Int) ∨ (hh = none ∧ (hh.getD len).toNat = len) := by
            cases hh with
            | none => right; simp
            | some z => left; simp at c1 c2 ⊢; omega
          generalize l.getD 0 = lz at *
          generalize hh.getD len = hz at *
          obtain ⟨a', rfl, p1, p2, p3, p4⟩ := h2.ptr_inv
          rcases p4 with ⟨p4, _⟩ | ⟨i, t, p4, p5⟩
          · omega
          · have ea : a' = ⟨a'.block, a.off, none⟩ := by rw [p3, ← p2]
            have hy := Yields.slAr (P := P) (w0 := w0) (n := n) (S := cs L S) (sz := sz) h1 h3 h4 el eh (by omega) (by omega)
            have hcap : ∀ o, capOf t o (4 * (len - lz.toNat) + 1) = len - lz.toNat := by
              intro o
              have h1 : (4 * (len - lz.toNat) + 1) % 4 = 1 := by omega
              have h2 : (4 * (len - lz.toNat) + 1) / 4 = len - lz.toNat := by omega
              unfold capOf
              rw [h1]
              exact h2
            have hv : ∀ o, VR ρ (.slice (some ⟨a.block, o, none⟩) (hz.toNat - lz.toNat) (4 * (len - lz.toNat) + 1)) (.slice (some ⟨a'.block, o, none⟩) (hz.toNat - lz.toNat) (len - lz.toNat)) := by
              intro o
              have := VR.slice (l := hz.toNat - lz.toNat) (o := o) (e := 4 * (len - lz.toNat) + 1) p5 ⟨by omega, fun e => by omega⟩ (by rw [hcap]; omega)
              rw [hcap] at this
              rw [p4]
              exact this
            by_cases e : lz = len
            · rw [if_pos (by omega)] at hy
              rw [if_pos e]
              rw [ea] at hy
              exact Snd.det hy (hv _) hH
            · rw [if_neg (by omega)] at hy
              rw [if_neg e]
              rw [ea, Addr.add_lit] at hy
              exact Snd.det hy (hv _) hH
        · cases hv
      · cases h
    · cases h
  case cvS x =>
    split at h
    · rename_i a l e hx
      rcases beq_cases e 3 with ⟨_, e3⟩ | ⟨hne, e3⟩
      · rw [e3] at h; cases h
      · rw [e3] at h
        simp only [cond_false] at h
        split at h
        · rename_i c E ho
          obtain rfl := Option.some.inj h
          obtain ⟨u, h1, h2⟩ := hT.ev hx
          obtain ⟨i, hi1, hi2, hi3⟩ := EH.obj_spec ho
          rw [hi2]
          obtain ⟨b, t, o', k, p1, ⟨c', p2, rfl⟩, p3, p4⟩ := hH.own hi3 (by simp) S
          rcases h2.slice_inv with ⟨i', b', t', ha, rfl, hi', hf, hcap⟩ | ⟨_, _, rfl, _⟩
          · have hbl := congrArg Addr.block ha
            simp only at hbl
            obtain rfl : i' = i := by omega
            rw [p1] at hi'
            obtain ⟨rfl, rfl⟩ : b = b' ∧ t = t' := by simpa using hi'
            have hlt : k < L.length := (List.getElem?_eq_some_iff.1 p3).1
            refine (OW.cvS h1 p4).mono ?_
            rintro w S' ⟨rfl, rfl⟩
            exact ⟨ρ, L.set k (i', _), List.prefix_refl _, h2, cs_set (x := (i', _)) hlt, hH.upd p1 p3 ⟨c', p2, rfl⟩⟩
          · exact absurd rfl hne
        · cases h
    · cases h
  case rngS x =>
    split at h
    · rename_i s hx
      obtain ⟨hr, h⟩ := bif_some h
      obtain rfl := Option.some.inj h
      obtain ⟨u, h1, h2⟩ := hT.ev hx
      obtain rfl := h2.str_inv
      refine Snd.new (F := fun r u o' t => t = 0 ∧ u = .pointer (some ⟨r, 0, none⟩) ∧ o' = .obj (.stringIter s 0)) (room_lt hr) hH ((OW.rngS h1).mono ?_) ?_
      · rintro u S' ⟨r, rfl, rfl⟩
        exact ⟨r, _, _, ⟨rfl, rfl, rfl⟩, rfl⟩
      · rintro r u o' t ⟨rfl, rfl, rfl⟩
        exact ⟨new_ptr hH, rfl⟩
    · cases h
  case nxtS x =>
    split at h
    · rename_i a hx
      split at h
      · rename_i s p ho
        obtain ⟨hoff, h⟩ := bif_some h
        have hoff := Nat.eq_of_beq_eq_true hoff
        obtain ⟨u, h1, h2⟩ := hT.ev hx
        obtain ⟨a', rfl, q1, q2, q3, q4⟩ := h2.ptr_inv
        obtain ⟨i, hi1, hi2, hi3⟩ := EH.obj_spec ho
        rw [hi2] at h
        obtain ⟨b, t, o', k, p1, p2, p3, p4⟩ := hH.own hi3 (by simp) S
        obtain rfl : o' = .obj (.stringIter s p) := p2
        have hb : a'.block = b := by
          rcases q4 with ⟨q4, _⟩ | ⟨i', t', q4, q5⟩
          · omega
          · obtain rfl : i' = i := by omega
            rw [p1] at q5
            simp only [Option.some.injEq, Prod.mk.injEq] at q5
            exact q5.1.symm
        have ea : a' = ⟨b, 0, none⟩ := by rw [← hb, ← hoff, q3, ← q2]
        rw [ea] at h1
        cases hp : Nat.blt p (strL s).length with
        | true =>
          rw [hp] at h
          simp only [cond_true, Option.some.injEq] at h
          subst h
          rw [Nat.blt_eq, strL_length] at hp
          have hlt : k < L.length := (List.getElem?_eq_some_iff.1 p3).1
          refine (OW.nxtS h1 p4 hp).mono ?_
          rintro w S' ⟨rfl, rfl⟩
          exact ⟨ρ, L.set k (i, _), List.prefix_refl _, .tuple (cs := [_, _, _]) (cs' := [_, _, _]) rfl (VRL.cons (.flat rfl) (VRL.cons (.flat rfl) (VRL.cons (.flat rfl) .nil))).2, cs_set (x := (i, _)) hlt, hH.upd p1 p3 rfl⟩
        | false =>
          rw [hp] at h
          simp only [cond_false, Option.some.injEq] at h
          subst h
          have hp' : ¬ p < s.size := fun hc => by
            rw [← strL_length] at hc
            have : Nat.blt p (strL s).length = true := by rw [Nat.blt_eq]; exact hc
            rw [hp] at this; cases this
          exact Snd.det (OW.nxtS_end h1 p4 hp') (.tuple (cs := [_]) (cs' := [_]) rfl (VRL.cons (.flat rfl) .nil).2) hH
      · cases h
    · cases h
  case bldA zero parts =>
    obtain ⟨hz, h⟩ := bif_some h
    split at h
    · rename_i c hc
      obtain rfl := Option.some.inj h
      obtain ⟨d, h1, h2⟩ := fillE_spec hT hc (VRL.flat hz)
      exact Snd.det (Yields.bldA h1) (.agg h2.1 h2.2) hH
    · cases h
  case eqD neg t sh x y =>
    split at h
    · rename_i a b hx hy
      split at h
      · rename_i r hr
        obtain ⟨u, h1, h2⟩ := hT.ev hx
        obtain ⟨u', h3, h4⟩ := hT.ev hy
        obtain ⟨us, rfl, h5⟩ := h2.agg_inv
        obtain ⟨us', rfl, h6⟩ := h4.agg_inv
        obtain rfl := Option.some.inj h
        exact Snd.det (Yields.eqD h1 h3 (by simpa using eqL_VR hr h5 h6)) (.flat rfl) hH
      · cases h
    · cases h
  case eqJ neg tys x y =>
    split at h
    · rename_i tx k a ty k' b hx hy
      obtain ⟨u, h1, h2⟩ := hT.ev hx
      obtain ⟨u', h3, h4⟩ := hT.ev hy
      have e2 : u = .iface tx (.int k a) := by
        cases h2 with
        | flat h => simp [flatV] at h
        | iface h => obtain rfl := h.int_inv; rfl
      have e4 : u' = .iface ty (.int k' b) := by
        cases h4 with
        | flat h => simp [flatV] at h
        | iface h => obtain rfl := h.int_inv; rfl
      subst e2; subst e4
      rcases beq_cases tx ty with ⟨e, e0⟩ | ⟨e, e0⟩
      · rw [e0] at h
        simp only [cond_true] at h
        split at h
        · rename_i hc
          obtain rfl := Option.some.inj h
          obtain ⟨hk, hm⟩ := hc
          obtain ⟨p, hp, hq⟩ := List.any_eq_true.1 hm
          simp only [Bool.and_eq_true, decide_eq_true_eq] at hq
          have hp' : (tx, k) ∈ tys := by
            have e1 := Nat.eq_of_beq_eq_true hq.1
            obtain ⟨p1, p2⟩ := p
            simp only at e1 hq
            rw [← e1, ← hq.2]; exact hp
          exact Snd.det (Yields.eqJ h1 h3 (.inr ⟨e, hk, hp', rfl⟩)) (.flat rfl) hH
        · cases h
      · rw [e0] at h
        simp only [cond_false, Option.some.injEq] at h
        subst h
        have := Yields.eqJ (P := P) (w0 := w0) (n := n) (S := cs L S) (neg := neg) (tys := tys) h1 h3 (.inl ⟨e, rfl⟩)
        have e5 : (if neg then !false else false) = neg := by cases neg <;> rfl
        rw [e5] at this
        exact Snd.det this (.flat rfl) hH
    · cases h
  case usd x =>
    split at h
    · rename_i a l e hx
      obtain ⟨hc, h9⟩ := bif_some h
      simp only [Bool.and_eq_true] at hc
      obtain ⟨⟨b1, b2⟩, b3⟩ := hc
      rw [Nat.blt_eq] at b1
      have b2 := Nat.le_of_ble_eq_true b2
      obtain rfl := Option.some.inj h9
      obtain ⟨u, h1, h2⟩ := hT.ev hx
      rcases h2.slice_inv with ⟨i', b', t', ha, rfl, hi', hf, hcap⟩ | ⟨ha, _⟩
      · refine Snd.det (Yields.usd h1 (by omega)) ?_ hH
        rw [ha]
        exact .ptr hi'
      · exfalso
        have : ownB = 1099511627776 := rfl
        simp only [ha] at b2
        omega
    · cases h
  case uss e x y =>
    split at h
    · rename_i a m hx hy
      split at h
      · rename_i c E ho
        obtain ⟨hc, h9⟩ := bif_some h
        clear h
        simp only [Bool.and_eq_true, decide_eq_true_eq] at hc
        obtain ⟨⟨⟨⟨b1, b2⟩, b3⟩, b4⟩, b5⟩ := hc
        obtain rfl := Nat.eq_of_beq_eq_true b1
        have b2 := Nat.eq_of_beq_eq_true b2
        have b4 := Nat.le_of_ble_eq_true b4
        have b5 := Nat.le_of_ble_eq_true b5
        split at h9
        · rename_i l hl
          obtain rfl := Option.some.inj h9
          obtain ⟨u, h1, h2⟩ := hT.ev hx
          obtain ⟨u', h3, h4⟩ := hT.ev hy
          obtain rfl := h4.int_inv
          obtain ⟨a', rfl, q1, q2, q3, q4⟩ := h2.ptr_inv
          obtain ⟨i, hi1, hi2, hi3⟩ := EH.obj_spec ho
          rw [hi2]
          obtain ⟨b, t, o', k, p1, ⟨c', p2, rfl⟩, p3, p4⟩ := hH.own hi3 (by simp) S
          have hb : a'.block = b := by
            rcases q4 with ⟨q4, _⟩ | ⟨i', t', q4, q5⟩
            · omega
            · obtain rfl : i' = i := by omega
              rw [p1] at q5
              simp only [Option.some.injEq, Prod.mk.injEq] at q5
              exact q5.1.symm
          have ea : a' = ⟨b, 0, none⟩ := by rw [← hb, ← b2, q3, ← q2]
          rw [ea] at h1
          have hcl : c'.length = c.length := p2.1.symm
          have hbs := toB_spec (p2.take m.toNat) hl
          have hlen : l.length = m.toNat := by
            have := congrArg List.length hbs
            rw [bytesC_length, List.length_take] at this
            omega
          have hsplit : c' = bytesC l ++ c'.drop m.toNat := by rw [← hbs, List.take_append_drop]
          have hlt : k < L.length := (List.getElem?_eq_some_iff.1 p3).1
          rw [hsplit] at p4
          have em : m = (l.length : Int) := by rw [hlen]; exact (Int.toNat_of_nonneg (Int.le_of_lt b3)).symm
          rw [em] at h3
          refine (OW.uss (P := P) (w0 := w0) (n := n) h1 (l := l) h3 p4 (by intro e; subst e; simp at hlen; omega) (by unfold maxLen; omega)).mono ?_
          rintro w S' ⟨rfl, rfl⟩
          exact ⟨ρ, L.set k (i, []), List.prefix_refl _, .flat rfl, cs_set (x := (i, [])) hlt, hH.drop p3⟩
        · cases h9
      · cases h
    · cases h
  case clr E sz z x =>
    split at h
    · rename_i a l e hx
      split at h
      · rename_i c E' ho
        obtain ⟨hc, h9⟩ := bif_some h
        clear h
        simp only [Bool.and_eq_true, Bool.not_eq_true'] at hc
        obtain ⟨⟨⟨⟨⟨⟨b1, b2⟩, b3⟩, b4⟩, b5⟩, b6⟩, b7⟩ := hc
        rw [Nat.blt_eq] at b1 b4
        have b3 := Nat.eq_of_beq_eq_true b3
        have b5 := Nat.le_of_ble_eq_true b5
        obtain rfl := Option.some.inj h9
        obtain ⟨u, h1, h2⟩ := hT.ev hx
        obtain ⟨i, hi1, hi2, hi3⟩ := EH.obj_spec ho
        rw [hi2]
        obtain ⟨b, t, o', k, p1, ⟨c', p2, rfl⟩, p3, p4⟩ := hH.own hi3 (by simp) S
        rcases h2.slice_inv with ⟨i', b', t', ha, rfl, hi', hf, hcap⟩ | ⟨rfl, _⟩
        · have hbl := congrArg Addr.block ha
          simp only at hbl
          obtain rfl : i' = i := by omega
          rw [p1] at hi'
          obtain ⟨rfl, rfl⟩ : b = b' ∧ t = t' := by simpa using hi'
          have hlt : k < L.length := (List.getElem?_eq_some_iff.1 p3).1
          have hzs : z.cells.size = sz := by simpa using b3
          have hnl : (madeL z.cells.toList (l * sz)).length = l * sz := by simp [madeL]
          have hfl : VRL ρ (madeL z.cells.toList (l * sz)) (madeL z.cells.toList (l * sz)) := VRL.flat (all_flat_made b6 (by rw [b3]; exact b4) _)
          refine (OW.clr (P := P) (w0 := w0) (n := n) (E := E) (z := z) h1 p4 b1 (by omega) (by rw [hzs]) (by rw [hnl, ← p2.1]; exact b5) b7).mono ?_
          rintro w S' ⟨rfl, rfl⟩
          exact ⟨ρ, L.set k (i', _), List.prefix_refl _, .tuple (cs := []) (cs' := []) rfl (fun j v u h => by simp at h), cs_set (x := (i', _)) hlt, hH.upd p1 p3 ⟨_, p2.setAt _ hfl, rfl⟩⟩
        · exfalso
          have : ownB = 1099511627776 := rfl
          simp only at hi1
          omega
      · cases h
    · cases h
  case xc row xs =>
    split at h
    · rename_i vs hv
      split at h
      · rename_i v hx
        obtain rfl := Option.some.inj h
        obtain ⟨us, h1, h2⟩ := evs_spec hT hv
        have h0 : (Extern.allNextRows.lookup "").isNone = true := by kernel_rfl
        unfold evX.xcE at hx
        split at hx
        · rename_i s c
          obtain rfl := Option.some.inj hx
          obtain ⟨_, _, rfl, e1, h2⟩ := h2.cons_left
          obtain ⟨_, _, rfl, e2, h2⟩ := h2.cons_left
          obtain rfl := h2.nil_left
          obtain rfl := e1.str_inv
          obtain rfl := e2.int_inv
          exact Snd.det (Yields.xc (e := Extern.BytealgIndexByte.indexByte) h1 (by kernel_rfl) h0 (fun fn hn => by unfold Extern.find; rw [hn]; kernel_rfl) (fun w => run_indexByte_string s c w)) (.flat rfl) hH
        · rename_i s c
          obtain rfl := Option.some.inj hx
          obtain ⟨_, _, rfl, e1, h2⟩ := h2.cons_left
          obtain ⟨_, _, rfl, e2, h2⟩ := h2.cons_left
          obtain rfl := h2.nil_left
          obtain rfl := e1.str_inv
          obtain rfl := e2.int_inv
          exact Snd.det (Yields.xc (e := Extern.BytealgCount.count) h1 (by kernel_rfl) h0 (fun fn hn => by unfold Extern.find; rw [hn]; kernel_rfl) (fun w => rfl)) (.flat rfl) hH
        · rename_i s t
          obtain rfl := Option.some.inj hx
          obtain ⟨_, _, rfl, e1, h2⟩ := h2.cons_left
          obtain ⟨_, _, rfl, e2, h2⟩ := h2.cons_left
          obtain rfl := h2.nil_left
          obtain rfl := e1.str_inv
          obtain rfl := e2.str_inv
          exact Snd.det (Yields.xc (e := Extern.BytealgCompare.compare) h1 (by kernel_rfl) h0 (fun fn hn => by unfold Extern.find; rw [hn]; kernel_rfl) (fun w => rfl)) (.flat rfl) hH
        · cases hx
      · cases h
    · cases h
  all_goals cases h
theorem snd_pure {po : PO} {v : Value} (hT : TR ρ T Tc) (hH : HR w0 ρ H L) (h : evP po T = some v) : Snd P w0 n S po Tc ρ L (v, H) := by
  obtain ⟨u, h1, h2⟩ := evP_snd (P := P) (w0 := w0) (n := n) (S := cs L S) hT h
  exact Snd.det h1 h2 hH
/-- what the evaluator tells of an operation is so -/
theorem evM_snd {po : PO} (hT : TR ρ T Tc) (hH : HR w0 ρ H L) (h : evM po T H = some r) : Snd P w0 n S po Tc ρ L r := by
  cases po
  case ld => exact snd_ld hT hH h
  case ldA => exact snd_ldA hT hH h
  case st => exact snd_st hT hH h
  case build => exact snd_build hT hH h
  case bsl => exact snd_bsl hT hH h
  case bsl0 => exact snd_bsl0 hH h
  case al => exact snd_al hH h
  case bx => exact snd_bx hT hH h
  case mkM => exact snd_mkM hH h
  case mkS => exact snd_mkS hT hH h
  case lenM => exact snd_lenM hT hH h
  case lookS => exact snd_lookS hT hH h
  case updS => exact snd_updS hT hH h
  case slS => exact snd_slS hT hH h
  case slA => exact snd_slA hT hH h
  case app => exact snd_app hT hH h
  case appStr => exact snd_appStr hT hH h
  case strOf => exact snd_strOf hT hH h
  case bytesOf => exact snd_bytesOf hT hH h
  case cpy => exact snd_cpy hT hH h
  case more => exact snd_X hT hH (by simpa only [evM] using h)
  all_goals
    simp only [evM] at h
    split at h
    · rename_i v hv
      obtain rfl := Option.some.inj h
      exact snd_pure hT hH hv
    · cases h
end
end Go.SL

set_option linter.unusedVariables false
set_option linter.unusedSimpArgs false
namespace Go.SL
open Go.RowKit
def MO.pvs : MO → List PV
  | .other _ => []
  | .neg x | .mkI _ x | .eqI _ x | .slNil _ x | .cvS x | .rngS x | .nxtS x | .clr _ _ _ x | .usd x => [x]
  | .slAr _ _ x l h => x :: (l.toList ++ h.toList)
  | .xc _ xs => xs
  | .eqD _ _ _ x y | .eqJ _ _ x y | .uss _ x y => [x, y]
  | .bldA _ ps => ps.map (·.2.2)
/-- the operands -/
def PO.pvs : PO → List PV
  | .mov x | .not x | .cvt _ x | .ld x | .ldA _ x | .fa _ x | .fld _ x | .fldA _ _ x | .lenS x | .lenStr x | .lenM x | .ext _ x | .bx _ x | .nilc x | .strOf x | .bytesOf _ x | .slA _ x => [x]
  | .bin _ x y | .binB _ x y | .st _ x y | .ixS _ x y | .ixStr x y | .lookS _ _ x y | .app _ _ _ _ _ x y | .eqA _ _ _ x y | .eqP _ x y | .appStr _ _ _ _ _ x y | .ixA _ _ x y | .mkS _ _ _ _ _ x y | .cpy _ _ x y => [x, y]
  | .pick a b c | .updS a b c => [a, b, c]
  | .slS _ x l h | .slStr x l h => x :: (l.toList ++ h.toList)
  | .build _ ps => ps.map (·.2.2)
  | .bsl _ _ _ ps => ps.map (·.2.2)
  | .mnx _ xs => xs
  | .call _ xs => xs
  | .callv f xs => f :: xs
  | .mkF _ xs => xs
  | .mkM | .al _ _ | .bsl0 _ => []
  | .more m => m.pvs
abbrev CallE := FuncId → List Value → EH → Option (Value × EH)
def evO (call : CallE) (po : PO) (T : TT) (H : EH) : Option (Value × EH) :=
  match po with
  | .call f xs => match evP.evs T xs with | some vs => call f vs H | none => none
  | .callv f xs => match f.ev T, evP.evs T xs with | some (.func (.func g) fi ca), some vs => call g (fi.toList ++ vs ++ ca.toList) H | _, _ => none
  | po => evM po T H
def wantE (T : TT) : Option (Nat × Bool) → Option Bool
  | none => some true
  | some (s, b) => match look T s with | some (.bool c) => some (c == b) | some _ => some false | none => none
def evL (call : CallE) : List PI → TT → EH → Option (TT × EH)
  | [], T, H => some (T, H)
  | ⟨d, g, o⟩ :: r, T, H => match wantE T g with
    | some true => (match evO call o T H with | some (v, H') => evL call r (put d v T) H' | none => none)
    | some false => evL call r (put d undef T) H
    | none => none
section
variable {P : Program} {w0 : World} {n : Nat} {T Tc : TT} {S : SS} {ρ : Rho} {H : EH} {L : LL} {r : Value × EH}
/-- what calls tell is so -/
def CallOk (P : Program) (w0 : World) (call : CallE) : Prop := ∀ f vs H r, call f vs H = some r → fnOk P f = true ∧ ∀ ρ L S us, VRL ρ vs us → HR w0 ρ H L →
  FC P w0 f us (cs L S) (fun u S' => ∃ ρ' L', ρ <+: ρ' ∧ VR ρ' r.1 u ∧ S' = cs L' S ∧ HR w0 ρ' r.2 L')
theorem evO_snd {call : CallE} {po : PO} (hc : CallOk P w0 call) (hT : TR ρ T Tc) (hH : HR w0 ρ H L) (h : evO call po T H = some r) : Snd P w0 n S po Tc ρ L r := by
  unfold evO at h
  split at h
  · split at h
    · rename_i vs hv
      obtain ⟨us, h1, h2⟩ := evs_spec hT hv
      exact OW.call h1 ((hc _ _ _ _ h).2 ρ L S us h2 hH)
    · cases h
  · split at h
    · rename_i f xs g fi ca vs hf hv
      obtain ⟨us, h1, h2⟩ := evs_spec hT hv
      obtain ⟨u, h3, h4⟩ := hT.ev hf
      obtain ⟨fi', ca', rfl, h5, h6⟩ := h4.func_inv
      obtain ⟨hok, hfc⟩ := hc _ _ _ _ h
      exact OW.callv h3 hok h1 (hfc ρ L S _ ((h5.append h2).append h6) hH)
    · cases h
  · exact evM_snd hT hH h
theorem VR.boolOf {v u : Value} (h : VR ρ v u) : boolOf u = boolOf v := by cases h <;> rfl
theorem want_on (hT : TR ρ T Tc) {g : Option (Nat × Bool)} (h : wantE T g = some true) : gOk Tc g := by
  cases g with
  | none => trivial
  | some p =>
    obtain ⟨s, b⟩ := p
    simp only [wantE] at h
    split at h
    · rename_i c hl
      simp only [Option.some.injEq, beq_iff_eq] at h
      subst h
      obtain ⟨u, h1, h2⟩ := hT s _ hl
      obtain rfl := h2.bool_inv
      exact h1
    · cases h
    · cases h
theorem want_off (hT : TR ρ T Tc) {g : Option (Nat × Bool)} (h : wantE T g = some false) : ∃ s b u, g = some (s, b) ∧ look Tc s = some u ∧ (boolOf u == some b) = false := by
  cases g with
  | none => simp [wantE] at h
  | some p =>
    obtain ⟨s, b⟩ := p
    simp only [wantE] at h
    split at h
    · rename_i c hl
      simp only [Option.some.injEq] at h
      obtain ⟨u, h1, h2⟩ := hT s _ hl
      obtain rfl := h2.bool_inv
      refine ⟨s, b, _, rfl, h1, ?_⟩
      simp only [boolOf]
      cases c <;> cases b <;> simp at h ⊢
    · rename_i v hnb hl
      obtain ⟨u, h1, h2⟩ := hT s _ hl
      refine ⟨s, b, u, rfl, h1, ?_⟩
      rw [h2.boolOf]
      cases v with
      | bool c => exact absurd rfl (hnb c)
      | _ => rfl
    · cases h
def StR (w0 : World) (ρ : Rho) (S : SS) (T' : TT) (H' : EH) : TT → SS → Prop := fun Tc' S' => ∃ ρ' L', ρ <+: ρ' ∧ TR ρ' T' Tc' ∧ S' = cs L' S ∧ HR w0 ρ' H' L'
theorem undef_VR : VR ρ undef undef := .tuple (cs := []) (cs' := []) rfl (fun j v u h => by simp at h)
theorem evL_ol {call : CallE} (hc : CallOk P w0 call) : ∀ {l : List PI} {T Tc : TT} {ρ : Rho} {H : EH} {L : LL} {T' : TT} {H' : EH}, TR ρ T Tc → HR w0 ρ H L → evL call l T H = some (T', H') → OL P w0 n l Tc (cs L S) (StR w0 ρ S T' H')
  | [], T, Tc, ρ, H, L, T', H', hT, hH, h => by
    simp only [evL, Option.some.injEq, Prod.mk.injEq] at h
    obtain ⟨rfl, rfl⟩ := h
    exact OL.nil ⟨ρ, L, List.prefix_refl _, hT, rfl, hH⟩
  | ⟨d, g, o⟩ :: l, T, Tc, ρ, H, L, T', H', hT, hH, h => by
    simp only [evL] at h
    split at h
    · rename_i hw
      split at h
      · rename_i v H1 ho
        refine OL.cons (want_on hT hw) (evO_snd hc hT hH ho) ?_
        rintro u S' ⟨ρ1, L1, hp, hv, rfl, hH1⟩
        have := evL_ol hc ((hT.mono hp).put hv d) hH1 h
        exact fun ops is a w Q hcs hs hr hq => this ops is a w Q hcs hs hr fun a' w' T2 S2 q1 q2 ⟨ρ2, L2, p1, p2⟩ => hq a' w' T2 S2 q1 q2 ⟨ρ2, L2, hp.trans p1, p2⟩
      · cases h
    · rename_i hw
      obtain ⟨s, b, u, rfl, h1, h2⟩ := want_off hT hw
      exact OL.off h1 h2 (evL_ol hc (hT.put undef_VR d) hH h)
    · cases h
def Agree (T T' : TT) (l : List PV) : Prop := ∀ x ∈ l, PV.ev T x = PV.ev T' x
theorem evs_congr {T T' : TT} : ∀ {xs : List PV}, Agree T T' xs → evP.evs T xs = evP.evs T' xs
  | [], h => rfl
  | x :: xs, h => by
    simp only [evP.evs]
    rw [h x (by simp), evs_congr (fun y hy => h y (by simp [hy]))]
theorem ovE_congr {T T' : TT} {x : Option PV} (h : Agree T T' x.toList) : evP.ovE x T = evP.ovE x T' := by
  cases x with
  | none => rfl
  | some x => simp only [evP.ovE]; rw [h x (by simp)]
theorem fillE_congr {T T' : TT} : ∀ {ps : List (Nat × Nat × PV)} {c : List Value}, Agree T T' (ps.map (·.2.2)) → fillE T c ps = fillE T' c ps
  | [], c, h => rfl
  | (off, size, x) :: r, c, h => by
    simp only [fillE]
    rw [h x (by simp)]
    have : ∀ c, fillE T c r = fillE T' c r := fun c => fillE_congr fun y hy => h y (by simp at hy ⊢; exact .inr hy)
    simp only [this]
theorem Agree.app {T T' : TT} {a b : List PV} (h : Agree T T' (a ++ b)) : Agree T T' a ∧ Agree T T' b := ⟨fun x hx => h x (by simp [hx]), fun x hx => h x (by simp [hx])⟩
theorem evP_congr {po : PO} {T T' : TT} (h : Agree T T' po.pvs) : evP po T = evP po T' := by
  cases po
  case mnx mx xs =>
    have e : ∀ T, evP (.mnx mx xs) T = match xs with | [x, y] => (match x.ev T, y.ev T with | some (.int k a), some (.int _ b) => some (.int k (if mx then (if b > a then b else a) else (if b < a then b else a))) | _, _ => none) | _ => none := by
      intro T
      rcases xs with _ | ⟨x, _ | ⟨y, _ | ⟨z, xs⟩⟩⟩ <;> rfl
    rw [e, e]
    rcases xs with _ | ⟨x, _ | ⟨y, _ | ⟨z, xs⟩⟩⟩ <;> try rfl
    simp only [h x (by simp [PO.pvs]), h y (by simp [PO.pvs])]
  case slStr x l hh =>
    have h1 := h x (by simp [PO.pvs])
    have h2 : Agree T T' (l.toList ++ hh.toList) := fun y hy => h y (by simp only [PO.pvs]; exact List.mem_cons_of_mem _ hy)
    simp only [evP, h1, ovE_congr h2.app.1, ovE_congr h2.app.2]
  case mkF f xs => simp only [evP, evs_congr (xs := xs) h]
  all_goals (try rfl)
  all_goals (simp only [Agree, PO.pvs, List.mem_cons, List.not_mem_nil, or_false, forall_eq_or_imp, forall_eq] at h)
  all_goals simp only [evP, h]
theorem evX_congr {m : MO} {T T' : TT} (h : Agree T T' m.pvs) : evX m T H = evX m T' H := by
  cases m
  case slAr len sz x l hh =>
    have h1 := h x (by simp [MO.pvs])
    have h2 : Agree T T' (l.toList ++ hh.toList) := fun y hy => h y (by simp only [MO.pvs]; exact List.mem_cons_of_mem _ hy)
    simp only [evX, h1, ovE_congr h2.app.1, ovE_congr h2.app.2]
  case xc row xs => simp only [evX, evs_congr (xs := xs) h]
  case bldA z ps => simp only [evX, fillE_congr (ps := ps) h]
  all_goals (try rfl)
  all_goals (simp only [Agree, MO.pvs, List.mem_cons, List.not_mem_nil, or_false, forall_eq_or_imp, forall_eq] at h)
  all_goals (first | (simp only [evX, h]; done) | rfl)
theorem evM_congr {po : PO} {T T' : TT} (h : Agree T T' po.pvs) : evM po T H = evM po T' H := by
  have hp := evP_congr h
  cases po
  case build z ps => simp only [evM, fillE_congr (ps := ps) h]
  case bsl E z len ps => simp only [evM, fillE_congr (ps := ps) h]
  case more m => simp only [evM]; exact evX_congr h
  case slS sz x l hh =>
    have h1 := h x (by simp [PO.pvs])
    have h2 : Agree T T' (l.toList ++ hh.toList) := fun y hy => h y (by simp only [PO.pvs]; exact List.mem_cons_of_mem _ hy)
    simp only [evM, h1, ovE_congr h2.app.1, ovE_congr h2.app.2]
  all_goals (first | rfl | (simp only [evM, hp]; done) | skip)
  all_goals (simp only [Agree, PO.pvs, List.mem_cons, List.not_mem_nil, or_false, forall_eq_or_imp, forall_eq] at h)
  all_goals simp only [evM, h]
theorem evO_congr {call : CallE} {po : PO} {T T' : TT} (h : Agree T T' po.pvs) : evO call po T H = evO call po T' H := by
  unfold evO
  split
  · rename_i f xs; rw [evs_congr (xs := xs) h]
  · rename_i f xs
    rw [h f (by simp [PO.pvs]), evs_congr (xs := xs) fun y hy => h y (by simp [PO.pvs, hy])]
  · exact evM_congr h
theorem wantE_congr {T T' : TT} {g : Option (Nat × Bool)} (h : ∀ s b, g = some (s, b) → look T s = look T' s) : wantE T g = wantE T' g := by
  cases g with
  | none => rfl
  | some p => simp only [wantE]; rw [h p.1 p.2 rfl]
theorem cV_t {x : Operand} {t : Nat} (h : cV x = .t t) : x = .tmp t := by cases x <;> simp [cV] at h; rw [h]
theorem parts_mem {place : Nat → Option (Nat × Nat)} : ∀ {qs : List (Nat × Operand)} {ps : List (Nat × Nat × PV)}, partsAt place qs = some ps → ∀ x ∈ ps.map (·.2.2), ∃ y ∈ qs.map (·.2), x = cV y
  | [], ps, h => by simp [partsAt] at h; subst h; simp
  | (i, q) :: qs, ps, h => by
    simp only [partsAt, List.mapM_cons, Option.bind_eq_bind, Option.bind_eq_some_iff, Option.map_eq_some_iff] at h
    obtain ⟨p, ⟨q', h1, rfl⟩, l, h2, h3⟩ := h
    simp at h3
    subst h3
    intro x hx
    simp only [List.map_cons, List.mem_cons] at hx ⊢
    rcases hx with rfl | hx
    · exact ⟨q, .inl rfl, rfl⟩
    · obtain ⟨y, h4, h5⟩ := parts_mem (qs := qs) h2 x hx
      exact ⟨y, .inr h4, h5⟩
theorem call_operands {c : Call} : c.operands = (match c.callee with | .value f => #[f] | .invoke r _ => #[r] | .builtin _ => #[]) ++ c.args := by
  unfold Call.operands
  cases c.callee <;> rfl
set_option maxHeartbeats 2000000 in
theorem pvs_op {o : Oper} {po : PO} (h : cOp P o = some po) : ∀ x ∈ po.pvs, ∀ t, x = .t t → Operand.tmp t ∈ o.op.operands := by
  have hs := cOp_spec P h
  intro x hx t ht
  subst ht
  have key : ∀ {y : Operand}, PV.t t = cV y → Operand.tmp t = y := fun {y} e => (cV_t e.symm).symm
  cases po <;> simp only [Spec] at hs <;> simp only [PO.pvs, List.mem_cons, List.not_mem_nil, or_false, List.mem_append] at hx
  case mov => rcases hs with ⟨y, ho, rfl⟩ | ⟨y, ho, rfl⟩ <;> rw [ho] <;> simp [Op.operands, key hx]
  case bin => obtain ⟨_, a, b, _, ho, rfl, rfl, _⟩ := hs; rw [ho]; rcases hx with hx | hx <;> simp [Op.operands, key hx]
  case binB => obtain ⟨_, a, b, _, ho, rfl, rfl, _⟩ := hs; rw [ho]; rcases hx with hx | hx <;> simp [Op.operands, key hx]
  case not => obtain ⟨_, a, ho, rfl⟩ := hs; rw [ho]; simp [Op.operands, key hx]
  case cvt => obtain ⟨_, _, a, _, ho, rfl, _⟩ := hs; rw [ho]; simp [Op.operands, key hx]
  case pick => obtain ⟨_, _, _, ho, rfl, rfl, rfl⟩ := hs; rw [ho]; rcases hx with hx | hx | hx <;> simp [Op.operands, key hx]
  case ld => obtain ⟨_, a, ho, rfl, _⟩ := hs; rw [ho]; simp [Op.operands, key hx]
  case ldA => obtain ⟨_, a, ho, rfl, _⟩ := hs; rw [ho]; simp [Op.operands, key hx]
  case st => obtain ⟨_, a, b, _, ho, rfl, rfl, _⟩ := hs; rw [ho]; rcases hx with hx | hx <;> simp [Op.operands, key hx]
  case fa => obtain ⟨_, a, _, _, _, _, ho, rfl, _⟩ := hs; rw [ho]; simp [Op.operands, key hx]
  case fld => obtain ⟨_, a, _, _, _, ho, rfl, _⟩ := hs; rw [ho]; simp [Op.operands, key hx]
  case fldA => obtain ⟨_, a, _, _, _, ho, rfl, _⟩ := hs; rw [ho]; simp [Op.operands, key hx]
  case ixS => obtain ⟨_, a, b, _, _, ho, rfl, rfl, _⟩ := hs; rw [ho]; rcases hx with hx | hx <;> simp [Op.operands, key hx]
  case ixStr => obtain ⟨_, a, b, ho, rfl, rfl, _⟩ := hs; rw [ho]; rcases hx with hx | hx <;> simp [Op.operands, key hx]
  case lenS => obtain ⟨_, _, a, c, ho, hc, _, ha, rfl, _⟩ := hs; rw [ho]; simp [Op.operands, call_operands, key hx, Array.mem_of_getElem? ha]
  case lenStr => obtain ⟨_, a, c, ho, hc, _, ha, rfl, _⟩ := hs; rw [ho]; simp [Op.operands, call_operands, key hx, Array.mem_of_getElem? ha]
  case lenM => obtain ⟨_, _, _, a, c, ho, hc, _, ha, rfl, _⟩ := hs; rw [ho]; simp [Op.operands, call_operands, key hx, Array.mem_of_getElem? ha]
  case slS =>
    obtain ⟨_, a, l, hh, _, _, ho, rfl, rfl, rfl, _⟩ := hs
    rw [ho]
    rcases hx with hx | hx | hx
    · simp [Op.operands, key hx]
    · obtain ⟨y, hy, e⟩ : ∃ y, l = some y ∧ PV.t t = cV y := by cases l <;> simp at hx; exact ⟨_, rfl, hx⟩
      simp [Op.operands, key e, hy]
    · obtain ⟨y, hy, e⟩ : ∃ y, hh = some y ∧ PV.t t = cV y := by cases hh <;> simp at hx; exact ⟨_, rfl, hx⟩
      simp [Op.operands, key e, hy]
  case slStr =>
    obtain ⟨_, a, l, hh, ho, rfl, rfl, rfl, _⟩ := hs
    rw [ho]
    rcases hx with hx | hx | hx
    · simp [Op.operands, key hx]
    · obtain ⟨y, hy, e⟩ : ∃ y, l = some y ∧ PV.t t = cV y := by cases l <;> simp at hx; exact ⟨_, rfl, hx⟩
      simp [Op.operands, key e, hy]
    · obtain ⟨y, hy, e⟩ : ∃ y, hh = some y ∧ PV.t t = cV y := by cases hh <;> simp at hx; exact ⟨_, rfl, hx⟩
      simp [Op.operands, key e, hy]
  case build =>
    obtain ⟨_, qs, _, _, _, _, ho, _, _, _, _, _, hp⟩ := hs
    obtain ⟨y, hy, e⟩ := parts_mem hp _ hx
    rw [ho, key e]
    simpa [Op.operands] using hy
  case bsl =>
    obtain ⟨_, qs, _, _, ho, _, _, _, _, _, _, hp⟩ := hs
    obtain ⟨y, hy, e⟩ := parts_mem hp _ hx
    rw [ho, key e]
    simpa [Op.operands] using hy
  case mkS => obtain ⟨a, b, _, ho, rfl, rfl, _⟩ := hs; rw [ho]; rcases hx with hx | hx <;> simp [Op.operands, key hx]
  case lookS => obtain ⟨_, a, b, _, _, _, ho, rfl, rfl, _⟩ := hs; rw [ho]; rcases hx with hx | hx <;> simp [Op.operands, key hx]
  case updS => obtain ⟨_, a, b, c, _, _, ho, rfl, rfl, rfl, _⟩ := hs; rw [ho]; rcases hx with hx | hx | hx <;> simp [Op.operands, key hx]
  case ext => obtain ⟨a, ho, rfl⟩ := hs; rw [ho]; simp [Op.operands, key hx]
  case app => obtain ⟨a, b, c, _, ho, hc, _, ha, rfl, rfl, _⟩ := hs; rw [ho]; rcases hx with hx | hx <;> simp [Op.operands, call_operands, ha, key hx]
  case mnx =>
    obtain ⟨c, ho, hc, rfl⟩ := hs
    obtain ⟨y, hy, e⟩ := List.mem_map.1 hx
    rw [ho, key e.symm]
    simp only [Op.operands, call_operands]
    exact Array.mem_append_right _ (by simpa using hy)
  case call =>
    obtain ⟨c, ho, hc, rfl, _⟩ := hs
    obtain ⟨y, hy, e⟩ := List.mem_map.1 hx
    rw [ho, key e.symm]
    simp only [Op.operands, call_operands]
    exact Array.mem_append_right _ (by simpa using hy)
  case eqA => obtain ⟨a, b, _, ho, rfl, rfl, _⟩ := hs; rw [ho]; rcases hx with hx | hx <;> simp [Op.operands, key hx]
  case bx => obtain ⟨a, ho, rfl⟩ := hs; rw [ho]; simp [Op.operands, key hx]
  case nilc => obtain ⟨a, ho, rfl⟩ := hs; rw [ho]; simp [Op.operands, key hx]
  case eqP => obtain ⟨_, a, b, _, ho, rfl, rfl, _⟩ := hs; rw [ho]; rcases hx with hx | hx <;> simp [Op.operands, key hx]
  case strOf => obtain ⟨_, _, a, _, ho, rfl, _⟩ := hs; rw [ho]; simp [Op.operands, key hx]
  case bytesOf => obtain ⟨_, _, a, ho, rfl, _⟩ := hs; rw [ho]; simp [Op.operands, key hx]
  case appStr => obtain ⟨a, b, c, _, ho, hc, _, ha, rfl, rfl, _⟩ := hs; rw [ho]; rcases hx with hx | hx <;> simp [Op.operands, call_operands, ha, key hx]
  case slA => obtain ⟨_, a, _, _, ho, rfl, _⟩ := hs; rw [ho]; simp [Op.operands, key hx]
  case ixA => obtain ⟨_, a, b, _, _, ho, rfl, rfl, _⟩ := hs; rw [ho]; rcases hx with hx | hx <;> simp [Op.operands, key hx]
  case callv =>
    obtain ⟨c, y, ho, hc, rfl, rfl⟩ := hs
    rw [ho]
    rcases hx with hx | hx
    · simp [Op.operands, call_operands, hc, key hx]
    · obtain ⟨z, hz, e⟩ := List.mem_map.1 hx
      rw [key e.symm]
      simp only [Op.operands, call_operands]
      exact Array.mem_append_right _ (by simpa using hz)
  case mkF =>
    obtain ⟨fi, c, ho, _, rfl⟩ := hs
    obtain ⟨y, hy, e⟩ := List.mem_map.1 hx
    rw [ho, key e.symm]
    simp only [Op.operands]
    exact Array.mem_append_right _ (by simpa using hy)
  case more m =>
    cases m <;> simp only [Spec] at hs <;> simp only [MO.pvs, List.mem_cons, List.not_mem_nil, or_false, List.mem_append] at hx
    case neg => obtain ⟨_, a, ho, rfl⟩ := hs; rw [ho]; simp [Op.operands, key hx]
    case mkI => obtain ⟨a, _, ho, rfl, _⟩ := hs; rw [ho]; simp [Op.operands, key hx]
    case eqI => obtain ⟨_, a, b, _, _, ho, rfl, _⟩ := hs; rw [ho]; simp [Op.operands, key hx]
    case eqJ => obtain ⟨_, a, b, _, _, ho, rfl, rfl, _⟩ := hs; rw [ho]; rcases hx with hx | hx <;> simp [Op.operands, key hx]
    case slNil => obtain ⟨_, a, b, _, _, ho, rfl, _⟩ := hs; rw [ho]; simp [Op.operands, key hx]
    case cvS => obtain ⟨_, _, a, _, ho, rfl, _⟩ := hs; rw [ho]; simp [Op.operands, key hx]
    case rngS => obtain ⟨_, a, ho, rfl, _⟩ := hs; rw [ho]; simp [Op.operands, key hx]
    case nxtS => obtain ⟨a, ho, rfl⟩ := hs; rw [ho]; simp [Op.operands, key hx]
    case clr => obtain ⟨_, a, c, _, ho, hc, _, ha, rfl, _⟩ := hs; rw [ho]; simp [Op.operands, call_operands, ha, key hx]
    case usd => obtain ⟨c, a, ho, hc, ha, rfl⟩ := hs; rw [ho]; simp [Op.operands, call_operands, ha, key hx]
    case uss => obtain ⟨_, _, c, a, b, ho, hc, _, ha, rfl, rfl, _⟩ := hs; rw [ho]; rcases hx with hx | hx <;> simp [Op.operands, call_operands, ha, key hx]
    case bldA =>
      obtain ⟨_, qs, _, _, _, _, _, ho, _, _, _, _, _, hp⟩ := hs
      obtain ⟨y, hy, e⟩ := parts_mem hp _ hx
      rw [ho, key e]
      simpa [Op.operands] using hy
    case eqD => obtain ⟨a, b, _, ho, rfl, rfl, _⟩ := hs; rw [ho]; rcases hx with hx | hx <;> simp [Op.operands, key hx]
    case slAr =>
      obtain ⟨_, a, l, hh, _, _, ho, rfl, rfl, rfl, _⟩ := hs
      rw [ho]
      rcases hx with hx | hx | hx
      · simp [Op.operands, key hx]
      · obtain ⟨y, hy, e⟩ : ∃ y, l = some y ∧ PV.t t = cV y := by cases l <;> simp at hx; exact ⟨_, rfl, hx⟩
        simp [Op.operands, key e, hy]
      · obtain ⟨y, hy, e⟩ : ∃ y, hh = some y ∧ PV.t t = cV y := by cases hh <;> simp at hx; exact ⟨_, rfl, hx⟩
        simp [Op.operands, key e, hy]
    case xc =>
      obtain ⟨c, _, _, ho, hc, rfl, _⟩ := hs
      obtain ⟨y, hy, e⟩ := List.mem_map.1 hx
      rw [ho, key e.symm]
      simp only [Op.operands, call_operands]
      exact Array.mem_append_right _ (by simpa using hy)
  case cpy => obtain ⟨_, _, a, b, c, _, ho, hc, _, ha, rfl, rfl, _⟩ := hs; rw [ho]; rcases hx with hx | hx <;> simp [Op.operands, call_operands, ha, key hx]
end
end Go.SL

set_option linter.unusedVariables false
set_option linter.unusedSimpArgs false
namespace Go.SL
open Go.RowKit
def MO.sort : MO → Nat
  | .neg _ | .mkI _ _ | .eqI _ _ | .eqJ _ _ _ _ | .slNil _ _ | .slAr _ _ _ _ _ | .eqD _ _ _ _ _ | .bldA _ _ => 0
  | _ => 2
/-- 0: looks at no memory; 1: looks at memory and turns none; 2: any other -/
def PO.sort : PO → Nat
  | .mov _ | .bin _ _ _ | .binB _ _ _ | .not _ | .cvt _ _ | .pick _ _ _ | .fa _ _ | .fld _ _ | .fldA _ _ _ | .ixS _ _ _ | .ixStr _ _ | .lenS _ | .lenStr _ | .slStr _ _ _ | .ext _ _ | .mnx _ _ | .eqA _ _ _ _ _ | .nilc _ | .eqP _ _ _ | .slA _ _ | .ixA _ _ _ _ | .mkF _ _ | .slS _ _ _ _ | .build _ _ => 0
  | .ld _ | .ldA _ _ | .lenM _ | .lookS _ _ _ _ | .strOf _ => 1
  | .more m => m.sort
  | _ => 2
def PI.loud (x : PI) : Bool := Nat.beq x.o.sort 2
def flatEq : Value → Value → Bool
  | .bool a, .bool b => a == b
  | .int k a, .int k' b => (if k = k' then true else false) && (if a = b then true else false)
  | .string a, .string b => strEq a b
  | .pointer none, .pointer none => true
  | .pointer (some a), .pointer (some b) => Nat.beq a.block b.block && Nat.beq a.off b.off && a.spot.isNone && b.spot.isNone
  | .slice none l c, .slice none l' c' => Nat.beq l l' && Nat.beq c c'
  | .slice (some a) l c, .slice (some b) l' c' => Nat.beq a.block b.block && Nat.beq a.off b.off && a.spot.isNone && b.spot.isNone && Nat.beq l l' && Nat.beq c c'
  | .map none, .map none => true
  | .map (some a), .map (some b) => Nat.beq a b
  | .nilFunc, .nilFunc => true
  | .nilIface, .nilIface => true
  | .chan none, .chan none => true
  | _, _ => false
def listEq : List Value → List Value → Bool
  | [], [] => true
  | a :: x, b :: y => flatEq a b && listEq x y
  | _, _ => false
def valEq : Value → Value → Bool
  | .agg a, .agg b => listEq a.toList b.toList
  | .tuple a, .tuple b => listEq a.toList b.toList
  | .iface t a, .iface u b => Nat.beq t u && flatEq a b
  | a, b => flatEq a b
theorem addr_eq {a b : Addr} (h : (Nat.beq a.block b.block && Nat.beq a.off b.off && a.spot.isNone && b.spot.isNone) = true) : a = b := by
  obtain ⟨x, y, z⟩ := a
  obtain ⟨x', y', z'⟩ := b
  simp only [Bool.and_eq_true, Option.isNone_iff_eq_none] at h
  obtain ⟨⟨⟨h1, h2⟩, h3⟩, h4⟩ := h
  try simp only at h3 h4
  rw [Nat.eq_of_beq_eq_true h1, Nat.eq_of_beq_eq_true h2, h3, h4]
theorem flatEq_eq {a b : Value} (h : flatEq a b = true) : a = b := by
  unfold flatEq at h
  split at h
  · rw [beq_iff_eq] at h; rw [h]
  · simp only [Bool.and_eq_true] at h
    obtain ⟨h1, h2⟩ := h
    split at h1
    · split at h2
      · rename_i e1 e2; rw [e1, e2]
      · cases h2
    · cases h1
  · rename_i x y
    rw [strEq_eq] at h
    have e := (Go.MapKept.bytes_beq x y).1 h
    rw [e]
  · rfl
  · rw [addr_eq h]
  · simp only [Bool.and_eq_true] at h; rw [Nat.eq_of_beq_eq_true h.1, Nat.eq_of_beq_eq_true h.2]
  · simp only [Bool.and_eq_true] at h
    obtain ⟨⟨⟨⟨⟨h1, h2⟩, h3⟩, h4⟩, h5⟩, h6⟩ := h
    rename_i x _ _ y _ _
    have e : x = y := addr_eq (by simp only [Bool.and_eq_true, Option.isNone_iff_eq_none]; exact ⟨⟨⟨h1, h2⟩, by simpa using h3⟩, by simpa using h4⟩)
    rw [e, Nat.eq_of_beq_eq_true h5, Nat.eq_of_beq_eq_true h6]
  · rfl
  · rw [Nat.eq_of_beq_eq_true h]
  · rfl
  · rfl
  · rfl
  · cases h
theorem listEq_eq : ∀ {a b : List Value}, listEq a b = true → a = b
  | [], [], _ => rfl
  | a :: x, b :: y, h => by
    simp only [listEq, Bool.and_eq_true] at h
    rw [flatEq_eq h.1, listEq_eq h.2]
  | [], b :: y, h => by cases h
  | a :: x, [], h => by cases h
theorem valEq_eq {a b : Value} (h : valEq a b = true) : a = b := by
  unfold valEq at h
  split at h
  · rw [Array.toList_inj.1 (listEq_eq h)]
  · rw [Array.toList_inj.1 (listEq_eq h)]
  · simp only [Bool.and_eq_true] at h; rw [Nat.eq_of_beq_eq_true h.1, flatEq_eq h.2]
  · exact flatEq_eq h
theorem evP_any {po : PO} {T : TT} {H : EH} {v : Value} {H' : EH} (h : (match evP po T with | some v => some (v, H) | none => none) = some (v, H')) : evP po T = some v ∧ H' = H := by
  split at h
  · rename_i w hw
    simp only [Option.some.injEq, Prod.mk.injEq] at h
    exact ⟨by rw [hw, h.1], h.2.symm⟩
  · cases h
theorem sort0 {po : PO} {T : TT} {H H' : EH} {v : Value} (hs : po.sort = 0) (h : evM po T H = some (v, H')) : H' = H ∧ ∀ H2, evM po T H2 = some (v, H2) := by
  cases po <;> simp only [PO.sort] at hs <;> (first | (cases hs; done) | skip)
  case build z ps =>
    simp only [evM] at h ⊢
    obtain ⟨hz, h⟩ := bif_some h
    split at h
    · rename_i c hc
      simp only [Option.some.injEq, Prod.mk.injEq] at h
      refine ⟨h.2.symm, fun H2 => ?_⟩
      rw [hz]
      simp [hc, h.1]
    · cases h
  case slA len x =>
    simp only [evM] at h ⊢
    split at h
    · rename_i a hx
      obtain ⟨hb, h⟩ := bif_some h
      simp only [Option.some.injEq, Prod.mk.injEq] at h
      refine ⟨h.2.symm, fun H2 => ?_⟩
      rw [hb]
      simp [h.1]
    · cases h
  case slS sz x lo hi =>
    simp only [evM] at h ⊢
    split at h
    · split at h
      · rename_i w hw
        simp only [Option.some.injEq, Prod.mk.injEq] at h
        exact ⟨h.2.symm, fun H2 => by simp [hw, h.1]⟩
      · cases h
    · cases h
  case more m =>
    cases m <;> simp only [MO.sort] at hs <;> (first | (cases hs; done) | skip)
    all_goals simp only [evM, evX] at h ⊢
    case bldA z ps =>
      obtain ⟨hz, h⟩ := bif_some h
      split at h
      · rename_i c hc
        simp only [Option.some.injEq, Prod.mk.injEq] at h
        refine ⟨h.2.symm, fun H2 => ?_⟩
        rw [hz]
        simp [hc, h.1]
      · cases h
    case eqJ neg tys x y =>
      split at h
      · rename_i tx k a ty k' b hx hy
        cases hb : Nat.beq tx ty with
        | true =>
          rw [hb] at h
          simp only [cond_true] at h
          split at h
          · rename_i hc
            simp only [Option.some.injEq, Prod.mk.injEq] at h
            refine ⟨h.2.symm, fun H2 => ?_⟩
            simp only [cond_true]
            rw [if_pos hc, h.1]
          · cases h
        | false =>
          rw [hb] at h
          simp only [cond_false, Option.some.injEq, Prod.mk.injEq] at h
          exact ⟨h.2.symm, fun H2 => by simp only [cond_false]; rw [h.1]⟩
      · cases h
    case slAr len sz x l hh =>
      split at h
      · obtain ⟨hb, h⟩ := bif_some h
        split at h
        · rename_i w hw
          simp only [Option.some.injEq, Prod.mk.injEq] at h
          exact ⟨h.2.symm, fun H2 => by rw [hb]; simp [hw, h.1]⟩
        · cases h
      · cases h
    all_goals (repeat (split at h))
    all_goals (first | (cases h; done) | skip)
    all_goals (simp only [Option.some.injEq, Prod.mk.injEq] at h; obtain ⟨rfl, rfl⟩ := h; exact ⟨rfl, fun H2 => by simp [*]⟩)
  all_goals
    simp only [evM] at h ⊢
    obtain ⟨h1, h2⟩ := evP_any h
    exact ⟨h2, fun H2 => by rw [h1]⟩
theorem sort_le (po : PO) : po.sort ≤ 2 := by
  cases po <;> simp [PO.sort]
  rename_i m; cases m <;> simp [MO.sort]
theorem sort1 {po : PO} {T : TT} {H H' : EH} {v : Value} (hs : po.sort = 1) (h : evM po T H = some (v, H')) : H' = H := by
  cases po <;> simp only [PO.sort] at hs <;> (first | (cases hs; done) | skip)
  case more m => cases m <;> simp [MO.sort] at hs
  all_goals simp only [evM] at h
  case lookS z ok m k =>
    split at h
    · obtain ⟨_, h⟩ := bif_some h
      split at h
      · split at h <;> (simp only [Option.some.injEq, Prod.mk.injEq] at h; exact h.2.symm)
      · cases h
    · cases h
  all_goals (repeat (split at h))
  all_goals (first | (cases h; done) | (simp only [Option.some.injEq, Prod.mk.injEq] at h; exact h.2.symm))
theorem sort_call {po : PO} {call : CallE} {T : TT} {H : EH} (hs : po.sort ≠ 2) : evO call po T H = evM po T H := by
  unfold evO
  split
  · exact absurd rfl hs
  · exact absurd rfl hs
  · rfl
def evH (call : CallE) : List PI → TT → EH → Option (List (TT × Value) × List EH × TT × EH)
  | [], T, H => some ([], [], T, H)
  | x :: r, T, H => match wantE T x.g with
    | some true => (match evO call x.o T H with
      | some (v, H') => (match evH call r (put x.d v T) H' with | some (tr, gs, T', H'') => some ((T, v) :: tr, (bif x.loud then H' :: gs else gs), T', H'') | none => none)
      | none => none)
    | some false => (match evH call r (put x.d undef T) H with | some (tr, gs, T', H'') => some ((T, undef) :: tr, (bif x.loud then H :: gs else gs), T', H'') | none => none)
    | none => none
def loudN (l : List PI) (i : Nat) : Bool := match l[i]? with | some x => x.loud | none => false
/-- how many loud ones are among the first m, of those that f takes -/
def lcl (l : List PI) (f : Nat → Bool) : Nat → Nat
  | 0 => 0
  | m + 1 => lcl l f m + (if loudN l m && f m then 1 else 0)
theorem lcl_cons (x : PI) (l : List PI) (m : Nat) : lcl (x :: l) (fun _ => true) (m + 1) = (if x.loud then 1 else 0) + lcl l (fun _ => true) m := by
  induction m with
  | zero => simp [lcl, loudN]
  | succ m ih =>
    rw [lcl, ih, lcl]
    have : loudN (x :: l) (m + 1) = loudN l m := by simp [loudN]
    rw [this]; omega
def OnOff (call : CallE) (x : PI) (T : TT) (H H' : EH) (v : Value) : Prop := (wantE T x.g = some true ∧ evO call x.o T H = some (v, H')) ∨ (wantE T x.g = some false ∧ v = undef ∧ H' = H)
theorem evH_spec {call : CallE} : ∀ {l : List PI} {T : TT} {H : EH} {tr : List (TT × Value)} {gs : List EH} {T' : TT} {H' : EH}, evH call l T H = some (tr, gs, T', H') →
    ∃ (Ts : Nat → TT) (Hs : Nat → EH) (vs : Nat → Value), Ts 0 = T ∧ Hs 0 = H ∧ Ts l.length = T' ∧ Hs l.length = H' ∧
      (∀ i x, l[i]? = some x → Ts (i + 1) = put x.d (vs i) (Ts i) ∧ tr[i]? = some (Ts i, vs i) ∧ OnOff call x (Ts i) (Hs i) (Hs (i + 1)) (vs i) ∧ (x.loud = false → Hs (i + 1) = Hs i)) ∧
      ∀ i, i ≤ l.length → (H :: gs)[lcl l (fun _ => true) i]? = some (Hs i)
  | [], T, H, tr, gs, T', H', h => by
    simp only [evH, Option.some.injEq, Prod.mk.injEq] at h
    obtain ⟨rfl, rfl, rfl, rfl⟩ := h
    refine ⟨fun _ => T, fun _ => H, fun _ => undef, rfl, rfl, rfl, rfl, fun i x hx => by simp at hx, fun i hi => ?_⟩
    have e : i = 0 := by simpa using hi
    subst e
    rfl
  | x :: l, T, H, tr, gs, T', H', h => by
    have quiet : x.loud = false → ∀ v H1, evO call x.o T H = some (v, H1) → H1 = H := by
      intro hq v H1 ho
      have hs2 : x.o.sort ≠ 2 := fun e => by rw [PI.loud, e] at hq; cases hq
      rw [sort_call hs2] at ho
      by_cases h0 : x.o.sort = 0
      · exact (sort0 h0 ho).1
      · by_cases h1 : x.o.sort = 1
        · exact sort1 h1 ho
        · exfalso
          have := sort_le x.o
          omega
    have main : ∀ (v : Value) (H1 : EH), OnOff call x T H H1 v → (x.loud = false → H1 = H) → ∀ tr1 gs1, evH call l (put x.d v T) H1 = some (tr1, gs1, T', H') → tr = (T, v) :: tr1 → gs = (bif x.loud then H1 :: gs1 else gs1) →
        ∃ (Ts : Nat → TT) (Hs : Nat → EH) (vs : Nat → Value), Ts 0 = T ∧ Hs 0 = H ∧ Ts (x :: l).length = T' ∧ Hs (x :: l).length = H' ∧
          (∀ i y, (x :: l)[i]? = some y → Ts (i + 1) = put y.d (vs i) (Ts i) ∧ tr[i]? = some (Ts i, vs i) ∧ OnOff call y (Ts i) (Hs i) (Hs (i + 1)) (vs i) ∧ (y.loud = false → Hs (i + 1) = Hs i)) ∧
          ∀ i, i ≤ (x :: l).length → (H :: gs)[lcl (x :: l) (fun _ => true) i]? = some (Hs i) := by
      intro v H1 hon hq tr1 gs1 hev htr hgs
      obtain ⟨Ts, Hs, vs, h1, h2, h3, h4, h5, h6⟩ := evH_spec hev
      refine ⟨fun | 0 => T | i + 1 => Ts i, fun | 0 => H | i + 1 => Hs i, fun | 0 => v | i + 1 => vs i, rfl, rfl, h3, h4, ?_, ?_⟩
      · intro i y hy
        cases i with
        | zero =>
          simp at hy
          subst hy
          refine ⟨h1, by rw [htr]; rfl, by simp only [h2]; exact hon, fun e => by simp only [h2]; exact hq e⟩
        | succ i =>
          have := h5 i y (by simpa using hy)
          refine ⟨this.1, by rw [htr]; simpa using this.2.1, this.2.2⟩
      · intro i hi
        cases i with
        | zero => rfl
        | succ i =>
          have := h6 i (by simpa using hi)
          rw [lcl_cons]
          cases hl : x.loud with
          | false =>
            rw [hgs, hl]
            simp only [Bool.false_eq_true, if_false, Nat.zero_add, cond_false]
            rw [hq hl] at this
            exact this
          | true =>
            rw [hgs, hl]
            simp only [if_true, cond_true]
            rw [Nat.add_comm 1, List.getElem?_cons_succ]
            exact this
    simp only [evH] at h
    split at h
    · rename_i hw
      split at h
      · rename_i v H1 ho
        split at h
        · rename_i tr1 gs1 T2 H2 hr
          simp only [Option.some.injEq, Prod.mk.injEq] at h
          obtain ⟨rfl, rfl, rfl, rfl⟩ := h
          exact main v H1 (.inl ⟨hw, ho⟩) (fun e => quiet e v H1 ho) _ _ hr rfl rfl
        · cases h
      · cases h
    · rename_i hw
      split at h
      · rename_i tr1 gs1 T2 H2 hr
        simp only [Option.some.injEq, Prod.mk.injEq] at h
        obtain ⟨rfl, rfl, rfl, rfl⟩ := h
        exact main undef H (.inr ⟨hw, rfl, rfl⟩) (fun e => rfl) _ _ hr rfl rfl
      · cases h
    · cases h
def pairsB (b : List Nat) (l : List PI) : Bool := (List.range l.length).all fun j => !loudN l j || (List.range j).all fun i => !loudN l i || behind b j i
def mayAt (b : List Nat) (l : List PI) (i g : Nat) : Bool := (List.range l.length).all fun c => !loudN l c || ((!behind b i c || Nat.blt (lcl l (fun _ => true) c) g) && (!behind b c i || Nat.ble g (lcl l (fun _ => true) c)))
def readB (b : List Nat) (l : List PI) (tr : List (TT × Value)) (G : List EH) : Bool :=
  (List.range l.length).all fun i => match l[i]?, tr[i]? with
    | some x, some (T, v) => !Nat.beq x.o.sort 1 || (match wantE T x.g with
      | some true => (List.range G.length).all fun g => !mayAt b l i g || (match G[g]? with | some Hg => (match evM x.o T Hg with | some (v', _) => valEq v' v | none => false) | none => false)
      | _ => true)
    | _, _ => false
def evD (call : CallE) (b : List Nat) (k : Nat) (l : List PI) (T : TT) (H : EH) : Option (TT × EH) :=
  match evH call (l.take k) T H with
  | some (tr, gs, T', H') => bif pairsB b (l.take k) && (gs.isEmpty || readB b (l.take k) tr (H :: gs)) then evL call (l.drop k) T' H' else none
  | none => none
end Go.SL

set_option linter.unusedVariables false
set_option linter.unusedSimpArgs false
namespace Go.SL
open Go.RowKit
section
variable {P : Program} {w0 : World} {n : Nat} {S : SS}
def foldT (ds : Nat → Option Nat) (vs : Nat → Value) (T : TT) (f : Nat → Bool) : Nat → TT
  | 0 => T
  | m + 1 => if f m then put (ds m) (vs m) (foldT ds vs T f m) else foldT ds vs T f m
theorem look_put {d : Option Nat} {v : Value} {T : TT} {x : Nat} : look (put d v T) x = if d = some x then some v else look T x := by
  cases d with
  | none => simp [put]
  | some d =>
    simp only [put]
    by_cases e : d = x
    · subst e; rw [look_put_same]; simp
    · rw [look_cons_ne _ _ e]; simp [e]
theorem foldT_agree {ds : Nat → Option Nat} {vs : Nat → Value} {T : TT} {f g : Nat → Bool} {x : Nat} : ∀ m, (∀ j, j < m → ds j = some x → f j = g j) → look (foldT ds vs T f m) x = look (foldT ds vs T g m) x
  | 0, _ => rfl
  | m + 1, h => by
    have ih := foldT_agree (ds := ds) (vs := vs) (T := T) (f := f) (g := g) (x := x) m fun j hj => h j (by omega)
    simp only [foldT]
    by_cases hd : ds m = some x
    · rw [h m (by omega) hd]
      split
      · rw [look_put, look_put, if_pos hd, if_pos hd]
      · exact ih
    · split <;> split <;> (try rw [look_put, if_neg hd]) <;> (try rw [look_put, if_neg hd]) <;> exact ih
theorem foldT_all {ds : Nat → Option Nat} {vs : Nat → Value} {T : TT} {f g : Nat → Bool} : ∀ m, (∀ j, j < m → f j = g j) → foldT ds vs T f m = foldT ds vs T g m
  | 0, _ => rfl
  | m + 1, h => by simp only [foldT]; rw [h m (by omega), foldT_all m fun j hj => h j (by omega)]
theorem foldT_below {ds : Nat → Option Nat} {vs : Nat → Value} {T : TT} {Ts : Nat → TT} (h0 : Ts 0 = T) {i : Nat} : ∀ m, i ≤ m → (∀ j, j < m → Ts (j + 1) = put (ds j) (vs j) (Ts j)) → foldT ds vs T (fun j => decide (j < i)) m = Ts i
  | 0, hi, _ => by obtain rfl : i = 0 := by omega
                   exact h0.symm
  | m + 1, hi, h => by
    simp only [foldT]
    by_cases hm : m < i
    · obtain rfl : i = m + 1 := by omega
      simp only [hm, decide_true, if_true]
      rw [h m (by omega)]
      congr 1
      rw [foldT_all m (g := fun j => decide (j < m)) (fun j hj => by simp; omega)]
      exact foldT_below h0 m (Nat.le_refl _) fun j hj => h j (by omega)
    · simp only [hm, decide_false, Bool.false_eq_true, if_false]
      exact foldT_below h0 m (by omega) fun j hj => h j (by omega)
theorem lcl_congr {l : List PI} {f g : Nat → Bool} : ∀ m, (∀ j, j < m → loudN l j = true → f j = g j) → lcl l f m = lcl l g m
  | 0, _ => rfl
  | m + 1, h => by
    simp only [lcl]
    rw [lcl_congr m fun j hj => h j (by omega)]
    cases hl : loudN l m with
    | false => simp
    | true => rw [h m (by omega) hl]
theorem lcl_none {l : List PI} {f : Nat → Bool} {c : Nat} : ∀ m, c ≤ m → (∀ j, c ≤ j → j < m → loudN l j = true → f j = false) → lcl l f m = lcl l f c
  | 0, hc, _ => by obtain rfl : c = 0 := by omega
                   rfl
  | m + 1, hc, h => by
    by_cases e : c = m + 1
    · subst e; rfl
    · simp only [lcl]
      rw [lcl_none m (by omega) fun j h1 h2 => h j h1 (by omega)]
      cases hl : loudN l m with
      | false => simp
      | true => rw [h m (by omega) (by omega) hl]; simp
theorem lcl_mono {l : List PI} {f : Nat → Bool} {a b : Nat} (h : a ≤ b) : lcl l f a ≤ lcl l f b := by
  induction b with
  | zero => obtain rfl : a = 0 := by omega
            exact Nat.le_refl _
  | succ b ih =>
    by_cases e : a = b + 1
    · subst e; exact Nat.le_refl _
    · simp only [lcl]; have := ih (by omega); omega
theorem lcl_le {l : List PI} {f : Nat → Bool} : ∀ m, lcl l f m ≤ lcl l (fun _ => true) m
  | 0 => Nat.le_refl _
  | m + 1 => by
    simp only [lcl]
    have := lcl_le (l := l) (f := f) m
    cases loudN l m <;> cases f m <;> simp <;> omega
theorem loudN_take {l : List PI} {k i : Nat} (h : i < k) : loudN (l.take k) i = loudN l i := by unfold loudN; rw [List.getElem?_take_of_lt h]
set_option maxHeartbeats 2000000 in
theorem drawn_wp {call : CallE} (hm : P.follows .mixedOrders = true) (hcall : CallOk P w0 call) {ops : Array Oper} {id k : Nat} {l : List PI}
    (hcond : (apartB ops && backB ops && Region.noSelect ops && hoistB ops ((hoists ops).filter (· < quietAt ops)) (Array.replicate ops.size false)) = true)
    (hcis : cIs P n ops (List.range ops.size) = some l) (hk : quietAt ops = k) {T Tc : TT} {ρ : Rho} {H : EH} {L : LL} {T' : TT} {H' : EH} (hT : TR ρ T Tc) (hH : HR w0 ρ H L) (h : evD call (reach ops) k l T H = some (T', H')) :
    ∀ a w, Sat n Tc a → Rep w0 (cs L S) w → (Code.region id ops true).wp P (fun e a' w' => e = .normal ∧ ∃ T2 S2, Sat n T2 a' ∧ Rep w0 S2 w' ∧ StR w0 ρ S T' H' T2 S2) a w := by
  intro a w hs hr
  simp only [Bool.and_eq_true] at hcond
  obtain ⟨⟨⟨hap, hback⟩, hsel⟩, hhoist⟩ := hcond
  obtain ⟨hhead, hkle⟩ := headOf_spec ops (hoists ops) ops.size (Nat.le_refl _)
  change headB ops ((hoists ops).filter (· < quietAt ops)) (quietAt ops) = true at hhead
  change quietAt ops ≤ ops.size at hkle
  rw [hk] at hhead hkle hhoist
  generalize hH0 : (hoists ops).filter (· < k) = Hs0 at *
  have hHk : ∀ i ∈ Hs0, i < k := fun i hi => by rw [← hH0] at hi; simpa using (List.mem_filter.1 hi).2
  -- the parts of the telling
  unfold evD at h
  split at h
  case h_2 => cases h
  rename_i tr gs Tm Hm hev
  obtain ⟨hchk, htail'⟩ := bif_some h
  simp only [Bool.and_eq_true, Bool.or_eq_true] at hchk
  obtain ⟨hpairs, hreads⟩ := hchk
  have hsplit : List.range ops.size = List.range' 0 k ++ List.range' k (ops.size - k) := by
    rw [List.range_eq_range']
    have := List.range'_append (s := 0) (m := k) (n := ops.size - k) (step := 1)
    simp only [Nat.one_mul, Nat.zero_add] at this
    rw [this]
    congr 1
    omega
  have hcis0 := hcis
  rw [hsplit] at hcis
  obtain ⟨hc1, hc2⟩ := cIs_append hcis
  simp only [List.length_range'] at hc1 hc2
  have hlen : (l.take k).length = k := by simpa using cIs_length hc1
  obtain ⟨Ts, Hs, vs, hTs0, hHs0, hTsk, hHsk, hstep, hG⟩ := evH_spec hev
  rw [hlen] at hTsk hHsk hG
  have hlk : k ≤ l.length := by rw [List.length_take] at hlen; omega
  -- the small forms
  have hpi : ∀ i o, i < k → ops[i]? = some o → ∃ x, l[i]? = some x ∧ (l.take k)[i]? = some x ∧ cOp P o = some x.o ∧ dstOk n o.dst = true ∧ o.dst = x.d ∧ ((o.guard = none ∧ x.g = none) ∨ ∃ j b s, o.guard = some (j, b) ∧ (ops[j]?).bind (·.dst) = some s ∧ x.g = some (s, b)) := by
    intro i o hi ho
    have hx : l[i]? = some l[i] := List.getElem?_eq_getElem (by omega)
    have key : ∀ (is : List Nat) (l : List PI) (j q : Nat) (x : PI), cIs P n ops is = some l → is[j]? = some q → l[j]? = some x → cI P n ops q = some x := by
      intro is
      induction is with
      | nil => intro l j q x _ hq; simp at hq
      | cons i0 is ih =>
        intro l j q x hcs hq hx
        cases l with
        | nil => simp at hx
        | cons y l =>
          obtain ⟨i', r, he, h1, h2⟩ := cIs_cons hcs
          simp only [List.cons.injEq] at he
          obtain ⟨rfl, rfl⟩ := he
          cases j with
          | zero => simp at hq hx; subst hq; subst hx; exact h1
          | succ j => exact ih l j q x h2 (by simpa using hq) (by simpa using hx)
    have hci := key (List.range ops.size) l i i l[i] hcis0 (by rw [List.getElem?_range (by have := (Array.getElem?_eq_some_iff.1 ho).1; exact this)]) hx
    obtain ⟨o', ho', h1, h2, h3, h4⟩ := cI_spec hci
    obtain rfl : o = o' := by rw [ho] at ho'; exact Option.some.inj ho'
    exact ⟨l[i], hx, by rw [List.getElem?_take_of_lt hi]; exact hx, h1, h2, h3, h4⟩
  generalize hds : (fun i : Nat => dstAt ops i) = ds at *
  have hds' : ∀ i, ds i = dstAt ops i := fun i => by rw [← hds]
  have hTs : ∀ j, j < k → Ts (j + 1) = put (ds j) (vs j) (Ts j) := by
    intro j hj
    have hjo : j < ops.size := by omega
    obtain ⟨x, _, hx2, _, _, hd, _⟩ := hpi j ops[j] hj (by simp [hjo])
    rw [(hstep j x hx2).1, hds', dstAt]
    simp [hjo, hd]
  have hdst : ∀ (j : Nat) o, j < k → ops[j]? = some o → dstOk n o.dst = true := fun j o hj ho => by obtain ⟨x, _, _, _, h2, _⟩ := hpi j o hj ho; exact h2
  -- ordered pairs
  have hpair : ∀ i j, i < j → j < ops.size → ∀ oi oj, ops[i]? = some oi → ops[j]? = some oj → behind (reach ops) j i = true ∨ oi.apart ops oj = true := by
    intro i j hij hj oi oj hoi hoj
    have := List.all_eq_true.1 (List.all_eq_true.1 hap j (List.mem_range.2 hj)) i (List.mem_range.2 hij)
    simpa [hoi, hoj] using this
  have htail : ∀ t i, k ≤ t → t < ops.size → i < t → i ∉ Hs0 → behind (reach ops) t i = true := by
    intro t i hkt ht hi hnH
    have := List.all_eq_true.1 hhead t (List.mem_range.2 ht)
    simp only [Bool.or_eq_true, decide_eq_true_eq] at this
    rcases this with h | h
    · omega
    · have := List.all_eq_true.1 h i (List.mem_range.2 hi)
      simpa [hnH] using this
  have hreadyX : ∀ (listed : Array Bool) i, (∀ j o, ops[j]? = some o → listed.getD j true = true → ∀ e ∈ o.after, Region.binds .any e = true → listed.getD e.on true = true) → i ∈ Region.ready .any ops listed →
      ∀ j, j < ops.size → behind (reach ops) i j = true → j ≠ i → listed.getD j true = true := by
    intro listed i hcl hi j hj hb hne
    obtain ⟨hun, o, ho, hall⟩ := mem_ready.1 hi
    have hX : Closed ops (fun x => listed.getD x true = true ∨ x = i) := by
      rintro x ox hox (hx | rfl) e he hbd
      · exact .inl (hcl x ox hox hx e he hbd)
      · obtain rfl : o = ox := by rw [ho] at hox; exact Option.some.inj hox
        have := hall e he hbd
        left
        cases hlt : listed[e.on]? with
        | none => simp [hlt] at this
        | some b => simpa [hlt] using this
    rcases behind_spec hX (Array.getElem?_eq_some_iff.1 ho).1 hb (.inr rfl) with h | h
    · exact h
    · exact absurd h hne
  have hclX : ∀ (listed : Array Bool), (∀ j o, ops[j]? = some o → listed.getD j true = true → ∀ e ∈ o.after, Region.binds .any e = true → listed.getD e.on true = true) → ∀ i j, i < ops.size → behind (reach ops) i j = true → listed.getD i true = true → listed.getD j true = true := by
    intro listed hcl i j hi hb hl
    exact behind_spec (X := fun x => listed.getD x true = true) (fun x ox hox hx e he hbd => hcl x ox hox hx e he hbd) hi hb hl
  have horder : ∀ (listed : Array Bool) i o, (∀ j o, ops[j]? = some o → listed.getD j true = true → ∀ e ∈ o.after, Region.binds .any e = true → listed.getD e.on true = true) → i ∈ Region.ready .any ops listed → ops[i]? = some o → i < k →
      ∀ x, (x ∈ o.looksAt ops ∨ o.dst = some x) → ∀ j, j < k → j ≠ i → dstAt ops j = some x → decide (j < i) = listed.getD j true := by
    intro listed i o hcl hi ho hik x hx j hj hne hdj
    obtain ⟨hun, o', ho', hpre⟩ := mem_ready.1 hi
    have hilt : i < ops.size := (Array.getElem?_eq_some_iff.1 ho).1
    have hjlt : j < ops.size := by omega
    have hoj : ops[j]? = some ops[j] := by simp [hjlt]
    have hdj' : ops[j].dst = some x := by simpa [dstAt, hoj] using hdj
    rcases Nat.lt_or_gt_of_ne hne with h | h
    · rcases hpair j i h hilt _ _ hoj ho with hb' | hap'
      · rw [hreadyX listed i hcl hi j hjlt hb' hne]
        simp [h]
      · obtain ⟨e1, e2, e3⟩ := Oper.apart_spec hap'
        rcases hx with hx | hx
        · exact absurd hx (e1 x hdj')
        · exact absurd hx (e2 x hdj')
    · rcases hpair i j h hjlt _ _ ho hoj with hb' | hap'
      · have hnl : listed.getD j true = false := by
          cases hlj : listed.getD j true with
          | false => rfl
          | true =>
            exfalso
            have := hclX listed hcl j i hjlt hb' hlj
            rw [hun] at this
            cases this
        rw [hnl]
        simp; omega
      · obtain ⟨e1, e2, e3⟩ := Oper.apart_spec hap'
        rcases hx with hx | hx
        · exact absurd hx (e3 x hdj')
        · exact absurd hdj' (e2 x hx)
  have hgetset : ∀ (listed : Array Bool) i, listed.size = ops.size → i < ops.size → (listed.setIfInBounds i true).getD i true = true := by
    intro listed i h1 h2
    have : i < listed.size := by omega
    simp [this]
  have hclset : ∀ (listed : Array Bool) i o, listed.size = ops.size → (∀ j o, ops[j]? = some o → listed.getD j true = true → ∀ e ∈ o.after, Region.binds .any e = true → listed.getD e.on true = true) → i ∈ Region.ready .any ops listed → ops[i]? = some o →
      (∀ j o, ops[j]? = some o → (listed.setIfInBounds i true).getD j true = true → ∀ e ∈ o.after, Region.binds .any e = true → (listed.setIfInBounds i true).getD e.on true = true) := by
    intro listed i o hsz hcl hi ho j oj hoj hj e he hbd
    have hilt : i < ops.size := (Array.getElem?_eq_some_iff.1 ho).1
    obtain ⟨hun, o', ho', hpre⟩ := mem_ready.1 hi
    obtain rfl : o = o' := by rw [ho] at ho'; exact Option.some.inj ho'
    have hgj : ∀ j, j ≠ i → (listed.setIfInBounds i true).getD j true = listed.getD j true := fun j hj => getD_set_ne true (Ne.symm hj)
    by_cases e1 : e.on = i
    · rw [e1]; exact hgetset listed i hsz hilt
    · rw [hgj _ e1]
      by_cases e2 : j = i
      · subst e2
        obtain rfl : o = oj := by rw [ho] at hoj; exact Option.some.inj hoj
        have := hpre e he hbd
        cases hlt : listed[e.on]? with
        | none => simp [hlt] at this
        | some bb => simpa [hlt] using this
      · rw [hgj _ e2] at hj
        exact hcl j oj hoj hj e he hbd
  have hcntset : ∀ (listed : Array Bool) i, listed.size = ops.size → i ∈ Region.ready .any ops listed → i < ops.size → cnt (fun j => listed.getD j true) ops.size = cnt (fun j => (listed.setIfInBounds i true).getD j true) ops.size + 1 := by
    intro listed i hsz hi hilt
    have := cnt_set (f := fun j => listed.getD j true) (g := fun j => (listed.setIfInBounds i true).getD j true) (i := i) (mem_ready.1 hi).1 (hgetset listed i hsz hilt) (fun j hj => getD_set_ne true (Ne.symm hj)) ops.size
    simpa [hilt] using this
  -- the loud ones come one behind the other
  have hloudpair : ∀ i j, i < j → j < k → loudN l i = true → loudN l j = true → behind (reach ops) j i = true := by
    intro i j hij hj hi hlj
    have := List.all_eq_true.1 hpairs j (by rw [hlen]; exact List.mem_range.2 hj)
    rw [loudN_take hj, hlj] at this
    simp only [Bool.not_true, Bool.false_or] at this
    have := List.all_eq_true.1 this i (List.mem_range.2 hij)
    rw [loudN_take (by omega), hi] at this
    simpa using this
  have hnotloud : ∀ (listed : Array Bool) i, (∀ j o, ops[j]? = some o → listed.getD j true = true → ∀ e ∈ o.after, Region.binds .any e = true → listed.getD e.on true = true) → i < k → loudN l i = true → listed.getD i true = false → ∀ j, i ≤ j → j < k → loudN l j = true → listed.getD j true = false := by
    intro listed i hcl hik hli hni j hij hjk hlj
    by_cases e : i = j
    · subst e; exact hni
    · cases hlj2 : listed.getD j true with
      | false => rfl
      | true =>
        exfalso
        have := hclX listed hcl j i (by omega) (hloudpair i j (by omega) hjk hli hlj) hlj2
        rw [hni] at this
        cases this
  have hallloud : ∀ (listed : Array Bool) i, (∀ j o, ops[j]? = some o → listed.getD j true = true → ∀ e ∈ o.after, Region.binds .any e = true → listed.getD e.on true = true) → i < k → loudN l i = true → listed.getD i true = true → lcl (l.take k) (fun j => listed.getD j true) i = lcl (l.take k) (fun _ => true) i := by
    intro listed i hcl hik hli hi
    refine lcl_congr i fun j hj hlj => ?_
    rw [loudN_take (by omega)] at hlj
    exact hclX listed hcl i j (by omega) (hloudpair j i hj hik hlj hli) hi
  have hmay : ∀ (listed : Array Bool) i o, (∀ j o, ops[j]? = some o → listed.getD j true = true → ∀ e ∈ o.after, Region.binds .any e = true → listed.getD e.on true = true) → i ∈ Region.ready .any ops listed → ops[i]? = some o → i < k → loudN l i = false →
      mayAt (reach ops) (l.take k) i (lcl (l.take k) (fun j => listed.getD j true) k) = true := by
    intro listed i o hcl hi ho hik hli
    have hun := (mem_ready.1 hi).1
    simp only [mayAt, List.all_eq_true, List.mem_range, Bool.or_eq_true, Bool.and_eq_true, Bool.not_eq_true']
    intro c hc
    rw [hlen] at hc
    rw [loudN_take hc]
    cases hlc : loudN l c with
    | false => exact .inl rfl
    | true =>
      right
      have hci : c ≠ i := fun e => by subst e; rw [hlc] at hli; cases hli
      constructor
      · cases hb : behind (reach ops) i c with
        | false => exact .inl rfl
        | true =>
          right
          rw [Nat.blt_eq]
          have hcl2 := hreadyX listed i hcl hi c (by omega) hb hci
          have e1 := hallloud listed c hcl hc hlc hcl2
          have e2 : lcl (l.take k) (fun j => listed.getD j true) (c + 1) = lcl (l.take k) (fun j => listed.getD j true) c + 1 := by
            simp only [lcl, loudN_take hc, hlc, hcl2]; rfl
          have e3 := lcl_mono (l := l.take k) (f := fun j => listed.getD j true) (show c + 1 ≤ k by omega)
          omega
      · cases hb : behind (reach ops) c i with
        | false => exact .inl rfl
        | true =>
          right
          have hnc : listed.getD c true = false := by
            cases hx : listed.getD c true with
            | false => rfl
            | true =>
              exfalso
              have := hclX listed hcl c i (by omega) hb hx
              rw [hun] at this
              cases this
          have e1 : lcl (l.take k) (fun j => listed.getD j true) k = lcl (l.take k) (fun j => listed.getD j true) c := lcl_none k (by omega) fun j h1 h2 h3 => by
            rw [loudN_take h2] at h3
            exact hnotloud listed c hcl hc hlc hnc j h1 h2 h3
          rw [e1]
          exact Nat.ble_eq_true_of_le (lcl_le c)
  -- the state that goes with what is listed
  generalize hInv : (fun (listed : Array Bool) (b : Act) (w' : World) => ∃ (ρ' : Rho) (L' : LL) (Tc' : TT) (G : EH), (H :: gs)[lcl (l.take k) (fun j => listed.getD j true) k]? = some G ∧ ρ <+: ρ' ∧ HR w0 ρ' G L' ∧ Rep w0 (cs L' S) w' ∧ Sat n Tc' b ∧ TR ρ' (foldT ds vs T (fun j => listed.getD j true) k) Tc') = Inv at *
  have hInvE : ∀ listed b w', Inv listed b w' ↔ ∃ (ρ' : Rho) (L' : LL) (Tc' : TT) (G : EH), (H :: gs)[lcl (l.take k) (fun j => listed.getD j true) k]? = some G ∧ ρ <+: ρ' ∧ HR w0 ρ' G L' ∧ Rep w0 (cs L' S) w' ∧ Sat n Tc' b ∧ TR ρ' (foldT ds vs T (fun j => listed.getD j true) k) Tc' := fun listed b w' => by rw [← hInv]
  have hgo : ∀ (listed : Array Bool) i o (b : Act) (w' : World), listed.size = ops.size → (∀ j o, ops[j]? = some o → listed.getD j true = true → ∀ e ∈ o.after, Region.binds .any e = true → listed.getD e.on true = true) → i ∈ Region.ready .any ops listed → ops[i]? = some o → i < k → Inv listed b w' →
      (Region.wanted o (yielded ops b.tmps) = true ∧ ∀ Q, o.wp P b w' (fun a' w'' => ∃ u, a' = b.put o.dst u ∧ Inv (listed.setIfInBounds i true) a' w'') Q) ∨ (Region.wanted o (yielded ops b.tmps) = false ∧ Inv (listed.setIfInBounds i true) (b.put o.dst undef) w') := by
    intro listed i o b w' hsz hcl hi ho hik hinv
    rw [hInvE] at hinv
    obtain ⟨ρ', L', Tc', G, hGi, hpre, hHR, hrep, hsat, hTR⟩ := hinv
    have hun := (mem_ready.1 hi).1
    have hilt : i < ops.size := (Array.getElem?_eq_some_iff.1 ho).1
    obtain ⟨x, hx, hx2, hco, hdok, hdd, hgd⟩ := hpi i o hik ho
    obtain ⟨hst1, hst2, hst3, hst4⟩ := hstep i x hx2
    have hgi := hgetset listed i hsz hilt
    have hgj : ∀ j, j ≠ i → (listed.setIfInBounds i true).getD j true = listed.getD j true := fun j hj => getD_set_ne true (Ne.symm hj)
    have hloud : loudN l i = x.loud := by simp [loudN, hx]
    have hTi : foldT ds vs T (fun j => decide (j < i)) k = Ts i := foldT_below hTs0 k (by omega) hTs
    have hagree : ∀ y, y ∈ o.looksAt ops → look (foldT ds vs T (fun j => listed.getD j true) k) y = look (Ts i) y := by
      intro y hy
      rw [← hTi]
      refine foldT_agree k fun j hj hdj => ?_
      rw [hds'] at hdj
      by_cases e : j = i
      · subst e; rw [hun]; simp
      · exact (horder listed i o hcl hi ho hik y (.inl hy) j hj e hdj).symm
    have hag : Agree (foldT ds vs T (fun j => listed.getD j true) k) (Ts i) x.o.pvs := by
      intro y hy
      cases y with
      | v z => rfl
      | t t => exact hagree t (looks_op (pvs_op hco _ hy t rfl))
    have hwantE : wantE (foldT ds vs T (fun j => listed.getD j true) k) x.g = wantE (Ts i) x.g := wantE_congr fun s b hg => by
      rcases hgd with ⟨_, hg2⟩ | ⟨j, b', s', hg1, hj, hg2⟩
      · rw [hg2] at hg; cases hg
      · rw [hg2] at hg
        simp only [Option.some.injEq, Prod.mk.injEq] at hg
        obtain ⟨rfl, rfl⟩ := hg
        refine hagree s' ?_
        unfold Oper.looksAt
        rw [List.mem_append]
        right
        simp [hg1, hj]
    -- the new state's slots
    have hTRnew : ∀ (ρ2 : Rho) (u : Value), ρ' <+: ρ2 → VR ρ2 (vs i) u → TR ρ2 (foldT ds vs T (fun j => (listed.setIfInBounds i true).getD j true) k) (put o.dst u Tc') := by
      intro ρ2 u hp hv y z hz
      rw [look_put]
      by_cases hdy : o.dst = some y
      · rw [if_pos hdy]
        refine ⟨u, rfl, ?_⟩
        have e1 : look (foldT ds vs T (fun j => (listed.setIfInBounds i true).getD j true) k) y = look (foldT ds vs T (fun j => decide (j < i + 1)) k) y := by
          refine foldT_agree k fun j hj hdj => ?_
          rw [hds'] at hdj
          by_cases e : j = i
          · subst e; rw [hgi]; simp
          · rw [hgj j e, ← horder listed i o hcl hi ho hik y (.inr hdy) j hj e hdj]
            by_cases h : j < i
            · have : j < i + 1 := by omega
              simp [h, this]
            · have : ¬ j < i + 1 := by omega
              simp [h, this]
        rw [e1, foldT_below hTs0 k (by omega) hTs, hst1, look_put, ← hdd, if_pos hdy] at hz
        obtain rfl := Option.some.inj hz
        exact hv
      · rw [if_neg hdy]
        have e1 : look (foldT ds vs T (fun j => (listed.setIfInBounds i true).getD j true) k) y = look (foldT ds vs T (fun j => listed.getD j true) k) y := by
          refine foldT_agree k fun j hj hdj => ?_
          by_cases e : j = i
          · subst e; rw [hds', dstAt, ho] at hdj; exact absurd hdj hdy
          · exact hgj j e
        rw [e1] at hz
        exact (hTR.mono hp) y z hz
    -- the count
    have hcntQ : x.loud = false → lcl (l.take k) (fun j => (listed.setIfInBounds i true).getD j true) k = lcl (l.take k) (fun j => listed.getD j true) k := fun hq => lcl_congr k fun j hj hlj => by
      rw [loudN_take hj] at hlj
      have : j ≠ i := fun e => by subst e; rw [hloud, hq] at hlj; cases hlj
      exact hgj j this
    have hbefore : x.loud = true → ∀ j, j < i → loudN l j = true → listed.getD j true = true := fun hq j hj hlj => hreadyX listed i hcl hi j (by omega) (hloudpair j i hj hik hlj (by rw [hloud, hq])) (by omega)
    have hafter : x.loud = true → ∀ j, i ≤ j → j < k → loudN l j = true → listed.getD j true = false := fun hq => hnotloud listed i hcl hik (by rw [hloud, hq]) hun
    have hcntL : x.loud = true → lcl (l.take k) (fun j => listed.getD j true) k = lcl (l.take k) (fun _ => true) i := fun hq => by
      rw [lcl_none (c := i) k (by omega) fun j h1 h2 h3 => by rw [loudN_take h2] at h3; exact hafter hq j h1 h2 h3]
      exact lcl_congr i fun j hj hlj => by rw [loudN_take (by omega)] at hlj; exact hbefore hq j hj hlj
    have hcntL2 : x.loud = true → lcl (l.take k) (fun j => (listed.setIfInBounds i true).getD j true) k = lcl (l.take k) (fun _ => true) (i + 1) := fun hq => by
      rw [lcl_none (c := i + 1) k (by omega) fun j h1 h2 h3 => by rw [loudN_take h2] at h3; rw [hgj j (by omega)]; exact hafter hq j (by omega) h2 h3]
      exact lcl_congr (i + 1) fun j hj hlj => by
        rw [loudN_take (by omega)] at hlj
        by_cases e : j = i
        · subst e; exact hgi
        · rw [hgj j e]; exact hbefore hq j (by omega) hlj
    -- what the operation tells at this state, and which memory stands behind it
    have htell : ∃ G', OnOff call x (foldT ds vs T (fun j => listed.getD j true) k) G G' (vs i) ∧ (H :: gs)[lcl (l.take k) (fun j => (listed.setIfInBounds i true).getD j true) k]? = some G' := by
      rcases hst3 with ⟨hw, hev1⟩ | ⟨hw, hv, hHe⟩
      · cases hq : x.loud with
        | true =>
          have hGe : G = Hs i := by
            rw [hcntL hq, hG i (by omega)] at hGi
            exact (Option.some.inj hGi).symm
          refine ⟨Hs (i + 1), .inl ⟨by rw [hwantE]; exact hw, by rw [evO_congr hag, hGe]; exact hev1⟩, ?_⟩
          rw [hcntL2 hq]
          exact hG (i + 1) (by omega)
        | false =>
          have hs2 : x.o.sort ≠ 2 := fun e => by rw [PI.loud, e] at hq; cases hq
          rw [sort_call hs2] at hev1
          refine ⟨G, .inl ⟨by rw [hwantE]; exact hw, ?_⟩, by rw [hcntQ hq]; exact hGi⟩
          rw [evO_congr hag, sort_call hs2]
          by_cases h0 : x.o.sort = 0
          · exact (sort0 h0 hev1).2 G
          · have h1 : x.o.sort = 1 := by
              have := sort_le x.o
              omega
            rcases hreads with hemp | hreads
            · have hgs : gs = [] := by simpa using hemp
              subst hgs
              have e1 : G = H := by
                have hlt1 : lcl (l.take k) (fun j => listed.getD j true) k < 1 := (List.getElem?_eq_some_iff.1 hGi).1
                have h0 : lcl (l.take k) (fun j => listed.getD j true) k = 0 := by omega
                rw [h0] at hGi
                exact (Option.some.inj hGi).symm
              have e2 : Hs i = H := by
                have hgi2 := hG i (by omega)
                have hlt1 : lcl (l.take k) (fun _ => true) i < 1 := (List.getElem?_eq_some_iff.1 hgi2).1
                have h0 : lcl (l.take k) (fun _ => true) i = 0 := by omega
                rw [h0] at hgi2
                exact (Option.some.inj hgi2).symm
              have e3 := sort1 h1 hev1
              rw [e1]
              rw [e2] at hev1 e3
              rw [e3] at hev1
              exact hev1
            · have h2 := List.all_eq_true.1 hreads i (by rw [hlen]; exact List.mem_range.2 hik)
              rw [hx2, hst2] at h2
              simp only [h1, show Nat.beq 1 1 = true from rfl, Bool.not_true, Bool.false_or, hw] at h2
              have hgl := (List.getElem?_eq_some_iff.1 hGi).1
              have h3 := List.all_eq_true.1 h2 _ (List.mem_range.2 hgl)
              rw [hmay listed i o hcl hi ho hik (by rw [hloud, hq]), hGi] at h3
              simp only [Bool.not_true, Bool.false_or] at h3
              split at h3
              · rename_i v' H2 hev2
                rw [valEq_eq h3] at hev2
                rw [sort1 h1 hev2] at hev2
                exact hev2
              · cases h3
      · refine ⟨G, .inr ⟨by rw [hwantE]; exact hw, hv, rfl⟩, ?_⟩
        cases hq : x.loud with
        | true =>
          have hGe : G = Hs i := by
            rw [hcntL hq, hG i (by omega)] at hGi
            exact (Option.some.inj hGi).symm
          rw [hcntL2 hq, hG (i + 1) (by omega), hGe, hHe]
        | false => rw [hcntQ hq]; exact hGi
    obtain ⟨G', hon, hGn⟩ := htell
    rcases hon with ⟨hw, hev⟩ | ⟨hw, hv, hGe⟩
    · left
      have hgo := want_on hTR hw
      refine ⟨?_, fun Q => ?_⟩
      · rcases hgd with ⟨hg, _⟩ | ⟨j, bb, s', hg, hj, he⟩
        · simp [Region.wanted, hg]
        · rw [he] at hgo
          simp [Region.wanted, hg, hsat.yielded hj hgo]
      · refine Oper.wp_mono ?_ (evO_snd (S := S) (n := n) hcall hTR hHR hev o b w' Q hco hsat hrep)
        rintro a' w'' ⟨u, S', rfl, hrep', ρ2, L2, hp2, hv2, rfl, hHR2⟩
        refine ⟨u, rfl, ?_⟩
        rw [hInvE]
        exact ⟨ρ2, L2, put o.dst u Tc', G', hGn, hpre.trans hp2, hHR2, hrep', hsat.put hdok u, hTRnew ρ2 u hp2 hv2⟩
    · right
      obtain ⟨s', bb, u, hg2, hlk2, hb⟩ := want_off hTR hw
      refine ⟨?_, ?_⟩
      · rcases hgd with ⟨_, hg⟩ | ⟨j, b', s2, hg, hj, he⟩
        · rw [hg] at hg2; cases hg2
        · rw [hg2] at he
          simp only [Option.some.injEq, Prod.mk.injEq] at he
          obtain ⟨rfl, rfl⟩ := he
          simp only [Region.wanted, hg, hsat.yieldedV hj hlk2]
          exact hb
      · rw [hInvE]
        subst hGe
        exact ⟨ρ', L', put o.dst undef Tc', G', hGn, hpre, hHR, hrep, hsat.put hdok undef, hTRnew ρ' undef (List.prefix_refl _) (by rw [hv]; exact undef_VR)⟩
  refine wp_region_any hm ?_
  have key : ∀ (fuel : Nat) (listed : Array Bool) (b : Act) (w' : World), listed.size = ops.size →
      (∀ j o, ops[j]? = some o → listed.getD j true = true → ∀ e ∈ o.after, Region.binds .any e = true → listed.getD e.on true = true) → (∀ i ∈ Hs0, listed.getD i true = true) →
      (∀ t, k ≤ t → t < ops.size → listed.getD t true = false) → Inv listed b w' → cnt (fun j => listed.getD j true) ops.size = fuel →
      wpAny P .any ops (fun e a' w' => e = .normal ∧ ∃ T2 S2, Sat n T2 a' ∧ Rep w0 S2 w' ∧ StR w0 ρ S T' H' T2 S2) fuel listed b w' := by
    -- the head is done
    have done : ∀ (listed : Array Bool) (b : Act) (w' : World), (∀ j, j < k → listed.getD j true = true) → Inv listed b w' → ∃ (ρ' : Rho) (L' : LL) (Tc' : TT), ρ <+: ρ' ∧ HR w0 ρ' Hm L' ∧ Rep w0 (cs L' S) w' ∧ Sat n Tc' b ∧ TR ρ' Tm Tc' := by
      intro listed b w' hall hinv
      rw [hInvE] at hinv
      obtain ⟨ρ', L', Tc', G, hGi, hpre, hHR, hrep, hsat, hTR⟩ := hinv
      have e1 : lcl (l.take k) (fun j => listed.getD j true) k = lcl (l.take k) (fun _ => true) k := lcl_congr k fun j hj _ => hall j hj
      rw [e1, hG k (Nat.le_refl _), hHsk] at hGi
      obtain rfl := Option.some.inj hGi
      refine ⟨ρ', L', Tc', hpre, hHR, hrep, hsat, ?_⟩
      have e2 : foldT ds vs T (fun j => listed.getD j true) k = Tm := by
        rw [foldT_all k (g := fun j => decide (j < k)) (fun j hj => by rw [hall j hj]; simp [hj]), foldT_below hTs0 k (Nat.le_refl _) hTs, hTsk]
      rw [e2] at hTR
      exact hTR
    intro fuel
    induction fuel with
    | zero =>
      intro listed b w' hsz hcl hHl htl hinv hcnt
      have hall : ∀ j, j < ops.size → listed.getD j true = true := by
        intro j hj
        cases hx : listed.getD j true with
        | true => rfl
        | false =>
          exfalso
          have : ∀ m, j < m → 0 < cnt (fun j => listed.getD j true) m := by
            intro m
            induction m with
            | zero => intro h; omega
            | succ m ih =>
              intro h
              simp only [cnt]
              by_cases e : j = m
              · subst e; simp [hx]
              · have := ih (by omega); omega
          have := this ops.size hj
          omega
      have hkeq : k = ops.size := by
        rcases Nat.lt_or_ge k ops.size with h | h
        · have h1 := htl k (Nat.le_refl _) h
          have h2 := hall k h
          rw [h1] at h2
          cases h2
        · omega
      obtain ⟨ρ', L', Tc', hpre, hHR, hrep, hsat, hTR⟩ := done listed b w' (fun j hj => hall j (by omega)) hinv
      refine ⟨?_, ?_⟩
      · unfold Region.ready
        rw [List.filter_eq_nil_iff]
        intro i hi
        rw [hall i (List.mem_range.1 hi)]
        simp
      · have hc3 : cIs P n ops [] = some (l.drop k) := by
          rw [hkeq, Nat.sub_self] at hc2
          rw [hkeq]
          simpa using hc2
        have := evL_ol (S := S) (n := n) hcall hTR hHR htail' ops [] b w' (fun e a' w' => e = .normal ∧ ∃ T2 S2, Sat n T2 a' ∧ Rep w0 S2 w' ∧ StR w0 ρ S T' H' T2 S2) hc3 hsat hrep (fun a' w' T2 S2 h3 h4 ⟨ρ2, L2, p1, p2⟩ => ⟨rfl, T2, S2, h3, h4, ρ2, L2, hpre.trans p1, p2⟩)
        simpa [wpOps] using this
    | succ fuel ih =>
      intro listed b w' hsz hcl hHl htl hinv hcnt
      by_cases hall : ∀ j, j < k → listed.getD j true = true
      · have hexact : ∀ j, j < ops.size → listed.getD j true = decide (j < k) := by
          intro j hj
          by_cases h : j < k
          · rw [hall j h]; simp [h]
          · rw [htl j (by omega) hj]; simp [h]
        obtain ⟨ρ', L', Tc', hpre, hHR, hrep, hsat, hTR⟩ := done listed b w' hall hinv
        have hfuel : fuel + 1 = ops.size - k := by
          rw [← hcnt, cnt_congr ops.size hexact, cnt_below]
        rw [hfuel]
        have htl2 : ∀ listed' : Array Bool, ∀ t s', k ≤ s' → s' < t → t < ops.size → (∀ j, j < ops.size → listed'.getD j true = decide (j < s')) → listed'.size = ops.size → t ∉ Region.ready .any ops listed' := by
          intro l'' t s' h1 h2 h3 h4 h5 hmem
          have := hreadyX l'' t (fun j o ho hj e he hbd => by
            have hlt := backB_spec hback ho he hbd
            have hjs : j < ops.size := (Array.getElem?_eq_some_iff.1 ho).1
            rw [h4 j hjs] at hj
            rw [h4 e.on (by omega)]
            simp only [decide_eq_true_eq] at hj ⊢
            omega) hmem s' (by omega) (htail t s' (by omega) h3 h2 (fun hm' => by have := hHk s' hm'; omega)) (by omega)
          rw [h4 s' (by omega)] at this
          simp at this
        refine wpAny_tail hback (ops.size - k) k listed b w' (by omega) hsz hexact (fun t i h1 h2 h3 h4 h5 => htl2 listed t k (Nat.le_refl _) h1 h2 hexact hsz) htl2 ?_
        exact evL_ol (S := S) (n := n) hcall hTR hHR htail' ops _ b w' _ hc2 hsat hrep (fun a' w' T2 S2 h3 h4 ⟨ρ2, L2, p1, p2⟩ => ⟨rfl, T2, S2, h3, h4, ρ2, L2, hpre.trans p1, p2⟩)
      · refine ⟨fun h0 => ?_, fun i hi => ?_⟩
        · exfalso
          obtain ⟨i, hi1, hi2, hi3⟩ := cnt_pos ops.size (by rw [hcnt]; omega : 0 < cnt (fun j => listed.getD j true) ops.size)
          have : i ∈ Region.ready .any ops listed := by
            rw [mem_ready]
            refine ⟨hi2, ops[i], by simp [hi1], fun e he hbd => ?_⟩
            have hlt := backB_spec hback (show ops[i]? = some ops[i] by simp [hi1]) he hbd
            have h3 := hi3 e.on hlt
            have : e.on < listed.size := by omega
            simpa [this] using h3
          rw [h0] at this
          simp at this
        · have hmem := mem_ready.1 hi
          obtain ⟨hun, o, ho, hpre⟩ := hmem
          have hilt : i < ops.size := (Array.getElem?_eq_some_iff.1 ho).1
          have hik : i < k := by
            rcases Nat.lt_or_ge i k with h | h
            · exact h
            · exfalso
              refine hall fun j hj => ?_
              by_cases hjH : j ∈ Hs0
              · exact hHl j hjH
              · exact hreadyX listed i hcl hi j (by omega) (htail i j h hilt (by omega) hjH) (by omega)
          have hnext : ∀ (b' : Act) (w'' : World), Inv (listed.setIfInBounds i true) b' w'' → wpAny P .any ops (fun e a' w' => e = .normal ∧ ∃ T2 S2, Sat n T2 a' ∧ Rep w0 S2 w' ∧ StR w0 ρ S T' H' T2 S2) fuel (listed.setIfInBounds i true) b' w'' := by
            intro b' w'' hinv'
            have hgj : ∀ j, j ≠ i → (listed.setIfInBounds i true).getD j true = listed.getD j true := fun j hj => getD_set_ne true (Ne.symm hj)
            refine ih _ _ w'' (by simpa using hsz) (hclset listed i o hsz hcl hi ho) ?_ ?_ hinv' ?_
            · intro j hj
              by_cases e : j = i
              · subst e; exact hgetset listed j hsz hilt
              · rw [hgj j e]; exact hHl j hj
            · intro t h3 h4
              rw [hgj t (by omega)]
              exact htl t h3 h4
            · have := hcntset listed i hsz hi hilt
              omega
          unfold wpOp
          simp only [ho]
          rcases hgo listed i o b w' hsz hcl hi ho hik hinv with ⟨hw1, hw2⟩ | ⟨hw1, hw2⟩
          · rw [if_pos hw1]
            left
            refine Oper.wp_mono ?_ (hw2 _)
            rintro b' w'' ⟨u, rfl, hinv'⟩
            exact hnext _ w'' hinv'
          · rw [hw1]
            simp only [Bool.false_eq_true, if_false]
            exact hnext _ w' hw2
  -- the moves first
  have phase0 : ∀ (Hr : List Nat) (listed : Array Bool) (b : Act) (w' : World), hoistB ops Hr listed = true → (∀ i ∈ Hr, i < k) → listed.size = ops.size →
      (∀ j o, ops[j]? = some o → listed.getD j true = true → ∀ e ∈ o.after, Region.binds .any e = true → listed.getD e.on true = true) → (∀ i ∈ Hs0, listed.getD i true = true ∨ i ∈ Hr) →
      (∀ t, k ≤ t → t < ops.size → listed.getD t true = false) → Inv listed b w' →
      wpAny P .any ops (fun e a' w' => e = .normal ∧ ∃ T2 S2, Sat n T2 a' ∧ Rep w0 S2 w' ∧ StR w0 ρ S T' H' T2 S2) (cnt (fun j => listed.getD j true) ops.size) listed b w' := by
    intro Hr
    induction Hr with
    | nil =>
      intro listed b w' _ _ hsz hcl hHl htl hinv
      exact key _ listed b w' hsz hcl (fun i hi => (hHl i hi).resolve_right (by simp)) htl hinv rfl
    | cons i Hr ih =>
      intro listed b w' hh hlt hsz hcl hHl htl hinv
      simp only [hoistB, Bool.and_eq_true] at hh
      obtain ⟨⟨⟨hho, hfree⟩, hready⟩, hrest⟩ := hh
      have hi : i ∈ Region.ready .any ops listed := by simpa using hready
      obtain ⟨hun, o, ho, hpre⟩ := mem_ready.1 hi
      have hilt : i < ops.size := (Array.getElem?_eq_some_iff.1 ho).1
      have hik : i < k := hlt i (by simp)
      have hgj : ∀ j, j ≠ i → (listed.setIfInBounds i true).getD j true = listed.getD j true := fun j hj => getD_set_ne true (Ne.symm hj)
      rw [hcntset listed i hsz hi hilt]
      simp only [hoistable?, ho, hoistable, Bool.and_eq_true] at hho
      obtain ⟨hgn, hmv⟩ := hho
      have hgn' : o.guard = none := by simpa using hgn
      have hwant : ∀ t : Array Value, Region.wanted o (yielded ops t) = true := fun t => by simp [Region.wanted, hgn']
      have hmove : ∃ x, (o.op = .move x ∨ o.op = .assign x) := by
        cases hop : o.op <;> rw [hop] at hmv <;> simp at hmv
        · exact ⟨_, .inl rfl⟩
        · exact ⟨_, .inr rfl⟩
      obtain ⟨x, hx⟩ := hmove
      have hexec : ∀ ρ, execOp ρ o = pure (.value (ρ x)) := by
        intro ρ
        rcases hx with hx | hx <;> simp [execOp, hx]
      rcases hgo listed i o b w' hsz hcl hi ho hik hinv with ⟨_, hw2⟩ | ⟨hw1, _⟩
      · have h2 := hw2 (fun _ _ _ => False)
        unfold Oper.wp at h2
        rw [hexec] at h2
        simp only [Sem.run_pure, Oper.upon] at h2
        obtain ⟨u, hu, hinv'⟩ := h2
        refine wpAny_take (oi := o) (v := b.eval x) ho hsel hfree hready (fun c a w hq => by simp at hq) (.inl ⟨hwant _, fun w => by rw [hexec]; rfl⟩) ?_
        refine ih _ _ w' hrest (fun j hj => hlt j (by simp [hj])) (by simpa using hsz) (hclset listed i o hsz hcl hi ho) ?_ ?_ hinv'
        · intro j hj
          by_cases e : j = i
          · subst e; exact .inl (hgetset listed j hsz hilt)
          · rw [hgj j e]
            rcases hHl j hj with h | h
            · exact .inl h
            · rcases List.mem_cons.1 h with h | h
              · exact absurd h e
              · exact .inr h
        · intro t h3 h4
          rw [hgj t (by omega)]
          exact htl t h3 h4
      · rw [hwant] at hw1; cases hw1
  have hcnt0 : cnt (fun j => (Array.replicate ops.size false).getD j true) ops.size = ops.size := by
    rw [cnt_congr (g := fun j => decide (j < 0)) ops.size (fun j hj => by simp [hj]), cnt_below]
    omega
  have hr0 : Rep w0 (cs L S) { w with drawn := w.drawn + 1 } := hr.same ((Below.refl _ w).drew) (fun _ _ => rfl)
  have hrep0 : ∀ j, j < k → (Array.replicate ops.size false).getD j true = decide (j < 0) := by
    intro j hj
    have : j < ops.size := by omega
    simp [this]
  have := phase0 Hs0 (Array.replicate ops.size false) a { w with drawn := w.drawn + 1 } hhoist hHk (by simp) ?_ (fun i hi => .inr hi) ?_ ?_
  · rwa [hcnt0] at this
  · intro j o ho hj
    exfalso
    have hlt : j < ops.size := (Array.getElem?_eq_some_iff.1 ho).1
    simp [hlt] at hj
  · intro t _ ht
    simp [ht]
  · rw [hInvE]
    refine ⟨ρ, L, Tc, H, ?_, List.prefix_refl _, hH, hr0, hs, ?_⟩
    · rw [lcl_none (c := 0) k (Nat.zero_le _) (fun j _ hj _ => by rw [hrep0 j hj]; simp)]
      rfl
    · rw [foldT_all k (g := fun j => decide (j < 0)) (fun j hj => by rw [hrep0 j hj]), foldT_below hTs0 k (Nat.zero_le _) hTs, hTs0]
      exact hT
end
end Go.SL

set_option linter.unusedVariables false
set_option linter.unusedSimpArgs false
namespace Go.SL
open Go.RowKit
inductive EC where
  | skip
  | ops (l : List PI)
  | drawn (b : List Nat) (k : Nat) (l : List PI)
  | seq (a b : EC)
  | cond (x : PV) (a b : EC)
  | block (id : Nat) (c : EC)
  | loop (live : List Nat) (c : EC)
  | exit (id : Nat)
  | ret
/-- without the hints -/
def EC.strip : EC → EC
  | .seq a b => .seq a.strip b.strip
  | .cond x a b => .cond x a.strip b.strip
  | .block id c => .block id c.strip
  | .loop _ c => .loop [] c.strip
  | c => c
def cE (P : Program) (n : Nat) : Code → Option EC
  | .skip => some .skip
  | .region _ ops false => (cIs P n ops (List.range ops.size)).map .ops
  | .region _ ops true => if apartB ops && backB ops && Region.noSelect ops && hoistB ops ((hoists ops).filter (· < quietAt ops)) (Array.replicate ops.size false) then (cIs P n ops (List.range ops.size)).map (.drawn (reach ops) (quietAt ops)) else none
  | .seq a b => match cE P n a, cE P n b with | some x, some y => some (.seq x y) | _, _ => none
  | .cond c x y => match cE P n x, cE P n y with | some x, some y => some (.cond (cV c) x y) | _, _ => none
  | .block id c => (cE P n c).map (.block id)
  | .loop c => (cE P n c).map (.loop [])
  | .exit id => some (.exit id)
  | .ret => some .ret
  | _ => none
inductive EX where
  | normal
  | ret
  | exit (id : Nat)
def EX.to : EX → Exit
  | .normal => .normal
  | .ret => .ret
  | .exit id => .exit id
def slim (T : TT) : List Nat → TT
  | [] => []
  | i :: r => match look T i with | some v => (i, v) :: slim T r | none => slim T r
def evC (call : CallE) : Nat → EC → TT → EH → Option (EX × TT × EH)
  | 0, _, _, _ => none
  | f + 1, c, T, H => match c with
    | .skip => some (.normal, T, H)
    | .ops l => (match evL call l T H with | some (T', H') => some (.normal, T', H') | none => none)
    | .drawn b k l => (match evD call b k l T H with | some (T', H') => some (.normal, T', H') | none => none)
    | .seq a b => (match evC call f a T H with | some (.normal, T', H') => evC call f b T' H' | r => r)
    | .cond x a b => (match x.ev T with | some (.bool true) => evC call f a T H | some (.bool false) => evC call f b T H | _ => none)
    | .block id c => (match evC call f c T H with | some (.exit j, T', H') => (bif Nat.beq j id then some (.normal, T', H') else some (.exit j, T', H')) | r => r)
    | .loop live c => (match evC call f c (slim T live) H with | some (.normal, T', H') => evC call f (.loop live c) T' H' | r => r)
    | .exit id => some (.exit id, T, H)
    | .ret => some (.ret, T, H)
inductive RV where
  | tmp (t : Nat)
  | cell (t : Nat) (m : Option Nat)
structure EFn where
  ec : EC
  n : Nat
  rs : List RV
def resC (P : Program) : List ResultVar → Option (List RV)
  | [] => some []
  | .tmp t :: r => (resC P r).map (.tmp t :: ·)
  | .cell a t :: r => match aggOf P t, resC P r with | some m, some l => some (.cell a m :: l) | _, _ => none
def resE (T : TT) (H : EH) : List RV → Option (List Value)
  | [] => some []
  | .tmp t :: r => match look T t, resE T H r with | some v, some l => some (v :: l) | _, _ => none
  | .cell t none :: r => match look T t, resE T H r with | some (.pointer (some a)), some l => (match H.cell a with | some v => some (v :: l) | none => none) | _, _ => none
  | .cell t (some m) :: r => match look T t, resE T H r with | some (.pointer (some a)), some l => (match H.row a m with | some c => some (.agg c.toArray :: l) | none => none) | _, _ => none
def oneOf : List Value → Value
  | [v] => v
  | l => .tuple l.toArray
def evF (tbl : FuncId → Option EFn) (fuel : Nat) : Nat → CallE
  | 0, _, _, _ => none
  | d + 1, k, vs, H => match tbl k with
    | some fn => bif Nat.ble vs.length fn.n then (match evC (evF tbl fuel d) fuel fn.ec (argT 0 vs) H with
      | some (.normal, T', H') => (match resE T' H' fn.rs with | some l => some (oneOf l, H') | none => none)
      | some (.ret, T', H') => (match resE T' H' fn.rs with | some l => some (oneOf l, H') | none => none)
      | _ => none) else none
    | none => none
def KnownE (P : Program) (k : FuncId) (e : EFn) : Prop :=
  ∃ fn c, P.funcs[k]? = some fn ∧ fn.body = some c ∧ cE P fn.ntmps c = some e.ec.strip ∧ fn.ntmps = e.n ∧ resC P fn.results.toList = some e.rs ∧ fnOk P k = true
section
variable {P : Program} {w0 : World} {n : Nat} {S : SS}
theorem slim_look {T : TT} {i : Nat} {v : Value} : ∀ {l : List Nat}, look (slim T l) i = some v → look T i = some v
  | [], h => by simp [slim, look] at h
  | j :: l, h => by
    simp only [slim] at h
    split at h
    · rename_i u hu
      by_cases e : j = i
      · subst e
        rw [look_put_same] at h
        rw [hu]; exact h
      · rw [look_cons_ne _ _ e] at h
        exact slim_look h
    · exact slim_look h
theorem cE_region {c : Code} {l : List PI} (h : cE P n c = some (.ops l)) : ∃ id ops, c = .region id ops false ∧ cIs P n ops (List.range ops.size) = some l := by
  cases c
  case region id ops dr =>
    cases dr with
    | false =>
      simp only [cE, Option.map_eq_some_iff, EC.ops.injEq] at h
      obtain ⟨l', h1, rfl⟩ := h
      exact ⟨id, ops, rfl, h1⟩
    | true =>
      simp only [cE] at h
      split at h
      · simp at h
      · cases h
  all_goals (simp only [cE] at h)
  all_goals (first | (cases h; done) | (split at h <;> simp at h; done) | (simp at h; done))
theorem cE_drawn {c : Code} {b : List Nat} {k : Nat} {l : List PI} (h : cE P n c = some (.drawn b k l)) : ∃ id ops, c = .region id ops true ∧ (apartB ops && backB ops && Region.noSelect ops && hoistB ops ((hoists ops).filter (· < quietAt ops)) (Array.replicate ops.size false)) = true ∧ cIs P n ops (List.range ops.size) = some l ∧ reach ops = b ∧ quietAt ops = k := by
  cases c
  case region id ops dr =>
    cases dr with
    | false => simp [cE] at h
    | true =>
      simp only [cE] at h
      split at h
      · rename_i hc
        simp only [Option.map_eq_some_iff, EC.drawn.injEq] at h
        obtain ⟨l', h1, h2, h3, rfl⟩ := h
        exact ⟨id, ops, rfl, hc, h1, h2, h3⟩
      · cases h
  all_goals (simp only [cE] at h)
  all_goals (first | (cases h; done) | (split at h <;> simp at h; done) | (simp at h; done))
theorem cE_seq {c : Code} {a b : EC} (h : cE P n c = some (.seq a b)) : ∃ c1 c2, c = .seq c1 c2 ∧ cE P n c1 = some a ∧ cE P n c2 = some b := by
  cases c
  case region id ops dr => cases dr <;> simp [cE] at h
  case seq c1 c2 =>
    simp only [cE] at h
    split at h
    · rename_i x y h1 h2
      simp only [Option.some.injEq, EC.seq.injEq] at h
      obtain ⟨rfl, rfl⟩ := h
      exact ⟨c1, c2, rfl, h1, h2⟩
    · cases h
  all_goals (simp only [cE] at h)
  all_goals (first | (cases h; done) | (split at h <;> simp at h; done) | (simp at h; done))
theorem cE_cond {c : Code} {x : PV} {a b : EC} (h : cE P n c = some (.cond x a b)) : ∃ y c1 c2, c = .cond y c1 c2 ∧ x = cV y ∧ cE P n c1 = some a ∧ cE P n c2 = some b := by
  cases c
  case region id ops dr => cases dr <;> simp [cE] at h
  case cond y c1 c2 =>
    simp only [cE] at h
    split at h
    · rename_i x y h1 h2
      simp only [Option.some.injEq, EC.cond.injEq] at h
      obtain ⟨rfl, rfl, rfl⟩ := h
      exact ⟨_, c1, c2, rfl, rfl, h1, h2⟩
    · cases h
  all_goals (simp only [cE] at h)
  all_goals (first | (cases h; done) | (split at h <;> simp at h; done) | (simp at h; done))
theorem cE_block {c : Code} {id : Nat} {a : EC} (h : cE P n c = some (.block id a)) : ∃ c1, c = .block id c1 ∧ cE P n c1 = some a := by
  cases c
  case region id ops dr => cases dr <;> simp [cE] at h
  case block id' c1 =>
    simp only [cE, Option.map_eq_some_iff, EC.block.injEq] at h
    obtain ⟨x, h1, rfl, rfl⟩ := h
    exact ⟨c1, rfl, h1⟩
  all_goals (simp only [cE] at h)
  all_goals (first | (cases h; done) | (split at h <;> simp at h; done) | (simp at h; done))
theorem cE_loop {c : Code} {lv : List Nat} {a : EC} (h : cE P n c = some (.loop lv a)) : ∃ c1, c = .loop c1 ∧ cE P n c1 = some a := by
  cases c
  case region id ops dr => cases dr <;> simp [cE] at h
  case loop c1 =>
    simp only [cE, Option.map_eq_some_iff, EC.loop.injEq] at h
    obtain ⟨x, h1, _, rfl⟩ := h
    exact ⟨c1, rfl, h1⟩
  all_goals (simp only [cE] at h)
  all_goals (first | (cases h; done) | (split at h <;> simp at h; done) | (simp at h; done))
theorem cE_skip {c : Code} (h : cE P n c = some .skip) : c = .skip := by
  cases c
  case region id ops dr => cases dr <;> simp [cE] at h
  case skip => rfl
  all_goals (simp only [cE] at h)
  all_goals (first | (cases h; done) | (split at h <;> simp at h; done) | (simp at h; done))
theorem cE_ret {c : Code} (h : cE P n c = some .ret) : c = .ret := by
  cases c
  case region id ops dr => cases dr <;> simp [cE] at h
  case ret => rfl
  all_goals (simp only [cE] at h)
  all_goals (first | (cases h; done) | (split at h <;> simp at h; done) | (simp at h; done))
theorem cE_exit {c : Code} {id : Nat} (h : cE P n c = some (.exit id)) : c = .exit id := by
  cases c
  case region id ops dr => cases dr <;> simp [cE] at h
  case exit id' => simp only [cE, Option.some.injEq, EC.exit.injEq] at h; rw [h]
  all_goals (simp only [cE] at h)
  all_goals (first | (cases h; done) | (split at h <;> simp at h; done) | (simp at h; done))
/-- what code owes -/
def EW (P : Program) (w0 : World) (n : Nat) (ec : EC) (Tc : TT) (Sc : SS) (Q : Exit → TT → SS → Prop) : Prop :=
  ∀ c, cE P n c = some ec.strip → ∀ a w, Sat n Tc a → Rep w0 Sc w → c.wp P (fun e a' w' => ∃ T' S', Sat n T' a' ∧ Rep w0 S' w' ∧ Q e T' S') a w
theorem EW.mono {ec : EC} {Tc : TT} {Sc : SS} {Q Q' : Exit → TT → SS → Prop} (h : EW P w0 n ec Tc Sc Q) (hq : ∀ e T S, Q e T S → Q' e T S) : EW P w0 n ec Tc Sc Q' :=
  fun c hc a w hs hr => wp_mono (h c hc a w hs hr) fun e a' w' ⟨T', S', hs', hr', q⟩ => ⟨T', S', hs', hr', hq _ _ _ q⟩
theorem StR.mono {ρ ρ' : Rho} {T : TT} {H : EH} {T2 : TT} {S2 : SS} (hp : ρ <+: ρ') (h : StR w0 ρ' S T H T2 S2) : StR w0 ρ S T H T2 S2 := let ⟨r, L, a, b⟩ := h; ⟨r, L, hp.trans a, b⟩
set_option maxHeartbeats 1000000 in
theorem evC_snd {call : CallE} (hm : P.follows .mixedOrders = true) (hcall : CallOk P w0 call) (F : Nat) : ∀ {ec : EC} {T Tc : TT} {ρ : Rho} {H : EH} {L : LL} {ex : EX} {T' : TT} {H' : EH}, TR ρ T Tc → HR w0 ρ H L → evC call F ec T H = some (ex, T', H') →
    EW P w0 n ec Tc (cs L S) (fun e T2 S2 => e = ex.to ∧ StR w0 ρ S T' H' T2 S2) := by
  induction F using Nat.strongRecOn with
  | _ F IH =>
    intro ec T Tc ρ H L ex T' H' hT hH h
    cases F with
    | zero => cases h
    | succ f =>
    have ih := fun {ec : EC} {T Tc : TT} {ρ : Rho} {H : EH} {L : LL} {ex : EX} {T' : TT} {H' : EH} => @IH f (Nat.lt_succ_self f) ec T Tc ρ H L ex T' H'
    intro c hc a w hs hr
    cases ec with
    | skip =>
      simp only [evC, Option.some.injEq, Prod.mk.injEq] at h
      obtain ⟨rfl, rfl, rfl⟩ := h
      obtain rfl := cE_skip hc
      exact wp_skip ⟨Tc, _, hs, hr, rfl, ρ, L, List.prefix_refl _, hT, rfl, hH⟩
    | ret =>
      simp only [evC, Option.some.injEq, Prod.mk.injEq] at h
      obtain ⟨rfl, rfl, rfl⟩ := h
      obtain rfl := cE_ret hc
      exact wp_ret ⟨Tc, _, hs, hr, rfl, ρ, L, List.prefix_refl _, hT, rfl, hH⟩
    | exit id =>
      simp only [evC, Option.some.injEq, Prod.mk.injEq] at h
      obtain ⟨rfl, rfl, rfl⟩ := h
      obtain rfl := cE_exit hc
      exact wp_exit ⟨Tc, _, hs, hr, rfl, ρ, L, List.prefix_refl _, hT, rfl, hH⟩
    | ops l =>
      simp only [evC] at h
      split at h
      · rename_i T1 H1 h1
        simp only [Option.some.injEq, Prod.mk.injEq] at h
        obtain ⟨rfl, rfl, rfl⟩ := h
        obtain ⟨id, ops, rfl, h2⟩ := cE_region hc
        exact wp_region (evL_ol hcall hT hH h1 ops _ a w _ h2 hs hr fun a' w' T2 S2 h3 h4 h5 => ⟨T2, S2, h3, h4, rfl, h5⟩)
      · cases h
    | drawn b k l =>
      simp only [evC] at h
      split at h
      · rename_i T1 H1 h1
        simp only [Option.some.injEq, Prod.mk.injEq] at h
        obtain ⟨rfl, rfl, rfl⟩ := h
        obtain ⟨id, ops, rfl, h2, h3, rfl, h5⟩ := cE_drawn hc
        exact wp_mono (drawn_wp hm hcall h2 h3 h5 hT hH h1 a w hs hr) fun e a' w' ⟨he, T2, S2, q1, q2, q3⟩ => ⟨T2, S2, q1, q2, he, q3⟩
      · cases h
    | seq c1 c2 =>
      simp only [evC] at h
      obtain ⟨d1, d2, rfl, h1, h2⟩ := cE_seq hc
      cases hev : evC call f c1 T H with
      | none => rw [hev] at h; cases h
      | some r =>
        obtain ⟨ex1, T1, H1⟩ := r
        rw [hev] at h
        have i1 := ih hT hH hev d1 h1 a w hs hr
        refine wp_seq (wp_mono i1 ?_)
        rintro e a' w' ⟨T2, S2, q1, q2, rfl, ρ2, L2, p1, p2, rfl, p4⟩
        cases ex1 with
        | normal => exact wp_mono (ih p2 p4 h d2 h2 a' w' q1 q2) fun e a' w' ⟨T3, S3, r1, r2, r3, r4⟩ => ⟨T3, S3, r1, r2, r3, r4.mono p1⟩
        | ret =>
          simp only [Option.some.injEq, Prod.mk.injEq] at h
          obtain ⟨rfl, rfl, rfl⟩ := h
          exact ⟨T2, _, q1, q2, rfl, ρ2, L2, p1, p2, rfl, p4⟩
        | exit j =>
          simp only [Option.some.injEq, Prod.mk.injEq] at h
          obtain ⟨rfl, rfl, rfl⟩ := h
          exact ⟨T2, _, q1, q2, rfl, ρ2, L2, p1, p2, rfl, p4⟩
    | cond x c1 c2 =>
      simp only [evC] at h
      obtain ⟨y, d1, d2, rfl, rfl, h1, h2⟩ := cE_cond hc
      split at h
      · rename_i hx
        obtain ⟨u, g1, g2⟩ := hT.ev hx
        obtain rfl := g2.bool_inv
        exact wp_cond_split (hs.eval g1) (fun _ => ih hT hH h d1 h1 a w hs hr) (fun e => by cases e)
      · rename_i hx
        obtain ⟨u, g1, g2⟩ := hT.ev hx
        obtain rfl := g2.bool_inv
        exact wp_cond_split (hs.eval g1) (fun e => by cases e) (fun _ => ih hT hH h d2 h2 a w hs hr)
      · cases h
    | block id c1 =>
      simp only [evC] at h
      obtain ⟨d1, rfl, h1⟩ := cE_block hc
      cases hev : evC call f c1 T H with
      | none => rw [hev] at h; cases h
      | some r =>
        obtain ⟨ex1, T1, H1⟩ := r
        rw [hev] at h
        have i1 := ih hT hH hev d1 h1 a w hs hr
        refine wp_block (wp_mono i1 ?_)
        rintro e a' w' ⟨T2, S2, q1, q2, rfl, p⟩
        cases ex1 with
        | normal =>
          simp only [Option.some.injEq, Prod.mk.injEq] at h
          obtain ⟨rfl, rfl, rfl⟩ := h
          exact ⟨T2, _, q1, q2, rfl, p⟩
        | ret =>
          simp only [Option.some.injEq, Prod.mk.injEq] at h
          obtain ⟨rfl, rfl, rfl⟩ := h
          exact ⟨T2, _, q1, q2, rfl, p⟩
        | exit j =>
          simp only at h
          simp only [EX.to, Exit.inBlock]
          rcases beq_cases j id with ⟨rfl, e⟩ | ⟨hne, e⟩
          · rw [e] at h
            simp only [cond_true, Option.some.injEq, Prod.mk.injEq] at h
            obtain ⟨rfl, rfl, rfl⟩ := h
            rw [if_pos rfl]
            exact ⟨T2, _, q1, q2, rfl, p⟩
          · rw [e] at h
            simp only [cond_false, Option.some.injEq, Prod.mk.injEq] at h
            obtain ⟨rfl, rfl, rfl⟩ := h
            rw [if_neg hne]
            exact ⟨T2, _, q1, q2, rfl, p⟩
    | loop lv c1 =>
      obtain ⟨d1, rfl, h1⟩ := cE_loop hc
      refine wp_loop_rounds (f + 1) ?_
      have key : ∀ g, g ≤ f + 1 → ∀ {T Tc : TT} {ρ2 : Rho} {H : EH} {L : LL} {a : Act} {w : World}, ρ <+: ρ2 → TR ρ2 T Tc → HR w0 ρ2 H L → Sat n Tc a → Rep w0 (cs L S) w → evC call g (.loop lv c1) T H = some (ex, T', H') →
          Code.rounds P d1 (fun e a' w' => ∃ T2 S2, Sat n T2 a' ∧ Rep w0 S2 w' ∧ e = ex.to ∧ StR w0 ρ S T' H' T2 S2) g a w := by
        intro g
        induction g with
        | zero => intro _ T Tc ρ2 H L a w _ _ _ _ _ h; cases h
        | succ g ihg =>
          intro hg T Tc ρ2 H L a w hp hT hH hs hr h
          simp only [evC] at h
          cases hev : evC call g c1 (slim T lv) H with
          | none => rw [hev] at h; cases h
          | some r =>
            obtain ⟨ex1, T1, H1⟩ := r
            rw [hev] at h
            have i1 := IH g (by omega) (Tc := Tc) (fun i v hv => hT i v (slim_look hv)) hH hev d1 h1 a w hs hr
            refine wp_mono i1 ?_
            rintro e a' w' ⟨T2, S2, q1, q2, rfl, ρ3, L2, p1, p2, rfl, p4⟩
            cases ex1 with
            | normal => exact ihg (by omega) (hp.trans p1) p2 p4 q1 q2 h
            | ret =>
              simp only [Option.some.injEq, Prod.mk.injEq] at h
              obtain ⟨rfl, rfl, rfl⟩ := h
              exact ⟨T2, _, q1, q2, rfl, ρ3, L2, hp.trans p1, p2, rfl, p4⟩
            | exit j =>
              simp only [Option.some.injEq, Prod.mk.injEq] at h
              obtain ⟨rfl, rfl, rfl⟩ := h
              exact ⟨T2, _, q1, q2, rfl, ρ3, L2, hp.trans p1, p2, rfl, p4⟩
      exact key (f + 1) (Nat.le_refl _) (List.prefix_refl _) hT hH hs hr h
def resM (tmps : Array Value) : ResultVar → Sem Value
  | .tmp t => pure (tmps.getD t undef)
  | .cell a t => do loadVar t (← asAddr (tmps.getD a undef))
theorem results_eq (fn : Func) (tmps : Array Value) : results fn tmps = (do let vs ← fn.results.mapM (resM tmps); pure (if h : vs.size = 1 then vs[0] else .tuple vs)) := by
  unfold results
  refine congrArg (fun f => (fn.results.mapM f >>= fun vs => pure (if h : vs.size = 1 then vs[0] else Value.tuple vs) : Sem Value)) ?_
  funext x
  cases x <;> rfl
theorem resE_run {T : TT} {H : EH} {Tc : TT} {ρ : Rho} {L : LL} (hT : TR ρ T Tc) (hH : HR w0 ρ H L) {tmps : Array Value} {w : World} (ht : ∀ i v, look Tc i = some v → tmps[i]? = some v) (hr : Rep w0 (cs L S) w) :
    ∀ {rv : List ResultVar} {rs : List RV} {l : List Value}, resC P rv = some rs → resE T H rs = some l → ∃ us, VRL ρ l us ∧ (rv.mapM (resM tmps)).run P w = .ok us w
  | [], rs, l, h1, h2 => by
    simp only [resC, Option.some.injEq] at h1
    subst h1
    simp only [resE, Option.some.injEq] at h2
    subst h2
    exact ⟨[], .nil, by simp⟩
  | .tmp t :: rv, rs, l, h1, h2 => by
    simp only [resC, Option.map_eq_some_iff] at h1
    obtain ⟨rs', h3, rfl⟩ := h1
    simp only [resE] at h2
    split at h2
    · rename_i v l' hv hl
      obtain rfl := Option.some.inj h2
      obtain ⟨us, h4, h5⟩ := resE_run hT hH ht hr h3 hl
      obtain ⟨u, h6, h7⟩ := hT t v hv
      have h8 : (resM tmps (.tmp t)).run P w = .ok u w := by simp [resM, ht t u h6]
      exact ⟨u :: us, VRL.cons h7 h4, by simp [h5, h8]⟩
    · cases h2
  | .cell a t :: rv, rs, l, h1, h2 => by
    simp only [resC] at h1
    split at h1
    · rename_i m rs' hm h3
      obtain rfl := Option.some.inj h1
      cases m with
      | none =>
        simp only [resE] at h2
        split at h2
        · rename_i ad l' hv hl
          split at h2
          · rename_i v hc
            obtain rfl := Option.some.inj h2
            obtain ⟨us, h4, h5⟩ := resE_run hT hH ht hr h3 hl
            obtain ⟨u, h6, h7⟩ := hT a _ hv
            obtain ⟨a', rfl, h8⟩ := h7.ptr_inv
            obtain ⟨u, h9, h10⟩ := hH.cell (S := S) h8 hc
            obtain ⟨d, hu, hd⟩ := aggOf_none hm
            have hcell := hr.cell h9
            have hload : (loadVar t a').run P w = .ok u w := by
              simp only [loadVar]
              simp [run_isAgg hu, hd, load, Sem.run, hcell]
            refine ⟨u :: us, VRL.cons h10 h4, ?_⟩
            have h11 : (resM tmps (.cell a t)).run P w = .ok u w := by
              have e := ht a _ h6
              simp [resM, e, asAddr, hload]
            simp [h5, h11]
          · cases h2
        · cases h2
      | some m =>
        simp only [resE] at h2
        split at h2
        · rename_i ad l' hv hl
          split at h2
          · rename_i c hc
            obtain rfl := Option.some.inj h2
            obtain ⟨us, h4, h5⟩ := resE_run hT hH ht hr h3 hl
            obtain ⟨u, h6, h7⟩ := hT a _ hv
            obtain ⟨a', rfl, h8⟩ := h7.ptr_inv
            obtain ⟨hlen, cs', h9, h10⟩ := hH.row (S := S) h8 hc
            obtain ⟨d, i, hu, hd, hi, hsz⟩ := aggOf_some hm
            have hload0 := run_loadCells_list (P := P) w a' cs' (fun j v hv => hr.cell (h10 j v hv))
            have hload : (loadVar t a').run P w = .ok (.agg cs'.toArray) w := by
              rw [← h9.1, hlen] at hload0
              simp only [loadVar]
              simp [run_isAgg hu, hd, sizeOf, typeInfo, program, hi, hsz, hload0, Sem.run]
            refine ⟨_ :: us, VRL.cons (.agg h9.1 h9.2) h4, ?_⟩
            have h11 : (resM tmps (.cell a t)).run P w = .ok (.agg cs'.toArray) w := by
              have e := ht a _ h6
              simp [resM, e, asAddr, hload]
            simp [h5, h11]
          · cases h2
        · cases h2
    · cases h1
theorem VR.flat_inv {ρ : Rho} {v u : Value} (h : VR ρ v u) (hv : flatV v = true) : u = v := by
  cases h with
  | flat _ => rfl
  | ptr h => simp only [flatV, Bool.and_eq_true] at hv; have := hv.1; rw [Nat.blt_eq] at this; omega
  | _ => simp [flatV] at hv
theorem oneOf_VR {ρ : Rho} {l us : List Value} (h : VRL ρ l us) : VR ρ (oneOf l) (oneOf us) := by
  rcases l with _ | ⟨v, _ | ⟨v2, l⟩⟩
  · obtain rfl := h.nil_left; exact .tuple h.1 (by simp)
  · obtain ⟨u, us, rfl, h1, h2⟩ := h.cons_left
    obtain rfl := h2.nil_left
    exact h1
  · obtain ⟨u, us, rfl, h1, h2⟩ := h.cons_left
    obtain ⟨u2, us, rfl, h3, h4⟩ := h2.cons_left
    exact .tuple h.1 h.2
theorem argT_VR {ρ : Rho} : ∀ {vs us : List Value} (i : Nat), VRL ρ vs us → TR ρ (argT i vs) (argT i us)
  | [], us, i, h => fun j v hj => by simp [argT, look] at hj
  | v :: vs, us, i, h => by
    obtain ⟨u, us, rfl, h1, h2⟩ := h.cons_left
    exact TR.put (argT_VR (i + 1) h2) h1 (some i)
def TblOk (P : Program) (tbl : FuncId → Option EFn) : Prop := ∀ k e, tbl k = some e → KnownE P k e
theorem evF_ok {tbl : FuncId → Option EFn} {fuel : Nat} (hm : P.follows .mixedOrders = true) (ht : TblOk P tbl) : ∀ d, CallOk P w0 (evF tbl fuel d)
  | 0, k, vs, H, r, h => by cases h
  | d + 1, k, vs, H, r, h => by
    simp only [evF] at h
    split at h
    case h_2 => cases h
    rename_i e he
    obtain ⟨fn, c, hf, hb, hc, hn, hres, hok⟩ := ht k e he
    refine ⟨hok, fun ρ L S us hvs hH => ?_⟩
    obtain ⟨hle, h⟩ := bif_some h
    have hle := Nat.le_of_ble_eq_true hle
    have ihd := evF_ok (fuel := fuel) hm ht d
    have fin : ∀ (ex : EX) (T' : TT) (H' : EH), (ex = .normal ∨ ex = .ret) → evC (evF tbl fuel d) fuel e.ec (argT 0 vs) H = some (ex, T', H') → (match resE T' H' e.rs with | some l => some (oneOf l, H') | none => none) = some r →
        FC P w0 k us (cs L S) (fun u S' => ∃ ρ' L', ρ <+: ρ' ∧ VR ρ' r.1 u ∧ S' = cs L' S ∧ HR w0 ρ' r.2 L') := by
      intro ex T' H' hex hev hr2
      split at hr2
      case h_2 => cases hr2
      rename_i l hl
      obtain rfl := Option.some.inj hr2
      intro w hw
      have i1 := evC_snd (S := S) (n := fn.ntmps) hm ihd fuel (argT_VR 0 hvs) hH hev c hc _ w (argT_sat (by rw [hn, ← hvs.1]; exact hle)) hw
      refine calls_of_wp hf hb (wp_mono i1 ?_)
      rintro ee a' w' ⟨T2, S2, q1, q2, rfl, ρ2, L2, p1, p2, rfl, p4⟩
      obtain ⟨us', h4, h5⟩ := resE_run (P := P) p2 p4 q1.get q2 hres hl
      have hrun : (results fn a'.tmps).run P w' = .ok (oneOf us') w' := by
        rw [results_eq]
        have e1 : fn.results = fn.results.toList.toArray := by simp
        rw [e1, List.mapM_toArray]
        rw [map_eq_pure_bind]
        simp only [Sem.run_bind, Sem.run_pure, h5, Result.andThen_ok]
        rcases us' with _ | ⟨u, _ | ⟨u2, us'⟩⟩ <;> simp [oneOf]
      rcases hex with rfl | rfl
      · exact ⟨q1.defers, _, hrun, _, _, rfl, q2, ρ2, L2, p1, oneOf_VR h4, rfl, p4⟩
      · exact ⟨q1.defers, _, hrun, _, _, rfl, q2, ρ2, L2, p1, oneOf_VR h4, rfl, p4⟩
    split at h
    · rename_i T' H' hev; exact fin _ _ _ (.inl rfl) hev h
    · rename_i T' H' hev; exact fin _ _ _ (.inr rfl) hev h
    · cases h
def lk : List (FuncId × EFn) → FuncId → Option EFn
  | [], _ => none
  | p :: r, k => bif Nat.beq p.1 k then some p.2 else lk r k
def AllK (P : Program) : List (FuncId × EFn) → Prop
  | [] => True
  | p :: r => KnownE P p.1 p.2 ∧ AllK P r
theorem lk_ok : ∀ {l : List (FuncId × EFn)}, AllK P l → TblOk P (lk l)
  | [], _, k, e, h => by cases h
  | p :: r, hl, k, e, h => by
    simp only [lk] at h
    rcases beq_cases p.1 k with ⟨e1, e2⟩ | ⟨e1, e2⟩
    · rw [e2] at h
      simp only [cond_true, Option.some.injEq] at h
      subst e1; subst h
      exact hl.1
    · rw [e2] at h
      exact lk_ok hl.2 k e h
/-- a closed call -/
theorem ev_fc {tbl : FuncId → Option EFn} {fuel d : Nat} {k : FuncId} {v : Value} {H' : EH} (hm : P.follows .mixedOrders = true) (ht : TblOk P tbl) (hv : flatV v = true) {vs : List Value} (hvs : vs.all flatV = true)
    (h : evF tbl fuel d k vs ⟨0, .leaf, []⟩ = some (v, H')) : FC P w0 k vs S (fun u S' => u = v ∧ S' = S) := by
  have hH : HR w0 [] ⟨0, .leaf, []⟩ [] := ⟨rfl, Nat.zero_le _, by simp, by simp, (fun i o hi => by rw [Tr.get_leaf] at hi; cases hi), by simp⟩
  have := (evF_ok (w0 := w0) (fuel := fuel) hm ht d k vs _ _ h).2 [] [] S vs (VRL.flat hvs) hH
  intro w hw
  refine (this w hw).mono ?_
  rintro e w' ⟨u, S', rfl, hr, ρ', L', _, hvr, rfl, _⟩
  refine ⟨u, S, rfl, ?_, ?_, rfl⟩
  · refine hr.sub (fun p hp => ?_) ?_
    · simp only [cs, List.flatten_append, List.mem_append]; exact .inr hp
    · have := hr.nodup
      simp only [cs, List.flatten_append, List.map_append, List.nodup_append] at this
      exact this.2.1
  · exact hvr.flat_inv hv
def evT (x : Option (Value × EH)) : Bool := match x with | some (.bool true, _) => true | _ => false
theorem ev_true {tbl : List (FuncId × EFn)} {fuel d : Nat} {k : FuncId} (hm : P.follows .mixedOrders = true) (ht : AllK P tbl) {vs : List Value} (hvs : vs.all flatV = true)
    (h : evT (evF (lk tbl) fuel d k vs ⟨0, .leaf, []⟩) = true) : FC P w0 k vs S (fun u S' => u = .bool true ∧ S' = S) := by
  unfold evT at h
  split at h
  · rename_i H' he
    exact ev_fc hm (lk_ok ht) rfl hvs he
  · cases h
end
end Go.SL

set_option linter.unusedVariables false
set_option linter.unusedSimpArgs false
namespace Go.SL
open Go.RowKit
section
variable {P : Program} {w0 : World} {S : SS}
end
end Go.SL

set_option maxRecDepth 100000
namespace Go.Proofs
open Go.SL
/-- redwax/label.Check -/
def Tryd.ec18 : EFn := ⟨(.seq (.ops [⟨some 1, none, .bx 24 (.t 0)⟩, ⟨some 2, none, .mov (.v (.int .i64 0))⟩])
  (.seq (.seq (.ops [⟨some 3, none, .fa 0 (.t 1)⟩, ⟨some 4, none, .ld (.t 3)⟩, ⟨some 5, none, .bin .lss (.t 4) (.v (.int .i64 0))⟩, ⟨some 6, none, .mov (.t 5)⟩, ⟨some 7, (some (6, false)), .fa 0 (.t 1)⟩, ⟨some 8, (some (6, false)), .ld (.t 7)⟩, ⟨some 9, (some (6, false)), .bin .gtr (.t 8) (.v (.int .i64 15))⟩, ⟨some 10, none, .pick (.t 6) (.v (.bool true)) (.t 9)⟩])
  (.cond (.t 10) (.seq (.ops [⟨some 2, none, .mov (.v (.int .i64 2))⟩])
   .ret) .skip))
  (.seq (.ops [⟨some 2, none, .mov (.v (.int .i64 0))⟩])
  .ret))), 11, [.tmp 2]⟩
theorem Tryd.ek18 : KnownE Tryd.prog 18 Tryd.ec18 := ⟨Tryd.f18, _, Tryd.func18, rfl, by kernel_rfl, rfl, by kernel_rfl, by kernel_rfl⟩
/-- redwax/paths.Check -/
def Tryd.ec29 : EFn := ⟨(.seq (.ops [⟨some 2, none, .mov (.v (.int .i64 0))⟩])
  (.seq (.seq (.ops [⟨some 3, none, .mov (.t 0)⟩, ⟨some 4, none, .call 63 [(.t 3)]⟩, ⟨some 5, none, .not (.t 4)⟩])
  (.cond (.t 5) (.seq (.ops [⟨some 2, none, .mov (.v (.int .i64 15))⟩])
   .ret) .skip))
  (.seq (.ops [⟨some 2, none, .mov (.v (.int .i64 0))⟩])
  .ret))), 6, [.tmp 2]⟩
theorem Tryd.ek29 : KnownE Tryd.prog 29 Tryd.ec29 := ⟨Tryd.f29, _, Tryd.func29, rfl, by kernel_rfl, rfl, by kernel_rfl, by kernel_rfl⟩
/-- redwax/paths.Prefix -/
def Tryd.ec31 : EFn := ⟨(.seq (.ops [⟨some 2, none, .mov (.v (.int .i64 0))⟩])
  (.seq (.seq (.ops [⟨some 3, none, .mov (.t 0)⟩, ⟨some 4, none, .bin .eql (.t 3) (.v (.string ⟨#[]⟩))⟩])
  (.cond (.t 4) (.seq (.ops [⟨some 2, none, .mov (.v (.int .i64 0))⟩])
   .ret) .skip))
  (.seq (.ops [⟨some 5, none, .mov (.t 0)⟩, ⟨some 6, none, .call 29 [(.t 5)]⟩, ⟨some 2, none, .mov (.t 6)⟩])
  .ret))), 7, [.tmp 2]⟩
theorem Tryd.ek31 : KnownE Tryd.prog 31 Tryd.ec31 := ⟨Tryd.f31, _, Tryd.func31, rfl, by kernel_rfl, rfl, by kernel_rfl, by kernel_rfl⟩
/-- redwax/paths.Under -/
def Tryd.ec36 : EFn := ⟨(.seq (.ops [⟨some 4, none, .mov (.v (.bool false))⟩])
  (.seq (.seq (.ops [⟨some 5, none, .mov (.t 1)⟩, ⟨some 6, none, .call 63 [(.t 5)]⟩, ⟨some 7, none, .not (.t 6)⟩, ⟨some 8, none, .mov (.t 7)⟩, ⟨some 9, (some (8, false)), .mov (.t 0)⟩, ⟨some 10, (some (8, false)), .call 31 [(.t 9)]⟩, ⟨some 11, (some (8, false)), .bin .neq (.t 10) (.v (.int .i64 0))⟩, ⟨some 12, none, .pick (.t 8) (.v (.bool true)) (.t 11)⟩])
  (.cond (.t 12) (.seq (.ops [⟨some 4, none, .mov (.v (.bool false))⟩])
   .ret) .skip))
  (.seq (.ops [⟨some 13, none, .mov (.t 0)⟩, ⟨some 14, none, .bin .eql (.t 13) (.v (.string ⟨#[]⟩))⟩, ⟨some 15, none, .mov (.t 14)⟩, ⟨some 16, (some (15, false)), .mov (.t 0)⟩, ⟨some 17, (some (15, false)), .mov (.t 1)⟩, ⟨some 18, (some (15, false)), .bin .eql (.t 16) (.t 17)⟩, ⟨some 19, none, .pick (.t 15) (.v (.bool true)) (.t 18)⟩, ⟨some 20, none, .mov (.t 19)⟩, ⟨some 21, (some (20, false)), .mov (.t 1)⟩, ⟨some 22, (some (20, false)), .mov (.t 0)⟩, ⟨some 23, (some (20, false)), .bin .add (.t 22) (.v (.string ⟨#[47]⟩))⟩, ⟨some 24, (some (20, false)), .call 66 [(.t 21), (.t 23)]⟩, ⟨some 25, none, .pick (.t 20) (.v (.bool true)) (.t 24)⟩, ⟨some 4, none, .mov (.t 25)⟩])
  .ret))), 26, [.tmp 4]⟩
theorem Tryd.ek36 : KnownE Tryd.prog 36 Tryd.ec36 := ⟨Tryd.f36, _, Tryd.func36, rfl, by kernel_rfl, rfl, by kernel_rfl, by kernel_rfl⟩
/-- redwax/redwaxlaw07.awake -/
def Tryd.ec41 : EFn := ⟨(.seq (.ops [⟨some 0, none, .mov (.v (.bool false))⟩])
  (.seq (.ops [⟨some 2, none, .call 68 []⟩, ⟨some 1, none, .al 45 [.int .i64 0, .slice none 0 0]⟩, ⟨none, none, .st 2 (.t 1) (.t 2)⟩])
  (.seq (.ops [⟨some 3, none, .ldA 2 (.t 1)⟩, ⟨some 4, none, .call 47 [(.t 3)]⟩, ⟨some 5, none, .bin .eql (.t 4) (.v (.int .i64 0))⟩, ⟨some 6, none, .mov (.t 5)⟩, ⟨some 7, (some (6, true)), .ldA 2 (.t 1)⟩, ⟨some 8, (some (6, true)), .call 49 [(.t 7), (.v (.string ⟨#[120]⟩))]⟩, ⟨some 9, (some (6, true)), .call 69 [(.v (.int .i64 1)), (.v (.int .u64 0))]⟩, ⟨some 10, (some (6, true)), .eqA false 24 [.int .i64, .int .u64] (.t 8) (.t 9)⟩, ⟨some 11, none, .pick (.t 6) (.t 10) (.v (.bool false))⟩, ⟨some 12, none, .mov (.t 11)⟩, ⟨some 13, (some (12, true)), .ldA 2 (.t 1)⟩, ⟨some 14, (some (12, true)), .call 49 [(.t 13), (.v (.string ⟨#[97, 98]⟩))]⟩, ⟨some 15, (some (12, true)), .call 69 [(.v (.int .i64 1)), (.v (.int .u64 0))]⟩, ⟨some 16, (some (12, true)), .eqA false 24 [.int .i64, .int .u64] (.t 14) (.t 15)⟩, ⟨some 17, none, .pick (.t 12) (.t 16) (.v (.bool false))⟩, ⟨some 18, none, .mov (.t 17)⟩, ⟨some 19, (some (18, true)), .ldA 2 (.t 1)⟩, ⟨some 20, (some (18, true)), .call 49 [(.t 19), (.v (.string ⟨#[97, 47, 99]⟩))]⟩, ⟨some 21, (some (18, true)), .call 69 [(.v (.int .i64 2)), (.v (.int .u64 1))]⟩, ⟨some 22, (some (18, true)), .eqA false 24 [.int .i64, .int .u64] (.t 20) (.t 21)⟩, ⟨some 23, none, .pick (.t 18) (.t 22) (.v (.bool false))⟩, ⟨some 24, none, .mov (.t 23)⟩, ⟨some 25, (some (24, true)), .ldA 2 (.t 1)⟩, ⟨some 26, (some (24, true)), .call 49 [(.t 25), (.v (.string ⟨#[97, 47, 98, 47, 99]⟩))]⟩, ⟨some 27, (some (24, true)), .call 69 [(.v (.int .i64 0)), (.v (.int .u64 0))]⟩, ⟨some 28, (some (24, true)), .eqA false 24 [.int .i64, .int .u64] (.t 26) (.t 27)⟩, ⟨some 29, none, .pick (.t 24) (.t 28) (.v (.bool false))⟩, ⟨some 0, none, .mov (.t 29)⟩])
  .ret))), 30, [.tmp 0]⟩
theorem Tryd.ek41 : KnownE Tryd.prog 41 Tryd.ec41 := ⟨Tryd.f41, _, Tryd.func41, rfl, by kernel_rfl, rfl, by kernel_rfl, by kernel_rfl⟩
/-- redwax/rules.Check -/
def Tryd.ec47 : EFn := ⟨(.seq (.ops [⟨some 1, none, .bx 45 (.t 0)⟩, ⟨some 2, none, .mov (.v (.int .i64 0))⟩])
  (.seq (.seq (.ops [⟨some 5, none, .fa 1 (.t 1)⟩, ⟨some 6, none, .ld (.t 5)⟩, ⟨some 7, none, .lenS (.t 6)⟩, ⟨some 8, none, .bin .gtr (.t 7) (.v (.int .i64 32))⟩, ⟨some 9, none, .mov (.t 8)⟩, ⟨some 10, (some (9, false)), .fa 0 (.t 1)⟩, ⟨some 11, (some (9, false)), .ld (.t 10)⟩, ⟨some 12, (some (9, false)), .fa 1 (.t 1)⟩, ⟨some 13, (some (9, false)), .ld (.t 12)⟩, ⟨some 14, (some (9, false)), .lenS (.t 13)⟩, ⟨some 15, (some (9, false)), .bin .lss (.t 11) (.t 14)⟩, ⟨some 16, none, .pick (.t 9) (.v (.bool true)) (.t 15)⟩])
  (.cond (.t 16) (.seq (.ops [⟨some 2, none, .mov (.v (.int .i64 2))⟩])
   .ret) .skip))
  (.seq (.seq (.ops [⟨some 17, none, .fa 1 (.t 1)⟩, ⟨some 18, none, .ld (.t 17)⟩, ⟨some 19, none, .lenS (.t 18)⟩, ⟨some 20, none, .mov (.v (.int .i64 0))⟩])
  (.block 0 (.loop [1, 18, 19, 20] (.seq (.ops [⟨some 21, none, .bin .lss (.t 20) (.t 19)⟩])
    (.seq (.cond (.t 21) .skip (.exit 0))
    (.seq (.block 1 (.seq (.ops [⟨some 22, none, .mov (.t 20)⟩, ⟨some 23, none, .ixS 3 (.t 18) (.t 20)⟩, ⟨some 24, none, .ldA 3 (.t 23)⟩, ⟨some 4, none, .al 56 [.string ⟨#[]⟩, .int .i64 0, .int .u64 0]⟩, ⟨some 3, none, .mov (.t 22)⟩, ⟨none, none, .st 3 (.t 4) (.t 24)⟩])
     (.seq (.drawn [0, 1, 3, 7, 15, 7, 39, 127, 255, 511, 7, 1031, 4095, 8191, 16383, 32767, 65535, 131071, 262143, 524287, 1048575, 2097151, 4194303, 8388607, 16777215, 33554431] 12 [⟨some 25, none, .mov (.t 3)⟩, ⟨some 26, none, .bin .gtr (.t 25) (.v (.int .i64 0))⟩, ⟨some 27, none, .mov (.t 26)⟩, ⟨some 28, (some (27, true)), .fa 1 (.t 1)⟩, ⟨some 29, (some (27, true)), .ld (.t 28)⟩, ⟨some 30, (some (27, true)), .mov (.t 3)⟩, ⟨some 31, (some (27, true)), .bin .sub (.t 30) (.v (.int .i64 1))⟩, ⟨some 32, (some (27, true)), .ixS 3 (.t 29) (.t 31)⟩, ⟨some 33, (some (27, true)), .fa 0 (.t 32)⟩, ⟨some 34, (some (27, true)), .ld (.t 33)⟩, ⟨some 35, (some (27, true)), .fa 0 (.t 4)⟩, ⟨some 36, (some (27, true)), .ld (.t 35)⟩, ⟨some 37, (some (27, true)), .bin .geq (.t 34) (.t 36)⟩, ⟨some 38, none, .pick (.t 27) (.t 37) (.v (.bool false))⟩, ⟨some 39, none, .mov (.t 38)⟩, ⟨some 40, (some (39, false)), .fa 0 (.t 4)⟩, ⟨some 41, (some (39, false)), .ld (.t 40)⟩, ⟨some 42, (some (39, false)), .call 70 [(.t 41)]⟩, ⟨some 43, (some (39, false)), .not (.t 42)⟩, ⟨some 44, none, .pick (.t 39) (.v (.bool true)) (.t 43)⟩, ⟨some 45, none, .mov (.t 44)⟩, ⟨some 46, (some (45, false)), .fa 1 (.t 4)⟩, ⟨some 47, (some (45, false)), .ldA 2 (.t 46)⟩, ⟨some 48, (some (45, false)), .call 18 [(.t 47)]⟩, ⟨some 49, (some (45, false)), .bin .neq (.t 48) (.v (.int .i64 0))⟩, ⟨some 50, none, .pick (.t 45) (.v (.bool true)) (.t 49)⟩])
     (.cond (.t 50) (.seq (.ops [⟨some 2, none, .mov (.v (.int .i64 2))⟩])
      .ret) .skip))))
    (.ops [⟨some 51, none, .bin .add (.t 20) (.v (.int .i64 1))⟩, ⟨some 20, none, .mov (.t 51)⟩])))))))
  (.seq (.ops [⟨some 2, none, .mov (.v (.int .i64 0))⟩])
  .ret)))), 52, [.tmp 2]⟩
theorem Tryd.ek47 : KnownE Tryd.prog 47 Tryd.ec47 := ⟨Tryd.f47, _, Tryd.func47, rfl, by kernel_rfl, rfl, by kernel_rfl, by kernel_rfl⟩
/-- redwax/rules.Find -/
def Tryd.ec49 : EFn := ⟨(.seq (.ops [⟨some 2, none, .bx 45 (.t 0)⟩, ⟨some 4, none, .al 24 [.int .i64 0, .int .u64 0]⟩])
  (.seq (.ops [⟨some 5, none, .mov (.v (.int .i64 (-1)))⟩])
  (.seq (.seq (.ops [⟨some 8, none, .fa 1 (.t 2)⟩, ⟨some 9, none, .ld (.t 8)⟩, ⟨some 10, none, .lenS (.t 9)⟩, ⟨some 11, none, .mov (.v (.int .i64 0))⟩])
  (.block 0 (.loop [1, 4, 5, 9, 10, 11] (.seq (.ops [⟨some 12, none, .bin .lss (.t 11) (.t 10)⟩])
    (.seq (.cond (.t 12) .skip (.exit 0))
    (.seq (.block 1 (.seq (.ops [⟨some 13, none, .ixS 3 (.t 9) (.t 11)⟩, ⟨some 14, none, .ldA 3 (.t 13)⟩, ⟨some 7, none, .al 56 [.string ⟨#[]⟩, .int .i64 0, .int .u64 0]⟩, ⟨none, none, .st 3 (.t 7) (.t 14)⟩])
     (.seq (.ops [⟨some 15, none, .fa 0 (.t 7)⟩, ⟨some 16, none, .ld (.t 15)⟩, ⟨some 17, none, .lenStr (.t 16)⟩, ⟨some 18, none, .mov (.t 5)⟩, ⟨some 19, none, .bin .gtr (.t 17) (.t 18)⟩, ⟨some 20, none, .mov (.t 19)⟩, ⟨some 21, (some (20, true)), .fa 0 (.t 7)⟩, ⟨some 22, (some (20, true)), .ld (.t 21)⟩, ⟨some 23, (some (20, true)), .mov (.t 1)⟩, ⟨some 24, (some (20, true)), .call 77 [(.t 22), (.t 23)]⟩, ⟨some 25, none, .pick (.t 20) (.t 24) (.v (.bool false))⟩])
     (.cond (.t 25) (.drawn [0, 1, 3, 0, 8, 7, 63] 6 [⟨some 26, none, .fa 0 (.t 7)⟩, ⟨some 27, none, .ld (.t 26)⟩, ⟨some 28, none, .lenStr (.t 27)⟩, ⟨some 29, none, .fa 1 (.t 7)⟩, ⟨some 30, none, .ldA 2 (.t 29)⟩, ⟨some 5, none, .mov (.t 28)⟩, ⟨none, none, .st 2 (.t 4) (.t 30)⟩]) .skip))))
    (.ops [⟨some 31, none, .bin .add (.t 11) (.v (.int .i64 1))⟩, ⟨some 11, none, .mov (.t 31)⟩])))))))
  (.seq (.ops [⟨some 32, none, .ldA 2 (.t 4)⟩, ⟨none, none, .st 2 (.t 4) (.t 32)⟩])
  .ret)))), 33, [.cell 4 (some 2)]⟩
theorem Tryd.ek49 : KnownE Tryd.prog 49 Tryd.ec49 := ⟨Tryd.f49, _, Tryd.func49, rfl, by kernel_rfl, rfl, by kernel_rfl, by kernel_rfl⟩
/-- redwax/paths.is -/
def Tryd.ec63 : EFn := ⟨(.seq (.ops [⟨some 2, none, .mov (.v (.bool false))⟩])
  (.seq (.seq (.ops [⟨some 4, none, .mov (.t 0)⟩, ⟨some 5, none, .lenStr (.t 4)⟩, ⟨some 6, none, .bin .gtr (.t 5) (.v (.int .i64 60))⟩])
  (.cond (.t 6) (.seq (.ops [⟨some 2, none, .mov (.v (.bool false))⟩])
   .ret) .skip))
  (.seq (.ops [⟨some 7, none, .mov (.t 0)⟩, ⟨some 8, none, .call 64 [(.t 7), (.v (.string ⟨#[47]⟩))]⟩, ⟨some 3, none, .mov (.t 8)⟩])
  (.seq (.ops [⟨some 9, none, .mov (.t 3)⟩, ⟨some 10, none, .lenS (.t 9)⟩, ⟨some 11, none, .bin .leq (.t 10) (.v (.int .i64 8))⟩, ⟨some 12, none, .mov (.t 11)⟩, ⟨some 13, (some (12, true)), .mov (.t 3)⟩, ⟨some 14, (some (12, true)), .call 88 [(.t 13), (.v (.func (.func 89) #[] #[]))]⟩, ⟨some 15, (some (12, true)), .not (.t 14)⟩, ⟨some 16, none, .pick (.t 12) (.t 15) (.v (.bool false))⟩, ⟨some 2, none, .mov (.t 16)⟩])
  .ret)))), 17, [.tmp 2]⟩
theorem Tryd.ek63 : KnownE Tryd.prog 63 Tryd.ec63 := ⟨Tryd.f63, _, Tryd.func63, rfl, by kernel_rfl, rfl, by kernel_rfl, by kernel_rfl⟩
/-- strings.Split -/
def Tryd.ec64 : EFn := ⟨(.seq (.ops [⟨some 4, none, .mov (.v (.slice none 0 0))⟩])
  (.seq (.ops [⟨some 5, none, .mov (.t 0)⟩, ⟨some 6, none, .mov (.t 1)⟩, ⟨some 7, none, .call 91 [(.t 5), (.t 6), (.v (.int .i64 0)), (.v (.int .i64 (-1)))]⟩, ⟨some 4, none, .mov (.t 7)⟩])
  .ret)), 8, [.tmp 4]⟩
theorem Tryd.ek64 : KnownE Tryd.prog 64 Tryd.ec64 := ⟨Tryd.f64, _, Tryd.func64, rfl, by kernel_rfl, rfl, by kernel_rfl, by kernel_rfl⟩
/-- strings.HasPrefix -/
def Tryd.ec66 : EFn := ⟨(.seq (.ops [⟨some 4, none, .mov (.v (.bool false))⟩])
  (.seq (.ops [⟨some 5, none, .mov (.t 0)⟩, ⟨some 6, none, .mov (.t 1)⟩, ⟨some 7, none, .call 93 [(.t 5), (.t 6)]⟩, ⟨some 4, none, .mov (.t 7)⟩])
  .ret)), 8, [.tmp 4]⟩
theorem Tryd.ek66 : KnownE Tryd.prog 66 Tryd.ec66 := ⟨Tryd.f66, _, Tryd.func66, rfl, by kernel_rfl, rfl, by kernel_rfl, by kernel_rfl⟩
/-- redwax/redwaxlaw07.given -/
def Tryd.ec68 : EFn := ⟨(.seq (.ops [⟨some 0, none, .al 45 [.int .i64 0, .slice none 0 0]⟩])
  (.seq (.ops [⟨some 1, none, .call 69 [(.v (.int .i64 1)), (.v (.int .u64 0))]⟩, ⟨some 2, none, .build [.string ⟨#[]⟩, .int .i64 0, .int .u64 0] [(1, 2, (.t 1))]⟩, ⟨some 3, none, .call 69 [(.v (.int .i64 2)), (.v (.int .u64 1))]⟩, ⟨some 4, none, .build [.string ⟨#[]⟩, .int .i64 0, .int .u64 0] [(0, 1, (.v (.string ⟨#[97]⟩))), (1, 2, (.t 3))]⟩, ⟨some 5, none, .build [.string ⟨#[]⟩, .int .i64 0, .int .u64 0] [(0, 1, (.v (.string ⟨#[97, 47, 98]⟩)))]⟩, ⟨some 6, none, .bsl 56 [.string ⟨#[]⟩, .int .i64 0, .int .u64 0, .string ⟨#[]⟩, .int .i64 0, .int .u64 0, .string ⟨#[]⟩, .int .i64 0, .int .u64 0] 3 [(0, 3, (.t 2)), (3, 3, (.t 4)), (6, 3, (.t 5))]⟩, ⟨some 7, none, .build [.int .i64 0, .slice none 0 0] [(0, 1, (.v (.int .i64 3))), (1, 1, (.t 6))]⟩, ⟨none, none, .st 2 (.t 0) (.t 7)⟩])
  .ret)), 8, [.cell 0 (some 2)]⟩
theorem Tryd.ek68 : KnownE Tryd.prog 68 Tryd.ec68 := ⟨Tryd.f68, _, Tryd.func68, rfl, by kernel_rfl, rfl, by kernel_rfl, by kernel_rfl⟩
/-- redwax/redwaxlaw07.label -/
def Tryd.ec69 : EFn := ⟨(.seq (.ops [⟨some 4, none, .al 24 [.int .i64 0, .int .u64 0]⟩])
  (.seq (.ops [⟨some 5, none, .mov (.t 0)⟩, ⟨some 6, none, .mov (.t 1)⟩, ⟨some 7, none, .build [.int .i64 0, .int .u64 0] [(0, 1, (.t 5)), (1, 1, (.t 6))]⟩, ⟨none, none, .st 2 (.t 4) (.t 7)⟩])
  .ret)), 8, [.cell 4 (some 2)]⟩
theorem Tryd.ek69 : KnownE Tryd.prog 69 Tryd.ec69 := ⟨Tryd.f69, _, Tryd.func69, rfl, by kernel_rfl, rfl, by kernel_rfl, by kernel_rfl⟩
/-- redwax/rules.prefix -/
def Tryd.ec70 : EFn := ⟨(.seq (.ops [⟨some 2, none, .mov (.v (.bool false))⟩])
  (.seq (.ops [⟨some 3, none, .mov (.t 0)⟩, ⟨some 4, none, .bin .eql (.t 3) (.v (.string ⟨#[]⟩))⟩, ⟨some 5, none, .mov (.t 4)⟩, ⟨some 6, (some (5, false)), .mov (.t 0)⟩, ⟨some 7, (some (5, false)), .call 29 [(.t 6)]⟩, ⟨some 8, (some (5, false)), .bin .eql (.t 7) (.v (.int .i64 0))⟩, ⟨some 9, none, .pick (.t 5) (.v (.bool true)) (.t 8)⟩, ⟨some 2, none, .mov (.t 9)⟩])
  .ret)), 10, [.tmp 2]⟩
theorem Tryd.ek70 : KnownE Tryd.prog 70 Tryd.ec70 := ⟨Tryd.f70, _, Tryd.func70, rfl, by kernel_rfl, rfl, by kernel_rfl, by kernel_rfl⟩
/-- redwax/rules.over -/
def Tryd.ec77 : EFn := ⟨(.seq (.ops [⟨some 4, none, .mov (.v (.bool false))⟩])
  (.seq (.ops [⟨some 5, none, .mov (.t 0)⟩, ⟨some 6, none, .mov (.t 1)⟩, ⟨some 7, none, .bin .eql (.t 5) (.t 6)⟩, ⟨some 8, none, .mov (.t 7)⟩, ⟨some 9, (some (8, false)), .mov (.t 0)⟩, ⟨some 10, (some (8, false)), .mov (.t 1)⟩, ⟨some 11, (some (8, false)), .call 36 [(.t 9), (.t 10)]⟩, ⟨some 12, none, .pick (.t 8) (.v (.bool true)) (.t 11)⟩, ⟨some 4, none, .mov (.t 12)⟩])
  .ret)), 13, [.tmp 4]⟩
theorem Tryd.ek77 : KnownE Tryd.prog 77 Tryd.ec77 := ⟨Tryd.f77, _, Tryd.func77, rfl, by kernel_rfl, rfl, by kernel_rfl, by kernel_rfl⟩
/-- slices.ContainsFunc[[]string,string] -/
def Tryd.ec88 : EFn := ⟨(.seq (.ops [⟨some 4, none, .mov (.v (.bool false))⟩])
  (.seq (.ops [⟨some 5, none, .mov (.t 0)⟩, ⟨some 6, none, .mov (.t 1)⟩, ⟨some 7, none, .call 105 [(.t 5), (.t 6)]⟩, ⟨some 8, none, .bin .geq (.t 7) (.v (.int .i64 0))⟩, ⟨some 4, none, .mov (.t 8)⟩])
  .ret)), 9, [.tmp 4]⟩
theorem Tryd.ek88 : KnownE Tryd.prog 88 Tryd.ec88 := ⟨Tryd.f88, _, Tryd.func88, rfl, by kernel_rfl, rfl, by kernel_rfl, by kernel_rfl⟩
/-- redwax/paths.is$1 -/
def Tryd.ec89 : EFn := ⟨(.seq (.ops [⟨some 2, none, .mov (.v (.bool false))⟩])
  (.seq (.ops [⟨some 3, none, .mov (.t 0)⟩, ⟨some 4, none, .call 90 [(.t 3)]⟩, ⟨some 5, none, .not (.t 4)⟩, ⟨some 2, none, .mov (.t 5)⟩])
  .ret)), 6, [.tmp 2]⟩
theorem Tryd.ek89 : KnownE Tryd.prog 89 Tryd.ec89 := ⟨Tryd.f89, _, Tryd.func89, rfl, by kernel_rfl, rfl, by kernel_rfl, by kernel_rfl⟩
/-- redwax/paths.part -/
def Tryd.ec90 : EFn := ⟨(.seq (.ops [⟨some 2, none, .mov (.v (.bool false))⟩])
  (.seq (.ops [⟨some 3, none, .mov (.v (.int .i64 0))⟩])
  (.seq (.seq (.ops [⟨some 6, none, .mov (.t 0)⟩, ⟨some 7, none, .more (.rngS (.t 6))⟩])
  (.block 0 (.loop [0, 3, 7] (.seq (.ops [⟨some 8, none, .more (.nxtS (.t 7))⟩, ⟨some 9, none, .ext 0 (.t 8)⟩])
    (.seq (.cond (.t 9) .skip (.exit 0))
    (.block 1 (.seq (.ops [⟨some 10, none, .ext 2 (.t 8)⟩, ⟨some 5, none, .mov (.t 10)⟩])
     (.seq (.seq (.ops [⟨some 11, none, .mov (.t 5)⟩, ⟨some 12, none, .call 106 [(.t 11)]⟩, ⟨some 13, none, .not (.t 12)⟩])
     (.cond (.t 13) (.seq (.ops [⟨some 2, none, .mov (.v (.bool false))⟩])
      .ret) .skip))
     (.seq (.ops [⟨some 14, none, .mov (.t 5)⟩, ⟨some 15, none, .bin .eql (.t 14) (.v (.int .i32 46))⟩])
     (.cond (.t 15) (.ops [⟨some 16, none, .mov (.t 3)⟩, ⟨some 17, none, .bin .add (.t 16) (.v (.int .i64 1))⟩, ⟨some 3, none, .mov (.t 17)⟩]) .skip))))))))))
  (.seq (.ops [⟨some 18, none, .mov (.t 3)⟩, ⟨some 19, none, .mov (.t 0)⟩, ⟨some 20, none, .lenStr (.t 19)⟩, ⟨some 21, none, .bin .lss (.t 18) (.t 20)⟩, ⟨some 2, none, .mov (.t 21)⟩])
  .ret)))), 22, [.tmp 2]⟩
theorem Tryd.ek90 : KnownE Tryd.prog 90 Tryd.ec90 := ⟨Tryd.f90, _, Tryd.func90, rfl, by kernel_rfl, rfl, by kernel_rfl, by kernel_rfl⟩
/-- strings.genSplit -/
def Tryd.ec91 : EFn := ⟨(.seq (.ops [⟨some 8, none, .mov (.v (.slice none 0 0))⟩])
  (.seq (.seq (.ops [⟨some 12, none, .mov (.t 3)⟩, ⟨some 13, none, .bin .eql (.t 12) (.v (.int .i64 0))⟩])
  (.cond (.t 13) (.seq (.ops [⟨some 8, none, .mov (.v (.slice none 0 0))⟩])
   .ret) .skip))
  (.seq (.seq (.ops [⟨some 14, none, .mov (.t 1)⟩, ⟨some 15, none, .bin .eql (.t 14) (.v (.string ⟨#[]⟩))⟩])
  (.cond (.t 15) (.seq (.ops [⟨some 16, none, .mov (.t 0)⟩, ⟨some 17, none, .mov (.t 3)⟩, ⟨some 18, none, .call 107 [(.t 16), (.t 17)]⟩, ⟨some 8, none, .mov (.t 18)⟩])
   .ret) .skip))
  (.seq (.seq (.ops [⟨some 19, none, .mov (.t 3)⟩, ⟨some 20, none, .bin .lss (.t 19) (.v (.int .i64 0))⟩])
  (.cond (.t 20) (.ops [⟨some 21, none, .mov (.t 0)⟩, ⟨some 22, none, .mov (.t 1)⟩, ⟨some 23, none, .call 108 [(.t 21), (.t 22)]⟩, ⟨some 24, none, .bin .add (.t 23) (.v (.int .i64 1))⟩, ⟨some 3, none, .mov (.t 24)⟩]) .skip))
  (.seq (.ops [⟨some 25, none, .mov (.t 3)⟩, ⟨some 26, none, .mov (.t 0)⟩, ⟨some 27, none, .lenStr (.t 26)⟩, ⟨some 28, none, .bin .add (.t 27) (.v (.int .i64 1))⟩, ⟨some 29, none, .mnx false [(.t 25), (.t 28)]⟩, ⟨some 3, none, .mov (.t 29)⟩])
  (.seq (.ops [⟨some 30, none, .mov (.t 3)⟩, ⟨some 31, none, .mkS 35 9 1 16 (.string ⟨#[]⟩) (.t 30) (.t 30)⟩, ⟨some 9, none, .mov (.t 31)⟩])
  (.seq (.ops [⟨some 32, none, .mov (.t 3)⟩, ⟨some 33, none, .bin .sub (.t 32) (.v (.int .i64 1))⟩, ⟨some 3, none, .mov (.t 33)⟩])
  (.seq (.ops [⟨some 10, none, .mov (.v (.int .i64 0))⟩])
  (.seq (.block 0 (.loop [0, 1, 2, 3, 9, 10] (.seq (.seq (.ops [⟨some 34, none, .mov (.t 10)⟩, ⟨some 35, none, .mov (.t 3)⟩, ⟨some 36, none, .bin .lss (.t 34) (.t 35)⟩])
    (.cond (.t 36) .skip (.exit 0)))
    (.block 1 (.seq (.ops [⟨some 37, none, .mov (.t 0)⟩, ⟨some 38, none, .mov (.t 1)⟩, ⟨some 39, none, .call 109 [(.t 37), (.t 38)]⟩, ⟨some 11, none, .mov (.t 39)⟩])
     (.seq (.seq (.ops [⟨some 40, none, .mov (.t 11)⟩, ⟨some 41, none, .bin .lss (.t 40) (.v (.int .i64 0))⟩])
     (.cond (.t 41) (.exit 0) .skip))
     (.seq (.ops [⟨some 42, none, .mov (.t 9)⟩, ⟨some 43, none, .mov (.t 10)⟩, ⟨some 44, none, .mov (.t 0)⟩, ⟨some 45, none, .mov (.t 11)⟩, ⟨some 46, none, .mov (.t 2)⟩, ⟨some 47, none, .bin .add (.t 45) (.t 46)⟩, ⟨some 48, none, .slStr (.t 44) none (some (.t 47))⟩, ⟨some 49, none, .ixS 1 (.t 42) (.t 43)⟩, ⟨none, none, .st 1 (.t 49) (.t 48)⟩])
     (.seq (.ops [⟨some 50, none, .mov (.t 0)⟩, ⟨some 51, none, .mov (.t 11)⟩, ⟨some 52, none, .mov (.t 1)⟩, ⟨some 53, none, .lenStr (.t 52)⟩, ⟨some 54, none, .bin .add (.t 51) (.t 53)⟩, ⟨some 55, none, .slStr (.t 50) (some (.t 54)) none⟩, ⟨some 0, none, .mov (.t 55)⟩])
     (.ops [⟨some 56, none, .mov (.t 10)⟩, ⟨some 57, none, .bin .add (.t 56) (.v (.int .i64 1))⟩, ⟨some 10, none, .mov (.t 57)⟩])))))))))
  (.seq (.ops [⟨some 58, none, .mov (.t 9)⟩, ⟨some 59, none, .mov (.t 10)⟩, ⟨some 60, none, .mov (.t 0)⟩, ⟨some 61, none, .ixS 1 (.t 58) (.t 59)⟩, ⟨none, none, .st 1 (.t 61) (.t 60)⟩])
  (.seq (.ops [⟨some 62, none, .mov (.t 9)⟩, ⟨some 63, none, .mov (.t 10)⟩, ⟨some 64, none, .bin .add (.t 63) (.v (.int .i64 1))⟩, ⟨some 65, none, .slS 1 (.t 62) none (some (.t 64))⟩, ⟨some 8, none, .mov (.t 65)⟩])
  .ret))))))))))), 66, [.tmp 8]⟩
theorem Tryd.ek91 : KnownE Tryd.prog 91 Tryd.ec91 := ⟨Tryd.f91, _, Tryd.func91, rfl, by kernel_rfl, rfl, by kernel_rfl, by kernel_rfl⟩
/-- internal/stringslite.HasPrefix -/
def Tryd.ec93 : EFn := ⟨(.seq (.ops [⟨some 4, none, .mov (.v (.bool false))⟩])
  (.seq (.ops [⟨some 5, none, .mov (.t 0)⟩, ⟨some 6, none, .lenStr (.t 5)⟩, ⟨some 7, none, .mov (.t 1)⟩, ⟨some 8, none, .lenStr (.t 7)⟩, ⟨some 9, none, .bin .geq (.t 6) (.t 8)⟩, ⟨some 10, none, .mov (.t 9)⟩, ⟨some 11, (some (10, true)), .mov (.t 0)⟩, ⟨some 12, (some (10, true)), .mov (.t 1)⟩, ⟨some 13, (some (10, true)), .lenStr (.t 12)⟩, ⟨some 14, (some (10, true)), .slStr (.t 11) none (some (.t 13))⟩, ⟨some 15, (some (10, true)), .mov (.t 1)⟩, ⟨some 16, (some (10, true)), .bin .eql (.t 14) (.t 15)⟩, ⟨some 17, none, .pick (.t 10) (.t 16) (.v (.bool false))⟩, ⟨some 4, none, .mov (.t 17)⟩])
  .ret)), 18, [.tmp 4]⟩
theorem Tryd.ek93 : KnownE Tryd.prog 93 Tryd.ec93 := ⟨Tryd.f93, _, Tryd.func93, rfl, by kernel_rfl, rfl, by kernel_rfl, by kernel_rfl⟩
/-- slices.IndexFunc[[]string,string] -/
def Tryd.ec105 : EFn := ⟨(.seq (.ops [⟨some 4, none, .mov (.v (.int .i64 0))⟩])
  (.seq (.seq (.ops [⟨some 6, none, .mov (.t 0)⟩, ⟨some 7, none, .lenS (.t 6)⟩, ⟨some 8, none, .mov (.v (.int .i64 0))⟩])
  (.block 0 (.loop [0, 1, 7, 8] (.seq (.ops [⟨some 9, none, .bin .lss (.t 8) (.t 7)⟩])
    (.seq (.cond (.t 9) .skip (.exit 0))
    (.seq (.block 1 (.seq (.ops [⟨some 10, none, .mov (.t 8)⟩, ⟨some 5, none, .mov (.t 10)⟩])
     (.seq (.ops [⟨some 11, none, .mov (.t 1)⟩, ⟨some 12, none, .mov (.t 0)⟩, ⟨some 13, none, .mov (.t 5)⟩, ⟨some 14, none, .ixS 1 (.t 12) (.t 13)⟩, ⟨some 15, none, .ld (.t 14)⟩, ⟨some 16, none, .callv (.t 11) [(.t 15)]⟩])
     (.cond (.t 16) (.seq (.ops [⟨some 17, none, .mov (.t 5)⟩, ⟨some 4, none, .mov (.t 17)⟩])
      .ret) .skip))))
    (.ops [⟨some 18, none, .bin .add (.t 8) (.v (.int .i64 1))⟩, ⟨some 8, none, .mov (.t 18)⟩])))))))
  (.seq (.ops [⟨some 4, none, .mov (.v (.int .i64 (-1)))⟩])
  .ret))), 19, [.tmp 4]⟩
theorem Tryd.ek105 : KnownE Tryd.prog 105 Tryd.ec105 := ⟨Tryd.f105, _, Tryd.func105, rfl, by kernel_rfl, rfl, by kernel_rfl, by kernel_rfl⟩
/-- redwax/paths.may -/
def Tryd.ec106 : EFn := ⟨(.seq (.ops [⟨some 2, none, .mov (.v (.bool false))⟩])
  (.seq (.ops [⟨some 3, none, .mov (.t 0)⟩, ⟨some 4, none, .bin .geq (.t 3) (.v (.int .i32 97))⟩, ⟨some 5, none, .mov (.t 4)⟩, ⟨some 6, (some (5, true)), .mov (.t 0)⟩, ⟨some 7, (some (5, true)), .bin .leq (.t 6) (.v (.int .i32 122))⟩, ⟨some 8, none, .pick (.t 5) (.t 7) (.v (.bool false))⟩, ⟨some 9, none, .mov (.t 8)⟩, ⟨some 10, (some (9, false)), .mov (.t 0)⟩, ⟨some 11, (some (9, false)), .bin .geq (.t 10) (.v (.int .i32 65))⟩, ⟨some 12, (some (9, false)), .mov (.t 11)⟩, ⟨some 13, (some (12, true)), .mov (.t 0)⟩, ⟨some 14, (some (12, true)), .bin .leq (.t 13) (.v (.int .i32 90))⟩, ⟨some 15, (some (9, false)), .pick (.t 12) (.t 14) (.v (.bool false))⟩, ⟨some 16, none, .pick (.t 9) (.v (.bool true)) (.t 15)⟩, ⟨some 17, none, .mov (.t 16)⟩, ⟨some 18, (some (17, false)), .mov (.t 0)⟩, ⟨some 19, (some (17, false)), .bin .geq (.t 18) (.v (.int .i32 48))⟩, ⟨some 20, (some (17, false)), .mov (.t 19)⟩, ⟨some 21, (some (20, true)), .mov (.t 0)⟩, ⟨some 22, (some (20, true)), .bin .leq (.t 21) (.v (.int .i32 57))⟩, ⟨some 23, (some (17, false)), .pick (.t 20) (.t 22) (.v (.bool false))⟩, ⟨some 24, none, .pick (.t 17) (.v (.bool true)) (.t 23)⟩, ⟨some 25, none, .mov (.t 24)⟩, ⟨some 26, (some (25, false)), .mov (.t 0)⟩, ⟨some 27, (some (25, false)), .bin .eql (.t 26) (.v (.int .i32 95))⟩, ⟨some 28, none, .pick (.t 25) (.v (.bool true)) (.t 27)⟩, ⟨some 29, none, .mov (.t 28)⟩, ⟨some 30, (some (29, false)), .mov (.t 0)⟩, ⟨some 31, (some (29, false)), .bin .eql (.t 30) (.v (.int .i32 45))⟩, ⟨some 32, none, .pick (.t 29) (.v (.bool true)) (.t 31)⟩, ⟨some 33, none, .mov (.t 32)⟩, ⟨some 34, (some (33, false)), .mov (.t 0)⟩, ⟨some 35, (some (33, false)), .bin .eql (.t 34) (.v (.int .i32 46))⟩, ⟨some 36, none, .pick (.t 33) (.v (.bool true)) (.t 35)⟩, ⟨some 2, none, .mov (.t 36)⟩])
  .ret)), 37, [.tmp 2]⟩
theorem Tryd.ek106 : KnownE Tryd.prog 106 Tryd.ec106 := ⟨Tryd.f106, _, Tryd.func106, rfl, by kernel_rfl, rfl, by kernel_rfl, by kernel_rfl⟩
/-- strings.explode -/
def Tryd.ec107 : EFn := ⟨(.seq (.ops [⟨some 4, none, .mov (.v (.slice none 0 0))⟩])
  (.seq (.ops [⟨some 10, none, .mov (.t 0)⟩, ⟨some 11, none, .call 135 [(.t 10)]⟩, ⟨some 5, none, .mov (.t 11)⟩])
  (.seq (.seq (.ops [⟨some 12, none, .mov (.t 1)⟩, ⟨some 13, none, .bin .lss (.t 12) (.v (.int .i64 0))⟩, ⟨some 14, none, .mov (.t 13)⟩, ⟨some 15, (some (14, false)), .mov (.t 1)⟩, ⟨some 16, (some (14, false)), .mov (.t 5)⟩, ⟨some 17, (some (14, false)), .bin .gtr (.t 15) (.t 16)⟩, ⟨some 18, none, .pick (.t 14) (.v (.bool true)) (.t 17)⟩])
  (.cond (.t 18) (.ops [⟨some 19, none, .mov (.t 5)⟩, ⟨some 1, none, .mov (.t 19)⟩]) .skip))
  (.seq (.ops [⟨some 20, none, .mov (.t 1)⟩, ⟨some 21, none, .mkS 35 9 1 16 (.string ⟨#[]⟩) (.t 20) (.t 20)⟩, ⟨some 6, none, .mov (.t 21)⟩])
  (.seq (.seq (.ops [⟨some 7, none, .mov (.v (.int .i64 0))⟩])
  (.block 0 (.loop [0, 1, 6, 7] (.seq (.seq (.ops [⟨some 22, none, .mov (.t 7)⟩, ⟨some 23, none, .mov (.t 1)⟩, ⟨some 24, none, .bin .sub (.t 23) (.v (.int .i64 1))⟩, ⟨some 25, none, .bin .lss (.t 22) (.t 24)⟩])
    (.cond (.t 25) .skip (.exit 0)))
    (.seq (.block 1 (.seq (.ops [⟨some 29, none, .mov (.t 0)⟩, ⟨some 30, none, .call 136 [(.t 29)]⟩, ⟨some 28, none, .mov (.t 30)⟩, ⟨some 31, none, .ext 0 (.t 28)⟩, ⟨some 32, none, .ext 1 (.t 28)⟩, ⟨some 8, none, .mov (.t 31)⟩, ⟨some 9, none, .mov (.t 32)⟩])
     (.seq (.ops [⟨some 33, none, .mov (.t 6)⟩, ⟨some 34, none, .mov (.t 7)⟩, ⟨some 35, none, .mov (.t 0)⟩, ⟨some 36, none, .mov (.t 9)⟩, ⟨some 37, none, .slStr (.t 35) none (some (.t 36))⟩, ⟨some 38, none, .ixS 1 (.t 33) (.t 34)⟩, ⟨none, none, .st 1 (.t 38) (.t 37)⟩])
     (.ops [⟨some 39, none, .mov (.t 0)⟩, ⟨some 40, none, .mov (.t 9)⟩, ⟨some 41, none, .slStr (.t 39) (some (.t 40)) none⟩, ⟨some 0, none, .mov (.t 41)⟩]))))
    (.ops [⟨some 26, none, .mov (.t 7)⟩, ⟨some 27, none, .bin .add (.t 26) (.v (.int .i64 1))⟩, ⟨some 7, none, .mov (.t 27)⟩]))))))
  (.seq (.seq (.ops [⟨some 42, none, .mov (.t 1)⟩, ⟨some 43, none, .bin .gtr (.t 42) (.v (.int .i64 0))⟩])
  (.cond (.t 43) (.ops [⟨some 44, none, .mov (.t 6)⟩, ⟨some 45, none, .mov (.t 1)⟩, ⟨some 46, none, .bin .sub (.t 45) (.v (.int .i64 1))⟩, ⟨some 47, none, .mov (.t 0)⟩, ⟨some 48, none, .ixS 1 (.t 44) (.t 46)⟩, ⟨none, none, .st 1 (.t 48) (.t 47)⟩]) .skip))
  (.seq (.ops [⟨some 49, none, .mov (.t 6)⟩, ⟨some 4, none, .mov (.t 49)⟩])
  .ret))))))), 50, [.tmp 4]⟩
theorem Tryd.ek107 : KnownE Tryd.prog 107 Tryd.ec107 := ⟨Tryd.f107, _, Tryd.func107, rfl, by kernel_rfl, rfl, by kernel_rfl, by kernel_rfl⟩
/-- strings.Count -/
def Tryd.ec108 : EFn := ⟨(.seq (.ops [⟨some 4, none, .mov (.v (.int .i64 0))⟩])
  (.seq (.seq (.ops [⟨some 7, none, .mov (.t 1)⟩, ⟨some 8, none, .lenStr (.t 7)⟩, ⟨some 9, none, .bin .eql (.t 8) (.v (.int .i64 0))⟩])
  (.cond (.t 9) (.seq (.ops [⟨some 10, none, .mov (.t 0)⟩, ⟨some 11, none, .call 135 [(.t 10)]⟩, ⟨some 12, none, .bin .add (.t 11) (.v (.int .i64 1))⟩, ⟨some 4, none, .mov (.t 12)⟩])
   .ret) .skip))
  (.seq (.seq (.ops [⟨some 13, none, .mov (.t 1)⟩, ⟨some 14, none, .lenStr (.t 13)⟩, ⟨some 15, none, .bin .eql (.t 14) (.v (.int .i64 1))⟩])
  (.cond (.t 15) (.seq (.ops [⟨some 16, none, .mov (.t 0)⟩, ⟨some 17, none, .mov (.t 1)⟩, ⟨some 18, none, .ixStr (.t 17) (.v (.int .i64 0))⟩, ⟨some 19, none, .more (.xc 1 [(.t 16), (.t 18)])⟩, ⟨some 4, none, .mov (.t 19)⟩])
   .ret) .skip))
  (.seq (.ops [⟨some 5, none, .mov (.v (.int .i64 0))⟩])
  (.block 0 (.loop [0, 1, 5] (.block 1 (.seq (.ops [⟨some 20, none, .mov (.t 0)⟩, ⟨some 21, none, .mov (.t 1)⟩, ⟨some 22, none, .call 109 [(.t 20), (.t 21)]⟩, ⟨some 6, none, .mov (.t 22)⟩])
     (.seq (.seq (.ops [⟨some 23, none, .mov (.t 6)⟩, ⟨some 24, none, .bin .eql (.t 23) (.v (.int .i64 (-1)))⟩])
     (.cond (.t 24) (.seq (.ops [⟨some 25, none, .mov (.t 5)⟩, ⟨some 4, none, .mov (.t 25)⟩])
      .ret) .skip))
     (.seq (.ops [⟨some 26, none, .mov (.t 5)⟩, ⟨some 27, none, .bin .add (.t 26) (.v (.int .i64 1))⟩, ⟨some 5, none, .mov (.t 27)⟩])
     (.ops [⟨some 28, none, .mov (.t 0)⟩, ⟨some 29, none, .mov (.t 6)⟩, ⟨some 30, none, .mov (.t 1)⟩, ⟨some 31, none, .lenStr (.t 30)⟩, ⟨some 32, none, .bin .add (.t 29) (.t 31)⟩, ⟨some 33, none, .slStr (.t 28) (some (.t 32)) none⟩, ⟨some 0, none, .mov (.t 33)⟩]))))))))))), 34, [.tmp 4]⟩
theorem Tryd.ek108 : KnownE Tryd.prog 108 Tryd.ec108 := ⟨Tryd.f108, _, Tryd.func108, rfl, by kernel_rfl, rfl, by kernel_rfl, by kernel_rfl⟩
/-- strings.Index -/
def Tryd.ec109 : EFn := ⟨(.seq (.ops [⟨some 4, none, .mov (.v (.int .i64 0))⟩])
  (.seq (.ops [⟨some 5, none, .mov (.t 0)⟩, ⟨some 6, none, .mov (.t 1)⟩, ⟨some 7, none, .call 122 [(.t 5), (.t 6)]⟩, ⟨some 4, none, .mov (.t 7)⟩])
  .ret)), 8, [.tmp 4]⟩
theorem Tryd.ek109 : KnownE Tryd.prog 109 Tryd.ec109 := ⟨Tryd.f109, _, Tryd.func109, rfl, by kernel_rfl, rfl, by kernel_rfl, by kernel_rfl⟩
/-- internal/stringslite.Index -/
def Tryd.ec122 : EFn := ⟨(.seq (.ops [⟨some 4, none, .mov (.v (.int .i64 0))⟩])
  (.seq (.ops [⟨some 14, none, .mov (.t 1)⟩, ⟨some 15, none, .lenStr (.t 14)⟩, ⟨some 5, none, .mov (.t 15)⟩])
  (.seq (.block 0 (.seq (.ops [⟨some 17, none, .mov (.t 5)⟩, ⟨some 18, none, .bin .eql (.t 17) (.v (.int .i64 0))⟩, ⟨some 19, none, .mov (.t 18)⟩, ⟨some 20, (some (19, false)), .mov (.t 1)⟩, ⟨some 21, (some (19, false)), .mov (.t 0)⟩, ⟨some 22, (some (19, false)), .bin .eql (.t 20) (.t 21)⟩, ⟨some 23, none, .pick (.t 19) (.v (.bool true)) (.t 22)⟩, ⟨some 16, none, .mov (.t 23)⟩])
   (.cond (.t 16) (.seq (.ops [⟨some 4, none, .mov (.v (.int .i64 0))⟩])
    .ret) (.seq (.ops [⟨some 25, none, .mov (.t 5)⟩, ⟨some 26, none, .bin .eql (.t 25) (.v (.int .i64 1))⟩, ⟨some 24, none, .mov (.t 26)⟩])
    (.cond (.t 24) (.seq (.ops [⟨some 27, none, .mov (.t 0)⟩, ⟨some 28, none, .mov (.t 1)⟩, ⟨some 29, none, .ixStr (.t 28) (.v (.int .i64 0))⟩, ⟨some 30, none, .call 144 [(.t 27), (.t 29)]⟩, ⟨some 4, none, .mov (.t 30)⟩])
     .ret) (.seq (.ops [⟨some 32, none, .mov (.t 5)⟩, ⟨some 33, none, .mov (.t 0)⟩, ⟨some 34, none, .lenStr (.t 33)⟩, ⟨some 35, none, .bin .geq (.t 32) (.t 34)⟩, ⟨some 31, none, .mov (.t 35)⟩])
     (.cond (.t 31) (.seq (.ops [⟨some 4, none, .mov (.v (.int .i64 (-1)))⟩])
      .ret) (.seq (.ops [⟨some 37, none, .mov (.t 5)⟩, ⟨some 38, none, .ld (.v (.pointer (some ⟨0, 0, none⟩)))⟩, ⟨some 39, none, .bin .leq (.t 37) (.t 38)⟩, ⟨some 40, none, .mov (.t 39)⟩, ⟨some 41, (some (40, true)), .mov (.t 0)⟩, ⟨some 42, (some (40, true)), .lenStr (.t 41)⟩, ⟨some 43, (some (40, true)), .bin .leq (.t 42) (.v (.int .i64 64))⟩, ⟨some 44, none, .pick (.t 40) (.t 43) (.v (.bool false))⟩, ⟨some 36, none, .mov (.t 44)⟩])
      (.cond (.t 36) (.seq (.ops [⟨some 45, none, .mov (.t 0)⟩, ⟨some 46, none, .mov (.t 1)⟩, ⟨some 47, none, .more (.other (.xf 145 [(.t 45), (.t 46)]))⟩, ⟨some 4, none, .mov (.t 47)⟩])
       .ret) .skip)))))))))
  (.seq (.ops [⟨some 48, none, .mov (.t 1)⟩, ⟨some 49, none, .ixStr (.t 48) (.v (.int .i64 0))⟩, ⟨some 6, none, .mov (.t 49)⟩])
  (.seq (.ops [⟨some 50, none, .mov (.t 1)⟩, ⟨some 51, none, .ixStr (.t 50) (.v (.int .i64 1))⟩, ⟨some 7, none, .mov (.t 51)⟩])
  (.seq (.ops [⟨some 8, none, .mov (.v (.int .i64 0))⟩])
  (.seq (.ops [⟨some 52, none, .mov (.t 0)⟩, ⟨some 53, none, .lenStr (.t 52)⟩, ⟨some 54, none, .mov (.t 5)⟩, ⟨some 55, none, .bin .sub (.t 53) (.t 54)⟩, ⟨some 56, none, .bin .add (.t 55) (.v (.int .i64 1))⟩, ⟨some 9, none, .mov (.t 56)⟩])
  (.seq (.ops [⟨some 10, none, .mov (.v (.int .i64 0))⟩])
  (.seq (.block 1 (.loop [0, 1, 5, 6, 7, 8, 9, 10] (.seq (.seq (.ops [⟨some 57, none, .mov (.t 8)⟩, ⟨some 58, none, .mov (.t 9)⟩, ⟨some 59, none, .bin .lss (.t 57) (.t 58)⟩])
    (.cond (.t 59) .skip (.exit 1)))
    (.block 2 (.seq (.seq (.ops [⟨some 60, none, .mov (.t 0)⟩, ⟨some 61, none, .mov (.t 8)⟩, ⟨some 62, none, .ixStr (.t 60) (.t 61)⟩, ⟨some 63, none, .mov (.t 6)⟩, ⟨some 64, none, .bin .neq (.t 62) (.t 63)⟩])
     (.cond (.t 64) (.seq (.ops [⟨some 65, none, .mov (.t 0)⟩, ⟨some 66, none, .mov (.t 8)⟩, ⟨some 67, none, .bin .add (.t 66) (.v (.int .i64 1))⟩, ⟨some 68, none, .mov (.t 9)⟩, ⟨some 69, none, .slStr (.t 65) (some (.t 67)) (some (.t 68))⟩, ⟨some 70, none, .mov (.t 6)⟩, ⟨some 71, none, .call 144 [(.t 69), (.t 70)]⟩, ⟨some 11, none, .mov (.t 71)⟩])
      (.seq (.seq (.ops [⟨some 72, none, .mov (.t 11)⟩, ⟨some 73, none, .bin .lss (.t 72) (.v (.int .i64 0))⟩])
      (.cond (.t 73) (.seq (.ops [⟨some 4, none, .mov (.v (.int .i64 (-1)))⟩])
       .ret) .skip))
      (.ops [⟨some 74, none, .mov (.t 8)⟩, ⟨some 75, none, .mov (.t 11)⟩, ⟨some 76, none, .bin .add (.t 75) (.v (.int .i64 1))⟩, ⟨some 77, none, .bin .add (.t 74) (.t 76)⟩, ⟨some 8, none, .mov (.t 77)⟩]))) .skip))
     (.seq (.seq (.ops [⟨some 78, none, .mov (.t 0)⟩, ⟨some 79, none, .mov (.t 8)⟩, ⟨some 80, none, .bin .add (.t 79) (.v (.int .i64 1))⟩, ⟨some 81, none, .ixStr (.t 78) (.t 80)⟩, ⟨some 82, none, .mov (.t 7)⟩, ⟨some 83, none, .bin .eql (.t 81) (.t 82)⟩, ⟨some 84, none, .mov (.t 83)⟩, ⟨some 85, (some (84, true)), .mov (.t 0)⟩, ⟨some 86, (some (84, true)), .mov (.t 8)⟩, ⟨some 87, (some (84, true)), .mov (.t 8)⟩, ⟨some 88, (some (84, true)), .mov (.t 5)⟩, ⟨some 89, (some (84, true)), .bin .add (.t 87) (.t 88)⟩, ⟨some 90, (some (84, true)), .slStr (.t 85) (some (.t 86)) (some (.t 89))⟩, ⟨some 91, (some (84, true)), .mov (.t 1)⟩, ⟨some 92, (some (84, true)), .bin .eql (.t 90) (.t 91)⟩, ⟨some 93, none, .pick (.t 84) (.t 92) (.v (.bool false))⟩])
     (.cond (.t 93) (.seq (.ops [⟨some 94, none, .mov (.t 8)⟩, ⟨some 4, none, .mov (.t 94)⟩])
      .ret) .skip))
     (.seq (.ops [⟨some 95, none, .mov (.t 8)⟩, ⟨some 96, none, .bin .add (.t 95) (.v (.int .i64 1))⟩, ⟨some 8, none, .mov (.t 96)⟩])
     (.seq (.ops [⟨some 97, none, .mov (.t 10)⟩, ⟨some 98, none, .bin .add (.t 97) (.v (.int .i64 1))⟩, ⟨some 10, none, .mov (.t 98)⟩])
     (.seq (.ops [⟨some 99, none, .mov (.t 5)⟩, ⟨some 100, none, .ld (.v (.pointer (some ⟨0, 0, none⟩)))⟩, ⟨some 101, none, .bin .leq (.t 99) (.t 100)⟩, ⟨some 102, none, .mov (.t 101)⟩, ⟨some 103, (some (102, true)), .mov (.t 10)⟩, ⟨some 104, (some (102, true)), .mov (.t 8)⟩, ⟨some 105, (some (102, true)), .call 146 [(.t 104)]⟩, ⟨some 106, (some (102, true)), .bin .gtr (.t 103) (.t 105)⟩, ⟨some 107, none, .pick (.t 102) (.t 106) (.v (.bool false))⟩])
     (.cond (.t 107) (.seq (.ops [⟨some 108, none, .mov (.t 0)⟩, ⟨some 109, none, .mov (.t 8)⟩, ⟨some 110, none, .slStr (.t 108) (some (.t 109)) none⟩, ⟨some 111, none, .mov (.t 1)⟩, ⟨some 112, none, .more (.other (.xf 145 [(.t 110), (.t 111)]))⟩, ⟨some 12, none, .mov (.t 112)⟩])
      (.seq (.seq (.ops [⟨some 113, none, .mov (.t 12)⟩, ⟨some 114, none, .bin .geq (.t 113) (.v (.int .i64 0))⟩])
      (.cond (.t 114) (.seq (.ops [⟨some 115, none, .mov (.t 12)⟩, ⟨some 116, none, .mov (.t 8)⟩, ⟨some 117, none, .bin .add (.t 115) (.t 116)⟩, ⟨some 4, none, .mov (.t 117)⟩])
       .ret) .skip))
      (.seq (.ops [⟨some 4, none, .mov (.v (.int .i64 (-1)))⟩])
      .ret))) (.seq (.ops [⟨some 118, none, .mov (.t 5)⟩, ⟨some 119, none, .ld (.v (.pointer (some ⟨0, 0, none⟩)))⟩, ⟨some 120, none, .bin .gtr (.t 118) (.t 119)⟩, ⟨some 121, none, .mov (.t 120)⟩, ⟨some 122, (some (121, true)), .mov (.t 10)⟩, ⟨some 123, (some (121, true)), .mov (.t 8)⟩, ⟨some 124, (some (121, true)), .bin .shr (.t 123) (.v (.int .u64 4))⟩, ⟨some 125, (some (121, true)), .bin .add (.v (.int .i64 4)) (.t 124)⟩, ⟨some 126, (some (121, true)), .bin .geq (.t 122) (.t 125)⟩, ⟨some 127, none, .pick (.t 121) (.t 126) (.v (.bool false))⟩, ⟨some 128, none, .mov (.t 127)⟩, ⟨some 129, (some (128, true)), .mov (.t 8)⟩, ⟨some 130, (some (128, true)), .mov (.t 9)⟩, ⟨some 131, (some (128, true)), .bin .lss (.t 129) (.t 130)⟩, ⟨some 132, none, .pick (.t 128) (.t 131) (.v (.bool false))⟩])
      (.cond (.t 132) (.seq (.ops [⟨some 133, none, .mov (.t 0)⟩, ⟨some 134, none, .mov (.t 8)⟩, ⟨some 135, none, .slStr (.t 133) (some (.t 134)) none⟩, ⟨some 136, none, .mov (.t 1)⟩, ⟨some 137, none, .call 147 [(.t 135), (.t 136)]⟩, ⟨some 13, none, .mov (.t 137)⟩])
       (.seq (.seq (.ops [⟨some 138, none, .mov (.t 13)⟩, ⟨some 139, none, .bin .lss (.t 138) (.v (.int .i64 0))⟩])
       (.cond (.t 139) (.seq (.ops [⟨some 4, none, .mov (.v (.int .i64 (-1)))⟩])
        .ret) .skip))
       (.seq (.ops [⟨some 140, none, .mov (.t 8)⟩, ⟨some 141, none, .mov (.t 13)⟩, ⟨some 142, none, .bin .add (.t 140) (.t 141)⟩, ⟨some 4, none, .mov (.t 142)⟩])
       .ret))) .skip))))))))))))
  (.seq (.ops [⟨some 4, none, .mov (.v (.int .i64 (-1)))⟩])
  .ret)))))))))), 143, [.tmp 4]⟩
theorem Tryd.ek122 : KnownE Tryd.prog 122 Tryd.ec122 := ⟨Tryd.f122, _, Tryd.func122, rfl, by kernel_rfl, rfl, by kernel_rfl, by kernel_rfl⟩
/-- unicode/utf8.RuneCountInString -/
def Tryd.ec135 : EFn := ⟨(.seq (.ops [⟨some 2, none, .mov (.v (.int .i64 0))⟩])
  (.seq (.seq (.ops [⟨some 3, none, .mov (.t 0)⟩, ⟨some 4, none, .more (.rngS (.t 3))⟩])
  (.block 0 (.loop [2, 4] (.seq (.ops [⟨some 5, none, .more (.nxtS (.t 4))⟩, ⟨some 6, none, .ext 0 (.t 5)⟩])
    (.seq (.cond (.t 6) .skip (.exit 0))
    (.block 1 (.ops [⟨some 7, none, .mov (.t 2)⟩, ⟨some 8, none, .bin .add (.t 7) (.v (.int .i64 1))⟩, ⟨some 2, none, .mov (.t 8)⟩])))))))
  (.seq (.ops [⟨some 9, none, .mov (.t 2)⟩, ⟨some 2, none, .mov (.t 9)⟩])
  .ret))), 10, [.tmp 2]⟩
theorem Tryd.ek135 : KnownE Tryd.prog 135 Tryd.ec135 := ⟨Tryd.f135, _, Tryd.func135, rfl, by kernel_rfl, rfl, by kernel_rfl, by kernel_rfl⟩
/-- unicode/utf8.DecodeRuneInString -/
def Tryd.ec136 : EFn := ⟨(.seq (.ops [⟨some 2, none, .mov (.v (.int .i32 0))⟩, ⟨some 3, none, .mov (.v (.int .i64 0))⟩])
  (.seq (.seq (.ops [⟨some 4, none, .mov (.t 0)⟩, ⟨some 5, none, .bin .neq (.t 4) (.v (.string ⟨#[]⟩))⟩, ⟨some 6, none, .mov (.t 5)⟩, ⟨some 7, (some (6, true)), .mov (.t 0)⟩, ⟨some 8, (some (6, true)), .ixStr (.t 7) (.v (.int .i64 0))⟩, ⟨some 9, (some (6, true)), .bin .lss (.t 8) (.v (.int .u8 128))⟩, ⟨some 10, none, .pick (.t 6) (.t 9) (.v (.bool false))⟩])
  (.cond (.t 10) (.seq (.ops [⟨some 11, none, .mov (.t 0)⟩, ⟨some 12, none, .ixStr (.t 11) (.v (.int .i64 0))⟩, ⟨some 13, none, .cvt .i32 (.t 12)⟩, ⟨some 2, none, .mov (.t 13)⟩, ⟨some 3, none, .mov (.v (.int .i64 1))⟩])
   .ret) (.ops [⟨some 15, none, .mov (.t 0)⟩, ⟨some 16, none, .call 154 [(.t 15)]⟩, ⟨some 14, none, .mov (.t 16)⟩, ⟨some 17, none, .ext 0 (.t 14)⟩, ⟨some 18, none, .ext 1 (.t 14)⟩, ⟨some 2, none, .mov (.t 17)⟩, ⟨some 3, none, .mov (.t 18)⟩])))
  .ret)), 19, [.tmp 2, .tmp 3]⟩
theorem Tryd.ek136 : KnownE Tryd.prog 136 Tryd.ec136 := ⟨Tryd.f136, _, Tryd.func136, rfl, by kernel_rfl, rfl, by kernel_rfl, by kernel_rfl⟩
/-- internal/stringslite.IndexByte -/
def Tryd.ec144 : EFn := ⟨(.seq (.ops [⟨some 4, none, .mov (.v (.int .i64 0))⟩])
  (.seq (.ops [⟨some 5, none, .mov (.t 0)⟩, ⟨some 6, none, .mov (.t 1)⟩, ⟨some 7, none, .more (.xc 0 [(.t 5), (.t 6)])⟩, ⟨some 4, none, .mov (.t 7)⟩])
  .ret)), 8, [.tmp 4]⟩
theorem Tryd.ek144 : KnownE Tryd.prog 144 Tryd.ec144 := ⟨Tryd.f144, _, Tryd.func144, rfl, by kernel_rfl, rfl, by kernel_rfl, by kernel_rfl⟩
/-- internal/bytealg.Cutover -/
def Tryd.ec146 : EFn := ⟨(.seq (.ops [⟨some 2, none, .mov (.v (.int .i64 0))⟩])
  (.seq (.ops [⟨some 3, none, .mov (.t 0)⟩, ⟨some 4, none, .bin .add (.t 3) (.v (.int .i64 16))⟩, ⟨some 5, none, .bin .quo (.t 4) (.v (.int .i64 8))⟩, ⟨some 2, none, .mov (.t 5)⟩])
  .ret)), 6, [.tmp 2]⟩
theorem Tryd.ek146 : KnownE Tryd.prog 146 Tryd.ec146 := ⟨Tryd.f146, _, Tryd.func146, rfl, by kernel_rfl, rfl, by kernel_rfl, by kernel_rfl⟩
/-- internal/bytealg.IndexRabinKarp[string] -/
def Tryd.ec147 : EFn := ⟨(.seq (.ops [⟨some 4, none, .mov (.v (.int .i64 0))⟩])
  (.seq (.ops [⟨some 12, none, .mov (.t 1)⟩, ⟨some 13, none, .call 157 [(.t 12)]⟩, ⟨some 11, none, .mov (.t 13)⟩, ⟨some 14, none, .ext 0 (.t 11)⟩, ⟨some 15, none, .ext 1 (.t 11)⟩, ⟨some 5, none, .mov (.t 14)⟩, ⟨some 6, none, .mov (.t 15)⟩])
  (.seq (.ops [⟨some 16, none, .mov (.t 1)⟩, ⟨some 17, none, .lenStr (.t 16)⟩, ⟨some 7, none, .mov (.t 17)⟩])
  (.seq (.ops [⟨some 8, none, .mov (.v (.int .u32 0))⟩])
  (.seq (.seq (.ops [⟨some 9, none, .mov (.v (.int .i64 0))⟩])
  (.block 0 (.loop [0, 1, 5, 6, 7, 8, 9] (.seq (.seq (.ops [⟨some 18, none, .mov (.t 9)⟩, ⟨some 19, none, .mov (.t 7)⟩, ⟨some 20, none, .bin .lss (.t 18) (.t 19)⟩])
    (.cond (.t 20) .skip (.exit 0)))
    (.seq (.block 1 (.ops [⟨some 23, none, .mov (.t 8)⟩, ⟨some 24, none, .bin .mul (.t 23) (.v (.int .u32 16777619))⟩, ⟨some 25, none, .mov (.t 0)⟩, ⟨some 26, none, .mov (.t 9)⟩, ⟨some 27, none, .ixStr (.t 25) (.t 26)⟩, ⟨some 28, none, .cvt .u32 (.t 27)⟩, ⟨some 29, none, .bin .add (.t 24) (.t 28)⟩, ⟨some 8, none, .mov (.t 29)⟩]))
    (.ops [⟨some 21, none, .mov (.t 9)⟩, ⟨some 22, none, .bin .add (.t 21) (.v (.int .i64 1))⟩, ⟨some 9, none, .mov (.t 22)⟩]))))))
  (.seq (.seq (.ops [⟨some 30, none, .mov (.t 8)⟩, ⟨some 31, none, .mov (.t 5)⟩, ⟨some 32, none, .bin .eql (.t 30) (.t 31)⟩, ⟨some 33, none, .mov (.t 32)⟩, ⟨some 34, (some (33, true)), .mov (.t 0)⟩, ⟨some 35, (some (33, true)), .mov (.t 7)⟩, ⟨some 36, (some (33, true)), .slStr (.t 34) none (some (.t 35))⟩, ⟨some 37, (some (33, true)), .mov (.t 1)⟩, ⟨some 38, (some (33, true)), .bin .eql (.t 36) (.t 37)⟩, ⟨some 39, none, .pick (.t 33) (.t 38) (.v (.bool false))⟩])
  (.cond (.t 39) (.seq (.ops [⟨some 4, none, .mov (.v (.int .i64 0))⟩])
   .ret) .skip))
  (.seq (.seq (.ops [⟨some 40, none, .mov (.t 7)⟩, ⟨some 10, none, .mov (.t 40)⟩])
  (.block 2 (.loop [0, 1, 5, 6, 7, 8, 10] (.seq (.seq (.ops [⟨some 41, none, .mov (.t 10)⟩, ⟨some 42, none, .mov (.t 0)⟩, ⟨some 43, none, .lenStr (.t 42)⟩, ⟨some 44, none, .bin .lss (.t 41) (.t 43)⟩])
    (.cond (.t 44) .skip (.exit 2)))
    (.block 3 (.seq (.ops [⟨some 45, none, .mov (.t 8)⟩, ⟨some 46, none, .bin .mul (.t 45) (.v (.int .u32 16777619))⟩, ⟨some 8, none, .mov (.t 46)⟩])
     (.seq (.ops [⟨some 47, none, .mov (.t 8)⟩, ⟨some 48, none, .mov (.t 0)⟩, ⟨some 49, none, .mov (.t 10)⟩, ⟨some 50, none, .ixStr (.t 48) (.t 49)⟩, ⟨some 51, none, .cvt .u32 (.t 50)⟩, ⟨some 52, none, .bin .add (.t 47) (.t 51)⟩, ⟨some 8, none, .mov (.t 52)⟩])
     (.seq (.ops [⟨some 53, none, .mov (.t 8)⟩, ⟨some 54, none, .mov (.t 6)⟩, ⟨some 55, none, .mov (.t 0)⟩, ⟨some 56, none, .mov (.t 10)⟩, ⟨some 57, none, .mov (.t 7)⟩, ⟨some 58, none, .bin .sub (.t 56) (.t 57)⟩, ⟨some 59, none, .ixStr (.t 55) (.t 58)⟩, ⟨some 60, none, .cvt .u32 (.t 59)⟩, ⟨some 61, none, .bin .mul (.t 54) (.t 60)⟩, ⟨some 62, none, .bin .sub (.t 53) (.t 61)⟩, ⟨some 8, none, .mov (.t 62)⟩])
     (.seq (.ops [⟨some 63, none, .mov (.t 10)⟩, ⟨some 64, none, .bin .add (.t 63) (.v (.int .i64 1))⟩, ⟨some 10, none, .mov (.t 64)⟩])
     (.seq (.ops [⟨some 65, none, .mov (.t 8)⟩, ⟨some 66, none, .mov (.t 5)⟩, ⟨some 67, none, .bin .eql (.t 65) (.t 66)⟩, ⟨some 68, none, .mov (.t 67)⟩, ⟨some 69, (some (68, true)), .mov (.t 0)⟩, ⟨some 70, (some (68, true)), .mov (.t 10)⟩, ⟨some 71, (some (68, true)), .mov (.t 7)⟩, ⟨some 72, (some (68, true)), .bin .sub (.t 70) (.t 71)⟩, ⟨some 73, (some (68, true)), .mov (.t 10)⟩, ⟨some 74, (some (68, true)), .slStr (.t 69) (some (.t 72)) (some (.t 73))⟩, ⟨some 75, (some (68, true)), .mov (.t 1)⟩, ⟨some 76, (some (68, true)), .bin .eql (.t 74) (.t 75)⟩, ⟨some 77, none, .pick (.t 68) (.t 76) (.v (.bool false))⟩])
     (.cond (.t 77) (.seq (.ops [⟨some 78, none, .mov (.t 10)⟩, ⟨some 79, none, .mov (.t 7)⟩, ⟨some 80, none, .bin .sub (.t 78) (.t 79)⟩, ⟨some 4, none, .mov (.t 80)⟩])
      .ret) .skip)))))))))))
  (.seq (.ops [⟨some 4, none, .mov (.v (.int .i64 (-1)))⟩])
  .ret)))))))), 81, [.tmp 4]⟩
theorem Tryd.ek147 : KnownE Tryd.prog 147 Tryd.ec147 := ⟨Tryd.f147, _, Tryd.func147, rfl, by kernel_rfl, rfl, by kernel_rfl, by kernel_rfl⟩
/-- unicode/utf8.decodeRuneInStringSlow -/
def Tryd.ec154 : EFn := ⟨(.seq (.ops [⟨some 2, none, .mov (.v (.int .i32 0))⟩, ⟨some 3, none, .mov (.v (.int .i64 0))⟩])
  (.seq (.ops [⟨some 13, none, .mov (.t 0)⟩, ⟨some 14, none, .lenStr (.t 13)⟩, ⟨some 4, none, .mov (.t 14)⟩])
  (.seq (.seq (.ops [⟨some 15, none, .mov (.t 4)⟩, ⟨some 16, none, .bin .lss (.t 15) (.v (.int .i64 1))⟩])
  (.cond (.t 16) (.seq (.ops [⟨some 2, none, .mov (.v (.int .i32 65533))⟩, ⟨some 3, none, .mov (.v (.int .i64 0))⟩])
   .ret) .skip))
  (.seq (.ops [⟨some 17, none, .mov (.t 0)⟩, ⟨some 18, none, .ixStr (.t 17) (.v (.int .i64 0))⟩, ⟨some 5, none, .mov (.t 18)⟩])
  (.seq (.ops [⟨some 19, none, .mov (.t 5)⟩, ⟨some 20, none, .ixA 256 1 (.v (.pointer (some ⟨4, 0, none⟩))) (.t 19)⟩, ⟨some 21, none, .ld (.t 20)⟩, ⟨some 6, none, .mov (.t 21)⟩])
  (.seq (.seq (.ops [⟨some 22, none, .mov (.t 6)⟩, ⟨some 23, none, .bin .geq (.t 22) (.v (.int .u8 240))⟩])
  (.cond (.t 23) (.seq (.ops [⟨some 24, none, .mov (.t 6)⟩, ⟨some 25, none, .cvt .i32 (.t 24)⟩, ⟨some 26, none, .bin .shl (.t 25) (.v (.int .u64 31))⟩, ⟨some 27, none, .bin .shr (.t 26) (.v (.int .u64 31))⟩, ⟨some 7, none, .mov (.t 27)⟩])
   (.seq (.ops [⟨some 28, none, .mov (.t 0)⟩, ⟨some 29, none, .ixStr (.t 28) (.v (.int .i64 0))⟩, ⟨some 30, none, .cvt .i32 (.t 29)⟩, ⟨some 31, none, .mov (.t 7)⟩, ⟨some 32, none, .bin .andNot (.t 30) (.t 31)⟩, ⟨some 33, none, .mov (.t 7)⟩, ⟨some 34, none, .bin .and (.v (.int .i32 65533)) (.t 33)⟩, ⟨some 35, none, .bin .or (.t 32) (.t 34)⟩, ⟨some 2, none, .mov (.t 35)⟩, ⟨some 3, none, .mov (.v (.int .i64 1))⟩])
   .ret)) .skip))
  (.seq (.ops [⟨some 36, none, .mov (.t 6)⟩, ⟨some 37, none, .bin .and (.t 36) (.v (.int .u8 7))⟩, ⟨some 38, none, .cvt .i64 (.t 37)⟩, ⟨some 8, none, .mov (.t 38)⟩])
  (.seq (.ops [⟨some 39, none, .mov (.t 6)⟩, ⟨some 40, none, .bin .shr (.t 39) (.v (.int .u64 4))⟩, ⟨some 41, none, .ixA 16 2 (.v (.pointer (some ⟨5, 0, none⟩))) (.t 40)⟩, ⟨some 42, none, .ldA 2 (.t 41)⟩, ⟨some 9, none, .al 161 [.int .u8 0, .int .u8 0]⟩, ⟨none, none, .st 2 (.t 9) (.t 42)⟩])
  (.seq (.seq (.ops [⟨some 43, none, .mov (.t 4)⟩, ⟨some 44, none, .mov (.t 8)⟩, ⟨some 45, none, .bin .lss (.t 43) (.t 44)⟩])
  (.cond (.t 45) (.seq (.ops [⟨some 2, none, .mov (.v (.int .i32 65533))⟩, ⟨some 3, none, .mov (.v (.int .i64 1))⟩])
   .ret) .skip))
  (.seq (.ops [⟨some 46, none, .mov (.t 0)⟩, ⟨some 47, none, .ixStr (.t 46) (.v (.int .i64 1))⟩, ⟨some 10, none, .mov (.t 47)⟩])
  (.seq (.seq (.ops [⟨some 48, none, .mov (.t 10)⟩, ⟨some 49, none, .fa 0 (.t 9)⟩, ⟨some 50, none, .ld (.t 49)⟩, ⟨some 51, none, .bin .lss (.t 48) (.t 50)⟩, ⟨some 52, none, .mov (.t 51)⟩, ⟨some 53, (some (52, false)), .fa 1 (.t 9)⟩, ⟨some 54, (some (52, false)), .ld (.t 53)⟩, ⟨some 55, (some (52, false)), .mov (.t 10)⟩, ⟨some 56, (some (52, false)), .bin .lss (.t 54) (.t 55)⟩, ⟨some 57, none, .pick (.t 52) (.v (.bool true)) (.t 56)⟩])
  (.cond (.t 57) (.seq (.ops [⟨some 2, none, .mov (.v (.int .i32 65533))⟩, ⟨some 3, none, .mov (.v (.int .i64 1))⟩])
   .ret) .skip))
  (.seq (.seq (.ops [⟨some 58, none, .mov (.t 8)⟩, ⟨some 59, none, .bin .leq (.t 58) (.v (.int .i64 2))⟩])
  (.cond (.t 59) (.seq (.ops [⟨some 60, none, .mov (.t 5)⟩, ⟨some 61, none, .bin .and (.t 60) (.v (.int .u8 31))⟩, ⟨some 62, none, .cvt .i32 (.t 61)⟩, ⟨some 63, none, .bin .shl (.t 62) (.v (.int .u64 6))⟩, ⟨some 64, none, .mov (.t 10)⟩, ⟨some 65, none, .bin .and (.t 64) (.v (.int .u8 63))⟩, ⟨some 66, none, .cvt .i32 (.t 65)⟩, ⟨some 67, none, .bin .or (.t 63) (.t 66)⟩, ⟨some 2, none, .mov (.t 67)⟩, ⟨some 3, none, .mov (.v (.int .i64 2))⟩])
   .ret) .skip))
  (.seq (.ops [⟨some 68, none, .mov (.t 0)⟩, ⟨some 69, none, .ixStr (.t 68) (.v (.int .i64 2))⟩, ⟨some 11, none, .mov (.t 69)⟩])
  (.seq (.seq (.ops [⟨some 70, none, .mov (.t 11)⟩, ⟨some 71, none, .bin .lss (.t 70) (.v (.int .u8 128))⟩, ⟨some 72, none, .mov (.t 71)⟩, ⟨some 73, (some (72, false)), .mov (.t 11)⟩, ⟨some 74, (some (72, false)), .bin .lss (.v (.int .u8 191)) (.t 73)⟩, ⟨some 75, none, .pick (.t 72) (.v (.bool true)) (.t 74)⟩])
  (.cond (.t 75) (.seq (.ops [⟨some 2, none, .mov (.v (.int .i32 65533))⟩, ⟨some 3, none, .mov (.v (.int .i64 1))⟩])
   .ret) .skip))
  (.seq (.seq (.ops [⟨some 76, none, .mov (.t 8)⟩, ⟨some 77, none, .bin .leq (.t 76) (.v (.int .i64 3))⟩])
  (.cond (.t 77) (.seq (.ops [⟨some 78, none, .mov (.t 5)⟩, ⟨some 79, none, .bin .and (.t 78) (.v (.int .u8 15))⟩, ⟨some 80, none, .cvt .i32 (.t 79)⟩, ⟨some 81, none, .bin .shl (.t 80) (.v (.int .u64 12))⟩, ⟨some 82, none, .mov (.t 10)⟩, ⟨some 83, none, .bin .and (.t 82) (.v (.int .u8 63))⟩, ⟨some 84, none, .cvt .i32 (.t 83)⟩, ⟨some 85, none, .bin .shl (.t 84) (.v (.int .u64 6))⟩, ⟨some 86, none, .bin .or (.t 81) (.t 85)⟩, ⟨some 87, none, .mov (.t 11)⟩, ⟨some 88, none, .bin .and (.t 87) (.v (.int .u8 63))⟩, ⟨some 89, none, .cvt .i32 (.t 88)⟩, ⟨some 90, none, .bin .or (.t 86) (.t 89)⟩, ⟨some 2, none, .mov (.t 90)⟩, ⟨some 3, none, .mov (.v (.int .i64 3))⟩])
   .ret) .skip))
  (.seq (.ops [⟨some 91, none, .mov (.t 0)⟩, ⟨some 92, none, .ixStr (.t 91) (.v (.int .i64 3))⟩, ⟨some 12, none, .mov (.t 92)⟩])
  (.seq (.seq (.ops [⟨some 93, none, .mov (.t 12)⟩, ⟨some 94, none, .bin .lss (.t 93) (.v (.int .u8 128))⟩, ⟨some 95, none, .mov (.t 94)⟩, ⟨some 96, (some (95, false)), .mov (.t 12)⟩, ⟨some 97, (some (95, false)), .bin .lss (.v (.int .u8 191)) (.t 96)⟩, ⟨some 98, none, .pick (.t 95) (.v (.bool true)) (.t 97)⟩])
  (.cond (.t 98) (.seq (.ops [⟨some 2, none, .mov (.v (.int .i32 65533))⟩, ⟨some 3, none, .mov (.v (.int .i64 1))⟩])
   .ret) .skip))
  (.seq (.ops [⟨some 99, none, .mov (.t 5)⟩, ⟨some 100, none, .bin .and (.t 99) (.v (.int .u8 7))⟩, ⟨some 101, none, .cvt .i32 (.t 100)⟩, ⟨some 102, none, .bin .shl (.t 101) (.v (.int .u64 18))⟩, ⟨some 103, none, .mov (.t 10)⟩, ⟨some 104, none, .bin .and (.t 103) (.v (.int .u8 63))⟩, ⟨some 105, none, .cvt .i32 (.t 104)⟩, ⟨some 106, none, .bin .shl (.t 105) (.v (.int .u64 12))⟩, ⟨some 107, none, .bin .or (.t 102) (.t 106)⟩, ⟨some 108, none, .mov (.t 11)⟩, ⟨some 109, none, .bin .and (.t 108) (.v (.int .u8 63))⟩, ⟨some 110, none, .cvt .i32 (.t 109)⟩, ⟨some 111, none, .bin .shl (.t 110) (.v (.int .u64 6))⟩, ⟨some 112, none, .bin .or (.t 107) (.t 111)⟩, ⟨some 113, none, .mov (.t 12)⟩, ⟨some 114, none, .bin .and (.t 113) (.v (.int .u8 63))⟩, ⟨some 115, none, .cvt .i32 (.t 114)⟩, ⟨some 116, none, .bin .or (.t 112) (.t 115)⟩, ⟨some 2, none, .mov (.t 116)⟩, ⟨some 3, none, .mov (.v (.int .i64 4))⟩])
  .ret)))))))))))))))))), 117, [.tmp 2, .tmp 3]⟩
theorem Tryd.ek154 : KnownE Tryd.prog 154 Tryd.ec154 := ⟨Tryd.f154, _, Tryd.func154, rfl, by kernel_rfl, rfl, by kernel_rfl, by kernel_rfl⟩
/-- internal/bytealg.hashStr[string] -/
def Tryd.ec157 : EFn := ⟨(.seq (.ops [⟨some 2, none, .mov (.v (.int .u32 0))⟩, ⟨some 3, none, .mov (.v (.int .u32 0))⟩])
  (.seq (.ops [⟨some 4, none, .mov (.v (.int .u32 0))⟩])
  (.seq (.seq (.ops [⟨some 5, none, .mov (.v (.int .i64 0))⟩])
  (.block 0 (.loop [0, 4, 5] (.seq (.seq (.ops [⟨some 9, none, .mov (.t 5)⟩, ⟨some 10, none, .mov (.t 0)⟩, ⟨some 11, none, .lenStr (.t 10)⟩, ⟨some 12, none, .bin .lss (.t 9) (.t 11)⟩])
    (.cond (.t 12) .skip (.exit 0)))
    (.seq (.block 1 (.ops [⟨some 15, none, .mov (.t 4)⟩, ⟨some 16, none, .bin .mul (.t 15) (.v (.int .u32 16777619))⟩, ⟨some 17, none, .mov (.t 0)⟩, ⟨some 18, none, .mov (.t 5)⟩, ⟨some 19, none, .ixStr (.t 17) (.t 18)⟩, ⟨some 20, none, .cvt .u32 (.t 19)⟩, ⟨some 21, none, .bin .add (.t 16) (.t 20)⟩, ⟨some 4, none, .mov (.t 21)⟩]))
    (.ops [⟨some 13, none, .mov (.t 5)⟩, ⟨some 14, none, .bin .add (.t 13) (.v (.int .i64 1))⟩, ⟨some 5, none, .mov (.t 14)⟩]))))))
  (.seq (.ops [⟨some 6, none, .mov (.v (.int .u32 1))⟩, ⟨some 7, none, .mov (.v (.int .u32 16777619))⟩])
  (.seq (.seq (.ops [⟨some 22, none, .mov (.t 0)⟩, ⟨some 23, none, .lenStr (.t 22)⟩, ⟨some 8, none, .mov (.t 23)⟩])
  (.block 2 (.loop [4, 6, 7, 8] (.seq (.seq (.ops [⟨some 24, none, .mov (.t 8)⟩, ⟨some 25, none, .bin .gtr (.t 24) (.v (.int .i64 0))⟩])
    (.cond (.t 25) .skip (.exit 2)))
    (.seq (.block 3 (.seq (.seq (.ops [⟨some 28, none, .mov (.t 8)⟩, ⟨some 29, none, .bin .and (.t 28) (.v (.int .i64 1))⟩, ⟨some 30, none, .bin .neq (.t 29) (.v (.int .i64 0))⟩])
     (.cond (.t 30) (.ops [⟨some 31, none, .mov (.t 6)⟩, ⟨some 32, none, .mov (.t 7)⟩, ⟨some 33, none, .bin .mul (.t 31) (.t 32)⟩, ⟨some 6, none, .mov (.t 33)⟩]) .skip))
     (.ops [⟨some 34, none, .mov (.t 7)⟩, ⟨some 35, none, .mov (.t 7)⟩, ⟨some 36, none, .bin .mul (.t 34) (.t 35)⟩, ⟨some 7, none, .mov (.t 36)⟩])))
    (.ops [⟨some 26, none, .mov (.t 8)⟩, ⟨some 27, none, .bin .shr (.t 26) (.v (.int .u64 1))⟩, ⟨some 8, none, .mov (.t 27)⟩]))))))
  (.seq (.ops [⟨some 37, none, .mov (.t 4)⟩, ⟨some 38, none, .mov (.t 6)⟩, ⟨some 2, none, .mov (.t 37)⟩, ⟨some 3, none, .mov (.t 38)⟩])
  .ret)))))), 39, [.tmp 2, .tmp 3]⟩
theorem Tryd.ek157 : KnownE Tryd.prog 157 Tryd.ec157 := ⟨Tryd.f157, _, Tryd.func157, rfl, by kernel_rfl, rfl, by kernel_rfl, by kernel_rfl⟩
def Tryd.etab : List (FuncId × EFn) := [(18, Tryd.ec18), (29, Tryd.ec29), (31, Tryd.ec31), (36, Tryd.ec36), (41, Tryd.ec41), (47, Tryd.ec47), (49, Tryd.ec49), (63, Tryd.ec63), (64, Tryd.ec64), (66, Tryd.ec66), (68, Tryd.ec68), (69, Tryd.ec69), (70, Tryd.ec70), (77, Tryd.ec77), (88, Tryd.ec88), (89, Tryd.ec89), (90, Tryd.ec90), (91, Tryd.ec91), (93, Tryd.ec93), (105, Tryd.ec105), (106, Tryd.ec106), (107, Tryd.ec107), (108, Tryd.ec108), (109, Tryd.ec109), (122, Tryd.ec122), (135, Tryd.ec135), (136, Tryd.ec136), (144, Tryd.ec144), (146, Tryd.ec146), (147, Tryd.ec147), (154, Tryd.ec154), (157, Tryd.ec157)]
theorem Tryd.etab_ok : AllK Tryd.prog Tryd.etab := ⟨Tryd.ek18, Tryd.ek29, Tryd.ek31, Tryd.ek36, Tryd.ek41, Tryd.ek47, Tryd.ek49, Tryd.ek63, Tryd.ek64, Tryd.ek66, Tryd.ek68, Tryd.ek69, Tryd.ek70, Tryd.ek77, Tryd.ek88, Tryd.ek89, Tryd.ek90, Tryd.ek91, Tryd.ek93, Tryd.ek105, Tryd.ek106, Tryd.ek107, Tryd.ek108, Tryd.ek109, Tryd.ek122, Tryd.ek135, Tryd.ek136, Tryd.ek144, Tryd.ek146, Tryd.ek147, Tryd.ek154, Tryd.ek157, trivial⟩
end Go.Proofs

set_option maxRecDepth 100000
namespace Go.Proofs
open Go.SL
theorem Tryd.mixedR : Tryd.prog.follows .mixedOrders = true := by kernel_rfl
theorem rawake_fc {w0 : World} {S : SS} : FC Tryd.prog w0 41 [] S (fun v S' => v = .bool true ∧ S' = S) :=
  ev_true (fuel := 5000) (d := 60) Tryd.mixedR Tryd.etab_ok rfl (by decide +kernel)
end Go.Proofs

set_option linter.unusedVariables false
set_option linter.unusedSimpArgs false
namespace Go.Proofs.Lb
open Go.SL Go.RowKit Go.Proofs
set_option maxHeartbeats 1000000
end Go.Proofs.Lb

set_option linter.unusedVariables false
set_option linter.unusedSimpArgs false
namespace Go.Proofs.Rl
open Go.SL Go.RowKit Go.Proofs Go.Proofs.Lb
set_option maxHeartbeats 1000000
theorem over_refl (a : ByteArray) : overP a a = true := by unfold overP; simp
theorem over_cases {a b : ByteArray} (h : overP a b = true) : a = b ∨ underP a b = true := by
  unfold overP at h; simpa using h
theorem over_of_under {a b : ByteArray} (h : underP a b = true) : overP a b = true := by unfold overP; simp [h]
theorem under_empty {a : ByteArray} (h : isP a = true) : underP ⟨#[]⟩ a = true := (under_iff _ _).2 ⟨h, by unfold prefP; rw [if_pos rfl], .inl rfl⟩
theorem over_tot {a p s : ByteArray} (h : overP p s = true) (k : overP a s = true) (hp : p = ⟨#[]⟩ ∨ isP p = true) : overP p a = true ∨ overP a p = true := by
  rcases over_cases h with rfl | h
  · exact .inr k
  · rcases over_cases k with rfl | k
    · exact .inl (over_of_under h)
    · by_cases p0 : p = ⟨#[]⟩
      · by_cases a0 : a = ⟨#[]⟩
        · rw [p0, a0]; exact .inl (over_refl _)
        · rw [p0]; exact .inl (over_of_under (under_empty (pref_is ((under_iff _ _).1 k).2.1 a0)))
      · have hp' := hp.resolve_left p0
        by_cases a0 : a = ⟨#[]⟩
        · rw [a0]; exact .inr (over_of_under (under_empty hp'))
        · rcases under_tot h k p0 a0 with h | h
          · exact .inl (over_of_under h)
          · exact .inr (over_of_under h)
theorem ba_len (a : ByteArray) : a.data.toList.length = a.size := by simp
theorem over_lt {p a : ByteArray} (h : overP p a = true) (hn : p ≠ a) : p.size < a.size := by
  rcases over_cases h with rfl | h
  · exact absurd rfl hn
  · obtain ⟨h1, _, h2⟩ := (under_iff _ _).1 h
    rcases h2 with rfl | rfl | h2
    · rcases Nat.eq_zero_or_pos a.size with e | e
      · exact absurd (ba_ext (by rw [show a.data.toList = [] from List.eq_nil_of_length_eq_zero (by rw [ba_len]; exact e)])) (isP_ne h1)
      · exact e
    · exact absurd rfl hn
    · have := h2.length_le
      rw [List.length_append, ba_len, ba_len] at this
      have e : p.size + 1 ≤ a.size := by simpa using this
      omega
theorem find_spec (s : ByteArray) : ∀ (l : List RuleB) (o : Int × LabB), -1 ≤ o.1 →
    let f := l.foldl (fun o r => if o.1 < (r.1.size : Int) ∧ overP r.1 s = true then ((r.1.size : Int), r.2) else o) o
    (f = o ∨ ∃ r ∈ l, overP r.1 s = true ∧ f = ((r.1.size : Int), r.2)) ∧ o.1 ≤ f.1 ∧ ∀ r ∈ l, overP r.1 s = true → (r.1.size : Int) ≤ f.1
  | [], o, h => ⟨.inl rfl, Int.le_refl _, by simp⟩
  | r :: l, o, h => by
    simp only [List.foldl_cons]
    split
    · rename_i hc
      obtain ⟨h1, h2, h3⟩ := find_spec s l ((r.1.size : Int), r.2) (by show (-1 : Int) ≤ (r.1.size : Int); omega)
      have h2' : (r.1.size : Int) ≤ _ := h2
      refine ⟨.inr ?_, by omega, fun x hx hx2 => ?_⟩
      · rcases h1 with h1 | ⟨x, hx, h4, h5⟩
        · exact ⟨r, by simp, hc.2, h1⟩
        · exact ⟨x, by simp [hx], h4, h5⟩
      · rcases List.mem_cons.1 hx with rfl | hx
        · exact h2'
        · exact h3 x hx hx2
    · rename_i hc
      obtain ⟨h1, h2, h3⟩ := find_spec s l o h
      refine ⟨?_, h2, fun x hx hx2 => ?_⟩
      · rcases h1 with h1 | ⟨x, hx, h4, h5⟩
        · exact .inl h1
        · exact .inr ⟨x, by simp [hx], h4, h5⟩
      · rcases List.mem_cons.1 hx with rfl | hx
        · have : ¬ o.1 < (x.1.size : Int) := fun e => hc ⟨e, hx2⟩
          omega
        · exact h3 x hx hx2
end Go.Proofs.Rl
