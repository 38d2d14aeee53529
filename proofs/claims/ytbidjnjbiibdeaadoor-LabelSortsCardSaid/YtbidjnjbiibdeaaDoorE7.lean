/- Operations on memory: what the evaluator tells is so. -/
import Derived.Test.YtbidjnjbiibdeaaDoorE6
set_option linter.unusedVariables false
set_option linter.unusedSimpArgs false
namespace Go.SL
open Go.RowKit
section
variable {P : Program} {w0 : World} {n : Nat} {T Tc : TT} {S : SS} {ρ : Rho} {H : EH} {L : LL} {r : Value × EH}
theorem capFit_own {cap sz : Nat} (hs : 0 < sz) (hc : cap ≤ maxLen) : capFit (cap * sz) (4 * sz) ∧ capOf (cap * sz) 0 (4 * sz) = cap := by
  have h1 : 4 * sz % 4 = 0 := Nat.mul_mod_right 4 sz
  have h2 : 4 * sz / 4 = sz := Nat.mul_div_cancel_left sz (by omega)
  have h3 : cap * sz / sz = cap := Nat.mul_div_cancel cap hs
  refine ⟨⟨by omega, fun _ => .inr ⟨by omega, by rw [h2, h3], by rw [h2, h3]; exact hc⟩⟩, ?_⟩
  unfold capOf
  rw [h1]
  simp only [h2, Nat.sub_zero, h3]
theorem bif_some {α : Type} {b : Bool} {x : Option α} {y : α} (h : (bif b then x else none) = some y) : b = true ∧ x = some y := by
  cases b with
  | true => exact ⟨rfl, h⟩
  | false => cases h
theorem slv_new {E sz m : Nat} {v : Value} {xs : List Value} {seg : Seg} (h : SlV E sz v m xs seg) (hm : 0 < m) : ∃ r cap, v = .slice (some ⟨r, 0, none⟩) m cap ∧ seg = [(r, .cells xs E (cap * sz))] ∧ m ≤ cap ∧ cap ≤ maxLen := by
  rcases h.2 with ⟨_, h0, _⟩ | ⟨r, cap, h1, h2, h3, h4⟩
  · omega
  · exact ⟨r, cap, h1, h2, h3, h4⟩
theorem ownS_VR {nx r cap sz m : Nat} (hn : ρ.length = nx) (hs : 0 < sz) (h3 : m ≤ cap) (h4 : cap ≤ maxLen) : VR (ρ ++ [(r, cap * sz)]) (.slice (some ⟨ownB + nx, 0, none⟩) m (4 * sz)) (.slice (some ⟨r, 0, none⟩) m cap) := by
  obtain ⟨h5, h6⟩ := capFit_own hs h4
  have := VR.slice (ρ := ρ ++ [(r, cap * sz)]) (i := nx) (o := 0) (b := r) (t := cap * sz) (l := m) (e := 4 * sz) (by rw [← hn]; simp) h5 (by rw [h6]; exact h3)
  rwa [h6] at this
theorem grow_spec {po : PO} {E sz q : Nat} {s u : Value} {news news' : List Value} (hH : HR w0 ρ H L) (hv : VR ρ s u) (h : H.grow E sz s q news = some r) (hsz : 0 < sz) (hq : 0 < q) (hn : VRL ρ news news')
    (rule : ∀ (S0 : SS) (m k : Nat) (xs : List Value) (seg0 : Seg), OwnS S0 E sz u m xs k seg0 → evM.lenV s = m → (∀ p ∈ (cs L S).flatten, p ∈ S0.flatten) →
      OW P w0 n po Tc S0 (fun v' S' => ∃ seg', S' = S0.set k seg' ∧ SlV E sz v' (m + q) (xs ++ news') seg')) : Snd P w0 n S po Tc ρ L r := by
  unfold EH.grow at h
  split at h
  · obtain ⟨rfl, rfl, rfl⟩ := hv.slice_nil_inv
    cases hr : H.room with
    | false => rw [hr] at h; simp at h
    | true =>
      rw [hr] at h
      simp only [cond_true, Option.some.injEq] at h
      subst h
      have h0 := OW.nilseg (rule ([] :: cs L S) 0 0 [] [] ⟨SlV.nil E sz, .inl rfl⟩ rfl (fun p hp => by simpa using hp))
      refine Snd.new (F := fun r u o' t => ∃ cap, t = cap * sz ∧ u = .slice (some ⟨r, 0, none⟩) q cap ∧ o' = .cells news' E (cap * sz) ∧ q ≤ cap ∧ cap ≤ maxLen) (room_lt hr) hH (h0.mono ?_) ?_
      · rintro v' S' ⟨seg', rfl, hs⟩
        rw [Nat.zero_add, List.nil_append] at hs
        obtain ⟨r, cap, rfl, rfl, h3, h4⟩ := slv_new hs hq
        exact ⟨r, _, _, ⟨cap, rfl, rfl, rfl, h3, h4⟩, rfl⟩
      · rintro r u o' t ⟨cap, rfl, rfl, rfl, h3, h4⟩
        exact ⟨ownS_VR hH.nx.symm hsz h3 h4, news', hn.mono (List.prefix_append _ _), rfl⟩
  · rename_i a m e
    split at h
    · rename_i c E' ho
      obtain ⟨hc, h9⟩ := bif_some h
      clear h
      simp only [Bool.and_eq_true] at hc
      obtain ⟨⟨⟨⟨hroom, hE⟩, hoff⟩, hle⟩, he⟩ := hc
      obtain rfl := Nat.eq_of_beq_eq_true hE
      have hoff := Nat.eq_of_beq_eq_true hoff
      have hle := Nat.le_of_ble_eq_true hle
      obtain ⟨i, hi1, hi2, hi3⟩ := EH.obj_spec ho
      rw [hi2] at h9
      obtain rfl := Option.some.inj h9
      obtain ⟨b, t, o', k, h1, ⟨c', h2, rfl⟩, h3, h4⟩ := hH.own hi3 (by simp) S
      rcases hv.slice_inv with ⟨i', b', t', ha, rfl, hi', hf, hcap⟩ | ⟨rfl, _⟩
      · have hb := congrArg Addr.block ha
        simp only at hb
        obtain rfl : i' = i := by omega
        rw [h1] at hi'
        obtain ⟨rfl, rfl⟩ : b = b' ∧ t = t' := by simpa using hi'
        have hlt : k < L.length := (List.getElem?_eq_some_iff.1 h3).1
        have hfit : t = capOf t a.off e * sz ∧ capOf t a.off e ≤ maxLen := by
          rw [hoff]
          simp only [Bool.or_eq_true] at he
          rcases he with he | he
          · obtain rfl := Nat.eq_of_beq_eq_true he
            rcases hf.2 rfl with ⟨_, rfl⟩ | ⟨h0, _⟩
            · simp [capOf]
            · simp at h0
          · obtain rfl := Nat.eq_of_beq_eq_true he
            have h41 : 4 * sz % 4 = 0 := Nat.mul_mod_right 4 sz
            have h42 : 4 * sz / 4 = sz := Nat.mul_div_cancel_left sz (by omega)
            rcases hf.2 h41 with ⟨h0, _⟩ | ⟨_, h5, h6⟩
            · omega
            · rw [h42] at h5 h6
              unfold capOf
              rw [h41]
              simp only [h42, Nat.sub_zero]
              exact ⟨h5, h6⟩
        have hown : OwnS (cs L S) E sz (.slice (some ⟨b, a.off, none⟩) m (capOf t a.off e)) m (c'.take (m * sz)) k [(b, .cells (c'.take (m * sz)) E t)] := by
          refine ⟨⟨by rw [List.length_take, ← h2.1]; omega, .inr ⟨b, capOf t a.off e, by rw [hoff], ?_, hcap, hfit.2⟩⟩, .inr ⟨b, c', t, _, h4, rfl⟩⟩
          rw [← hfit.1]
        refine (rule (cs L S) m k _ _ hown rfl (fun p hp => hp)).mono ?_
        rintro v' S' ⟨seg', rfl, hs⟩
        obtain ⟨r, cap, rfl, rfl, h5, h6⟩ := slv_new hs (by omega)
        refine ⟨ρ ++ [(r, cap * sz)], L.set k (H.nx, [(r, .cells (c'.take (m * sz) ++ news') E (cap * sz))]), List.prefix_append _ _, ownS_VR hH.nx.symm hsz h5 h6, cs_set (x := (H.nx, _)) hlt, ?_⟩
        exact hH.swap (room_lt hroom) h3 ⟨_, ((h2.take _).append hn).mono (List.prefix_append _ _), rfl⟩
      · exfalso
        have : ownB = 1099511627776 := rfl
        simp only at hi1
        omega
    · cases h
  · cases h
end
end Go.SL
