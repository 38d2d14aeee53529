/- Lists of operations told; what an operation looks at. -/
import Derived.Test.YtbidjnjbiibdeaaDoorE9
set_option linter.unusedVariables false
set_option linter.unusedSimpArgs false
namespace Go.SL
open Go.RowKit

def MO.pvs : MO → List PV
  | .other => []
  | .neg x | .mkI _ x | .eqI _ x | .slNil _ x | .cvS x | .rngS x | .nxtS x | .clr _ _ _ x | .usd x => [x]
  | .slAr _ _ x l h => x :: (l.toList ++ h.toList)
  | .xc _ xs => xs
  | .eqD _ _ _ x y | .eqJ _ _ x y | .uss _ x y => [x, y]
  | .bldA _ ps => ps.map (·.2.2)
/-- the operands -/
def PO.pvs : PO → List PV
  | .mov x | .not x | .cvt _ x | .ld x | .ldA _ x | .fa _ x | .fld _ x | .fldA _ _ x | .lenS x | .lenStr x | .lenM x | .ext _ x | .bx _ x | .nilc x | .strOf x | .bytesOf _ x | .slA _ x => [x]
  | .bin _ x y | .binB _ x y | .st _ x y | .ixS _ x y | .ixStr x y | .lookS _ _ x y | .app _ _ _ _ _ x y | .eqA _ _ _ x y | .eqP _ x y | .appStr _ _ _ _ _ x y | .ixA _ _ x y | .mkS _ _ _ _ _ x y | .cpy _ _ x y => [x, y]
  | .pick a b c | .updS a b c => [a, b, c]
  | .slS _ x l h | .slStr x l h => x :: (l.toList ++ h.toList)
  | .build _ ps => ps.map (·.2.2)
  | .bsl _ _ _ ps => ps.map (·.2.2)
  | .mnx _ xs => xs
  | .call _ xs => xs
  | .callv f xs => f :: xs
  | .mkF _ xs => xs
  | .mkM | .al _ _ | .bsl0 _ => []
  | .more m => m.pvs

abbrev CallE := FuncId → List Value → EH → Option (Value × EH)
def evO (call : CallE) (po : PO) (T : TT) (H : EH) : Option (Value × EH) :=
  match po with
  | .call f xs => match evP.evs T xs with | some vs => call f vs H | none => none
  | .callv f xs => match f.ev T, evP.evs T xs with | some (.func (.func g) fi ca), some vs => call g (fi.toList ++ vs ++ ca.toList) H | _, _ => none
  | po => evM po T H
def wantE (T : TT) : Option (Nat × Bool) → Option Bool
  | none => some true
  | some (s, b) => match look T s with | some (.bool c) => some (c == b) | some _ => some false | none => none
def evL (call : CallE) : List PI → TT → EH → Option (TT × EH)
  | [], T, H => some (T, H)
  | ⟨d, g, o⟩ :: r, T, H => match wantE T g with
    | some true => (match evO call o T H with | some (v, H') => evL call r (put d v T) H' | none => none)
    | some false => evL call r (put d undef T) H
    | none => none

section
variable {P : Program} {w0 : World} {n : Nat} {T Tc : TT} {S : SS} {ρ : Rho} {H : EH} {L : LL} {r : Value × EH}
/-- what calls tell is so -/
def CallOk (P : Program) (w0 : World) (call : CallE) : Prop := ∀ f vs H r, call f vs H = some r → fnOk P f = true ∧ ∀ ρ L S us, VRL ρ vs us → HR w0 ρ H L →
  FC P w0 f us (cs L S) (fun u S' => ∃ ρ' L', ρ <+: ρ' ∧ VR ρ' r.1 u ∧ S' = cs L' S ∧ HR w0 ρ' r.2 L')
theorem evO_snd {call : CallE} {po : PO} (hc : CallOk P w0 call) (hT : TR ρ T Tc) (hH : HR w0 ρ H L) (h : evO call po T H = some r) : Snd P w0 n S po Tc ρ L r := by
  unfold evO at h
  split at h
  · split at h
    · rename_i vs hv
      obtain ⟨us, h1, h2⟩ := evs_spec hT hv
      exact OW.call h1 ((hc _ _ _ _ h).2 ρ L S us h2 hH)
    · cases h
  · split at h
    · rename_i f xs g fi ca vs hf hv
      obtain ⟨us, h1, h2⟩ := evs_spec hT hv
      obtain ⟨u, h3, h4⟩ := hT.ev hf
      obtain ⟨fi', ca', rfl, h5, h6⟩ := h4.func_inv
      obtain ⟨hok, hfc⟩ := hc _ _ _ _ h
      exact OW.callv h3 hok h1 (hfc ρ L S _ ((h5.append h2).append h6) hH)
    · cases h
  · exact evM_snd hT hH h
theorem VR.boolOf {v u : Value} (h : VR ρ v u) : boolOf u = boolOf v := by cases h <;> rfl
theorem want_on (hT : TR ρ T Tc) {g : Option (Nat × Bool)} (h : wantE T g = some true) : gOk Tc g := by
  cases g with
  | none => trivial
  | some p =>
    obtain ⟨s, b⟩ := p
    simp only [wantE] at h
    split at h
    · rename_i c hl
      simp only [Option.some.injEq, beq_iff_eq] at h
      subst h
      obtain ⟨u, h1, h2⟩ := hT s _ hl
      obtain rfl := h2.bool_inv
      exact h1
    · cases h
    · cases h
theorem want_off (hT : TR ρ T Tc) {g : Option (Nat × Bool)} (h : wantE T g = some false) : ∃ s b u, g = some (s, b) ∧ look Tc s = some u ∧ (boolOf u == some b) = false := by
  cases g with
  | none => simp [wantE] at h
  | some p =>
    obtain ⟨s, b⟩ := p
    simp only [wantE] at h
    split at h
    · rename_i c hl
      simp only [Option.some.injEq] at h
      obtain ⟨u, h1, h2⟩ := hT s _ hl
      obtain rfl := h2.bool_inv
      refine ⟨s, b, _, rfl, h1, ?_⟩
      simp only [boolOf]
      cases c <;> cases b <;> simp at h ⊢
    · rename_i v hnb hl
      obtain ⟨u, h1, h2⟩ := hT s _ hl
      refine ⟨s, b, u, rfl, h1, ?_⟩
      rw [h2.boolOf]
      cases v with
      | bool c => exact absurd rfl (hnb c)
      | _ => rfl
    · cases h
def StR (w0 : World) (ρ : Rho) (S : SS) (T' : TT) (H' : EH) : TT → SS → Prop := fun Tc' S' => ∃ ρ' L', ρ <+: ρ' ∧ TR ρ' T' Tc' ∧ S' = cs L' S ∧ HR w0 ρ' H' L'
theorem undef_VR : VR ρ undef undef := .tuple (cs := []) (cs' := []) rfl (fun j v u h => by simp at h)
theorem evL_ol {call : CallE} (hc : CallOk P w0 call) : ∀ {l : List PI} {T Tc : TT} {ρ : Rho} {H : EH} {L : LL} {T' : TT} {H' : EH}, TR ρ T Tc → HR w0 ρ H L → evL call l T H = some (T', H') → OL P w0 n l Tc (cs L S) (StR w0 ρ S T' H')
  | [], T, Tc, ρ, H, L, T', H', hT, hH, h => by
    simp only [evL, Option.some.injEq, Prod.mk.injEq] at h
    obtain ⟨rfl, rfl⟩ := h
    exact OL.nil ⟨ρ, L, List.prefix_refl _, hT, rfl, hH⟩
  | ⟨d, g, o⟩ :: l, T, Tc, ρ, H, L, T', H', hT, hH, h => by
    simp only [evL] at h
    split at h
    · rename_i hw
      split at h
      · rename_i v H1 ho
        refine OL.cons (want_on hT hw) (evO_snd hc hT hH ho) ?_
        rintro u S' ⟨ρ1, L1, hp, hv, rfl, hH1⟩
        have := evL_ol hc ((hT.mono hp).put hv d) hH1 h
        exact fun ops is a w Q hcs hs hr hq => this ops is a w Q hcs hs hr fun a' w' T2 S2 q1 q2 ⟨ρ2, L2, p1, p2⟩ => hq a' w' T2 S2 q1 q2 ⟨ρ2, L2, hp.trans p1, p2⟩
      · cases h
    · rename_i hw
      obtain ⟨s, b, u, rfl, h1, h2⟩ := want_off hT hw
      exact OL.off h1 h2 (evL_ol hc (hT.put undef_VR d) hH h)
    · cases h

/-! ### congruence -/
def Agree (T T' : TT) (l : List PV) : Prop := ∀ x ∈ l, PV.ev T x = PV.ev T' x
theorem evs_congr {T T' : TT} : ∀ {xs : List PV}, Agree T T' xs → evP.evs T xs = evP.evs T' xs
  | [], h => rfl
  | x :: xs, h => by
    simp only [evP.evs]
    rw [h x (by simp), evs_congr (fun y hy => h y (by simp [hy]))]
theorem ovE_congr {T T' : TT} {x : Option PV} (h : Agree T T' x.toList) : evP.ovE x T = evP.ovE x T' := by
  cases x with
  | none => rfl
  | some x => simp only [evP.ovE]; rw [h x (by simp)]
theorem fillE_congr {T T' : TT} : ∀ {ps : List (Nat × Nat × PV)} {c : List Value}, Agree T T' (ps.map (·.2.2)) → fillE T c ps = fillE T' c ps
  | [], c, h => rfl
  | (off, size, x) :: r, c, h => by
    simp only [fillE]
    rw [h x (by simp)]
    have : ∀ c, fillE T c r = fillE T' c r := fun c => fillE_congr fun y hy => h y (by simp at hy ⊢; exact .inr hy)
    simp only [this]
theorem Agree.app {T T' : TT} {a b : List PV} (h : Agree T T' (a ++ b)) : Agree T T' a ∧ Agree T T' b := ⟨fun x hx => h x (by simp [hx]), fun x hx => h x (by simp [hx])⟩
theorem evP_congr {po : PO} {T T' : TT} (h : Agree T T' po.pvs) : evP po T = evP po T' := by
  cases po
  case mnx mx xs =>
    have e : ∀ T, evP (.mnx mx xs) T = match xs with | [x, y] => (match x.ev T, y.ev T with | some (.int k a), some (.int _ b) => some (.int k (if mx then (if b > a then b else a) else (if b < a then b else a))) | _, _ => none) | _ => none := by
      intro T
      rcases xs with _ | ⟨x, _ | ⟨y, _ | ⟨z, xs⟩⟩⟩ <;> rfl
    rw [e, e]
    rcases xs with _ | ⟨x, _ | ⟨y, _ | ⟨z, xs⟩⟩⟩ <;> try rfl
    simp only [h x (by simp [PO.pvs]), h y (by simp [PO.pvs])]
  case slStr x l hh =>
    have h1 := h x (by simp [PO.pvs])
    have h2 : Agree T T' (l.toList ++ hh.toList) := fun y hy => h y (by simp only [PO.pvs]; exact List.mem_cons_of_mem _ hy)
    simp only [evP, h1, ovE_congr h2.app.1, ovE_congr h2.app.2]
  case mkF f xs => simp only [evP, evs_congr (xs := xs) h]
  all_goals (try rfl)
  all_goals (simp only [Agree, PO.pvs, List.mem_cons, List.not_mem_nil, or_false, forall_eq_or_imp, forall_eq] at h)
  all_goals simp only [evP, h]
theorem evX_congr {m : MO} {T T' : TT} (h : Agree T T' m.pvs) : evX m T H = evX m T' H := by
  cases m
  case slAr len sz x l hh =>
    have h1 := h x (by simp [MO.pvs])
    have h2 : Agree T T' (l.toList ++ hh.toList) := fun y hy => h y (by simp only [MO.pvs]; exact List.mem_cons_of_mem _ hy)
    simp only [evX, h1, ovE_congr h2.app.1, ovE_congr h2.app.2]
  case xc row xs => simp only [evX, evs_congr (xs := xs) h]
  case bldA z ps => simp only [evX, fillE_congr (ps := ps) h]
  all_goals (try rfl)
  all_goals (simp only [Agree, MO.pvs, List.mem_cons, List.not_mem_nil, or_false, forall_eq_or_imp, forall_eq] at h)
  all_goals (first | (simp only [evX, h]; done) | rfl)
theorem evM_congr {po : PO} {T T' : TT} (h : Agree T T' po.pvs) : evM po T H = evM po T' H := by
  have hp := evP_congr h
  cases po
  case build z ps => simp only [evM, fillE_congr (ps := ps) h]
  case bsl E z len ps => simp only [evM, fillE_congr (ps := ps) h]
  case more m => simp only [evM]; exact evX_congr h
  case slS sz x l hh =>
    have h1 := h x (by simp [PO.pvs])
    have h2 : Agree T T' (l.toList ++ hh.toList) := fun y hy => h y (by simp only [PO.pvs]; exact List.mem_cons_of_mem _ hy)
    simp only [evM, h1, ovE_congr h2.app.1, ovE_congr h2.app.2]
  all_goals (first | rfl | (simp only [evM, hp]; done) | skip)
  all_goals (simp only [Agree, PO.pvs, List.mem_cons, List.not_mem_nil, or_false, forall_eq_or_imp, forall_eq] at h)
  all_goals simp only [evM, h]
theorem evO_congr {call : CallE} {po : PO} {T T' : TT} (h : Agree T T' po.pvs) : evO call po T H = evO call po T' H := by
  unfold evO
  split
  · rename_i f xs; rw [evs_congr (xs := xs) h]
  · rename_i f xs
    rw [h f (by simp [PO.pvs]), evs_congr (xs := xs) fun y hy => h y (by simp [PO.pvs, hy])]
  · exact evM_congr h
theorem wantE_congr {T T' : TT} {g : Option (Nat × Bool)} (h : ∀ s b, g = some (s, b) → look T s = look T' s) : wantE T g = wantE T' g := by
  cases g with
  | none => rfl
  | some p => simp only [wantE]; rw [h p.1 p.2 rfl]

/-! ### the operands of the small form are those of the operation -/
theorem cV_t {x : Operand} {t : Nat} (h : cV x = .t t) : x = .tmp t := by cases x <;> simp [cV] at h; rw [h]
theorem parts_mem {place : Nat → Option (Nat × Nat)} : ∀ {qs : List (Nat × Operand)} {ps : List (Nat × Nat × PV)}, partsAt place qs = some ps → ∀ x ∈ ps.map (·.2.2), ∃ y ∈ qs.map (·.2), x = cV y
  | [], ps, h => by simp [partsAt] at h; subst h; simp
  | (i, q) :: qs, ps, h => by
    simp only [partsAt, List.mapM_cons, Option.bind_eq_bind, Option.bind_eq_some_iff, Option.map_eq_some_iff] at h
    obtain ⟨p, ⟨q', h1, rfl⟩, l, h2, h3⟩ := h
    simp at h3
    subst h3
    intro x hx
    simp only [List.map_cons, List.mem_cons] at hx ⊢
    rcases hx with rfl | hx
    · exact ⟨q, .inl rfl, rfl⟩
    · obtain ⟨y, h4, h5⟩ := parts_mem (qs := qs) h2 x hx
      exact ⟨y, .inr h4, h5⟩
theorem call_operands {c : Call} : c.operands = (match c.callee with | .value f => #[f] | .invoke r _ => #[r] | .builtin _ => #[]) ++ c.args := by
  unfold Call.operands
  cases c.callee <;> rfl
set_option maxHeartbeats 2000000 in
theorem pvs_op {o : Oper} {po : PO} (h : cOp P o = some po) : ∀ x ∈ po.pvs, ∀ t, x = .t t → Operand.tmp t ∈ o.op.operands := by
  have hs := cOp_spec P h
  intro x hx t ht
  subst ht
  have key : ∀ {y : Operand}, PV.t t = cV y → Operand.tmp t = y := fun {y} e => (cV_t e.symm).symm
  cases po <;> simp only [Spec] at hs <;> simp only [PO.pvs, List.mem_cons, List.not_mem_nil, or_false, List.mem_append] at hx
  case mov => rcases hs with ⟨y, ho, rfl⟩ | ⟨y, ho, rfl⟩ <;> rw [ho] <;> simp [Op.operands, key hx]
  case bin => obtain ⟨_, a, b, _, ho, rfl, rfl, _⟩ := hs; rw [ho]; rcases hx with hx | hx <;> simp [Op.operands, key hx]
  case binB => obtain ⟨_, a, b, _, ho, rfl, rfl, _⟩ := hs; rw [ho]; rcases hx with hx | hx <;> simp [Op.operands, key hx]
  case not => obtain ⟨_, a, ho, rfl⟩ := hs; rw [ho]; simp [Op.operands, key hx]
  case cvt => obtain ⟨_, _, a, _, ho, rfl, _⟩ := hs; rw [ho]; simp [Op.operands, key hx]
  case pick => obtain ⟨_, _, _, ho, rfl, rfl, rfl⟩ := hs; rw [ho]; rcases hx with hx | hx | hx <;> simp [Op.operands, key hx]
  case ld => obtain ⟨_, a, ho, rfl, _⟩ := hs; rw [ho]; simp [Op.operands, key hx]
  case ldA => obtain ⟨_, a, ho, rfl, _⟩ := hs; rw [ho]; simp [Op.operands, key hx]
  case st => obtain ⟨_, a, b, _, ho, rfl, rfl, _⟩ := hs; rw [ho]; rcases hx with hx | hx <;> simp [Op.operands, key hx]
  case fa => obtain ⟨_, a, _, _, _, _, ho, rfl, _⟩ := hs; rw [ho]; simp [Op.operands, key hx]
  case fld => obtain ⟨_, a, _, _, _, ho, rfl, _⟩ := hs; rw [ho]; simp [Op.operands, key hx]
  case fldA => obtain ⟨_, a, _, _, _, ho, rfl, _⟩ := hs; rw [ho]; simp [Op.operands, key hx]
  case ixS => obtain ⟨_, a, b, _, _, ho, rfl, rfl, _⟩ := hs; rw [ho]; rcases hx with hx | hx <;> simp [Op.operands, key hx]
  case ixStr => obtain ⟨_, a, b, ho, rfl, rfl, _⟩ := hs; rw [ho]; rcases hx with hx | hx <;> simp [Op.operands, key hx]
  case lenS => obtain ⟨_, _, a, c, ho, hc, _, ha, rfl, _⟩ := hs; rw [ho]; simp [Op.operands, call_operands, key hx, Array.mem_of_getElem? ha]
  case lenStr => obtain ⟨_, a, c, ho, hc, _, ha, rfl, _⟩ := hs; rw [ho]; simp [Op.operands, call_operands, key hx, Array.mem_of_getElem? ha]
  case lenM => obtain ⟨_, _, _, a, c, ho, hc, _, ha, rfl, _⟩ := hs; rw [ho]; simp [Op.operands, call_operands, key hx, Array.mem_of_getElem? ha]
  case slS =>
    obtain ⟨_, a, l, hh, _, _, ho, rfl, rfl, rfl, _⟩ := hs
    rw [ho]
    rcases hx with hx | hx | hx
    · simp [Op.operands, key hx]
    · obtain ⟨y, hy, e⟩ : ∃ y, l = some y ∧ PV.t t = cV y := by cases l <;> simp at hx; exact ⟨_, rfl, hx⟩
      simp [Op.operands, key e, hy]
    · obtain ⟨y, hy, e⟩ : ∃ y, hh = some y ∧ PV.t t = cV y := by cases hh <;> simp at hx; exact ⟨_, rfl, hx⟩
      simp [Op.operands, key e, hy]
  case slStr =>
    obtain ⟨_, a, l, hh, ho, rfl, rfl, rfl, _⟩ := hs
    rw [ho]
    rcases hx with hx | hx | hx
    · simp [Op.operands, key hx]
    · obtain ⟨y, hy, e⟩ : ∃ y, l = some y ∧ PV.t t = cV y := by cases l <;> simp at hx; exact ⟨_, rfl, hx⟩
      simp [Op.operands, key e, hy]
    · obtain ⟨y, hy, e⟩ : ∃ y, hh = some y ∧ PV.t t = cV y := by cases hh <;> simp at hx; exact ⟨_, rfl, hx⟩
      simp [Op.operands, key e, hy]
  case build =>
    obtain ⟨_, qs, _, _, _, _, ho, _, _, _, _, _, hp⟩ := hs
    obtain ⟨y, hy, e⟩ := parts_mem hp _ hx
    rw [ho, key e]
    simpa [Op.operands] using hy
  case bsl =>
    obtain ⟨_, qs, _, _, ho, _, _, _, _, _, _, hp⟩ := hs
    obtain ⟨y, hy, e⟩ := parts_mem hp _ hx
    rw [ho, key e]
    simpa [Op.operands] using hy
  case mkS => obtain ⟨a, b, _, ho, rfl, rfl, _⟩ := hs; rw [ho]; rcases hx with hx | hx <;> simp [Op.operands, key hx]
  case lookS => obtain ⟨_, a, b, _, _, _, ho, rfl, rfl, _⟩ := hs; rw [ho]; rcases hx with hx | hx <;> simp [Op.operands, key hx]
  case updS => obtain ⟨_, a, b, c, _, _, ho, rfl, rfl, rfl, _⟩ := hs; rw [ho]; rcases hx with hx | hx | hx <;> simp [Op.operands, key hx]
  case ext => obtain ⟨a, ho, rfl⟩ := hs; rw [ho]; simp [Op.operands, key hx]
  case app => obtain ⟨a, b, c, _, ho, hc, _, ha, rfl, rfl, _⟩ := hs; rw [ho]; rcases hx with hx | hx <;> simp [Op.operands, call_operands, ha, key hx]
  case mnx =>
    obtain ⟨c, ho, hc, rfl⟩ := hs
    obtain ⟨y, hy, e⟩ := List.mem_map.1 hx
    rw [ho, key e.symm]
    simp only [Op.operands, call_operands]
    exact Array.mem_append_right _ (by simpa using hy)
  case call =>
    obtain ⟨c, ho, hc, rfl, _⟩ := hs
    obtain ⟨y, hy, e⟩ := List.mem_map.1 hx
    rw [ho, key e.symm]
    simp only [Op.operands, call_operands]
    exact Array.mem_append_right _ (by simpa using hy)
  case eqA => obtain ⟨a, b, _, ho, rfl, rfl, _⟩ := hs; rw [ho]; rcases hx with hx | hx <;> simp [Op.operands, key hx]
  case bx => obtain ⟨a, ho, rfl⟩ := hs; rw [ho]; simp [Op.operands, key hx]
  case nilc => obtain ⟨a, ho, rfl⟩ := hs; rw [ho]; simp [Op.operands, key hx]
  case eqP => obtain ⟨_, a, b, _, ho, rfl, rfl, _⟩ := hs; rw [ho]; rcases hx with hx | hx <;> simp [Op.operands, key hx]
  case strOf => obtain ⟨_, _, a, _, ho, rfl, _⟩ := hs; rw [ho]; simp [Op.operands, key hx]
  case bytesOf => obtain ⟨_, _, a, ho, rfl, _⟩ := hs; rw [ho]; simp [Op.operands, key hx]
  case appStr => obtain ⟨a, b, c, _, ho, hc, _, ha, rfl, rfl, _⟩ := hs; rw [ho]; rcases hx with hx | hx <;> simp [Op.operands, call_operands, ha, key hx]
  case slA => obtain ⟨_, a, _, _, ho, rfl, _⟩ := hs; rw [ho]; simp [Op.operands, key hx]
  case ixA => obtain ⟨_, a, b, _, _, ho, rfl, rfl, _⟩ := hs; rw [ho]; rcases hx with hx | hx <;> simp [Op.operands, key hx]
  case callv =>
    obtain ⟨c, y, ho, hc, rfl, rfl⟩ := hs
    rw [ho]
    rcases hx with hx | hx
    · simp [Op.operands, call_operands, hc, key hx]
    · obtain ⟨z, hz, e⟩ := List.mem_map.1 hx
      rw [key e.symm]
      simp only [Op.operands, call_operands]
      exact Array.mem_append_right _ (by simpa using hz)
  case mkF =>
    obtain ⟨fi, c, ho, _, rfl⟩ := hs
    obtain ⟨y, hy, e⟩ := List.mem_map.1 hx
    rw [ho, key e.symm]
    simp only [Op.operands]
    exact Array.mem_append_right _ (by simpa using hy)
  case more m =>
    cases m <;> simp only [Spec] at hs <;> simp only [MO.pvs, List.mem_cons, List.not_mem_nil, or_false, List.mem_append] at hx
    case neg => obtain ⟨_, a, ho, rfl⟩ := hs; rw [ho]; simp [Op.operands, key hx]
    case mkI => obtain ⟨a, _, ho, rfl, _⟩ := hs; rw [ho]; simp [Op.operands, key hx]
    case eqI => obtain ⟨_, a, b, _, _, ho, rfl, _⟩ := hs; rw [ho]; simp [Op.operands, key hx]
    case eqJ => obtain ⟨_, a, b, _, _, ho, rfl, rfl, _⟩ := hs; rw [ho]; rcases hx with hx | hx <;> simp [Op.operands, key hx]
    case slNil => obtain ⟨_, a, b, _, _, ho, rfl, _⟩ := hs; rw [ho]; simp [Op.operands, key hx]
    case cvS => obtain ⟨_, _, a, _, ho, rfl, _⟩ := hs; rw [ho]; simp [Op.operands, key hx]
    case rngS => obtain ⟨_, a, ho, rfl, _⟩ := hs; rw [ho]; simp [Op.operands, key hx]
    case nxtS => obtain ⟨a, ho, rfl⟩ := hs; rw [ho]; simp [Op.operands, key hx]
    case clr => obtain ⟨_, a, c, _, ho, hc, _, ha, rfl, _⟩ := hs; rw [ho]; simp [Op.operands, call_operands, ha, key hx]
    case usd => obtain ⟨c, a, ho, hc, ha, rfl⟩ := hs; rw [ho]; simp [Op.operands, call_operands, ha, key hx]
    case uss => obtain ⟨_, _, c, a, b, ho, hc, _, ha, rfl, rfl, _⟩ := hs; rw [ho]; rcases hx with hx | hx <;> simp [Op.operands, call_operands, ha, key hx]
    case bldA =>
      obtain ⟨_, qs, _, _, _, _, _, ho, _, _, _, _, _, hp⟩ := hs
      obtain ⟨y, hy, e⟩ := parts_mem hp _ hx
      rw [ho, key e]
      simpa [Op.operands] using hy
    case eqD => obtain ⟨a, b, _, ho, rfl, rfl, _⟩ := hs; rw [ho]; rcases hx with hx | hx <;> simp [Op.operands, key hx]
    case slAr =>
      obtain ⟨_, a, l, hh, _, _, ho, rfl, rfl, rfl, _⟩ := hs
      rw [ho]
      rcases hx with hx | hx | hx
      · simp [Op.operands, key hx]
      · obtain ⟨y, hy, e⟩ : ∃ y, l = some y ∧ PV.t t = cV y := by cases l <;> simp at hx; exact ⟨_, rfl, hx⟩
        simp [Op.operands, key e, hy]
      · obtain ⟨y, hy, e⟩ : ∃ y, hh = some y ∧ PV.t t = cV y := by cases hh <;> simp at hx; exact ⟨_, rfl, hx⟩
        simp [Op.operands, key e, hy]
    case xc =>
      obtain ⟨c, _, _, ho, hc, rfl, _⟩ := hs
      obtain ⟨y, hy, e⟩ := List.mem_map.1 hx
      rw [ho, key e.symm]
      simp only [Op.operands, call_operands]
      exact Array.mem_append_right _ (by simpa using hy)
  case cpy => obtain ⟨_, _, a, b, c, _, ho, hc, _, ha, rfl, rfl, _⟩ := hs; rw [ho]; rcases hx with hx | hx <;> simp [Op.operands, call_operands, ha, key hx]
end
end Go.SL
