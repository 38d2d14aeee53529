/- The evaluator's operations, told one by one. -/
import Derived.Test.YtbidjnjbiibdeaaDoorE2
set_option linter.unusedVariables false
set_option linter.unusedSimpArgs false
namespace Go.SL
open Go.RowKit

def strL (s : ByteArray) : List UInt8 := s.data.toList
def mkStr (l : List UInt8) : ByteArray := ⟨l.toArray⟩
def ofI (k : IntKind) : Value → Option Int
  | .int k' n => if k' = k then some n else none
  | _ => none
/-- operators of numbers and texts -/
def binE (op : BinOp) : Value → Value → Option Value
  | .int k a, .int k' b => match op with
    | .quo => if k = k' ∧ b ≠ 0 then some (.int k (k.wrap (a.tdiv b))) else none
    | .rem => if k = k' ∧ b ≠ 0 then some (.int k (a.tmod b)) else none
    | .shr => if 0 ≤ b ∧ b ≤ k.bits then some (.int k (a / 2 ^ b.toNat)) else none
    | .shl => if 0 ≤ b then some (.int k (k.wrap (a * 2 ^ (min b.toNat k.bits)))) else none
    | op => if k = k' then binI op k a b else none
  | .string a, .string b => match op with
    | .add => bif Nat.ble ((strL a).length + (strL b).length) 1000000000 then some (.string (mkStr (strL a ++ strL b))) else none
    | .eql => some (.bool (strL a == strL b))
    | .neq => some (.bool !(strL a == strL b))
    | .lss => some (.bool (Op.bytesLess (strL a) (strL b)))
    | .leq => some (.bool (Op.bytesLess (strL a) (strL b) || strL a == strL b))
    | .gtr => some (.bool !(Op.bytesLess (strL a) (strL b) || strL a == strL b))
    | .geq => some (.bool !(Op.bytesLess (strL a) (strL b)))
    | _ => none
  | _, _ => none

section
variable {P : Program} {w0 : World} {n : Nat} {T Tc : TT} {S : SS} {ρ : Rho} {H : EH} {L : LL}
theorem strL_eq (s : ByteArray) : s.toList = strL s := ByteArray.toList_eq s
theorem strL_append (a b : ByteArray) : a ++ b = mkStr (strL a ++ strL b) := by
  obtain ⟨a⟩ := a
  obtain ⟨b⟩ := b
  show ByteArray.mk _ ++ ByteArray.mk _ = _
  apply ByteArray.ext
  simp [mkStr, strL, ByteArray.data_append]
theorem strL_length (s : ByteArray) : (strL s).length = s.size := by simp [strL]
theorem bin_snd {op : BinOp} {x y : PV} {u v r : Value} (hx : x.val Tc = some u) (hy : y.val Tc = some v) (h : binE op u v = some r) : Yields P w0 n (.bin op x y) Tc S r := by
  unfold binE at h
  split at h
  · rename_i k a k' b
    split at h
    · split at h
      · rename_i hc; obtain ⟨rfl, hb⟩ := hc; obtain rfl := Option.some.inj h; exact Yields.quo hx hy hb
      · cases h
    · split at h
      · rename_i hc; obtain ⟨rfl, hb⟩ := hc; obtain rfl := Option.some.inj h; exact Yields.rem hx hy hb
      · cases h
    · split at h
      · rename_i hc; obtain rfl := Option.some.inj h; exact Yields.shr hx hy hc.1 hc.2
      · cases h
    · split at h
      · rename_i hc; obtain rfl := Option.some.inj h; exact Yields.shl hx hy hc
      · cases h
    · split at h
      · rename_i hk
        subst hk
        exact Yields.pure (by simp [evalP, hx, hy, binv, h])
      · cases h
  · rename_i a b
    have cmp : ∀ r', binS op a b = some r' → Yields P w0 n (.bin op x y) Tc S r' := fun r' hr => Yields.pure (by simp [evalP, hx, hy, binv, hr])
    split at h
    · cases hb : Nat.ble ((strL a).length + (strL b).length) 1000000000 with
      | false => rw [hb] at h; simp at h
      | true =>
        rw [hb] at h
        simp only [cond_true, Option.some.injEq] at h
        subst h
        have hle := Nat.le_of_ble_eq_true hb
        rw [strL_length, strL_length] at hle
        rw [← strL_append]
        refine Yields.binRaw hx hy (fun t a b w => by simp [eqGuard]) (fun t w => ?_)
        have : ¬ (((a.size + b.size : Nat) : Int) > IntKind.i64.max) := by
          have e : IntKind.i64.max = 9223372036854775807 := by decide
          rw [e]; omega
        simp only [binOp, Op.stringOp]
        rw [if_neg this]
        rfl
    all_goals (first | (cases h; done) | skip)
    all_goals (obtain rfl := Option.some.inj h; exact cmp _ (by simp [binS, strL_eq]))
  · cases h

/-! ### what needs no memory -/
def one (x : Option Value) (f : Value → Option Value) : Option Value := match x with | some v => f v | none => none
def evP : PO → TT → Option Value
  | .mov x, T => x.ev T
  | .bin op x y, T => match x.ev T, y.ev T with | some a, some b => binE op a b | _, _ => none
  | .binB op x y, T => match x.ev T, y.ev T with | some a, some b => binB op a b | _, _ => none
  | .not x, T => match x.ev T with | some (.bool b) => some (.bool !b) | _ => none
  | .cvt k x, T => match x.ev T with | some (.int _ a) => some (.int k (k.wrap a)) | _ => none
  | .pick c a b, T => match c.ev T with | some (.bool true) => a.ev T | some (.bool false) => b.ev T | _ => none
  | .lenS x, T => match x.ev T with | some (.slice _ m _) => some (.int .i64 m) | _ => none
  | .lenStr x, T => match x.ev T with | some (.string s) => some (.int .i64 (strL s).length) | _ => none
  | .ext i x, T => match x.ev T with | some (.tuple vs) => vs.toList[i]? | _ => none
  | .fa off x, T => match x.ev T with | some (.pointer (some a)) => some (.pointer (some ⟨a.block, a.off + off, none⟩)) | _ => none
  | .mnx mx [x, y], T => match x.ev T, y.ev T with
    | some (.int k a), some (.int _ b) => some (.int k (if mx then (if b > a then b else a) else (if b < a then b else a)))
    | _, _ => none
  | .nilc x, T => match x.ev T with | some (.pointer (some a)) => some (.pointer (some a)) | some (.func (.func f) fi ca) => some (.func (.func f) fi ca) | _ => none
  | .fld off x, T => match x.ev T with | some (.agg c) => c.toList[off]? | _ => none
  | .fldA off m x, T => match x.ev T with | some (.agg c) => some (.agg ((c.toList.drop off).take m).toArray) | _ => none
  | .ixS sz x i, T => match x.ev T, i.ev T with
    | some (.slice (some a) l e), some (.int _ j) => if 0 ≤ j ∧ j < (l : Int) then some (.pointer (some ⟨a.block, a.off + j.toNat * sz, none⟩)) else none
    | _, _ => none
  | .ixA len sz x i, T => match x.ev T, i.ev T with
    | some (.pointer (some a)), some (.int _ j) => if 0 ≤ j ∧ j < (len : Int) then some (.pointer (some ⟨a.block, a.off + j.toNat * sz, none⟩)) else none
    | _, _ => none
  | .ixStr x i, T => match x.ev T, i.ev T with
    | some (.string s), some (.int _ j) => if 0 ≤ j then (match (strL s)[j.toNat]? with | some b => some (.int .u8 b.toNat) | none => none) else none
    | _, _ => none
  | .slStr x lo hi, T => match x.ev T, ovE lo T, ovE hi T with
    | some (.string s), some l, some h => slStrE s (l.getD 0) (h.getD (strL s).length)
    | _, _, _ => none
  | .mkF f caps, T => match evs T caps with | some vs => some (.func (.func f) #[] vs.toArray) | none => none
  | .eqP neg x y, T => match x.ev T, y.ev T with
    | some (.pointer none), some (.pointer none) => some (.bool (if neg then false else true))
    | some (.pointer (some _)), some (.pointer none) => some (.bool (if neg then true else false))
    | _, _ => none
  | .eqA neg t sh x y, T => match x.ev T, y.ev T with
    | some (.agg a), some (.agg b) => match eqCells sh a.toList b.toList with | some r => some (.bool (if neg then !r else r)) | none => none
    | _, _ => none
  | _, _ => none
where
  ovE : Option PV → TT → Option (Option Int)
    | none, _ => some none
    | some x, T => match x.ev T with | some (.int _ i) => some (some i) | _ => none
  slStrE (s : ByteArray) (l h : Int) : Option Value :=
    if 0 ≤ l ∧ l ≤ h ∧ h ≤ ((strL s).length : Int) then some (.string (mkStr (((strL s).take h.toNat).drop l.toNat))) else none
  evs (T : TT) : List PV → Option (List Value)
    | [] => some []
    | x :: r => match x.ev T, evs T r with | some v, some vs => some (v :: vs) | _, _ => none
theorem evs_spec (hT : TR ρ T Tc) : ∀ {xs : List PV} {vs : List Value}, evP.evs T xs = some vs → ∃ us, valsP Tc xs = some us ∧ VRL ρ vs us
  | [], vs, h => by simp [evP.evs] at h; subst h; exact ⟨[], rfl, .nil⟩
  | x :: xs, vs, h => by
    simp only [evP.evs] at h
    cases h1 : x.ev T with
    | none => simp [h1] at h
    | some v =>
      cases h2 : evP.evs T xs with
      | none => simp [h1, h2] at h
      | some vs' =>
        simp [h1, h2] at h
        subst h
        obtain ⟨u, h3, h4⟩ := hT.ev h1
        obtain ⟨us, h5, h6⟩ := evs_spec hT h2
        exact ⟨u :: us, by simp [valsP, h3, h5], VRL.cons h4 h6⟩
theorem ovE_spec (hT : TR ρ T Tc) {x : Option PV} {i : Option Int} (h : evP.ovE x T = some i) : ovI x Tc = some i := by
  cases x with
  | none => simpa [evP.ovE, ovI] using h
  | some x =>
    simp only [evP.ovE] at h
    split at h
    · rename_i k j hx
      obtain ⟨u, h1, h2⟩ := hT.ev hx
      obtain rfl := h2.int_inv
      simp only [ovI, h1]; exact h
    · cases h
theorem extract_strL (s : ByteArray) (l h : Nat) : s.extract l h = mkStr (((strL s).take h).drop l) := by
  obtain ⟨s⟩ := s
  apply ByteArray.ext
  simp only [mkStr, strL, ByteArray.data_extract]
  apply Array.toList_inj.1
  simp [List.extract, List.drop_take]
theorem getElem?_strL {s : ByteArray} {j : Nat} {b : UInt8} (h : (strL s)[j]? = some b) : s[j]? = some b := by
  have hj : j < s.size := by have := (List.getElem?_eq_some_iff.1 h).1; rwa [strL_length] at this
  rw [getElem?_pos s j hj]
  obtain ⟨h1, h2⟩ := List.getElem?_eq_some_iff.1 h
  rw [← h2]
  rfl
theorem eqCell_VR {c : CK} {a b a' b' : Value} {r : Bool} (h : eqCell c a b = some r) (ha : VR ρ a a') (hb : VR ρ b b') : eqCell c a' b' = some r := by
  unfold eqCell at h
  split at h
  · obtain rfl := ha.int_inv; obtain rfl := hb.int_inv; simpa [eqCell] using h
  · obtain rfl := ha.str_inv; obtain rfl := hb.str_inv; simpa [eqCell] using h
  · obtain rfl := ha.bool_inv; obtain rfl := hb.bool_inv; simpa [eqCell] using h
  · cases h
theorem eqCells_VR : ∀ {sh : List CK} {a b a' b' : List Value} {r : Bool}, eqCells sh a b = some r → VRL ρ a a' → VRL ρ b b' → eqCells sh a' b' = some r
  | [], a, b, a', b', r, h, ha, hb => by
    cases a <;> cases b <;> simp [eqCells] at h
    obtain rfl := ha.nil_left
    obtain rfl := hb.nil_left
    simpa [eqCells] using h
  | [c], a, b, a', b', r, h, ha, hb => by
    rcases a with _ | ⟨x, _ | ⟨x2, a⟩⟩
    · simp [eqCells] at h
    · rcases b with _ | ⟨y, _ | ⟨y2, b⟩⟩
      · simp [eqCells] at h
      · obtain ⟨x', a', rfl, hx, ha⟩ := ha.cons_left
        obtain ⟨y', b', rfl, hy, hb⟩ := hb.cons_left
        obtain rfl := ha.nil_left
        obtain rfl := hb.nil_left
        simp only [eqCells] at h ⊢
        exact eqCell_VR h hx hy
      · exfalso
        simp only [eqCells] at h
        cases h1 : eqCell c x y <;> simp [h1] at h
    · exfalso
      rcases b with _ | ⟨y, _ | ⟨y2, b⟩⟩
      · simp [eqCells] at h
      · simp only [eqCells] at h
        cases h1 : eqCell c x y <;> simp [h1] at h
      · simp only [eqCells] at h
        cases h1 : eqCell c x y <;> simp [h1] at h
  | c :: c2 :: sh, a, b, a', b', r, h, ha, hb => by
    cases a with
    | nil => simp [eqCells] at h
    | cons x a =>
      cases b with
      | nil => simp [eqCells] at h
      | cons y b =>
        obtain ⟨x', a', rfl, hx, ha⟩ := ha.cons_left
        obtain ⟨y', b', rfl, hy, hb⟩ := hb.cons_left
        simp only [eqCells] at h ⊢
        cases h1 : eqCell c x y with
        | none => rw [h1] at h; simp at h
        | some r1 =>
          cases h2 : eqCells (c2 :: sh) a b with
          | none => rw [h1, h2] at h; simp at h
          | some r2 => rw [h1, h2] at h; rw [eqCell_VR h1 hx hy, eqCells_VR h2 ha hb]; exact h
end
end Go.SL
