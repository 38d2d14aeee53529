/- Rules of single operations: what reads and reckons; what makes and writes rows. -/
import Derived.Test.YtbidjnjbiibdeaaDoorSl2
import Derived.Deep.MidRow
import Derived.Laws.Slices
import Derived.Laws.AppendOwnNone
import Derived.Laws.Small
import Derived.IntWalk
set_option linter.unusedVariables false
set_option linter.unusedSimpArgs false
namespace Go.SL
open Go.RowKit

section
variable {P : Program} {w0 : World} {n : Nat} {T : TT} {S : SS}

/-! ### reckoning -/
def binI (op : BinOp) (k : IntKind) (a b : Int) : Option Value :=
  match op with
  | .add => some (.int k (k.wrap (a + b)))
  | .sub => some (.int k (k.wrap (a - b)))
  | .mul => some (.int k (k.wrap (a * b)))
  | .and => some (.int k (k.wrap (BitVec.ofInt k.bits a &&& BitVec.ofInt k.bits b).toNat))
  | .or => some (.int k (k.wrap (BitVec.ofInt k.bits a ||| BitVec.ofInt k.bits b).toNat))
  | .xor => some (.int k (k.wrap (BitVec.ofInt k.bits a ^^^ BitVec.ofInt k.bits b).toNat))
  | .andNot => some (.int k (k.wrap (BitVec.ofInt k.bits a &&& ~~~BitVec.ofInt k.bits b).toNat))
  | .eql => some (.bool (a == b))
  | .neq => some (.bool (a != b))
  | .lss => some (.bool (decide (a < b)))
  | .leq => some (.bool (decide (a ≤ b)))
  | .gtr => some (.bool (decide (a > b)))
  | .geq => some (.bool (decide (a ≥ b)))
  | _ => none
def binS (op : BinOp) (a b : ByteArray) : Option Value :=
  match op with
  | .eql => some (.bool (a.toList == b.toList))
  | .neq => some (.bool !(a.toList == b.toList))
  | .lss => some (.bool (Op.bytesLess a.toList b.toList))
  | .leq => some (.bool (Op.bytesLess a.toList b.toList || a.toList == b.toList))
  | .gtr => some (.bool !(Op.bytesLess a.toList b.toList || a.toList == b.toList))
  | .geq => some (.bool !(Op.bytesLess a.toList b.toList))
  | _ => none
def binv (op : BinOp) : Value → Value → Option Value
  | .int k a, .int k' b => if k = k' then binI op k a b else none
  | .string a, .string b => binS op a b
  | _, _ => none
def binB (op : BinOp) : Value → Value → Option Value
  | .bool a, .bool b => match op with | .eql => some (.bool (a == b)) | .neq => some (.bool !(a == b)) | _ => none
  | _, _ => none
/-- operations that need no memory: computed -/
def evalP : PO → TT → Option Value
  | .mov x, T => x.val T
  | .bin op x y, T => match x.val T, y.val T with | some a, some b => binv op a b | _, _ => none
  | .binB op x y, T => match x.val T, y.val T with | some a, some b => binB op a b | _, _ => none
  | .not x, T => match x.val T with | some (.bool b) => some (.bool !b) | _ => none
  | .cvt k x, T => match x.val T with | some (.int _ a) => some (.int k (k.wrap a)) | _ => none
  | .pick c a b, T => match c.val T with | some (.bool true) => a.val T | some (.bool false) => b.val T | _ => none
  | .lenS x, T => match x.val T with | some (.slice _ m _) => some (.int .i64 m) | _ => none
  | .lenStr x, T => match x.val T with | some (.string s) => some (.int .i64 s.size) | _ => none
  | .ext i x, T => match x.val T with | some (.tuple vs) => vs[i]? | _ => none
  | .fa off x, T => match x.val T with | some (.pointer (some a)) => some (.pointer (some (a.add off))) | _ => none
  | .mnx mx [x, y], T => match x.val T, y.val T with
    | some (.int k a), some (.int _ b) => some (.int k (if mx then (if b > a then b else a) else (if b < a then b else a)))
    | _, _ => none
  | _, _ => none

theorem run_bin {t : TypeId} {op : BinOp} {x y : Operand} {u v r : Value} (h : binv op u v = some r) (w : World) :
    eqGuard op t x y u v = pure () ∧ (binOp op t u v).run P w = .ok r w := by
  refine ⟨by
    unfold eqGuard
    unfold binv at h
    split at h <;> (first | (simp at h; done) | (split <;> rfl)), ?_⟩
  unfold binv at h
  split at h
  · rename_i k a k' b
    split at h
    · rename_i hk
      subst hk
      cases op <;> simp [binI] at h <;> subst h <;> simp [binOp, Op.intArith, Op.intBits, Op.intCmp]
    · simp at h
  · rename_i a b
    cases op <;> simp [binS] at h <;> (first | (subst h; simp [binOp, Op.stringOp]; done) | skip)
  · simp at h
theorem run_binB {t : TypeId} {op : BinOp} {x y : Operand} {u v r : Value} (hp : P.underlying t = some .bool) (h : binB op u v = some r) (w : World) :
    eqGuard op t x y u v = pure () ∧ (binOp op t u v).run P w = .ok r w := by
  unfold binB at h
  split at h
  · rename_i a b
    refine ⟨by unfold eqGuard; split <;> rfl, ?_⟩
    cases op <;> simp at h <;> subst h
    · exact run_eql_bool w t a b hp
    · exact run_neq_bool w t a b hp
  · simp at h

theorem boolB_spec {t : TypeId} (h : boolB P t = true) : P.underlying t = some .bool := by
  unfold boolB at h
  split at h
  · assumption
  · simp at h

theorem run_fieldPlace {a : Addr} {f : Field} {fi : TypeInfo} (h : P.info? f.type = some fi) (h0 : fi.size ≠ 0) (w : World) : (fieldPlace a f).run P w = .ok (a.add f.offset) w := by
  simp [fieldPlace, sizeOf, typeInfo, program, Sem.run, h, h0]

theorem Yields.pure {po : PO} {v : Value} (h : evalP po T = some v) : Yields P w0 n po T S v := by
  intro o a w hc hs hr
  have hsp := cOp_spec P hc
  cases po <;> simp only [Spec] at hsp <;> (first | (simp [evalP] at h; done) | skip)
  all_goals (try simp only [evalP] at h)
  case mov x =>
    rcases hsp with ⟨y, ho, rfl⟩ | ⟨y, ho, rfl⟩ <;> simp [execOp, ho, hs.eval h, Sem.run, Pure.pure]
  case bin op x y =>
    obtain ⟨t, c, d, u, ho, rfl, rfl, hp⟩ := hsp
    split at h
    · rename_i u v h1 h2
      simp only [execOp, ho, hs.eval h1, hs.eval h2]
      obtain ⟨e1, e2⟩ := run_bin (P := P) (t := t) (x := c) (y := d) h w
      simp [e1, e2]
    · simp at h
  case binB op x y =>
    obtain ⟨t, c, d, u, ho, rfl, rfl, hp⟩ := hsp
    split at h
    · rename_i u v h1 h2
      simp only [execOp, ho, hs.eval h1, hs.eval h2]
      obtain ⟨e1, e2⟩ := run_binB (P := P) (t := t) (x := c) (y := d) (boolB_spec hp) h w
      simp [e1, e2]
    · simp at h
  case not x =>
    obtain ⟨t, c, ho, rfl⟩ := hsp
    split at h
    · rename_i b h1
      obtain rfl := Option.some.inj h
      simp [execOp, ho, hs.eval h1, Op.unary]
    · simp at h
  case cvt k x =>
    obtain ⟨s, t, c, j, ho, rfl, hu1, hu2⟩ := hsp
    split at h
    · rename_i j' b h1
      obtain rfl := Option.some.inj h
      simp [execOp, ho, hs.eval h1, convert, run_underlying hu1, run_underlying hu2, Conv.intToInt]
    · simp at h
  case pick c x y =>
    obtain ⟨c', x', y', ho, rfl, rfl, rfl⟩ := hsp
    split at h
    · rename_i h1
      simp [execOp, ho, hs.eval h1, hs.eval h, asBool]
    · rename_i h1
      simp [execOp, ho, hs.eval h1, hs.eval h, asBool]
    · simp at h
  case lenS x =>
    obtain ⟨t, u, c, cl, ho, hca, hat, har, rfl, hu⟩ := hsp
    split at h
    · rename_i A m cp h1
      obtain rfl := Option.some.inj h
      simp [execOp, ho, resolve, hca, invoke, builtin, Builtin.len_, hat, har, hs.eval h1, run_underlying hu, goInt]
    · simp at h
  case lenStr x =>
    obtain ⟨t, c, cl, ho, hca, hat, har, rfl, hu⟩ := hsp
    split at h
    · rename_i s h1
      obtain rfl := Option.some.inj h
      simp [execOp, ho, resolve, hca, invoke, builtin, Builtin.len_, hat, har, hs.eval h1, run_underlying hu, goInt]
    · simp at h
  case ext i x =>
    obtain ⟨c, ho, rfl⟩ := hsp
    split at h
    · rename_i vs h1
      simp [execOp, ho, Instr.extract, hs.eval h1, h]
    · simp at h
  case fa off x =>
    obtain ⟨s, y, j, fs, f, fi, ho, rfl, hu, hf, rfl, hi, h0⟩ := hsp
    split at h
    · rename_i ad h1
      obtain rfl := Option.some.inj h
      simp [execOp, ho, Instr.fieldAt, run_underlying hu, hf, hs.eval h1, Instr.sureAddr, run_fieldPlace hi h0]
    · simp at h
  case mnx mx xs =>
    obtain ⟨c, ho, hca, hxs⟩ := hsp
    match hl : c.args.toList, hxs with
    | [], hxs => subst hxs; simp at h
    | [_], hxs => subst hxs; simp at h
    | _ :: _ :: _ :: _, hxs => subst hxs; simp at h
    | [x, y], hxs =>
      subst hxs
      simp only [List.map_cons, List.map_nil] at h
      have ha : c.args = #[x, y] := toList2 hl
      split at h
      · rename_i k b k' d h1 h2
        obtain rfl := Option.some.inj h
        cases mx <;> simp [execOp, ho, resolve, hca, ha, invoke, builtin, Builtin.max_, Builtin.min_, Builtin.max2, Builtin.min2, hs.eval h1, hs.eval h2]
      · simp at h


/-! ### sums within their kind's bounds -/
theorem wrap_i64 {x : Int} (h1 : -9223372036854775808 ≤ x) (h2 : x ≤ 9223372036854775807) : IntKind.i64.wrap x = x := IntWalk.i64_in _ ⟨h1, h2⟩
theorem Yields.arith {op : BinOp} {x y : PV} {k : IntKind} {a b r : Int} (hx : x.val T = some (.int k a)) (hy : y.val T = some (.int k b))
    (h : binI op k a b = some (.int k r)) : Yields P w0 n (.bin op x y) T S (.int k r) :=
  Yields.pure (by simp [evalP, hx, hy, binv, h])
theorem Yields.add64 {x y : PV} {a b : Int} (hx : x.val T = some (.int .i64 a)) (hy : y.val T = some (.int .i64 b)) (h1 : -9223372036854775808 ≤ a + b) (h2 : a + b ≤ 9223372036854775807) :
    Yields P w0 n (.bin .add x y) T S (.int .i64 (a + b)) := Yields.arith hx hy (by simp [binI, wrap_i64 h1 h2])
theorem Yields.sub64 {x y : PV} {a b : Int} (hx : x.val T = some (.int .i64 a)) (hy : y.val T = some (.int .i64 b)) (h1 : -9223372036854775808 ≤ a - b) (h2 : a - b ≤ 9223372036854775807) :
    Yields P w0 n (.bin .sub x y) T S (.int .i64 (a - b)) := Yields.arith hx hy (by simp [binI, wrap_i64 h1 h2])
theorem Yields.mul64 {x y : PV} {a b : Int} (hx : x.val T = some (.int .i64 a)) (hy : y.val T = some (.int .i64 b)) (h1 : -9223372036854775808 ≤ a * b) (h2 : a * b ≤ 9223372036854775807) :
    Yields P w0 n (.bin .mul x y) T S (.int .i64 (a * b)) := Yields.arith hx hy (by simp [binI, wrap_i64 h1 h2])

/-! ### reads -/
def rowD : TypeDesc → Bool
  | .struct _ | .array _ _ => true
  | _ => false
theorem aggOf_none {t : TypeId} (h : aggOf P t = some none) : ∃ d, P.underlying t = some d ∧ rowD d = false := by
  unfold aggOf at h
  split at h
  · simp at h
  · simp at h
  · rename_i d h1 h2 hd
    refine ⟨d, hd, ?_⟩
    cases d <;> simp_all [rowD]
  · simp at h
theorem aggOf_some {t : TypeId} {m : Nat} (h : aggOf P t = some (some m)) : ∃ d i, P.underlying t = some d ∧ rowD d = true ∧ P.info? t = some i ∧ i.size = m := by
  unfold aggOf at h
  split at h
  all_goals (first | (simp at h; done) | skip)
  all_goals (simp at h; obtain ⟨i, hi, he⟩ := h; exact ⟨_, i, by assumption, rfl, hi, he⟩)
theorem run_isAgg {t : TypeId} {d : TypeDesc} (h : P.underlying t = some d) (w : World) : (isAgg t).run P w = .ok (rowD d) w := by
  unfold isAgg
  simp only [Sem.run_bind, run_underlying h, Result.andThen_ok]
  cases d <;> rfl
theorem Yields.ld {x : PV} {a : Addr} {v : Value} (hx : x.val T = some (.pointer (some a))) (hc : Cell w0 S a v) : Yields P w0 n (.ld x) T S v := by
  intro o ac w hco hs hr
  obtain ⟨t, y, ho, rfl, hagg⟩ := cOp_spec P hco
  obtain ⟨d, hu, hd⟩ := aggOf_none hagg
  have hcell := hr.cell hc
  simp only [execOp, ho, hs.eval hx, Instr.loadAt, Instr.sureAddr, loadVar]
  simp [run_isAgg hu, hd, load, Sem.run, hcell]
theorem Yields.ldA {x : PV} {a : Addr} {m : Nat} {cs : List Value} (hx : x.val T = some (.pointer (some a))) (hl : cs.length = m) (hc : ∀ j v, cs[j]? = some v → Cell w0 S (a.add j) v) :
    Yields P w0 n (.ldA m x) T S (.agg cs.toArray) := by
  intro o ac w hco hs hr
  obtain ⟨t, y, ho, rfl, hagg⟩ := cOp_spec P hco
  obtain ⟨d, i, hu, hd, hi, hsz⟩ := aggOf_some hagg
  have hload := run_loadCells_list (P := P) w a cs (fun j v hv => hr.cell (hc j v hv))
  simp only [execOp, ho, hs.eval hx, Instr.loadAt, Instr.sureAddr, loadVar]
  rw [hl] at hload
  simp [run_isAgg hu, hd, sizeOf, typeInfo, program, hi, hsz, hload, Sem.run]
theorem Yields.ixS {sz : Nat} {x i : PV} {a : Addr} {len cap : Nat} {k : IntKind} {j : Int} (hx : x.val T = some (.slice (some a) len cap)) (hi : i.val T = some (.int k j)) (h0 : 0 ≤ j) (h1 : j < len) :
    Yields P w0 n (.ixS sz x i) T S (.pointer (some (a.add (j.toNat * sz)))) := by
  intro o ac w hco hs hr
  obtain ⟨t, b, c, e, ie, ho, rfl, rfl, hu, hie, rfl⟩ := cOp_spec P hco
  simp only [execOp, ho, hs.eval hx, hs.eval hi, Instr.indexAt]
  simp [asIntOf, run_underlying hu, h0, h1, sizeOf, typeInfo, program, hie, Sem.run]
theorem Yields.ixStr {x i : PV} {s : ByteArray} {k : IntKind} {j : Nat} {b : UInt8} (hx : x.val T = some (.string s)) (hi : i.val T = some (.int k j)) (hb : s[j]? = some b) :
    Yields P w0 n (.ixStr x i) T S (.int .u8 b.toNat) := by
  intro o ac w hco hs hr
  obtain ⟨t, y, z, ho, rfl, rfl, hu⟩ := cOp_spec P hco
  simp only [execOp, ho, hs.eval hx, hs.eval hi, Instr.index]
  simp [asIntOf, run_underlying hu, hb]

end
end Go.SL
