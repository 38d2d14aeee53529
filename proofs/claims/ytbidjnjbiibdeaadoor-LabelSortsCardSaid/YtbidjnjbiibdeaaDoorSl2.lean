/- Code in a small form that the kernel computes out of a function's own; what a walk over it owes. -/
import Derived.Test.YtbidjnjbiibdeaaDoorSl1
set_option linter.unusedVariables false
set_option linter.unusedSimpArgs false
namespace Go.SL
open Go.RowKit

/-! ### operations in a small form -/
/-- the kind of a plain cell -/
inductive CK where
  | int (k : IntKind)
  | str
  | bool
/-- further operations -/
inductive MO where
  | other
  | neg (x : PV)
  | slAr (len sz : Nat) (x : PV) (lo hi : Option PV)
  | mkI (t : TypeId) (x : PV)
  | eqI (neg : Bool) (x : PV)
  | eqJ (neg : Bool) (tys : List (TypeId × IntKind)) (x y : PV)
  | slNil (neg : Bool) (x : PV)
  | cvS (x : PV)
  | rngS (x : PV)
  | nxtS (x : PV)
  | clr (E sz : Nat) (zero : Value) (x : PV)
  | xc (row : Nat) (args : List PV)
  | uss (e : TypeId) (x y : PV)
  | usd (x : PV)
  | eqD (neg : Bool) (t : TypeId) (sh : List CK) (x y : PV)
  | bldA (zero : List Value) (parts : List (Nat × Nat × PV))
inductive PO where
  | mov (x : PV)
  | bin (op : BinOp) (x y : PV)
  | binB (op : BinOp) (x y : PV)
  | not (x : PV)
  | cvt (k : IntKind) (x : PV)
  | pick (c a b : PV)
  | ld (x : PV)
  | ldA (n : Nat) (x : PV)
  | st (sz : Nat) (x v : PV)
  | fa (off : Nat) (x : PV)
  | fld (off : Nat) (x : PV)
  | fldA (off n : Nat) (x : PV)
  | ixS (sz : Nat) (x i : PV)
  | ixStr (x i : PV)
  | lenS (x : PV)
  | lenStr (x : PV)
  | lenM (x : PV)
  | slS (sz : Nat) (x : PV) (lo hi : Option PV)
  | slStr (x : PV) (lo hi : Option PV)
  | build (zero : List Value) (parts : List (Nat × Nat × PV))
  | bsl (E : TypeId) (zero : List Value) (len : Nat) (parts : List (Nat × Nat × PV))
  | mkS (t E sz bytes : Nat) (zero : Value) (l c : PV)
  | mkM
  | lookS (zero : Value) (ok : Bool) (m k : PV)
  | updS (m k v : PV)
  | ext (i : Nat) (x : PV)
  | app (t E sz bytes : Nat) (zero : Value) (s x : PV)
  | mnx (mx : Bool) (xs : List PV)
  | call (f : FuncId) (args : List PV)
  | eqA (neg : Bool) (t : TypeId) (sh : List CK) (x y : PV)
  | al (E : TypeId) (zero : List Value)
  | bx (E : TypeId) (x : PV)
  | nilc (x : PV)
  | eqP (neg : Bool) (x y : PV)
  | strOf (x : PV)
  | bytesOf (E : TypeId) (x : PV)
  | appStr (t u E bytes : Nat) (zero : Value) (s x : PV)
  | slA (len : Nat) (x : PV)
  | ixA (len sz : Nat) (x i : PV)
  | callv (f : PV) (args : List PV)
  | mkF (f : FuncId) (caps : List PV)
  | bsl0 (E : TypeId)
  | cpy (E sz : Nat) (d s : PV)
  | more (o : MO)

structure PI where
  d : Option Nat
  g : Option (Nat × Bool)
  o : PO

inductive PC where
  | skip
  | ops (l : List PI)
  | quiet (k : Nat) (l : List PI)
  | quiet2 (p k : Nat) (l : List PI)
  | seq (a b : PC)
  | cond (x : PV) (a b : PC)
  | block (id : Nat) (c : PC)
  | loop (c : PC)
  | exit (id : Nat)
  | ret

section comp
variable (P : Program)

def aggOf (t : TypeId) : Option (Option Nat) :=
  match P.underlying t with
  | some (.struct _) | some (.array _ _) => (P.info? t).map fun i => some i.size
  | some _ => some none
  | none => none

def plainB (t : TypeId) : Bool := match P.underlying t with | some (.int _) | some .string => true | _ => false
def boolB (t : TypeId) : Bool := match P.underlying t with | some .bool => true | _ => false

def ptrB (t : TypeId) : Bool := match P.underlying t with | some (.pointer _) => true | _ => false

def partsAt (place : Nat → Option (Nat × Nat)) (parts : List (Nat × Operand)) : Option (List (Nat × Nat × PV)) :=
  parts.mapM fun (i, x) => (place i).map fun (off, size) => (off, size, cV x)

def placesOf (P : Program) (fs : List Field) : Option (List (Nat × Nat)) := fs.mapM fun f => (P.info? f.type).map fun i => (f.offset, i.size)
def fnOk (f : FuncId) : Bool := match P.funcs[f]? with | some fn => fn.name != "runtime.NumGoroutine" && fn.body.isSome | none => false

/-- the types whose values are plain integers that '==' compares -/
def intTys (P : Program) : List (TypeId × IntKind) := (List.range P.types.size).filterMap fun t => match P.underlying t, P.info? t with
  | some (.int k), some i => if i.comparable then some (t, k) else none
  | _, _ => none
theorem intTys_mem {P : Program} {t : TypeId} {k : IntKind} (h : (t, k) ∈ intTys P) : P.underlying t = some (.int k) ∧ ∃ i, P.info? t = some i ∧ i.comparable = true := by
  simp only [intTys, List.mem_filterMap] at h
  obtain ⟨t', _, h⟩ := h
  split at h
  · rename_i k' i h1 h2
    split at h
    · rename_i hc
      simp only [Option.some.injEq, Prod.mk.injEq] at h
      obtain ⟨rfl, rfl⟩ := h
      exact ⟨h1, i, h2, hc⟩
    · cases h
  · cases h

def ckOf (t : TypeId) : Option CK := match P.underlying t with | some (.int k) => some (.int k) | some .string => some .str | some .bool => some .bool | _ => none
/-- a struct all of whose fields are plain cells, in order -/
def flatFrom : Nat → List Field → Option (List CK)
  | _, [] => some []
  | i, f :: fs => match ckOf P f.type, flatFrom (i + 1) fs with
    | some c, some cs => if f.offset = i ∧ f.name ≠ "_" then some (c :: cs) else none
    | _, _ => none
def flatOf (t : TypeId) : Option (List CK) := match P.underlying t with
  | some (.struct fs) => if P.stoodInHeld t = false ∧ P.eqGuardType P.depth t = false then flatFrom P 0 fs.toList else none
  | _ => none
/-- functions without a Go body that are known here -/
def rowOf : Nat → String
  | 0 => "internal/bytealg.IndexByteString"
  | 1 => "internal/bytealg.CountString"
  | _ => "internal/bytealg.abigen_runtime_cmpstring"
def rowCode (s : String) : Option Nat := if s = rowOf 0 then some 0 else if s = rowOf 1 then some 1 else if s = rowOf 2 then some 2 else none
theorem rowCode_spec {s : String} {k : Nat} (h : rowCode s = some k) : s = rowOf k := by
  unfold rowCode at h
  split at h
  · obtain rfl := Option.some.inj h; assumption
  · split at h
    · obtain rfl := Option.some.inj h; assumption
    · split at h
      · obtain rfl := Option.some.inj h; assumption
      · cases h
def structQ (g : TypeId → Option (List CK)) : Nat → List Field → Option (List CK)
  | _, [] => some []
  | off, f :: fs => match g f.type with
    | some s => if f.offset = off ∧ P.cellsOf f.type = s.length ∧ f.name ≠ "_" then (structQ g (off + s.length) fs).map (s ++ ·) else none
    | none => none
/-- the plain cells of a value of many parts that '==' goes through -/
def deepQ : Nat → TypeId → Option (List CK)
  | 0, _ => none
  | d + 1, t => match ckOf P t with
    | some c => some [c]
    | none => match P.underlying t with
      | some (.struct fs) => if P.stoodInHeld t = false then structQ P (deepQ d) 0 fs.toList else none
      | some (.array n e) => match deepQ d e with
        | some s => if P.cellsOf e = s.length then some ((List.replicate n s).flatten) else none
        | none => none
      | _ => none
def constNil : Operand → Nat
  | .const .nilIface => 1
  | .const (.slice none 0 0) => 2
  | _ => 0
def cOp0 (o : Oper) : Option PO :=
  match o.op with
  | .move x => some (.mov (cV x))
  | .assign x => some (.mov (cV x))
  | .binOp op t x y _ => match plainB P t, boolB P t with
    | true, _ => some (.bin op (cV x) (cV y))
    | false, true => some (.binB op (cV x) (cV y))
    | _, _ => match flatOf P t with
      | some sh => match op with
        | .eql => some (.eqA false t sh (cV x) (cV y))
        | .neq => some (.eqA true t sh (cV x) (cV y))
        | _ => none
      | none => if ptrB P t then match op with
        | .eql => some (.eqP false (cV x) (cV y))
        | .neq => some (.eqP true (cV x) (cV y))
        | _ => none
        else match P.underlying t with
          | some (.interface _) => if constNil y = 1 then match op with
            | .eql => some (.more (.eqI false (cV x)))
            | .neq => some (.more (.eqI true (cV x)))
            | _ => none
            else match op with
            | .eql => some (.more (.eqJ false (intTys P) (cV x) (cV y)))
            | .neq => some (.more (.eqJ true (intTys P) (cV x) (cV y)))
            | _ => none
          | some (.slice _) => if constNil y = 2 then match op with
            | .eql => some (.more (.slNil false (cV x)))
            | .neq => some (.more (.slNil true (cV x)))
            | _ => none
            else none
          | some (.struct _) | some (.array _ _) => match deepQ P 8 t with
            | some sh => if P.eqGuardType P.depth t = false then match op with
              | .eql => some (.more (.eqD false t sh (cV x) (cV y)))
              | .neq => some (.more (.eqD true t sh (cV x) (cV y)))
              | _ => none
              else none
            | none => none
          | _ => none
  | .unOp .not _ x => some (.not (cV x))
  | .unOp .neg _ x => some (.more (.neg (cV x)))
  | .convert s t x => match P.underlying s, P.underlying t with
    | some (.int _), some (.int k) => some (.cvt k (cV x))
    | some (.slice e), some .string => match P.underlying e with
      | some (.int .u8) => some (.strOf (cV x))
      | _ => none
    | some .string, some (.slice e) => match P.underlying e with
      | some (.int .u8) => some (.bytesOf e (cV x))
      | _ => none
    | some (.slice _), some (.slice e) => if s = t then match P.underlying e with
      | some (.int .u8) => some (.more (.cvS (cV x)))
      | _ => none
      else none
    | _, _ => none
  | .pick c a b => some (.pick (cV c) (cV a) (cV b))
  | .load t x => match aggOf P t with
    | some none => some (.ld (cV x))
    | some (some n) => some (.ldA n (cV x))
    | none => none
  | .store t x v => match P.info? t with
    | some i => some (.st i.size (cV x) (cV v))
    | none => none
  | .fieldAddr s x f => match P.underlying s with
    | some (.struct fs) => match fs[f]? with
      | some f => match P.info? f.type with
        | some fi => if fi.size = 0 then none else some (.fa f.offset (cV x))
        | none => none
      | none => none
    | _ => none
  | .field s x f => match P.underlying s with
    | some (.struct fs) => match fs[f]? with
      | some f => match aggOf P f.type with
        | some none => some (.fld f.offset (cV x))
        | some (some n) => some (.fldA f.offset n (cV x))
        | none => none
      | none => none
    | _ => none
  | .indexAddr t x i => match P.underlying t with
    | some (.slice e) => match P.info? e with
      | some ie => some (.ixS ie.size (cV x) (cV i))
      | none => none
    | some (.array n e) => match P.info? e with
      | some ie => some (.ixA n ie.size (cV x) (cV i))
      | none => none
    | _ => none
  | .index t x i => match P.underlying t with
    | some .string => some (.ixStr (cV x) (cV i))
    | _ => none
  | .slice t x lo hi none => match P.underlying t with
    | some (.slice e) => match P.info? e with
      | some ie => some (.slS ie.size (cV x) (lo.map cV) (hi.map cV))
      | none => none
    | some .string => some (.slStr (cV x) (lo.map cV) (hi.map cV))
    | some (.array n e) => match lo, hi with
      | none, none => match P.info? e with
        | some _ => some (.slA n (cV x))
        | none => none
      | lo, hi => match P.info? e with
        | some ie => some (.more (.slAr n ie.size (cV x) (lo.map cV) (hi.map cV)))
        | none => none
    | _ => none
  | .build t parts => match P.underlying t, P.info? t with
    | some (.struct fs), some i => match i.zero, placesOf P fs.toList with
      | some z, some ps => match partsAt (fun j => ps[j]?) parts.toList with
        | some l => some (.build z.cells.toList l)
        | none => none
      | _, _ => none
    | some (.array _ e), some i => match i.zero, P.info? e with
      | some z, some ie => match partsAt (fun j => some (j * ie.size, ie.size)) parts.toList with
        | some l => some (.more (.bldA z.cells.toList l))
        | none => none
      | _, _ => none
    | _, _ => none
  | .buildSlice t len parts => match P.underlying t with
    | some (.slice e) => match P.info? e with
      | some i => match i.zero with
        | some z => if len * i.size ≤ 16777216 ∧ len * i.size ≠ 0 then
            match partsAt (fun j => some (j * i.size, i.size)) parts.toList with
            | some l => some (.bsl e ((Array.range (len * i.size)).map (z.cells[· % z.cells.size]!)).toList len l)
            | none => none
          else if len = 0 then match parts.toList with
            | [] => some (.bsl0 e)
            | _ => none
          else none
        | none => none
      | none => none
    | _ => none
  | .makeSlice t l c => match P.underlying t with
    | some (.slice e) => match P.info? e with
      | some i => match i.zero with
        | some z => if z.cells.size = i.size ∧ 0 < i.size then some (.mkS t e i.size i.bytes z (cV l) (cV c)) else none
        | none => none
      | none => none
    | _ => none
  | .makeMap t none => some .mkM
  | .lookup t m k ok => match P.underlying t with
    | some (.map kt et) => match P.underlying kt with
      | some .string => match P.info? et with
        | some i => match i.zero with
          | some z => some (.lookS z ok (cV m) (cV k))
          | none => none
        | none => none
      | _ => none
    | _ => none
  | .mapUpdate t m k v => match P.underlying t with
    | some (.map kt _) => match P.underlying kt with
      | some .string => some (.updS (cV m) (cV k) (cV v))
      | _ => none
    | _ => none
  | .extract x i => some (.ext i (cV x))
  | .alloc e => match P.info? e with
    | some i => match i.zero with
      | some z => some (.al e z.cells.toList)
      | none => none
    | none => none
  | .box e x => some (.bx e (cV x))
  | .nilCheck x => some (.nilc (cV x))
  | .makeInterface t x => match P.underlying t with
    | some (.interface _) => none
    | some _ => some (.more (.mkI t (cV x)))
    | none => none
  | .range t x => match P.underlying t with
    | some .string => some (.more (.rngS (cV x)))
    | _ => none
  | .next x true => some (.more (.nxtS (cV x)))
  | .makeFunc (.func f) first caps => match first.toList with
    | [] => some (.mkF f (caps.toList.map cV))
    | _ => none
  | .call c =>
    match c.callee with
    | .builtin .len => match c.argTypes[0]?, c.args[0]? with
      | some t, some x => match P.underlying t with
        | some (.slice _) => some (.lenS (cV x))
        | some .string => some (.lenStr (cV x))
        | some (.map _ _) => some (.lenM (cV x))
        | _ => none
      | _, _ => none
    | .builtin .min => some (.mnx false (c.args.toList.map cV))
    | .builtin .max => some (.mnx true (c.args.toList.map cV))
    | .builtin .append => match c.argTypes.toList, c.args.toList with
      | [t, u], [s, x] => if t = u then match P.underlying t with
          | some (.slice e) => match P.info? e with
            | some i => match i.zero with
              | some z => if z.cells.size = i.size ∧ 0 < i.size then some (.app t e i.size i.bytes z (cV s) (cV x)) else none
              | none => none
            | none => none
          | _ => none
        else match P.underlying t, P.underlying u with
          | some (.slice e), some .string => match P.info? e with
            | some i => match i.zero with
              | some z => if z.cells.size = i.size ∧ i.size = 1 then some (.appStr t u e i.bytes z (cV s) (cV x)) else none
              | none => none
            | none => none
          | _, _ => none
      | _, _ => none
    | .builtin .unsafeString => match c.argTypes.toList, c.args.toList with
      | [t, _], [x, y] => match P.underlying t with
        | some (.pointer e) => if P.cellsOf e = 1 then some (.more (.uss e (cV x) (cV y))) else none
        | _ => none
      | _, _ => none
    | .builtin .unsafeSliceData => match c.args.toList with
      | [x] => some (.more (.usd (cV x)))
      | _ => none
    | .builtin .clear => match c.argTypes.toList, c.args.toList with
      | [t], [x] => match P.underlying t with
        | some (.slice e) => match P.info? e with
          | some i => match i.zero with
            | some z => if z.cells.size = i.size ∧ 0 < i.size then some (.more (.clr e i.size z (cV x))) else none
            | none => none
          | none => none
        | _ => none
      | _, _ => none
    | .builtin .copy => match c.argTypes.toList, c.args.toList with
      | [t, _], [d, s] => match P.underlying t with
        | some (.slice e) => match P.info? e with
          | some i => some (.cpy e i.size (cV d) (cV s))
          | none => none
        | _ => none
      | _, _ => none
    | .value (.func f) => if fnOk P f then some (.call f (c.args.toList.map cV)) else match P.funcs[f]? with
      | some fn => if fn.body.isNone && fn.origin == "" && fn.name != "runtime.NumGoroutine" then match rowCode fn.name with
        | some k => some (.more (.xc k (c.args.toList.map cV)))
        | none => none
        else none
      | none => none
    | .value (.tmp j) => some (.callv (cV (.tmp j)) (c.args.toList.map cV))
    | _ => none
  | _ => none
def cOp (o : Oper) : Option PO := match cOp0 P o with | some po => some po | none => some (.more .other)

/-- what the small form says of the operation -/
def Spec (o : Oper) : PO → Prop
  | .mov x => (∃ y, o.op = .move y ∧ x = cV y) ∨ (∃ y, o.op = .assign y ∧ x = cV y)
  | .bin op x y => ∃ t a b u, o.op = .binOp op t a b u ∧ x = cV a ∧ y = cV b ∧ plainB P t = true
  | .binB op x y => ∃ t a b u, o.op = .binOp op t a b u ∧ x = cV a ∧ y = cV b ∧ boolB P t = true
  | .not x => ∃ t a, o.op = .unOp .not t a ∧ x = cV a
  | .cvt k x => ∃ s t a j, o.op = .convert s t a ∧ x = cV a ∧ P.underlying s = some (.int j) ∧ P.underlying t = some (.int k)
  | .pick c a b => ∃ c2 a2 b2, o.op = .pick c2 a2 b2 ∧ c = cV c2 ∧ a = cV a2 ∧ b = cV b2
  | .ld x => ∃ t y, o.op = .load t y ∧ x = cV y ∧ aggOf P t = some none
  | .ldA n x => ∃ t y, o.op = .load t y ∧ x = cV y ∧ aggOf P t = some (some n)
  | .st sz x v => ∃ t y u i, o.op = .store t y u ∧ x = cV y ∧ v = cV u ∧ P.info? t = some i ∧ i.size = sz
  | .fa off x => ∃ s y j fs f fi, o.op = .fieldAddr s y j ∧ x = cV y ∧ P.underlying s = some (.struct fs) ∧ fs[j]? = some f ∧ f.offset = off ∧ P.info? f.type = some fi ∧ fi.size ≠ 0
  | .fld off x => ∃ s y j fs f, o.op = .field s y j ∧ x = cV y ∧ P.underlying s = some (.struct fs) ∧ fs[j]? = some f ∧ f.offset = off ∧ aggOf P f.type = some none
  | .fldA off n x => ∃ s y j fs f, o.op = .field s y j ∧ x = cV y ∧ P.underlying s = some (.struct fs) ∧ fs[j]? = some f ∧ f.offset = off ∧ aggOf P f.type = some (some n)
  | .ixS sz x i => ∃ t a b e ie, o.op = .indexAddr t a b ∧ x = cV a ∧ i = cV b ∧ P.underlying t = some (.slice e) ∧ P.info? e = some ie ∧ ie.size = sz
  | .ixStr x i => ∃ t a b, o.op = .index t a b ∧ x = cV a ∧ i = cV b ∧ P.underlying t = some .string
  | .lenS x => ∃ t u a c, o.op = .call c ∧ c.callee = .builtin .len ∧ c.argTypes[0]? = some t ∧ c.args[0]? = some a ∧ x = cV a ∧ P.underlying t = some (.slice u)
  | .lenStr x => ∃ t a c, o.op = .call c ∧ c.callee = .builtin .len ∧ c.argTypes[0]? = some t ∧ c.args[0]? = some a ∧ x = cV a ∧ P.underlying t = some .string
  | .lenM x => ∃ t k v a c, o.op = .call c ∧ c.callee = .builtin .len ∧ c.argTypes[0]? = some t ∧ c.args[0]? = some a ∧ x = cV a ∧ P.underlying t = some (.map k v)
  | .slS sz x lo hi => ∃ t a l h e ie, o.op = .slice t a l h none ∧ x = cV a ∧ lo = l.map cV ∧ hi = h.map cV ∧ P.underlying t = some (.slice e) ∧ P.info? e = some ie ∧ ie.size = sz
  | .slStr x lo hi => ∃ t a l h, o.op = .slice t a l h none ∧ x = cV a ∧ lo = l.map cV ∧ hi = h.map cV ∧ P.underlying t = some .string
  | .mkS t E sz bytes zero l c => ∃ a b i, o.op = .makeSlice t a b ∧ l = cV a ∧ c = cV b ∧ P.underlying t = some (.slice E) ∧ P.info? E = some i ∧ i.zero = some zero ∧ i.size = sz ∧ i.bytes = bytes ∧ zero.cells.size = sz ∧ 0 < sz
  | .mkM => ∃ t, o.op = .makeMap t none
  | .lookS zero ok m k => ∃ t a b kt et i, o.op = .lookup t a b ok ∧ m = cV a ∧ k = cV b ∧ P.underlying t = some (.map kt et) ∧ P.underlying kt = some .string ∧ P.info? et = some i ∧ i.zero = some zero
  | .updS m k v => ∃ t a b u kt et, o.op = .mapUpdate t a b u ∧ m = cV a ∧ k = cV b ∧ v = cV u ∧ P.underlying t = some (.map kt et) ∧ P.underlying kt = some .string
  | .ext i x => ∃ a, o.op = .extract a i ∧ x = cV a
  | .app t E sz bytes zero s x => ∃ a b c i, o.op = .call c ∧ c.callee = .builtin .append ∧ c.argTypes = #[t, t] ∧ c.args = #[a, b] ∧ s = cV a ∧ x = cV b ∧ P.underlying t = some (.slice E) ∧ P.info? E = some i ∧ i.zero = some zero ∧ i.size = sz ∧ i.bytes = bytes ∧ zero.cells.size = sz ∧ 0 < sz
  | .mnx mx xs => ∃ c, o.op = .call c ∧ c.callee = .builtin (if mx then .max else .min) ∧ xs = c.args.toList.map cV
  | .eqA neg t sh x y => ∃ a b u, o.op = .binOp (if neg then .neq else .eql) t a b u ∧ x = cV a ∧ y = cV b ∧ flatOf P t = some sh
  | .al E zero => ∃ i z, o.op = .alloc E ∧ P.info? E = some i ∧ i.zero = some z ∧ zero = z.cells.toList
  | .bx E x => ∃ a, o.op = .box E a ∧ x = cV a
  | .nilc x => ∃ a, o.op = .nilCheck a ∧ x = cV a
  | .eqP neg x y => ∃ t a b u, o.op = .binOp (if neg then .neq else .eql) t a b u ∧ x = cV a ∧ y = cV b ∧ ptrB P t = true
  | .strOf x => ∃ s t a e, o.op = .convert s t a ∧ x = cV a ∧ P.underlying s = some (.slice e) ∧ P.underlying t = some .string ∧ P.underlying e = some (.int .u8)
  | .bytesOf E x => ∃ s t a, o.op = .convert s t a ∧ x = cV a ∧ P.underlying s = some .string ∧ P.underlying t = some (.slice E) ∧ P.underlying E = some (.int .u8)
  | .appStr t u E bytes zero s x => ∃ a b c i, o.op = .call c ∧ c.callee = .builtin .append ∧ c.argTypes = #[t, u] ∧ c.args = #[a, b] ∧ s = cV a ∧ x = cV b ∧ P.underlying t = some (.slice E) ∧ P.underlying u = some .string ∧ P.info? E = some i ∧ i.zero = some zero ∧ i.bytes = bytes ∧ zero.cells.size = i.size ∧ i.size = 1
  | .slA len x => ∃ t a e ie, o.op = .slice t a none none none ∧ x = cV a ∧ P.underlying t = some (.array len e) ∧ P.info? e = some ie
  | .ixA len sz x i => ∃ t a b e ie, o.op = .indexAddr t a b ∧ x = cV a ∧ i = cV b ∧ P.underlying t = some (.array len e) ∧ P.info? e = some ie ∧ ie.size = sz
  | .callv f args => ∃ c y, o.op = .call c ∧ c.callee = .value y ∧ f = cV y ∧ args = c.args.toList.map cV
  | .mkF f caps => ∃ fi cs, o.op = .makeFunc (.func f) fi cs ∧ fi.toList = [] ∧ caps = cs.toList.map cV
  | .bsl0 E => ∃ t l qs i, o.op = .buildSlice t l qs ∧ l = 0 ∧ qs.toList = [] ∧ P.underlying t = some (.slice E) ∧ P.info? E = some i
  | .more (.other) => True
  | .more (.neg x) => ∃ t a, o.op = .unOp .neg t a ∧ x = cV a
  | .more (.slAr len sz x lo hi) => ∃ t a l h e ie, o.op = .slice t a l h none ∧ x = cV a ∧ lo = l.map cV ∧ hi = h.map cV ∧ P.underlying t = some (.array len e) ∧ P.info? e = some ie ∧ ie.size = sz
  | .more (.mkI t x) => ∃ a d, o.op = .makeInterface t a ∧ x = cV a ∧ P.underlying t = some d ∧ ∀ ms, d ≠ .interface ms
  | .more (.eqI neg x) => ∃ t a b u ms, o.op = .binOp (if neg then .neq else .eql) t a b u ∧ x = cV a ∧ constNil b = 1 ∧ P.underlying t = some (.interface ms)
  | .more (.eqJ neg tys x y) => ∃ t a b u ms, o.op = .binOp (if neg then .neq else .eql) t a b u ∧ x = cV a ∧ y = cV b ∧ tys = intTys P ∧ P.underlying t = some (.interface ms)
  | .more (.slNil neg x) => ∃ t a b u e, o.op = .binOp (if neg then .neq else .eql) t a b u ∧ x = cV a ∧ constNil b = 2 ∧ P.underlying t = some (.slice e)
  | .more (.cvS x) => ∃ s t a e, o.op = .convert s t a ∧ x = cV a ∧ s = t ∧ P.underlying t = some (.slice e) ∧ P.underlying e = some (.int .u8)
  | .more (.rngS x) => ∃ t a, o.op = .range t a ∧ x = cV a ∧ P.underlying t = some .string
  | .more (.nxtS x) => ∃ a, o.op = .next a true ∧ x = cV a
  | .more (.clr E sz zero x) => ∃ t a c i, o.op = .call c ∧ c.callee = .builtin .clear ∧ c.argTypes = #[t] ∧ c.args = #[a] ∧ x = cV a ∧ P.underlying t = some (.slice E) ∧ P.info? E = some i ∧ i.zero = some zero ∧ i.size = sz ∧ zero.cells.size = sz ∧ 0 < sz
  | .more (.uss e x y) => ∃ t u c a b, o.op = .call c ∧ c.callee = .builtin .unsafeString ∧ c.argTypes = #[t, u] ∧ c.args = #[a, b] ∧ x = cV a ∧ y = cV b ∧ P.underlying t = some (.pointer e) ∧ P.cellsOf e = 1
  | .more (.usd x) => ∃ c a, o.op = .call c ∧ c.callee = .builtin .unsafeSliceData ∧ c.args = #[a] ∧ x = cV a
  | .more (.eqD neg t sh x y) => ∃ a b u, o.op = .binOp (if neg then .neq else .eql) t a b u ∧ x = cV a ∧ y = cV b ∧ deepQ P 8 t = some sh ∧ P.eqGuardType P.depth t = false ∧ ∃ d, P.underlying t = some d ∧ (match d with | .struct _ | .array _ _ => true | _ => false) = true
  | .more (.bldA zero parts) => ∃ t qs m e i ie z, o.op = .build t qs ∧ P.underlying t = some (.array m e) ∧ P.info? t = some i ∧ P.info? e = some ie ∧ i.zero = some z ∧ zero = z.cells.toList ∧ partsAt (fun j => some (j * ie.size, ie.size)) qs.toList = some parts
  | .more (.xc row args) => ∃ c f fn, o.op = .call c ∧ c.callee = .value (.func f) ∧ args = c.args.toList.map cV ∧ P.funcs[f]? = some fn ∧ fn.name = rowOf row ∧ fn.origin = "" ∧ fn.body.isNone = true ∧ (fn.name == "runtime.NumGoroutine") = false
  | .cpy E sz d s => ∃ t u a b c i, o.op = .call c ∧ c.callee = .builtin .copy ∧ c.argTypes = #[t, u] ∧ c.args = #[a, b] ∧ d = cV a ∧ s = cV b ∧ P.underlying t = some (.slice E) ∧ P.info? E = some i ∧ i.size = sz
  | .call f args => ∃ c, o.op = .call c ∧ c.callee = .value (.func f) ∧ args = c.args.toList.map cV ∧ fnOk P f = true
  | .build zero parts => ∃ t qs fs i z ps, o.op = .build t qs ∧ P.underlying t = some (.struct fs) ∧ P.info? t = some i ∧ i.zero = some z ∧ zero = z.cells.toList ∧ placesOf P fs.toList = some ps ∧ partsAt (fun j => ps[j]?) qs.toList = some parts
  | .bsl E zero len parts => ∃ t qs i z, o.op = .buildSlice t len qs ∧ P.underlying t = some (.slice E) ∧ P.info? E = some i ∧ i.zero = some z ∧ len * i.size ≤ 16777216 ∧ len * i.size ≠ 0 ∧ zero = ((Array.range (len * i.size)).map (z.cells[· % z.cells.size]!)).toList ∧ partsAt (fun j => some (j * i.size, i.size)) qs.toList = some parts

theorem toList2 {α : Type} {xs : Array α} {a b : α} (h : xs.toList = [a, b]) : xs = #[a, b] := by
  apply Array.toList_inj.1
  simpa using h
theorem toList1 {α : Type} {xs : Array α} {a : α} (h : xs.toList = [a]) : xs = #[a] := by
  apply Array.toList_inj.1
  simpa using h
set_option maxHeartbeats 32000000 in
theorem cOp0_spec {o : Oper} {po : PO} (h : cOp0 P o = some po) : Spec P o po := by
  unfold cOp0 at h
  split at h
  all_goals (repeat' (split at h))
  all_goals (first | (simp at h; done) | skip)
  all_goals (obtain rfl := Option.some.inj h; clear h)
  all_goals simp only [Spec]
  all_goals (first
    | exact .inl ⟨_, by assumption, rfl⟩
    | exact .inr ⟨_, by assumption, rfl⟩
    | skip)
  all_goals (repeat (apply Exists.intro))
  all_goals (repeat' (apply And.intro))
  all_goals (first | assumption | rfl | exact rowCode_spec (by assumption) | exact toList2 (by assumption) | exact toList2 (by simp_all) | exact toList1 (by assumption) | (simp_all; done))
theorem cOp_spec {o : Oper} {po : PO} (h : cOp P o = some po) : Spec P o po := by
  unfold cOp at h
  split at h
  · rename_i po' h'
    obtain rfl := Option.some.inj h
    exact cOp0_spec P h'
  · obtain rfl := Option.some.inj h
    trivial

def cI (n : Nat) (ops : Array Oper) (i : Nat) : Option PI :=
  match ops[i]? with
  | none => none
  | some o => match cOp P o with
    | none => none
    | some po => if dstOk n o.dst then
        match o.guard with
        | none => some ⟨o.dst, none, po⟩
        | some (j, b) => match (ops[j]?).bind (·.dst) with
          | some s => some ⟨o.dst, some (s, b), po⟩
          | none => none
      else none
def cIs (n : Nat) (ops : Array Oper) : List Nat → Option (List PI)
  | [] => some []
  | i :: r => match cI P n ops i, cIs n ops r with
    | some x, some l => some (x :: l)
    | _, _ => none

/-- what the op at j looks at, or writes, of the slots that the op at i writes, it has behind it or ahead of it by an edge -/
def ancOf (acc : List Nat) (o : Oper) : Nat := o.after.toList.foldl (fun s e => if Region.binds .any e then s ||| 2 ^ e.on ||| acc.getD e.on 0 else s) 0
def ancs (ops : List Oper) : List Nat → List Nat
  | acc => match ops with
    | [] => acc
    | o :: r => ancs r (acc ++ [ancOf acc o])

def reach (ops : Array Oper) : List Nat := ancs ops.toList []
def behind (b : List Nat) (j i : Nat) : Bool := (b.getD j 0).testBit i
/-- of two operations that no edge puts in order: neither looks at what the other writes, nor do both write one slot -/
def apartB (ops : Array Oper) : Bool :=
  let b := reach ops
  (List.range ops.size).all fun j => (List.range j).all fun i => behind b j i || match ops[i]?, ops[j]? with | some x, some y => x.apart ops y | _, _ => false
/-- moves between slots: they may come ahead of all that is not ahead of them -/
def hoistable (o : Oper) : Bool := o.guard.isNone && match o.op with | .move _ | .assign _ => true | _ => false
def hoistable? (ops : Array Oper) (i : Nat) : Bool := match ops[i]? with | some o => hoistable o | none => false
def hoistB (ops : Array Oper) : List Nat → Array Bool → Bool
  | [], _ => true
  | i :: r, L => hoistable? ops i && Region.free .any ops L i && (Region.ready .any ops L).contains i && hoistB ops r (L.setIfInBounds i true)
def hoistOf (ops : Array Oper) : List Nat → Array Bool → List Nat
  | [], _ => []
  | i :: r, L => if hoistable? ops i && Region.free .any ops L i && (Region.ready .any ops L).contains i then i :: hoistOf ops r (L.setIfInBounds i true) else hoistOf ops r L
/-- the first k operations come, in whatever order, ahead of all others (but for moves, H); those come one behind the other -/
def headB (ops : Array Oper) (H : List Nat) (k : Nat) : Bool :=
  let b := reach ops
  (List.range ops.size).all fun t => decide (t < k) || (List.range t).all fun i => H.contains i || behind b t i
/-- edges go back alone -/
def backB (ops : Array Oper) : Bool := (List.range ops.size).all fun t => match ops[t]? with | some o => o.after.all fun e => !Region.binds .any e || decide (e.on < t) | none => false
/-- how many are the head: the least count that serves -/
def headOf (ops : Array Oper) (H : List Nat) : Nat → Nat
  | 0 => ops.size
  | d + 1 => if headB ops (H.filter (· < ops.size - (d + 1))) (ops.size - (d + 1)) then ops.size - (d + 1) else headOf ops H d
def hoists (ops : Array Oper) : List Nat := hoistOf ops (List.range ops.size) (Array.replicate ops.size false)
def quietAt (ops : Array Oper) : Nat := headOf ops (hoists ops) ops.size

/-- a call all of whose followers in the head come behind it -/
def loudOp (o : Oper) : Bool := match o.op with | .call c => (match c.callee with | .value _ => true | _ => false) | _ => false
def loudAt (ops : Array Oper) : Option Nat := (List.range (quietAt ops)).find? fun p => match ops[p]? with | some o => loudOp o | none => false
def mkQ (ops : Array Oper) (l : List PI) : PC := match loudAt ops with
  | some p => if decide (p + 1 < quietAt ops) && (List.range (quietAt ops)).all fun i => decide (i ≤ p) || behind (reach ops) i p then .quiet2 p (quietAt ops) l else .quiet (quietAt ops) l
  | none => .quiet (quietAt ops) l
theorem mkQ_quiet {ops : Array Oper} {l l' : List PI} {k : Nat} (h : mkQ ops l = .quiet k l') : quietAt ops = k ∧ l = l' := by
  unfold mkQ at h
  split at h
  · split at h
    · cases h
    · cases h; exact ⟨rfl, rfl⟩
  · cases h; exact ⟨rfl, rfl⟩
theorem mkQ_quiet2 {ops : Array Oper} {l l' : List PI} {p k : Nat} (h : mkQ ops l = .quiet2 p k l') : quietAt ops = k ∧ l = l' ∧ p + 1 < k ∧ ∀ i, p < i → i < k → behind (reach ops) i p = true := by
  unfold mkQ at h
  split at h
  · split at h
    · rename_i hc
      cases h
      simp only [Bool.and_eq_true, decide_eq_true_eq, List.all_eq_true, List.mem_range, Bool.or_eq_true] at hc
      exact ⟨rfl, rfl, hc.1, fun i h1 h2 => (hc.2 i h2).resolve_left (by omega)⟩
    · cases h
  · cases h
@[simp] theorem mkQ_nskip {ops : Array Oper} {l : List PI} : (mkQ ops l = .skip) = False := by
  unfold mkQ; split <;> (try split) <;> simp
@[simp] theorem mkQ_nops {ops : Array Oper} {l : List PI} {x : List PI} : (mkQ ops l = .ops x) = False := by
  unfold mkQ; split <;> (try split) <;> simp
@[simp] theorem mkQ_nseq {ops : Array Oper} {l : List PI} {x y : PC} : (mkQ ops l = .seq x y) = False := by
  unfold mkQ; split <;> (try split) <;> simp
@[simp] theorem mkQ_ncond {ops : Array Oper} {l : List PI} {v : PV} {x y : PC} : (mkQ ops l = .cond v x y) = False := by
  unfold mkQ; split <;> (try split) <;> simp
@[simp] theorem mkQ_nblock {ops : Array Oper} {l : List PI} {i : Nat} {x : PC} : (mkQ ops l = .block i x) = False := by
  unfold mkQ; split <;> (try split) <;> simp
@[simp] theorem mkQ_nloop {ops : Array Oper} {l : List PI} {x : PC} : (mkQ ops l = .loop x) = False := by
  unfold mkQ; split <;> (try split) <;> simp
@[simp] theorem mkQ_nexit {ops : Array Oper} {l : List PI} {i : Nat} : (mkQ ops l = .exit i) = False := by
  unfold mkQ; split <;> (try split) <;> simp
@[simp] theorem mkQ_nret {ops : Array Oper} {l : List PI} : (mkQ ops l = .ret) = False := by
  unfold mkQ; split <;> (try split) <;> simp
theorem mkQ_cases (ops : Array Oper) (l : List PI) : (∃ k, mkQ ops l = .quiet k l) ∨ ∃ p k, mkQ ops l = .quiet2 p k l := by
  unfold mkQ
  split
  · split
    · exact .inr ⟨_, _, rfl⟩
    · exact .inl ⟨_, rfl⟩
  · exact .inl ⟨_, rfl⟩

def cC (n : Nat) : Code → Option PC
  | .skip => some .skip
  | .region _ ops false => (cIs P n ops (List.range ops.size)).map .ops
  | .region _ ops true => if apartB ops && backB ops && Region.noSelect ops && hoistB ops ((hoists ops).filter (· < quietAt ops)) (Array.replicate ops.size false) then (cIs P n ops (List.range ops.size)).map (mkQ ops) else none
  | .seq a b => match cC n a, cC n b with | some x, some y => some (.seq x y) | _, _ => none
  | .cond c x y => match cC n x, cC n y with | some x, some y => some (.cond (cV c) x y) | _, _ => none
  | .block id c => (cC n c).map (.block id)
  | .loop c => (cC n c).map .loop
  | .exit id => some (.exit id)
  | .ret => some .ret
  | _ => none
end comp

/-! ### what a walk owes -/
section
variable (P : Program) (w0 : World) (n : Nat)

/-- the operation gives v and turns nothing -/
def Yields (po : PO) (T : TT) (S : SS) (v : Value) : Prop :=
  ∀ o a w, cOp P o = some po → Sat n T a → Rep w0 S w → (execOp a.eval o).run P w = .ok (.value v) w
/-- the operation ends in some value and state of K -/
def OW (po : PO) (T : TT) (S : SS) (K : Value → SS → Prop) : Prop :=
  ∀ o a w (Q : Exit → Act → World → Prop), cOp P o = some po → Sat n T a → Rep w0 S w → o.wp P a w (fun a' w' => ∃ v S', a' = a.put o.dst v ∧ Rep w0 S' w' ∧ K v S') Q
def OL (l : List PI) (T : TT) (S : SS) (K : TT → SS → Prop) : Prop :=
  ∀ (ops : Array Oper) (is : List Nat) a w (Q : Exit → Act → World → Prop), cIs P n ops is = some l → Sat n T a → Rep w0 S w →
    (∀ a' w' T' S', Sat n T' a' → Rep w0 S' w' → K T' S' → Q .normal a' w') → wpOps P ops Q is a w
def PW (pc : PC) (T : TT) (S : SS) (Q : Exit → TT → SS → Prop) : Prop :=
  ∀ c, cC P n c = some pc → ∀ a w, Sat n T a → Rep w0 S w → c.wp P (fun e a' w' => ∃ T' S', Sat n T' a' ∧ Rep w0 S' w' ∧ Q e T' S') a w
/-- a function's contract -/
def FC (k : FuncId) (args : List Value) (S : SS) (post : Value → SS → Prop) : Prop :=
  ∀ w, Rep w0 S w → Calls P k args.toArray w fun e w' => ∃ v S', e = .returned v ∧ Rep w0 S' w' ∧ post v S'
end

section rules
variable {P : Program} {w0 : World} {n : Nat} {T : TT} {S : SS}

theorem FC.mono {k : FuncId} {args : List Value} {post post' : Value → SS → Prop} (h : FC P w0 k args S post) (hp : ∀ v S', post v S' → post' v S') : FC P w0 k args S post' :=
  fun w hw => (h w hw).mono fun _ _ ⟨v, S', e, r, p⟩ => ⟨v, S', e, r, hp _ _ p⟩

theorem OW.of_yields {po : PO} {v : Value} (h : Yields P w0 n po T S v) : OW P w0 n po T S (fun v' S' => v' = v ∧ S' = S) := by
  intro o a w Q hc hs hr
  unfold Oper.wp
  rw [h o a w hc hs hr]
  exact ⟨v, S, rfl, hr, rfl, rfl⟩
theorem OW.mono {po : PO} {K K' : Value → SS → Prop} (h : OW P w0 n po T S K) (hk : ∀ v S', K v S' → K' v S') : OW P w0 n po T S K' := by
  intro o a w Q hc hs hr
  exact Oper.wp_mono (fun a' w' ⟨v, S', e, r, k⟩ => ⟨v, S', e, r, hk _ _ k⟩) (h o a w Q hc hs hr)

theorem OL.nil {K : TT → SS → Prop} (h : K T S) : OL P w0 n [] T S K := by
  intro ops is a w Q hc hs hr hk
  cases is with
  | nil => exact hk a w T S hs hr h
  | cons i is =>
    simp only [cIs] at hc
    split at hc
    · simp at hc
    · simp at hc

theorem cI_spec {ops : Array Oper} {i : Nat} {x : PI} (h : cI P n ops i = some x) : ∃ o, ops[i]? = some o ∧ cOp P o = some x.o ∧ dstOk n o.dst = true ∧ o.dst = x.d ∧
    ((o.guard = none ∧ x.g = none) ∨ ∃ j b s, o.guard = some (j, b) ∧ (ops[j]?).bind (·.dst) = some s ∧ x.g = some (s, b)) := by
  unfold cI at h
  split at h
  · simp at h
  · rename_i o ho
    split at h
    · simp at h
    · rename_i po hpo
      split at h
      · rename_i hd
        split at h
        · rename_i hg
          obtain rfl := Option.some.inj h
          exact ⟨o, ho, hpo, hd, rfl, .inl ⟨hg, rfl⟩⟩
        · rename_i j b hg
          split at h
          · rename_i s hj
            obtain rfl := Option.some.inj h
            exact ⟨o, ho, hpo, hd, rfl, .inr ⟨j, b, s, hg, hj, rfl⟩⟩
          · simp at h
      · simp at h
theorem cIs_cons {ops : Array Oper} {is : List Nat} {x : PI} {l : List PI} (h : cIs P n ops is = some (x :: l)) : ∃ i r, is = i :: r ∧ cI P n ops i = some x ∧ cIs P n ops r = some l := by
  cases is with
  | nil => simp [cIs] at h
  | cons i r =>
    simp only [cIs] at h
    split at h
    · rename_i y m h1 h2
      simp only [Option.some.injEq, List.cons.injEq] at h
      obtain ⟨rfl, rfl⟩ := h
      exact ⟨i, r, rfl, h1, h2⟩
    · simp at h

/-- the guard lets the operation by -/
def gOk (T : TT) : Option (Nat × Bool) → Prop
  | none => True
  | some (s, b) => look T s = some (.bool b)
theorem Sat.yielded {a : Act} (hs : Sat n T a) {ops : Array Oper} {j s : Nat} {b : Bool} (hj : (ops[j]?).bind (·.dst) = some s) (hl : look T s = some (.bool b)) : yielded ops a.tmps j = some b := by
  have := hs.get s _ hl
  simp [Go.yielded, hj, this]
def boolOf : Value → Option Bool
  | .bool b => some b
  | _ => none
theorem Sat.yieldedV {a : Act} (hs : Sat n T a) {ops : Array Oper} {j s : Nat} {u : Value} (hj : (ops[j]?).bind (·.dst) = some s) (hl : look T s = some u) : Go.yielded ops a.tmps j = boolOf u := by
  have := hs.get s u hl
  simp only [Go.yielded, hj, Option.bind_some, this]
  cases u <;> rfl
theorem OL.cons {po : PO} {d : Option Nat} {g : Option (Nat × Bool)} {r : List PI} {K : TT → SS → Prop} {K' : Value → SS → Prop} (hgo : gOk T g) (h : OW P w0 n po T S K') (hk : ∀ v S', K' v S' → OL P w0 n r (put d v T) S' K) : OL P w0 n (⟨d, g, po⟩ :: r) T S K := by
  intro ops is a w Q hc hs hr hq
  obtain ⟨i, is, rfl, hi, hrest⟩ := cIs_cons hc
  obtain ⟨o, ho, hpo, hd, hdst, hg⟩ := cI_spec hi
  have hw : Region.wanted o (yielded ops a.tmps) = true := by
    rcases hg with ⟨hg, _⟩ | ⟨j, b, s, hg, hj, he⟩
    · simp [Region.wanted, hg]
    · simp only at he
      subst he
      simp [Region.wanted, hg, hs.yielded hj hgo]
  rw [wpOps_cons]
  unfold wpOp
  simp only [ho]
  rw [if_pos hw]
  refine .inl (Oper.wp_mono ?_ (h o a w Q hpo hs hr))
  rintro a' w' ⟨v, S', rfl, hr', hk'⟩
  have hs' := hs.put (d := o.dst) hd v
  rw [hdst] at hs' ⊢
  exact hk v S' hk' ops is _ w' Q hrest hs' hr' hq
theorem OL.det {po : PO} {d : Option Nat} {g : Option (Nat × Bool)} {r : List PI} {K : TT → SS → Prop} {v : Value} (hgo : gOk T g) (h : Yields P w0 n po T S v) (hk : OL P w0 n r (put d v T) S K) : OL P w0 n (⟨d, g, po⟩ :: r) T S K :=
  OL.cons hgo (OW.of_yields h) (by rintro _ _ ⟨rfl, rfl⟩; exact hk)
/-- an operation that its guard keeps out -/
theorem OL.off {po : PO} {d : Option Nat} {s : Nat} {b : Bool} {u : Value} {r : List PI} {K : TT → SS → Prop} (hl : look T s = some u) (hc : (boolOf u == some b) = false) (h : OL P w0 n r (put d undef T) S K) : OL P w0 n (⟨d, some (s, b), po⟩ :: r) T S K := by
  intro ops is a w Q hcs hs hr hq
  obtain ⟨i, is, rfl, hi, hrest⟩ := cIs_cons hcs
  obtain ⟨o, ho, hpo, hd, hdst, hg⟩ := cI_spec hi
  have hw : Region.wanted o (yielded ops a.tmps) = false := by
    rcases hg with ⟨_, hg⟩ | ⟨j, b', s', hg, hj, he⟩
    · simp at hg
    · simp only [Option.some.injEq, Prod.mk.injEq] at he
      obtain ⟨rfl, rfl⟩ := he
      simp only [Region.wanted, hg, hs.yieldedV hj hl]; exact hc
  rw [wpOps_cons]
  unfold wpOp
  simp only [ho]
  rw [hw]
  simp only [Bool.false_eq_true, if_false]
  have hs' := hs.put (d := o.dst) hd undef
  rw [hdst] at hs' ⊢
  exact h ops is _ w Q hrest hs' hr hq
theorem OL.sel {l : List PI} {K : TT → SS → Prop} (is : List Nat) (m : Nat) (hi : (decide is.Nodup && is.all (· < m)) = true) (h : OL P w0 n l T (SL.sel is m S) K) : OL P w0 n l T S K :=
  fun ops js a w Q hc hs hr hq => h ops js a w Q hc hs (hr.sel is m hi) hq

/-! ### code -/
theorem PW.keep {pc : PC} {T' : TT} {Q : Exit → TT → SS → Prop} (hk : Within T' T) (h : PW P w0 n pc T' S Q) : PW P w0 n pc T S Q :=
  fun c hc a w hs hr => h c hc a w (hs.keep hk.spec) hr
theorem PW.sel {pc : PC} {Q : Exit → TT → SS → Prop} (is : List Nat) (m : Nat) (hi : (decide is.Nodup && is.all (· < m)) = true) (h : PW P w0 n pc T (SL.sel is m S) Q) : PW P w0 n pc T S Q :=
  fun c hc a w hs hr => h c hc a w hs (hr.sel is m hi)
theorem PW.sub {pc : PC} {S' : SS} {Q : Exit → TT → SS → Prop} (hs : ∀ p ∈ S'.flatten, p ∈ S.flatten) (hn : (S.flatten.map Prod.fst).Nodup → (S'.flatten.map Prod.fst).Nodup) (h : PW P w0 n pc T S' Q) : PW P w0 n pc T S Q :=
  fun c hc a w hsat hr => h c hc a w hsat (hr.sub hs (hn hr.nodup))
theorem PW.mono {pc : PC} {Q Q' : Exit → TT → SS → Prop} (h : PW P w0 n pc T S Q) (hq : ∀ e T S, Q e T S → Q' e T S) : PW P w0 n pc T S Q' :=
  fun c hc a w hs hr => wp_mono (h c hc a w hs hr) fun e a' w' ⟨T', S', hs', hr', q⟩ => ⟨T', S', hs', hr', hq _ _ _ q⟩
theorem PW.skip {Q : Exit → TT → SS → Prop} (h : Q .normal T S) : PW P w0 n .skip T S Q := by
  intro c hc a w hs hr
  cases c
  case skip => exact wp_skip ⟨T, S, hs, hr, h⟩
  case region id ops dr => cases dr <;> simp [cC] at hc
  all_goals (first | (simp [cC] at hc; done) | (simp only [cC] at hc; split at hc <;> simp at hc; done))
theorem PW.ret {Q : Exit → TT → SS → Prop} (h : Q .ret T S) : PW P w0 n .ret T S Q := by
  intro c hc a w hs hr
  cases c
  case ret => exact wp_ret ⟨T, S, hs, hr, h⟩
  case region id ops dr => cases dr <;> simp [cC] at hc
  all_goals (first | (simp [cC] at hc; done) | (simp only [cC] at hc; split at hc <;> simp at hc; done))
theorem PW.exit {id : Nat} {Q : Exit → TT → SS → Prop} (h : Q (.exit id) T S) : PW P w0 n (.exit id) T S Q := by
  intro c hc a w hs hr
  cases c
  case exit id' =>
    obtain rfl : id' = id := by simpa [cC] using hc
    exact wp_exit ⟨T, S, hs, hr, h⟩
  case region id ops dr => cases dr <;> simp [cC] at hc
  all_goals (first | (simp [cC] at hc; done) | (simp only [cC] at hc; split at hc <;> simp at hc; done))
def thenK (K : TT → SS → Prop) (Q : Exit → TT → SS → Prop) : Exit → TT → SS → Prop
  | .normal => K
  | e => Q e
theorem PW.seq {x y : PC} {Q : Exit → TT → SS → Prop} (h : ∀ K : TT → SS → Prop, (∀ T' S', PW P w0 n y T' S' Q → K T' S') → PW P w0 n x T S (thenK K Q)) : PW P w0 n (.seq x y) T S Q := by
  intro c hc a w hs hr
  cases c
  case seq c1 c2 =>
    simp only [cC] at hc
    split at hc
    · rename_i x' y' h1 h2
      simp only [Option.some.injEq, PC.seq.injEq] at hc
      obtain ⟨rfl, rfl⟩ := hc
      refine wp_seq (wp_mono (h (fun T' S' => PW P w0 n y' T' S' Q) (fun _ _ h => h) c1 h1 a w hs hr) ?_)
      rintro e a' w' ⟨T', S', hs', hr', q⟩
      cases e with
      | normal => exact q c2 h2 a' w' hs' hr'
      | _ => exact ⟨T', S', hs', hr', q⟩
    · simp at hc
  case region id ops dr => cases dr <;> simp [cC] at hc
  all_goals (first | (simp [cC] at hc; done) | (simp only [cC] at hc; split at hc <;> simp at hc; done))
theorem PW.cond {v : PV} {x y : PC} {Q : Exit → TT → SS → Prop} {b : Bool} (hv : v.val T = some (.bool b)) (ht : b = true → PW P w0 n x T S Q) (hf : b = false → PW P w0 n y T S Q) : PW P w0 n (.cond v x y) T S Q := by
  intro c hc a w hs hr
  cases c
  case cond c c1 c2 =>
    simp only [cC] at hc
    split at hc
    · rename_i x' y' h1 h2
      simp only [Option.some.injEq, PC.cond.injEq] at hc
      obtain ⟨rfl, rfl, rfl⟩ := hc
      exact wp_cond_split (hs.eval hv) (fun e => ht e c1 h1 a w hs hr) (fun e => hf e c2 h2 a w hs hr)
    · simp at hc
  case region id ops dr => cases dr <;> simp [cC] at hc
  all_goals (first | (simp [cC] at hc; done) | (simp only [cC] at hc; split at hc <;> simp at hc; done))
def inBlk (id : Nat) (Q : Exit → TT → SS → Prop) : Exit → TT → SS → Prop
  | .exit j, T, S => if j = id then Q .normal T S else Q (.exit j) T S
  | e, T, S => Q e T S
theorem PW.block {id : Nat} {x : PC} {Q : Exit → TT → SS → Prop} (h : PW P w0 n x T S (inBlk id Q)) : PW P w0 n (.block id x) T S Q := by
  intro c hc a w hs hr
  cases c
  case block id' c1 =>
    simp only [cC, Option.map_eq_some_iff] at hc
    obtain ⟨x', h1, he⟩ := hc
    simp only [PC.block.injEq] at he
    obtain ⟨rfl, rfl⟩ := he
    refine wp_block (wp_mono (h c1 h1 a w hs hr) ?_)
    rintro e a' w' ⟨T', S', hs', hr', q⟩
    cases e with
    | exit j =>
      simp only [Exit.inBlock, inBlk] at q ⊢
      split <;> rename_i hj
      · rw [if_pos hj] at q; exact ⟨T', S', hs', hr', q⟩
      · rw [if_neg hj] at q; exact ⟨T', S', hs', hr', q⟩
    | _ => exact ⟨T', S', hs', hr', q⟩
  case region id ops dr => cases dr <;> simp [cC] at hc
  all_goals (first | (simp [cC] at hc; done) | (simp only [cC] at hc; split at hc <;> simp at hc; done))
theorem PW.ops {l : List PI} {Q : Exit → TT → SS → Prop} (h : OL P w0 n l T S (Q .normal)) : PW P w0 n (.ops l) T S Q := by
  intro c hc a w hs hr
  cases c
  case region id ops dr =>
    cases dr with
    | false =>
      simp only [cC, Option.map_eq_some_iff] at hc
      obtain ⟨l', h1, he⟩ := hc
      simp only [PC.ops.injEq] at he
      subst he
      exact wp_region (h ops _ a w _ h1 hs hr fun a' w' T' S' hs' hr' k => ⟨T', S', hs', hr', k⟩)
    | true =>
      simp only [cC] at hc
      split at hc
      · simp at hc
      · simp at hc
  all_goals (first | (simp [cC] at hc; done) | (simp only [cC] at hc; split at hc <;> simp at hc; done))

/-- a loop whose rounds are told by a number that goes down -/
theorem wp_loop_down {c : Code} {Q : Exit → Act → World → Prop} (I : Nat → Act → World → Prop) {m : Nat} {a : Act} {w : World} (h0 : I m a w)
    (round : ∀ m a w, I m a w → c.wp P (Exit.then (fun a' w' => ∃ k, k < m ∧ I k a' w') Q) a w) : (Code.loop c).wp P Q a w := by
  intro b k cs
  have key : ∀ m a w, I m a w → ∃ e a' w', Q e a' w' ∧ Arrives P (lone (b.at a (.code c :: .inLoop c :: k)) cs w) b k cs e a' w' := by
    intro m
    induction m using Nat.strongRecOn with
    | _ m ih =>
      intro a w hI
      obtain ⟨e, a1, w1, hq, harr⟩ := round m a w hI b (.inLoop c :: k) cs
      cases e with
      | normal =>
        obtain ⟨j, hj, hI1⟩ := hq
        obtain ⟨e2, a2, w2, hq2, harr2⟩ := ih j hj a1 w1 hI1
        exact ⟨e2, a2, w2, hq2, .of_steps (Steps.trans harr (.one step_inLoop)) harr2⟩
      | exit id => exact ⟨_, a1, w1, hq, .pass (x := .inLoop c) rfl (fun _ _ => .inl (by simp)) harr⟩
      | goto l => exact ⟨_, a1, w1, hq, .pass (x := .inLoop c) rfl (fun _ _ => .inl (by simp)) harr⟩
      | ret => exact ⟨_, a1, w1, hq, .pass (x := .inLoop c) rfl (fun _ _ => .inl (by simp)) harr⟩
      | panic ch => exact ⟨_, a1, w1, hq, .pass (x := .inLoop c) rfl (fun _ _ => .inl (by simp)) harr⟩
      | outgrown => exact ⟨_, a1, w1, hq, .pass (x := .inLoop c) rfl (fun _ _ => .inl (by simp)) harr⟩
  obtain ⟨e, a', w', hq, harr⟩ := key m a w h0
  exact ⟨e, a', w', hq, .of_steps (.one step_loop) harr⟩
theorem PW.loop {x : PC} {Q : Exit → TT → SS → Prop} (I : Nat → TT → SS → Prop) {m : Nat} (h0 : I m T S)
    (round : ∀ m T S, I m T S → PW P w0 n x T S (thenK (fun T' S' => ∃ k, k < m ∧ I k T' S') Q)) : PW P w0 n (.loop x) T S Q := by
  intro c hc a w hs hr
  cases c
  case loop c1 =>
    simp only [cC, Option.map_eq_some_iff] at hc
    obtain ⟨x', h1, he⟩ := hc
    simp only [PC.loop.injEq] at he
    subst he
    refine wp_loop_down (fun m a w => ∃ T S, Sat n T a ∧ Rep w0 S w ∧ I m T S) ⟨T, S, hs, hr, h0⟩ ?_
    rintro m a w ⟨T, S, hs, hr, hI⟩
    refine wp_mono (round m T S hI c1 h1 a w hs hr) ?_
    rintro e a' w' ⟨T', S', hs', hr', q⟩
    cases e with
    | normal => obtain ⟨k, hk, q⟩ := q; exact ⟨k, hk, T', S', hs', hr', q⟩
    | _ => exact ⟨T', S', hs', hr', q⟩
  case region id ops dr => cases dr <;> simp [cC] at hc
  all_goals (first | (simp [cC] at hc; done) | (simp only [cC] at hc; split at hc <;> simp at hc; done))

/-! ### a function -/
def argT : Nat → List Value → TT
  | _, [] => []
  | i, v :: r => (i, v) :: argT (i + 1) r
theorem look_argT {i j : Nat} {l : List Value} {v : Value} (h : look (argT i l) j = some v) : i ≤ j ∧ l[j - i]? = some v := by
  induction l generalizing i with
  | nil => simp [argT, look] at h
  | cons u r ih =>
    by_cases e : i = j
    · subst e
      simp only [argT, look_put_same] at h
      simpa using h
    · simp only [argT] at h
      rw [look_cons_ne _ _ e] at h
      obtain ⟨h1, h2⟩ := ih h
      refine ⟨by omega, ?_⟩
      obtain ⟨k, hk⟩ : ∃ k, j - i = k + 1 := ⟨j - i - 1, by omega⟩
      rw [hk, List.getElem?_cons_succ]
      rwa [show j - (i + 1) = k by omega] at h2
def resV (T : TT) : List Nat → Option Value
  | [r] => look T r
  | [] => some (.tuple #[])
  | [r, s] => match look T r, look T s with | some a, some b => some (.tuple #[a, b]) | _, _ => none
  | [r, s, t] => match look T r, look T s, look T t with | some a, some b, some c => some (.tuple #[a, b, c]) | _, _, _ => none
  | _ => none
def resOf (fn : Func) : Option (List Nat) := fn.results.toList.mapM fun | .tmp t => some t | .cell _ _ => none
/-- a function as it is known: its number, its code in the small form, its slots, the slots of its results -/
def Known (P : Program) (k : FuncId) (pc : PC) (n : Nat) (rs : List Nat) : Prop :=
  ∃ fn c, P.funcs[k]? = some fn ∧ fn.body = some c ∧ cC P fn.ntmps c = some pc ∧ fn.ntmps = n ∧ fn.results = (rs.map ResultVar.tmp).toArray

theorem results_run {fn : Func} {rs : List Nat} {tmps : Array Value} {w : World} {v : Value} {T : TT} (hr : fn.results = (rs.map ResultVar.tmp).toArray)
    (ht : ∀ i v, look T i = some v → tmps[i]? = some v) (hv : resV T rs = some v) : (results fn tmps).run P w = .ok v w := by
  match rs, hr, hv with
  | [], hr, hv =>
    simp [resV] at hv
    subst hv
    simp [results, hr]
  | [r], hr, hv =>
    simp only [resV] at hv
    simp [results, hr, ht _ _ hv]
  | [r, s], hr, hv =>
    simp only [resV] at hv
    cases h1 : look T r with
    | none => simp [h1] at hv
    | some v1 =>
      cases h2 : look T s with
      | none => simp [h1, h2] at hv
      | some v2 =>
        simp [h1, h2] at hv
        subst hv
        simp [results, hr, ht _ _ h1, ht _ _ h2]
  | [r, s, t], hr, hv =>
    simp only [resV] at hv
    cases h1 : look T r with
    | none => simp [h1] at hv
    | some v1 =>
      cases h2 : look T s with
      | none => simp [h1, h2] at hv
      | some v2 =>
        cases h3 : look T t with
        | none => simp [h1, h2, h3] at hv
        | some v3 =>
          simp [h1, h2, h3] at hv
          subst hv
          simp [results, hr, ht _ _ h1, ht _ _ h2, ht _ _ h3]
  | r :: s :: t :: u :: l, hr, hv => simp [resV] at hv
theorem argT_sat {args : List Value} (hn : args.length ≤ n) : Sat n (argT 0 args) { tmps := args.toArray ++ Array.replicate (n - args.toArray.size) undef, defers := [] } := by
  refine ⟨by simp; omega, rfl, fun i v hv => ?_⟩
  obtain ⟨_, h⟩ := look_argT hv
  have hlt : i - 0 < args.length := (List.getElem?_eq_some_iff.1 h).1
  simp at hlt
  rw [Array.getElem?_append_left (by simpa using hlt)]
  simpa using h
/-- a contract out of a walk -/
theorem FC.of {k : FuncId} {pc : PC} {rs : List Nat} {args : List Value} {post : Value → SS → Prop} (hk : Known P k pc n rs) (hn : args.length ≤ n)
    (h : PW P w0 n pc (argT 0 args) S (fun e T' S' => (e = .normal ∨ e = .ret) ∧ ∃ v, resV T' rs = some v ∧ post v S')) : FC P w0 k args S post := by
  obtain ⟨fn, c, hf, hb, hc, rfl, hres⟩ := hk
  intro w hw
  refine calls_of_wp hf hb (wp_mono (h c hc _ w (argT_sat hn) hw) ?_)
  rintro e a' w' ⟨T', S', hs', hr', he, v, hv, hp⟩
  have hrun := results_run (P := P) (w := w') hres hs'.get hv
  rcases he with rfl | rfl
  · exact ⟨hs'.defers, v, hrun, v, S', rfl, hr', hp⟩
  · exact ⟨hs'.defers, v, hrun, v, S', rfl, hr', hp⟩
end rules
end Go.SL
