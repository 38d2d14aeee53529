/- Operations on memory. -/
import Derived.Test.YtbidjnjbiibdeaaDoorE4
set_option linter.unusedVariables false
set_option linter.unusedSimpArgs false
namespace Go.SL
open Go.RowKit

def all1 (c : List Value) : Bool := c.all (·.oneCell')
def fillE (T : TT) : List Value → List (Nat × Nat × PV) → Option (List Value)
  | c, [] => some c
  | c, (off, size, x) :: r => match x.ev T with
    | some v => bif Nat.beq v.cells.toList.length size && Nat.ble (off + size) c.length then fillE T (setAt c off v.cells.toList) r else none
    | none => none
def toB : List Value → Option (List UInt8)
  | [] => some []
  | .int .u8 z :: r => if 0 ≤ z ∧ z ≤ 255 then (match toB r with | some l => some (UInt8.ofNat z.toNat :: l) | none => none) else none
  | _ :: _ => none
def madeL (z : List Value) (n : Nat) : List Value := (List.range n).map fun i => z.getD (i % z.length) undef
def strEq (a b : ByteArray) : Bool := strL a == strL b
def mgetE : List (ByteArray × Value) → ByteArray → Option Value
  | [], _ => none
  | p :: r, s => bif strEq s p.1 then some p.2 else mgetE r s
def mputE : List (ByteArray × Value) → ByteArray → Value → List (ByteArray × Value)
  | [], s, v => [(s, v)]
  | p :: r, s, v => bif strEq s p.1 then (s, v) :: r else p :: mputE r s v
def EH.obj (H : EH) (b : Nat) : Option EO := bif Nat.ble ownB b then H.tr.get (b - ownB) else none
def EH.room (H : EH) : Bool := Nat.blt H.nx bigN
def ownP (H : EH) : Value := .pointer (some ⟨ownB + H.nx, 0, none⟩)
def ownS (H : EH) (l e : Nat) : Value := .slice (some ⟨ownB + H.nx, 0, none⟩) l e
/-- the cells that a slice shows -/
def EH.shown (H : EH) (sz : Nat) : Value → Option (Nat × List Value)
  | .slice none _ _ => some (0, [])
  | .slice (some a) q e => bif Nat.beq e 3 then some (0, []) else (match H.row a (q * sz) with | some c => some (q, c) | none => none)
  | _ => none
/-- cells put behind those of a slice -/
def EH.grow (H : EH) (E sz : Nat) (s : Value) (q : Nat) (news : List Value) : Option (Value × EH) :=
  match s with
  | .slice none _ _ => bif H.room then some (ownS H q (4 * sz), H.push (.cells news E)) else none
  | .slice (some a) m e => match H.obj a.block with
    | some (.cells c E') => bif H.room && Nat.beq E E' && Nat.beq a.off 0 && Nat.ble (m * sz) c.length && (Nat.beq e 0 || Nat.beq e (4 * sz)) then some (ownS H (m + q) (4 * sz), (H.del (a.block - ownB)).push (.cells (c.take (m * sz) ++ news) E)) else none
    | _ => none
  | _ => none
def evX : MO → TT → EH → Option (Value × EH)
  | .neg x, T, H => match x.ev T with | some (.int k z) => some (.int k (k.wrap (0 - z)), H) | _ => none
  | .mkI t x, T, H => match x.ev T with | some v => some (.iface t v, H) | none => none
  | .eqI neg x, T, H => match x.ev T with | some v => (match isNilI v with | some b => some (.bool (if neg then !b else b), H) | none => none) | none => none
  | .slNil neg x, T, H => match x.ev T with | some (.slice A _ _) => some (.bool (if neg then A.isSome else A.isNone), H) | _ => none
  | .slAr len sz x lo hi, T, H => match x.ev T, evP.ovE lo T, evP.ovE hi T with
    | some (.pointer (some a)), some l, some h => bif Nat.ble ownB a.block then (match slArE len sz a (l.getD 0) (h.getD len) with | some v => some (v, H) | none => none) else none
    | _, _, _ => none
  | .cvS x, T, H => match x.ev T with
    | some (.slice (some a) l e) => bif Nat.beq e 3 then none else (match H.obj a.block with | some (.cells c E) => some (.slice (some a) l e, H.upd (a.block - ownB) (.ro c)) | _ => none)
    | _ => none
  | .rngS x, T, H => match x.ev T with | some (.string s) => bif H.room then some (ownP H, H.push (.iter s 0)) else none | _ => none
  | .nxtS x, T, H => match x.ev T with
    | some (.pointer (some a)) => (match H.obj a.block with
      | some (.iter s p) => bif Nat.beq a.off 0 then (bif Nat.blt p (strL s).length then some (.tuple #[.bool true, .int .i64 (p : Int), .int .i32 ((Utf8.decode s p).1 : Int)], H.upd (a.block - ownB) (.iter s (p + (Utf8.decode s p).2))) else some (.tuple #[.bool false], H)) else none
      | _ => none)
    | _ => none
  | .bldA zero parts, T, H => bif zero.all flatV then (match fillE T zero parts with | some c => some (.agg c.toArray, H) | none => none) else none
  | .eqD neg t sh x y, T, H => match x.ev T, y.ev T with
    | some (.agg a), some (.agg b) => (match eqL sh a.toList b.toList with | some r => some (.bool (if neg then !r else r), H) | none => none)
    | _, _ => none
  | .eqJ neg tys x y, T, H => match x.ev T, y.ev T with
    | some (.iface tx (.int k a)), some (.iface ty (.int k' b)) => bif Nat.beq tx ty then (if k = k' ∧ (tys.any fun p => Nat.beq p.1 tx && decide (p.2 = k)) = true then some (.bool (if neg then !(a == b) else (a == b)), H) else none) else some (.bool neg, H)
    | _, _ => none
  | .usd x, T, H => match x.ev T with | some (.slice (some a) l e) => bif Nat.blt 0 l && Nat.ble ownB a.block && a.spot.isNone then some (.pointer (some a), H) else none | _ => none
  | .uss e x y, T, H => match x.ev T, y.ev T with
    | some (.pointer (some a)), some (.int .i64 m) => (match H.obj a.block with
      | some (.cells c E) => bif Nat.beq E e && Nat.beq a.off 0 && decide (0 < m) && Nat.ble m.toNat c.length && Nat.ble m.toNat 1000000 then (match toB (c.take m.toNat) with | some l => some (.string (mkStr l), H.del (a.block - ownB)) | none => none) else none
      | _ => none)
    | _, _ => none
  | .clr E sz z x, T, H => match x.ev T with
    | some (.slice (some a) l e) => (match H.obj a.block with
      | some (.cells c E') => bif Nat.blt 0 l && !Nat.beq e 3 && Nat.beq z.cells.toList.length sz && Nat.blt 0 sz && Nat.ble (a.off + l * sz) c.length && z.cells.toList.all flatV && all1 (madeL z.cells.toList (l * sz)) then some (.tuple #[], H.upd (a.block - ownB) (.cells (setAt c a.off (madeL z.cells.toList (l * sz))) E')) else none
      | _ => none)
    | _ => none
  | .xc row xs, T, H => match evP.evs T xs with | some vs => (match xcE row vs with | some v => some (v, H) | none => none) | none => none
  | _, _, _ => none
where
  xcE : Nat → List Value → Option Value
    | 0, [.string s, .int .u8 c] => some (.int .i64 (firstIdx s c.toNat.toUInt8))
    | 1, [.string s, .int .u8 c] => some (.int .i64 (s.foldl (fun (n : Int) x => if x == c.toNat.toUInt8 then n + 1 else n) ((0 : Nat) : Int)))
    | 2, [.string s, .string t] => some (.int .i64 (Extern.BytealgCompare.cmp s t))
    | _, _ => none
  slArE (len sz : Nat) (a : Addr) (l h : Int) : Option Value :=
    if 0 ≤ l ∧ l ≤ h ∧ h ≤ (len : Int) then
      some (.slice (some ⟨a.block, if l = len then a.off else a.off + l.toNat * sz, none⟩) (h.toNat - l.toNat) (4 * (len - l.toNat) + 1))
    else none
def evM : PO → TT → EH → Option (Value × EH)
  | .more m, T, H => evX m T H
  | .ld x, T, H => match x.ev T with | some (.pointer (some a)) => (match H.cell a with | some v => some (v, H) | none => none) | _ => none
  | .ldA m x, T, H => match x.ev T with | some (.pointer (some a)) => (match H.row a m with | some c => some (.agg c.toArray, H) | none => none) | _ => none
  | .st sz x v, T, H => match x.ev T, v.ev T with
    | some (.pointer (some a)), some u => (match H.obj a.block with
      | some (.cells c E) => bif Nat.beq u.cells.toList.length sz && Nat.ble (a.off + sz) c.length && all1 u.cells.toList then some (undef, H.upd (a.block - ownB) (.cells (setAt c a.off u.cells.toList) E)) else none
      | _ => none)
    | _, _ => none
  | .build zero parts, T, H => bif zero.all flatV then (match fillE T zero parts with | some c => some (.agg c.toArray, H) | none => none) else none
  | .bsl E zero len parts, T, H => bif zero.all flatV && H.room && Nat.blt 0 len && Nat.blt 0 (zero.length / len) && Nat.beq (len * (zero.length / len)) zero.length && Nat.ble len 1000000 then (match fillE T zero parts with | some c => some (ownS H len (4 * (zero.length / len)), H.push (.cells c E)) | none => none) else none
  | .bsl0 E, T, H => bif H.room then some (ownS H 0 0, H.push (.cells [] E)) else none
  | .al E zero, T, H => bif zero.all flatV && H.room then some (ownP H, H.push (.cells zero E)) else none
  | .bx E x, T, H => match x.ev T with | some v => bif H.room then some (ownP H, H.push (.cells v.cells.toList E)) else none | none => none
  | .mkM, T, H => bif H.room then some (.map (some (ownB + H.nx)), H.push (.map [])) else none
  | .mkS t E sz bytes z l c, T, H => match l.ev T, c.ev T with
    | some (.int _ a), some (.int _ m) => bif H.room && z.cells.toList.all flatV && Nat.beq z.cells.toList.length sz && Nat.blt 0 sz && Nat.ble (bytes * m.toNat) 281474976710656 && Nat.ble m.toNat 1000000 && decide (0 ≤ m) then
        (if a = m then some (ownS H m.toNat (4 * sz), H.push (.cells (madeL z.cells.toList (m.toNat * sz)) E)) else if a = 0 then some (ownS H 0 (4 * sz), H.push (.cells [] E)) else none) else none
    | _, _ => none
  | .lenM x, T, H => match x.ev T with | some (.map (some b)) => (match H.obj b with | some (.map es) => some (.int .i64 es.length, H) | _ => none) | _ => none
  | .lookS zero ok m k, T, H => match m.ev T, k.ev T with
    | some (.map (some b)), some (.string s) => bif litV zero then (match H.obj b with
      | some (.map es) => match mgetE es s with
        | some v => some (if ok then .tuple #[v, .bool true] else v, H)
        | none => some (if ok then .tuple #[zero, .bool false] else zero, H)
      | _ => none) else none
    | _, _ => none
  | .updS m k v, T, H => match m.ev T, k.ev T, v.ev T with
    | some (.map (some b)), some (.string s), some u => (match H.obj b with | some (.map es) => some (undef, H.upd (b - ownB) (.map (mputE es s u))) | _ => none)
    | _, _, _ => none
  | .slS sz x lo hi, T, H => match x.ev T, evP.ovE lo T, evP.ovE hi T with
    | some (.slice A len e), some l, some h => (match slE sz A len e (l.getD 0) (h.getD len) with | some v => some (v, H) | none => none)
    | _, _, _ => none
  | .slA len x, T, H => match x.ev T with | some (.pointer (some a)) => bif Nat.ble ownB a.block then some (.slice (some ⟨a.block, a.off, none⟩) len (4 * len + 1), H) else none | _ => none
  | .app t E sz bytes z s x, T, H => match s.ev T, x.ev T with
    | some s, some y => (match H.shown sz y with
      | some (q, news) => bif Nat.beq q 0 then (match s with | .slice _ _ _ => some (s, H) | _ => none) else bif all1 news && Nat.blt 0 sz && Nat.ble ((lenV s + q) * bytes) 140737488355328 && Nat.ble (lenV s + q) 1000000000 then H.grow E sz s q news else none
      | none => none)
    | _, _ => none
  | .appStr t u E bytes z s x, T, H => match s.ev T, x.ev T with
    | some s, some (.string y) => bif Nat.blt 0 (strL y).length && Nat.beq bytes 1 && Nat.ble (lenV s + (strL y).length) 1000000000 then (match z with | .int .u8 0 => H.grow E 1 s (strL y).length (bytesC (strL y)) | _ => none) else none
    | _, _ => none
  | .strOf x, T, H => match x.ev T with
    | some v => (match H.shown 1 v with | some (q, c) => (match toB c with | some l => some (.string (mkStr l), H) | none => none) | none => none)
    | none => none
  | .bytesOf E x, T, H => match x.ev T with | some (.string s) => bif H.room then some (ownS H (strL s).length 2, H.push (.ro (bytesC (strL s)))) else none | _ => none
  | .cpy E sz d s, T, H => match d.ev T, s.ev T with
    | some (.slice (some a) dl e), some y => bif Nat.beq sz 1 && !Nat.beq e 3 then (match H.shown 1 y, H.obj a.block with
      | some (q, c), some (.cells d E') => (let k := Nat.min q dl
         bif Nat.ble (a.off + k) d.length && all1 (c.take k) then some (.int .i64 (k : Int), H.upd (a.block - ownB) (.cells (setAt d a.off (c.take k)) E')) else none)
      | _, _ => none) else none
    | _, _ => none
  | po, T, H => match evP po T with | some v => some (v, H) | none => none
where
  lenV : Value → Nat
    | .slice _ m _ => m
    | _ => 0
  slE (sz : Nat) (A : Option Addr) (len e : Nat) (l h : Int) : Option Value :=
    if 0 ≤ l ∧ l ≤ h ∧ h ≤ (len : Int) then
      match A with
      | none => some (.slice none 0 0)
      | some a => bif Nat.beq e 3 then some (.slice (some a) 0 3) else
        if l = 0 then some (.slice (some a) h.toNat e) else if l = h then some (.slice (some ⟨0, 0, none⟩) 0 3) else
        bif Nat.beq (e % 4) 1 then some (.slice (some ⟨a.block, a.off + l.toNat * sz, none⟩) (h.toNat - l.toNat) (4 * (e / 4 - l.toNat) + 1))
        else bif Nat.beq e (4 * sz) && Nat.blt 0 sz || (Nat.beq e 2 && Nat.beq sz 1) then some (.slice (some ⟨a.block, a.off + l.toNat * sz, none⟩) (h.toNat - l.toNat) e) else none
    else none
end Go.SL
